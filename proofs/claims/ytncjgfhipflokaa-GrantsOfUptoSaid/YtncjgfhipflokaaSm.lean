/-
  awake: the chapter's examples.
-/
import Derived.Test.YtncjgfhipflokaaSl
namespace Go.Proofs.Ytncjgfhipflokaa
open Go.RowKit Go.Shelf Hp Go.Maps

def exD : List Doc := [⟨[97], [[99]], [([117], [100])]⟩, ⟨[98], [[100]], []⟩]
theorem ex_ch : chansOf exD [117] = [[100]] := by kernel_rfl
theorem ex_kp1 : kp [[100]] [[100]] = [[100]] := by kernel_rfl
theorem ex_kp2 : kp [[100]] [[99]] = [] := by kernel_rfl
theorem least_one (x : S) : least [x] = some x := least_of (by simp) (fun y hy => by rw [List.mem_singleton.1 hy]; exact Hp.le_refl _)
theorem ex_by : byOf exD [117] [98] = some [100] := by
  have h : byOf exD [117] [98] = least (kp (chansOf exD [117]) [[100]]) := rfl
  rw [h, ex_ch, ex_kp1, least_one]
theorem ex_no : byOf exD [117] [97] = none := by
  have h : byOf exD [117] [97] = least (kp (chansOf exD [117]) [[99]]) := rfl
  rw [h, ex_ch, ex_kp2, least_nil]
theorem ex_seen : seenOf exD [117] = [[98]] := by
  have h : seenOf exD [117] = (exD.filter fun d => (byOf exD [117] d.id).isSome).map (·.id) := rfl
  rw [h]
  unfold exD
  simp only [List.filter_cons, List.filter_nil]
  have h1 := ex_by
  have h2 := ex_no
  unfold exD at h1 h2
  rw [h1, h2]
  rfl
theorem Keys.one {l : List S} {x : S} (h : Keys l [x]) : l = [x] := h.uniq (ks' := [x]) ⟨List.pairwise_singleton _ _, fun _ => Iff.rfl⟩ (fun _ => Iff.rfl)
theorem cells_all {B0 : Nat} {w : World} {b o : Nat} {row : Array Value} {t : TypeId} {fr : Nat × Nat} {cs : List Value} (h : w.heap[b]? = some (.cells row t fr)) (hb : b < B0) (hc : ∀ j v, cs[j]? = some v → row[o + j]? = some v) : Cells B0 w b o cs :=
  ⟨hb, fun j v hj => (cell_of_row w b (o + j) _ _ _ h).trans (hc j v hj)⟩
theorem ex_docs (N : Nat) (w : World) (h0 : w.heap[N]? = some (.cells #[.string ⟨#[99]⟩] 9 (0, 0))) (h1 : w.heap[N + 1]? = some (.cells #[.string ⟨#[117]⟩, .string ⟨#[100]⟩] 48 (0, 0))) (h2 : w.heap[N + 2]? = some (.cells #[.string ⟨#[100]⟩] 9 (0, 0)))
    (h3 : w.heap[N + 3]? = some (.cells #[.string ⟨#[97]⟩, .int .u64 0, .slice none 0 0, .slice (some ⟨N, 0, none⟩) 1 1, .slice (some ⟨N + 1, 0, none⟩) 1 1, .int .i64 0, .string ⟨#[98]⟩, .int .u64 0, .slice none 0 0, .slice (some ⟨N + 2, 0, none⟩) 1 1, .slice none 0 0, .int .i64 0] 45 (0, 0))) :
    DS (fun _ _ => True) (N + 4) w (.slice (some ⟨N + 3, 0, none⟩) 2 2) exD := by
  refine ⟨_, 2, rfl, Nat.le_refl _, by unfold maxLen; omega, .inr ⟨N + 3, 0, rfl, fun k hk => ?_⟩⟩
  match k, hk with
  | 0, _ =>
    refine ⟨docC [97] 0 (.slice none 0 0) (.slice (some ⟨N, 0, none⟩) 1 1) (.slice (some ⟨N + 1, 0, none⟩) 1 1) 0, rfl, cells_all h3 (by omega) ?_, ⟨[97], [[99]], [([117], [100])]⟩, rfl, 0, .slice none 0 0, _, _, 0, rfl, by unfold maxLen; decide, ?_, ?_, ⟨_, _, _, rfl⟩, trivial⟩
    · intro j v hj
      match j, hj with
      | 0, hj | 1, hj | 2, hj | 3, hj | 4, hj | 5, hj => exact hj
      | n + 6, hj => exact absurd hj (by simp [docC])
    · refine ⟨_, 1, rfl, Nat.le_refl _, by unfold maxLen; omega, fun x hx => by rw [List.mem_singleton.1 hx]; unfold maxLen; decide, .inr ⟨N, 0, rfl, fun k hk => ?_⟩⟩
      obtain rfl : k = 0 := by simp at hk; omega
      exact ⟨_, rfl, cells_all h0 (by omega) (fun j v hj => by match j, hj with | 0, hj => exact hj), rfl⟩
    · refine ⟨_, 1, rfl, Nat.le_refl _, by unfold maxLen; omega, fun x hx => by rw [List.mem_singleton.1 hx]; unfold maxLen; decide, .inr ⟨N + 1, 0, rfl, fun k hk => ?_⟩⟩
      obtain rfl : k = 0 := by simp at hk; omega
      exact ⟨[encStr [117], encStr [100]], rfl, cells_all h1 (by omega) (fun j v hj => by match j, hj with | 0, hj | 1, hj => exact hj), _, rfl, rfl⟩
  | 1, _ =>
    refine ⟨docC [98] 0 (.slice none 0 0) (.slice (some ⟨N + 2, 0, none⟩) 1 1) (.slice none 0 0) 0, rfl, cells_all h3 (by omega) ?_, ⟨[98], [[100]], []⟩, rfl, 0, .slice none 0 0, _, _, 0, rfl, by unfold maxLen; decide, ?_, ?_, ⟨_, _, _, rfl⟩, trivial⟩
    · intro j v hj
      match j, hj with
      | 0, hj | 1, hj | 2, hj | 3, hj | 4, hj | 5, hj => exact hj
      | n + 6, hj => exact absurd hj (by simp [docC])
    · refine ⟨_, 1, rfl, Nat.le_refl _, by unfold maxLen; omega, fun x hx => by rw [List.mem_singleton.1 hx]; unfold maxLen; decide, .inr ⟨N + 2, 0, rfl, fun k hk => ?_⟩⟩
      obtain rfl : k = 0 := by simp at hk; omega
      exact ⟨_, rfl, cells_all h2 (by omega) (fun j v hj => by match j, hj with | 0, hj => exact hj), rfl⟩
    · exact ⟨_, 0, rfl, Nat.le_refl _, by unfold maxLen; omega, fun x hx => absurd hx (by simp), .inl rfl⟩

/-- a text row of one -/
theorem rt_one {w : World} {g : Nat} {x : S} {t : TypeId} {fr : Nat × Nat} (h : w.heap[g]? = some (.cells #[encStr x] t fr)) : RT w (.slice (some ⟨g, 0, none⟩) 1 1) [x] :=
  ⟨_, 1, rfl, by unfold maxLen; simp, .inr ⟨g, 0, rfl, fun k hk => by
    obtain rfl : k = 0 := by simp at hk; omega
    exact cell_of_row w g 0 _ _ _ h⟩⟩

/-- the example's state in memory -/
structure Ex (N : Nat) (W : World) : Prop where
  ds : DS (fun _ _ => True) (N + 4) W (.slice (some ⟨N + 3, 0, none⟩) 2 2) exD
  row : W.heap[N + 4]? = some (.cells (stV 0 (.slice (some ⟨N + 3, 0, none⟩) 2 2) (.slice none 0 0) (.slice none 0 0)) 27 (0, 0))
theorem Ex.lt {N : Nat} {W : World} (h : Ex N W) : N + 4 < W.heap.size := blk_lt h.row
theorem Ex.below {N : Nat} {W W' : World} (h : Ex N W) (hb : Below W.heap.size W W') : Ex N W' := ⟨h.ds.low (fun _ _ _ _ _ _ => trivial) (Low.of_all hb), blk_below h.row hb⟩
theorem Ex.c {N : Nat} {W : World} (h : Ex N W) : W.cell? ⟨N + 4, 0, none⟩ = some (.int .u64 0) ∧ W.cell? ⟨N + 4, 1, none⟩ = some (.slice (some ⟨N + 3, 0, none⟩) 2 2) ∧ W.cell? ⟨N + 4, 2, none⟩ = some (.slice none 0 0) ∧ W.cell? ⟨N + 4, 3, none⟩ = some (.slice none 0 0) :=
  ⟨cell_of_row W (N + 4) 0 _ _ _ h.row, cell_of_row W (N + 4) 1 _ _ _ h.row, cell_of_row W (N + 4) 2 _ _ _ h.row, cell_of_row W (N + 4) 3 _ _ _ h.row⟩

set_option maxHeartbeats 1000000 in
set_option maxRecDepth 4000 in
theorem awake_any (w : World) : Calls Try.prog 8 #[] w fun e w' => e = .returned (.bool true) ∧ Below w.heap.size w w' := by
  have hT : ∀ (B0 : Nat) (w w' : World) (v : Value), Low B0 w w' → (fun (_ : World) (_ : Value) => True) w v → (fun (_ : World) (_ : Value) => True) w' v := fun _ _ _ _ _ _ => trivial
  have hpl : (pairs exD).length ≤ 99999 := by decide
  have hcl : ∀ d ∈ exD, d.chans.length ≤ 99999 := by decide
  have HT := Lib.hid hT
  have HPL := Lib.hid hpl
  have HCL := Lib.hid hcl
  clear hT hpl hcl
  go_enter Try.func8, Try.ntmps8
  go_wp2_with fail
  obtain ⟨N, hN⟩ : ∃ N, w.heap.size = N := ⟨_, rfl⟩
  rw [hN, show N + 1 + 1 + 1 + 1 = N + 4 from rfl, show N + 1 + 1 + 1 = N + 3 from rfl, show N + 1 + 1 = N + 2 from rfl]
  obtain ⟨WA, hWA⟩ : ∃ WA, WA = (((((w.alloc (.cells #[.string ⟨#[99]⟩] 9)).alloc (.cells #[.string ⟨#[117]⟩, .string ⟨#[100]⟩] 48)).alloc (.cells #[.string ⟨#[100]⟩] 9)).alloc (.cells #[.string ⟨#[97]⟩, .int .u64 0, .slice none 0 0, .slice (some ⟨N, 0, none⟩) 1 1, .slice (some ⟨N + 1, 0, none⟩) 1 1, .int .i64 0, .string ⟨#[98]⟩, .int .u64 0, .slice none 0 0, .slice (some ⟨N + 2, 0, none⟩) 1 1, .slice none 0 0, .int .i64 0] 45)).alloc (.cells #[.int .u64 0, .slice (some ⟨N + 3, 0, none⟩) 2 2, .slice none 0 0, .slice none 0 0] 27)) := ⟨_, rfl⟩
  rw [← hWA]
  have b0 : WA.heap[N]? = some (.cells #[.string ⟨#[99]⟩] 9 (0, 0)) := by rw [hWA]; exact blk_alloc (blk_alloc (blk_alloc (blk_alloc (alloc_new_at hN) _) _) _) _
  have b1 : WA.heap[N + 1]? = some (.cells #[.string ⟨#[117]⟩, .string ⟨#[100]⟩] 48 (0, 0)) := by rw [hWA]; exact blk_alloc (blk_alloc (blk_alloc (alloc_new_at (by simp [hN])) _) _) _
  have b2 : WA.heap[N + 2]? = some (.cells #[.string ⟨#[100]⟩] 9 (0, 0)) := by rw [hWA]; exact blk_alloc (blk_alloc (alloc_new_at (by simp [hN])) _) _
  have b3 := alloc_new_at (w := ((w.alloc (.cells #[.string ⟨#[99]⟩] 9)).alloc (.cells #[.string ⟨#[117]⟩, .string ⟨#[100]⟩] 48)).alloc (.cells #[.string ⟨#[100]⟩] 9)) (k := N + 3) (o := .cells #[.string ⟨#[97]⟩, .int .u64 0, .slice none 0 0, .slice (some ⟨N, 0, none⟩) 1 1, .slice (some ⟨N + 1, 0, none⟩) 1 1, .int .i64 0, .string ⟨#[98]⟩, .int .u64 0, .slice none 0 0, .slice (some ⟨N + 2, 0, none⟩) 1 1, .slice none 0 0, .int .i64 0] 45) (by simp [hN])
  have b3 := blk_alloc b3 (.cells #[.int .u64 0, .slice (some ⟨N + 3, 0, none⟩) 2 2, .slice none 0 0, .slice none 0 0] 27)
  rw [← hWA] at b3
  have b4 : WA.heap[N + 4]? = some (.cells (stV 0 (.slice (some ⟨N + 3, 0, none⟩) 2 2) (.slice none 0 0) (.slice none 0 0)) 27 (0, 0)) := by rw [hWA]; exact alloc_new_at (by simp [hN])
  have hds := ex_docs N WA b0 b1 b2 b3
  have hsz : WA.heap.size = N + 5 := by rw [hWA]; simp [hN]
  have hbel : Below N w WA := by
    rw [hWA, ← hN]
    exact (((((Below.refl _ w).alloc (Nat.le_refl _) _).alloc (by simp) _).alloc (by simp; omega) _).alloc (by simp; omega) _).alloc (by simp; omega) _
  have HX := Lib.hid (⟨hds, b4⟩ : Ex N WA)
  have HSZ := Lib.hid hsz
  have HBEL := Lib.hid hbel
  clear b0 b1 b2 b3 b4 hds hsz hbel hWA
  refine (By_any _ HT.out exD 0 (.slice (some ⟨N + 3, 0, none⟩) 2 2) (.slice none 0 0) (.slice none 0 0) WA [117] [98] (N + 4) (by have := HSZ.out; omega) HX.out.ds HPL.out HCL.out).mono ?_
  rw [ex_by]
  rintro e w1 ⟨rfl, hb1⟩
  have HB1 := Lib.hid (HBEL.out.trans (hb1.mono HBEL.out.size |>.mono (by have := hN; omega)))
  have HX1 := Lib.hid (HX.out.below hb1)
  obtain ⟨hr0, hr1, hr2, hr3⟩ := HX1.out.c
  clear hb1 HX HBEL
  go_wp2_with fail
  refine (of_any _ HT.out exD 0 (.slice (some ⟨N + 3, 0, none⟩) 2 2) (.slice none 0 0) (.slice none 0 0) w1 [117] (N + 4) (Nat.le_of_lt HX1.out.lt) HX1.out.ds HPL.out).mono ?_
  rintro e w2 ⟨v2, l2, rfl, htx2, hk2, hb2⟩
  rw [ex_ch] at hk2
  obtain rfl := hk2.one
  have HR2 := Lib.hid htx2.rt
  have HB2 := Lib.hid (HB1.out.trans (hb2.mono (by have := HB1.out.size; omega)))
  have HX2 := Lib.hid (HX1.out.below hb2)
  clear htx2 hk2 hb2 hr0 hr1 hr2 hr3 HX1 HB1
  go_wp2_with fail
  have ha := below_alloc1 w2 (.cells #[.string ⟨#[100]⟩] 9)
  refine (Same_any _ _ _ _ _ (HR2.out.below ha) (rt_one (x := [100]) (World.alloc_heap_new w2 _))).mono ?_
  rw [decide_eq_true rfl]
  rintro e w3 ⟨rfl, hb3⟩
  have HB3 := Lib.hid ((HB2.out.trans (ha.mono HB2.out.size |>.mono (by have := HB2.out.size; omega))).trans (hb3.mono (by have := ha.size; have := HB2.out.size; omega)))
  have HX3 := Lib.hid ((HX2.out.below ha).below hb3)
  obtain ⟨hr0, hr1, hr2, hr3⟩ := HX3.out.c
  clear ha hb3 HX2 HB2 HR2
  go_wp2_with fail
  refine (All_any _ HT.out exD 0 (.slice (some ⟨N + 3, 0, none⟩) 2 2) (.slice none 0 0) (.slice none 0 0) w3 [117] (N + 4) (Nat.le_of_lt HX3.out.lt) HX3.out.ds HPL.out HCL.out (by decide)).mono ?_
  rintro e w4 ⟨v4, l4, rfl, htx4, hk4, hb4⟩
  rw [ex_seen] at hk4
  obtain rfl := hk4.one
  have HR4 := Lib.hid htx4.rt
  have HB4 := Lib.hid (HB3.out.trans (hb4.mono (by have := HB3.out.size; omega)))
  have HX4 := Lib.hid (HX3.out.below hb4)
  clear htx4 hk4 hb4 hr0 hr1 hr2 hr3 HX3 HB3
  go_wp2_with fail
  have ha := below_alloc1 w4 (.cells #[.string ⟨#[98]⟩] 9)
  refine (Same_any _ _ _ _ _ (HR4.out.below ha) (rt_one (x := [98]) (World.alloc_heap_new w4 _))).mono ?_
  rw [decide_eq_true rfl]
  rintro e w5 ⟨rfl, hb5⟩
  have HB5 := Lib.hid ((HB4.out.trans (ha.mono HB4.out.size |>.mono (by have := HB4.out.size; omega))).trans (hb5.mono (by have := ha.size; have := HB4.out.size; omega)))
  have HX5 := Lib.hid ((HX4.out.below ha).below hb5)
  obtain ⟨hr0, hr1, hr2, hr3⟩ := HX5.out.c
  clear ha hb5 HX4 HB4 HR4
  go_wp2_with fail
  refine (Sees_any _ HT.out exD 0 (.slice (some ⟨N + 3, 0, none⟩) 2 2) (.slice none 0 0) (.slice none 0 0) w5 [117] [97] (N + 4) (Nat.le_of_lt HX5.out.lt) HX5.out.ds HPL.out HCL.out).mono ?_
  rw [ex_no]
  rintro e w6 ⟨rfl, hb6⟩
  have HB6 := Lib.hid (HB5.out.trans (hb6.mono (by have := HB5.out.size; omega)))
  clear hb6 hr0 hr1 hr2 hr3 HX5 HB5
  go_wp2_with fail
  go_ret
  rw [hN]
  exact ⟨rfl, HB6.out⟩
end Go.Proofs.Ytncjgfhipflokaa
