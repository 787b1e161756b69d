/-
  grants.Of; slices.Clone; the closure of grants.by; slices.IndexFunc.
-/
import Derived.Test.YtncjgfhipflokaaSe
namespace Go.Proofs.Ytncjgfhipflokaa
open Go.RowKit Go.Shelf Hp Go.Maps

set_option maxHeartbeats 1000000 in
theorem of_any (T : World → Value → Prop) (hT : ∀ B0 w w' v, Low B0 w w' → T w v → T w' v) (docs : List Doc) (sq : Int) (dv lv sv : Value) (w : World) (u : S) (B0 : Nat) (hB : B0 ≤ w.heap.size) (hds : DS T B0 w dv docs) (hpl : (pairs docs).length ≤ 99999) :
    Calls Try.prog 14 #[.agg (stV sq dv lv sv), encStr u] w fun e w' => ∃ v l, e = .returned v ∧ TX w' w.heap.size v l ∧ Keys l (chansOf docs u) ∧ Below w.heap.size w w' := by
  obtain ⟨W0, hW0⟩ : ∃ W0, W0 = w.alloc (.cells (stV sq dv lv sv) 27) := ⟨_, rfl⟩
  have hrow : W0.heap[w.heap.size]? = some (.cells (stV sq dv lv sv) 27 (0, 0)) := by rw [hW0]; exact World.alloc_heap_new w _
  have hr0 : W0.cell? ⟨w.heap.size, 0, none⟩ = some (.int .u64 sq) := cell_of_row W0 w.heap.size 0 _ _ _ hrow
  have hr1 : W0.cell? ⟨w.heap.size, 1, none⟩ = some dv := cell_of_row W0 w.heap.size 1 _ _ _ hrow
  have hr2 : W0.cell? ⟨w.heap.size, 2, none⟩ = some lv := cell_of_row W0 w.heap.size 2 _ _ _ hrow
  have hr3 : W0.cell? ⟨w.heap.size, 3, none⟩ = some sv := cell_of_row W0 w.heap.size 3 _ _ _ hrow
  have hbel : Below w.heap.size w W0 := by rw [hW0]; exact (Below.refl _ w).alloc (Nat.le_refl _) _
  have hds0 := hds.low hT (Low.of_below hbel hB)
  have hB' : B0 ≤ W0.heap.size := by have := hbel.size; omega
  have hch := chans_any T hT docs sq dv lv sv W0 u B0 hB' hds0 hpl
  rw [hW0] at hr0 hr1 hr2 hr3 hch
  have HCH := Lib.hid hch
  have HBEL := Lib.hid hbel
  have HW0 := Lib.hid hW0
  clear hrow hW0 hds hds0 hch hbel
  go_enter Try.func14, Try.ntmps14
  go_wp2_with fail
  refine HCH.out.mono ?_
  rintro e w1 ⟨b, D, rfl, hb, hown, hkm, hbb⟩
  have HOWN := Lib.hid hown
  have HKM := Lib.hid hkm
  have HBB := Lib.hid hbb
  have hsize : Maps.size D ≤ 99999 := by have := hkm.size_; have := chF_len u (pairs docs); unfold chansOf at *; omega
  clear hown hkm hbb hb
  go_wp2_with fail
  refine (sorted_any D b _ w1 HOWN.out hsize).mono ?_
  rintro e w2 ⟨v, l, rfl, htx, hpm, hso, hb2⟩
  have HTX := Lib.hid htx
  have HB2 := Lib.hid hb2
  clear htx hb2
  go_wp2_with fail
  go_ret
  have h0 : W0.heap.size = w.heap.size + 1 := by rw [HW0.out]; simp
  have h1 := HBB.out
  rw [← HW0.out] at h1
  have h2 := h1.size
  exact ⟨v, l, rfl, HTX.out.base_le (by omega), Keys.of HKM.out (own_strs HOWN.out) hpm hso, (HBEL.out.trans (h1.mono (by omega))).trans (HB2.out.mono (by omega))⟩
end Go.Proofs.Ytncjgfhipflokaa
