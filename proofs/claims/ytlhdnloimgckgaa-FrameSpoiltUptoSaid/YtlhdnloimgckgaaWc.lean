import Derived.Test.YtlhdnloimgckgaaWb
namespace Go.Proofs.Ytlhdnloimgckgaa
open Go.RowKit

/-- a block whose first cells are these bytes, read as a slice of them -/
theorem SB_of_block {w : World} {g : Nat} {bs : List UInt8} {t : TypeId} {fr : Nat × Nat} (h : w.heap[g]? = some (.cells (bytesV bs).toArray t fr)) (hl : bs.length ≤ 140737488355328) : SB w (.slice (some ⟨g, 0, none⟩) bs.length bs.length) bs :=
  ⟨_, _, rfl, Nat.le_refl _, hl, .inr ⟨g, 0, rfl, fun i hi => by rw [Nat.zero_add, cell_of_row w g i _ t fr h]; simp [bytesV, hi]⟩⟩
theorem be4_rev (x : Nat) : (Crc.be4 x).reverse = Crc.le4 x := rfl

set_option maxHeartbeats 400000 in
theorem sum_any (c s x : Nat) (hx : x < 4294967296) (v1 v2 : Value) (b1 b2 : List UInt8) (w : World) (h1 : SB w v1 b1) (h2 : SB w v2 b2) :
    Calls Try.prog 26 #[.agg #[.int .i64 (c : Int), .int .i64 (s : Int), .int .u32 (x : Int)], v1, v2] w fun e w' => e = .returned (.int .u32 ((Crc.check (Crc.le4 x ++ b1 ++ b2) : Nat) : Int)) ∧ Below w.heap.size w w' := by
  obtain ⟨A1, c1, rfl, h1, hl1⟩ := h1.shape
  obtain ⟨A2, c2, rfl, h2, hl2⟩ := h2.shape
  have H1 := Lib.hid h1
  have H2 := Lib.hid h2
  clear h1 h2
  go_enter Try.func26, Try.ntmps26
  go_wp2_with fail
  refine (word_any x hx _).mono ?_
  rintro e w1 ⟨rfl, hw1⟩
  have hblk : w1.heap[w.heap.size + 1]? = some (.cells (bytesV (Crc.be4 x)).toArray 5 (0, 0)) := by rw [← hw1]; exact heap_alloc2_new w _ _
  have hbel : Below w.heap.size w w1 := by rw [← hw1]; exact ((Below.refl _ _).alloc (Nat.le_refl _) _).alloc (by simp) _
  clear hw1
  rw [World.size_alloc]
  go_wp2_with fail
  refine (reverse4 _ _ _ _ _ _ hblk).mono ?_
  rintro e w2 ⟨rfl, hblk2, hS2, hG2⟩
  have hbel2 : Below w.heap.size w w2 := hbel.grown hG2 hbel.size (by simp)
  have hsb : SB w2 (.slice (some ⟨w.heap.size + 1, 0, none⟩) 4 4) (Crc.le4 x) := SB_of_block (bs := Crc.le4 x) hblk2 (by simp [Crc.le4])
  have h1 := H1.out.below hbel2
  have h2 := H2.out.below hbel2
  have HB2 := Lib.hid hbel2
  have HSB := Lib.hid hsb
  have HH1 := Lib.hid h1
  have HH2 := Lib.hid h2
  clear hblk hbel hblk2 hS2 hG2 hbel2 hsb h1 h2
  go_wp2_with fail
  refine (Check_any _ [Crc.le4 x, b1, b2] _ (SBB_three (heap_alloc_new w2 _) (HSB.out.below (below_alloc1 w2 _)) (HH1.out.below (below_alloc1 w2 _)) (HH2.out.below (below_alloc1 w2 _)))).mono ?_
  rintro e w3 ⟨rfl, hb3⟩
  have HB3 : Hid (Below w.heap.size w w3) := (HB2.out.alloc HB2.out.size _).trans (hb3.mono (by have := HB2.out.size; simp; omega))
  clear hb3
  go_wp2
  go_ret
  exact ⟨by simp, HB3.out⟩
end Go.Proofs.Ytlhdnloimgckgaa
