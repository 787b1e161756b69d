import Derived.Test.YtlhdnloimgckgaaWa
import Derived.Deep.RegionWith
import Derived.StillTailTactics
import Derived.Handy
namespace Go.Proofs.Ytlhdnloimgckgaa
open Go.RowKit

theorem word_any (x : Nat) (hx : x < 4294967296) (w : World) :
    Calls Try.prog 25 #[.int .u32 (x : Int)] w fun e w' => e = .returned (.slice (some ⟨w.heap.size, 0, none⟩) 4 4) ∧ w.alloc (.cells (bytesV (Crc.be4 x)).toArray 5) = w' := by
  go_enter Try.func25, Try.ntmps25
  go_wp2
  go_ret
  refine ⟨rfl, ?_⟩
  congr 2
  simp only [bytesV, Crc.be4, List.map_cons, List.map_nil, Crc.ofNat_toNat]
  have h1 : ((x / 16777216 % 256 : Nat) : Int) = (x : Int) / 16777216 := by omega
  have h2 : ((x / 65536 % 256 : Nat) : Int) = (x : Int) / 65536 % 256 := by omega
  have h3 : ((x / 256 % 256 : Nat) : Int) = (x : Int) / 256 % 256 := by omega
  have h4 : ((x % 256 : Nat) : Int) = (x : Int) % 256 := by omega
  rw [h1, h2, h3, h4]

theorem Size_any (A : Option Addr) (n c : Nat) (hn : n ≤ 140737488355328) (w : World) :
    Calls Try.prog 19 #[.slice A n c] w fun e w' => e = .returned (.int .i64 ((8 + n : Nat) : Int)) ∧ w = w' := by
  go_enter Try.func19, Try.ntmps19
  go_wp2
  go_ret
  exact ⟨by simp, rfl⟩

theorem reverse4 (b : Nat) (a0 a1 a2 a3 : Int) (w : World) (hb : w.heap[b]? = some (.cells #[.int .u8 a0, .int .u8 a1, .int .u8 a2, .int .u8 a3] 5 (0, 0))) :
    Calls Try.prog 32 #[.slice (some ⟨b, 0, none⟩) 4 4] w fun e w' => e = .returned (.tuple #[]) ∧ w'.heap[b]? = some (.cells #[.int .u8 a3, .int .u8 a2, .int .u8 a1, .int .u8 a0] 5 (0, 0)) ∧ w'.heap.size = w.heap.size ∧ w.grownBy w' (some b) := by
  have c0 : w.cell? ⟨b, 0, none⟩ = some (.int .u8 a0) := cell_of_row w _ _ _ _ _ hb
  have c1 : w.cell? ⟨b, 1, none⟩ = some (.int .u8 a1) := cell_of_row w _ _ _ _ _ hb
  have c2 : w.cell? ⟨b, 2, none⟩ = some (.int .u8 a2) := cell_of_row w _ _ _ _ _ hb
  have c3 : w.cell? ⟨b, 3, none⟩ = some (.int .u8 a3) := cell_of_row w _ _ _ _ _ hb
  have f0 : w.frozen? ⟨b, 0, none⟩ = false := frozen_of_row w _ _ _ _ hb
  have f1 : w.frozen? ⟨b, 1, none⟩ = false := frozen_of_row w _ _ _ _ hb
  have f2 : w.frozen? ⟨b, 2, none⟩ = false := frozen_of_row w _ _ _ _ hb
  have f3 : w.frozen? ⟨b, 3, none⟩ = false := frozen_of_row w _ _ _ _ hb
  have HB := Lib.hid hb
  clear hb
  go_enter Try.func32, Try.ntmps32
  go_wp2
  refine wp_loop_rounds 3 ?_
  rw [rounds_succ]
  go_wp2
  go_region
  go_wp2
  rw [rounds_succ]
  go_wp2
  go_region
  go_wp2
  rw [rounds_succ]
  go_wp2
  go_end0
  refine ⟨rfl, ?_, by simp, grown_drew (grown_drew (grown_setCell (grown_setCell (grown_setCell (grown_setCell (grown_refl _ _) _ _) _ _) _ _) _ _))⟩
  exact blk_setCell (blk_setCell (blk_setCell (blk_setCell HB.out _) _) _) _

def tailV (c s x : Nat) : Value := .agg #[.int .i64 (c : Int), .int .i64 (s : Int), .int .u32 (x : Int)]

theorem behind_any (c s x0 x : Nat) (hc : c ≤ 140737488355328) (hs : s ≤ 140737488355328) (A : Option Addr) (n k : Nat) (hn : n ≤ 140737488355328) (w : World) :
    Calls Try.prog 28 #[.agg #[.int .i64 (c : Int), .int .i64 (s : Int), .int .u32 (x0 : Int)], .slice A n k, .int .u32 (x : Int)] w fun e w' => e = .returned (.agg #[.int .i64 ((c + 1 : Nat) : Int), .int .i64 ((s + (8 + n) : Nat) : Int), .int .u32 (x : Int)]) ∧ Below w.heap.size w w' := by
  go_enter Try.func28, Try.ntmps28
  go_wp2_with fail
  refine region_still_tail 10 (by kernel_rfl) (by kernel_rfl) ?_
  simp only [List.take_succ_cons, List.take_zero, List.drop_succ_cons, List.drop_zero]
  repeat still_step
  still_call (Size_any _ _ _ hn _).mono (fun e w' ⟨he, hw⟩ => ⟨he, hw.symm⟩)
  repeat still_step
  refine wpStill_nil ?_
  rw [IntWalk.i64_in ((c : Int) + 1) (by omega), IntWalk.i64_in ((s : Int) + (8 + (n : Int))) (by omega)]
  have hblk : ((w.alloc (Obj.cells #[Value.int IntKind.i64 c, Value.int IntKind.i64 s, Value.int IntKind.u32 x0] 30)).alloc (Obj.cells #[Value.int IntKind.i64 0, Value.int IntKind.i64 0, Value.int IntKind.u32 0] 30)).drew.heap[w.heap.size + 1]? = some (.cells #[Value.int IntKind.i64 0, Value.int IntKind.i64 0, Value.int IntKind.u32 0] 30 (0, 0)) := heap_alloc2_new w _ _
  have hbel : Below w.heap.size w ((w.alloc (Obj.cells #[Value.int IntKind.i64 c, Value.int IntKind.i64 s, Value.int IntKind.u32 x0] 30)).alloc (Obj.cells #[Value.int IntKind.i64 0, Value.int IntKind.i64 0, Value.int IntKind.u32 0] 30)).drew := (((Below.refl _ _).alloc (Nat.le_refl _) _).alloc (by simp) _).drew
  have hsz : ((w.alloc (Obj.cells #[Value.int IntKind.i64 c, Value.int IntKind.i64 s, Value.int IntKind.u32 x0] 30)).alloc (Obj.cells #[Value.int IntKind.i64 0, Value.int IntKind.i64 0, Value.int IntKind.u32 0] 30)).drew.heap.size = w.heap.size + 2 := by simp
  generalize ((w.alloc (Obj.cells #[Value.int IntKind.i64 c, Value.int IntKind.i64 s, Value.int IntKind.u32 x0] 30)).alloc (Obj.cells #[Value.int IntKind.i64 0, Value.int IntKind.i64 0, Value.int IntKind.u32 0] 30)).drew = W at *
  refine wpList_store_row rfl 30 _ _ rfl (w.heap.size + 1) rfl 30 _ _ rfl hblk rfl (by kernel_rfl) (by simp [Value.oneCell']) ?_
  intro w2 hT2 hS2 hG2
  go_wp2
  refine bodyPost_ret (v := .agg #[.int .i64 ((c : Int) + 1), .int .i64 ((s : Int) + (8 + (n : Int))), .int .u32 (x : Int)]) ?_ rfl ⟨by simp, ?_⟩
  · exact results_cell_row (P := Try.prog) (p := 6) (ty := 30) rfl _ w2 (w.heap.size + 1) 30 _ (0, 0) _ rfl hT2 Try.underlying30 rfl (by kernel_rfl)
  · exact hbel.grown hG2 (by omega) (by simp)
end Go.Proofs.Ytlhdnloimgckgaa
