/-
  RotateLeft32, ror; first, orders, IV.
-/
import Derived.Test.YtnemclbeofiakaaWb
namespace Go.Proofs.Ytnemclbeofiakaa
open Go.RowKit Bl
theorem or_ror16 (x : Nat) (hx : x < M) : bits BinOp.or IntKind.u32 ((x : Int) / 65536) ((x : Int) * 65536 % 4294967296) = ((ror x 16 : Nat) : Int) := by
  have hx' : x < 4294967296 := hx
  rw [show ((x : Int) / 65536) = ((x / 65536 : Nat) : Int) from by omega, show ((x : Int) * 65536 % 4294967296) = ((x * 65536 % 4294967296 : Nat) : Int) from by omega, u32_or_nat _ _ (by omega) (by omega)]
  rfl
theorem or_rol16 (x : Nat) (hx : x < M) : bits BinOp.or IntKind.u32 ((x : Int) * 65536 % 4294967296) ((x : Int) / 65536) = ((ror x 16 : Nat) : Int) := by
  have hx' : x < 4294967296 := hx
  rw [show ((x : Int) / 65536) = ((x / 65536 : Nat) : Int) from by omega, show ((x : Int) * 65536 % 4294967296) = ((x * 65536 % 4294967296 : Nat) : Int) from by omega, u32_or_nat _ _ (by omega) (by omega), Nat.or_comm]
  rfl
theorem rot_16 (x : Nat) (hx : x < M) (w : World) : Calls Try.prog 36 #[.int .u32 (x : Int), .int .i64 (-16)] w fun e w' => e = .returned (.int .u32 ((ror x 16 : Nat) : Int)) ∧ w' = w := by
  have hb1 : IntKind.u64.wrap (-16) = 18446744073709551600 := by decide +kernel
  have hb : bits BinOp.and IntKind.u64 18446744073709551600 31 = 16 := by decide +kernel
  have HO := Lib.hid (or_rol16 x hx)
  go_enter Try.func36, Try.ntmps36
  go_wp2
  go_ret
  exact ⟨by rw [← HO.out]; rfl, rfl⟩
theorem ror_16 (x : Nat) (hx : x < M) (w : World) : Calls Try.prog 31 #[.int .u32 (x : Int), .int .i64 16] w fun e w' => e = .returned (.int .u32 ((ror x 16 : Nat) : Int)) ∧ ∃ n, w' = w.drewN n := by
  have HO := Lib.hid (or_ror16 x hx)
  go_enter Try.func31, Try.ntmps31
  go_wp2
  go_quiet (fail)
  go_wp2
  go_ret
  exact ⟨by rw [← HO.out]; rfl, _, rfl⟩
theorem or_ror12 (x : Nat) (hx : x < M) : bits BinOp.or IntKind.u32 ((x : Int) / 4096) ((x : Int) * 1048576 % 4294967296) = ((ror x 12 : Nat) : Int) := by
  have hx' : x < 4294967296 := hx
  rw [show ((x : Int) / 4096) = ((x / 4096 : Nat) : Int) from by omega, show ((x : Int) * 1048576 % 4294967296) = ((x * 1048576 % 4294967296 : Nat) : Int) from by omega, u32_or_nat _ _ (by omega) (by omega)]
  rfl
theorem or_rol12 (x : Nat) (hx : x < M) : bits BinOp.or IntKind.u32 ((x : Int) * 1048576 % 4294967296) ((x : Int) / 4096) = ((ror x 12 : Nat) : Int) := by
  have hx' : x < 4294967296 := hx
  rw [show ((x : Int) / 4096) = ((x / 4096 : Nat) : Int) from by omega, show ((x : Int) * 1048576 % 4294967296) = ((x * 1048576 % 4294967296 : Nat) : Int) from by omega, u32_or_nat _ _ (by omega) (by omega), Nat.or_comm]
  rfl
theorem rot_12 (x : Nat) (hx : x < M) (w : World) : Calls Try.prog 36 #[.int .u32 (x : Int), .int .i64 (-12)] w fun e w' => e = .returned (.int .u32 ((ror x 12 : Nat) : Int)) ∧ w' = w := by
  have hb1 : IntKind.u64.wrap (-12) = 18446744073709551604 := by decide +kernel
  have hb : bits BinOp.and IntKind.u64 18446744073709551604 31 = 20 := by decide +kernel
  have HO := Lib.hid (or_rol12 x hx)
  go_enter Try.func36, Try.ntmps36
  go_wp2
  go_ret
  exact ⟨by rw [← HO.out]; rfl, rfl⟩
theorem ror_12 (x : Nat) (hx : x < M) (w : World) : Calls Try.prog 31 #[.int .u32 (x : Int), .int .i64 12] w fun e w' => e = .returned (.int .u32 ((ror x 12 : Nat) : Int)) ∧ ∃ n, w' = w.drewN n := by
  have HO := Lib.hid (or_ror12 x hx)
  go_enter Try.func31, Try.ntmps31
  go_wp2
  go_quiet (fail)
  go_wp2
  go_ret
  exact ⟨by rw [← HO.out]; rfl, _, rfl⟩
theorem or_ror8 (x : Nat) (hx : x < M) : bits BinOp.or IntKind.u32 ((x : Int) / 256) ((x : Int) * 16777216 % 4294967296) = ((ror x 8 : Nat) : Int) := by
  have hx' : x < 4294967296 := hx
  rw [show ((x : Int) / 256) = ((x / 256 : Nat) : Int) from by omega, show ((x : Int) * 16777216 % 4294967296) = ((x * 16777216 % 4294967296 : Nat) : Int) from by omega, u32_or_nat _ _ (by omega) (by omega)]
  rfl
theorem or_rol8 (x : Nat) (hx : x < M) : bits BinOp.or IntKind.u32 ((x : Int) * 16777216 % 4294967296) ((x : Int) / 256) = ((ror x 8 : Nat) : Int) := by
  have hx' : x < 4294967296 := hx
  rw [show ((x : Int) / 256) = ((x / 256 : Nat) : Int) from by omega, show ((x : Int) * 16777216 % 4294967296) = ((x * 16777216 % 4294967296 : Nat) : Int) from by omega, u32_or_nat _ _ (by omega) (by omega), Nat.or_comm]
  rfl
theorem rot_8 (x : Nat) (hx : x < M) (w : World) : Calls Try.prog 36 #[.int .u32 (x : Int), .int .i64 (-8)] w fun e w' => e = .returned (.int .u32 ((ror x 8 : Nat) : Int)) ∧ w' = w := by
  have hb1 : IntKind.u64.wrap (-8) = 18446744073709551608 := by decide +kernel
  have hb : bits BinOp.and IntKind.u64 18446744073709551608 31 = 24 := by decide +kernel
  have HO := Lib.hid (or_rol8 x hx)
  go_enter Try.func36, Try.ntmps36
  go_wp2
  go_ret
  exact ⟨by rw [← HO.out]; rfl, rfl⟩
theorem ror_8 (x : Nat) (hx : x < M) (w : World) : Calls Try.prog 31 #[.int .u32 (x : Int), .int .i64 8] w fun e w' => e = .returned (.int .u32 ((ror x 8 : Nat) : Int)) ∧ ∃ n, w' = w.drewN n := by
  have HO := Lib.hid (or_ror8 x hx)
  go_enter Try.func31, Try.ntmps31
  go_wp2
  go_quiet (fail)
  go_wp2
  go_ret
  exact ⟨by rw [← HO.out]; rfl, _, rfl⟩
theorem or_ror7 (x : Nat) (hx : x < M) : bits BinOp.or IntKind.u32 ((x : Int) / 128) ((x : Int) * 33554432 % 4294967296) = ((ror x 7 : Nat) : Int) := by
  have hx' : x < 4294967296 := hx
  rw [show ((x : Int) / 128) = ((x / 128 : Nat) : Int) from by omega, show ((x : Int) * 33554432 % 4294967296) = ((x * 33554432 % 4294967296 : Nat) : Int) from by omega, u32_or_nat _ _ (by omega) (by omega)]
  rfl
theorem or_rol7 (x : Nat) (hx : x < M) : bits BinOp.or IntKind.u32 ((x : Int) * 33554432 % 4294967296) ((x : Int) / 128) = ((ror x 7 : Nat) : Int) := by
  have hx' : x < 4294967296 := hx
  rw [show ((x : Int) / 128) = ((x / 128 : Nat) : Int) from by omega, show ((x : Int) * 33554432 % 4294967296) = ((x * 33554432 % 4294967296 : Nat) : Int) from by omega, u32_or_nat _ _ (by omega) (by omega), Nat.or_comm]
  rfl
theorem rot_7 (x : Nat) (hx : x < M) (w : World) : Calls Try.prog 36 #[.int .u32 (x : Int), .int .i64 (-7)] w fun e w' => e = .returned (.int .u32 ((ror x 7 : Nat) : Int)) ∧ w' = w := by
  have hb1 : IntKind.u64.wrap (-7) = 18446744073709551609 := by decide +kernel
  have hb : bits BinOp.and IntKind.u64 18446744073709551609 31 = 25 := by decide +kernel
  have HO := Lib.hid (or_rol7 x hx)
  go_enter Try.func36, Try.ntmps36
  go_wp2
  go_ret
  exact ⟨by rw [← HO.out]; rfl, rfl⟩
theorem ror_7 (x : Nat) (hx : x < M) (w : World) : Calls Try.prog 31 #[.int .u32 (x : Int), .int .i64 7] w fun e w' => e = .returned (.int .u32 ((ror x 7 : Nat) : Int)) ∧ ∃ n, w' = w.drewN n := by
  have HO := Lib.hid (or_ror7 x hx)
  go_enter Try.func31, Try.ntmps31
  go_wp2
  go_quiet (fail)
  go_wp2
  go_ret
  exact ⟨by rw [← HO.out]; rfl, _, rfl⟩
/-- what both rotations that are used do -/
def Rot (r : Nat) : Prop := (r = 16 ∨ r = 12) ∨ r = 8 ∨ r = 7
theorem rot_any {r : Nat} (hr : Rot r) (x : Nat) (hx : x < M) (w : World) : Calls Try.prog 36 #[.int .u32 (x : Int), .int .i64 (-(r : Int))] w fun e w' => e = .returned (.int .u32 ((ror x r : Nat) : Int)) ∧ w' = w := by
  rcases hr with (rfl | rfl) | rfl | rfl
  · exact rot_16 x hx w
  · exact rot_12 x hx w
  · exact rot_8 x hx w
  · exact rot_7 x hx w
theorem ror_any {r : Nat} (hr : Rot r) (x : Nat) (hx : x < M) (w : World) : Calls Try.prog 31 #[.int .u32 (x : Int), .int .i64 (r : Int)] w fun e w' => e = .returned (.int .u32 ((ror x r : Nat) : Int)) ∧ ∃ n, w' = w.drewN n := by
  rcases hr with (rfl | rfl) | rfl | rfl
  · exact ror_16 x hx w
  · exact ror_12 x hx w
  · exact ror_8 x hx w
  · exact ror_7 x hx w
theorem Rot.le {r : Nat} (h : Rot r) : r ≤ 32 := by unfold Rot at h; omega
theorem Rot.bd {r : Nat} (h : Rot r) : -9223372036854775807 ≤ (r : Int) ∧ (r : Int) ≤ 9223372036854775807 := by unfold Rot at h; omega

theorem zero23 (w : World) : (zeroValue 23).run Try.prog w = .ok (.agg (wordsV (List.replicate 8 0)).toArray) w := by kernel_rfl
theorem zero57 (w : World) : (zeroValue 57).run Try.prog w = .ok (.agg (wordsV (List.replicate 16 0)).toArray) w := by kernel_rfl
theorem info23 : (Try.prog.info? 23).map (·.size) = some 8 := by kernel_rfl
theorem info57 : (Try.prog.info? 57).map (·.size) = some 16 := by kernel_rfl
theorem info60 : (Try.prog.info? 60).map (·.size) = some 10 := by kernel_rfl

theorem first_any (w : World) : Calls Try.prog 25 #[] w fun e w' => e = .returned (.agg (wordsV iv).toArray) ∧ Below w.heap.size w w' := by
  go_enter Try.func25, Try.ntmps25
  go_wp2_with (first | (refine wpList_alloc_row rfl 23 rfl _ (zero23 _) ?_; intro w1 hT hS hG) | (refine wpList_store_row rfl 23 _ _ rfl w.heap.size rfl 23 _ (wordsV iv).toArray rfl hT rfl info23 (wordsV_one iv) ?_; intro w2 hT2 hS2 hG2))
  refine bodyPost_ret (v := .agg (wordsV iv).toArray) ?_ rfl ⟨rfl, ((Below.refl _ _).grown hG (Nat.le_refl _) (by simp)).grown hG2 (by omega) (fun j e => by injection e with e; omega)⟩
  exact results_cell_row (P := Try.prog) (p := 0) (ty := 23) rfl _ w2 w.heap.size 23 _ (0, 0) _ rfl hT2 Try.underlying23 rfl info23
theorem iv_any (i : Nat) (hi : i < 8) (w : World) : Calls Try.prog 19 #[.int .i64 (i : Int)] w fun e w' => e = .returned (.int .u32 ((iv.getD i 0 : Nat) : Int)) ∧ Below w.heap.size w w' := by
  have HB : Hid (Below w.heap.size w (w.alloc (.cells (wordsV iv).toArray 22))) := Lib.hid (below_alloc1 w _)
  go_enter Try.func19, Try.ntmps19
  go_wp2
  go_ret
  refine ⟨?_, HB.out⟩
  have h : i = 0 ∨ i = 1 ∨ i = 2 ∨ i = 3 ∨ i = 4 ∨ i = 5 ∨ i = 6 ∨ i = 7 := by omega
  rcases h with rfl | rfl | rfl | rfl | rfl | rfl | rfl | rfl <;> rfl
/-- the orders, as the texts that they are -/
def ordS (r : Nat) : List Nat := (sigma.getD r []).map fun x => if x < 10 then x + 48 else x + 87
def ordV : Array Value := ((List.range 10).map fun r => Value.string ⟨((ordS r).map UInt8.ofNat).toArray⟩).toArray
theorem orders_any (w : World) : Calls Try.prog 27 #[] w fun e w' => e = .returned (.agg ordV) ∧ Below w.heap.size w w' := by
  have hz : (zeroValue 60).run Try.prog w = .ok (.agg (Array.replicate 10 (.string ⟨#[]⟩))) w := by kernel_rfl
  go_enter Try.func27, Try.ntmps27
  go_wp2_with (first | (refine wpList_alloc_row rfl 60 rfl _ hz ?_; intro w1 hT hS hG) | (refine wpList_store_row rfl 60 _ _ rfl w.heap.size rfl 60 _ ordV rfl hT rfl info60 (by decide +kernel) ?_; intro w2 hT2 hS2 hG2))
  refine bodyPost_ret (v := .agg ordV) ?_ rfl ⟨rfl, ((Below.refl _ _).grown hG (Nat.le_refl _) (by simp)).grown hG2 (by omega) (fun j e => by injection e with e; omega)⟩
  exact results_cell_row (P := Try.prog) (p := 0) (ty := 60) rfl _ w2 w.heap.size 60 _ (0, 0) _ rfl hT2 Try.underlying60 rfl info60
end Go.Proofs.Ytnemclbeofiakaa
