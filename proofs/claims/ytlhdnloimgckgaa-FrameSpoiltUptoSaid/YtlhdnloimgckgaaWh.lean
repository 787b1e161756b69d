import Derived.Test.YtlhdnloimgckgaaWf
import Derived.Test.YtlhdnloimgckgaaReg
import Derived.Test.YtlhdnloimgckgaaSpec
namespace Go.Proofs.Ytlhdnloimgckgaa
open Go.RowKit

theorem or4 (a b c d : UInt8) : bits BinOp.or IntKind.u32 (bits BinOp.or IntKind.u32 (bits BinOp.or IntKind.u32 ((a.toNat : Int) * 16777216) ((b.toNat : Int) * 65536)) ((c.toNat : Int) * 256)) (d.toNat : Int) = ((num4 a b c d : Nat) : Int) := by
  have ha := a.toNat_lt; have hb := b.toNat_lt; have hc := c.toNat_lt; have hd := d.toNat_lt
  rw [show ((a.toNat : Int) * 16777216) = ((a.toNat * 16777216 : Nat) : Int) from by simp, show ((b.toNat : Int) * 65536) = ((b.toNat * 65536 : Nat) : Int) from by simp, show ((c.toNat : Int) * 256) = ((c.toNat * 256 : Nat) : Int) from by simp]
  rw [u32_or_nat _ _ (by omega) (by omega), nat_join 24 _ _ (by omega) (by omega)]
  rw [u32_or_nat _ _ (by omega) (by omega), nat_join 16 _ _ (by omega) (by omega)]
  rw [u32_or_nat _ _ (by omega) (by omega), nat_join 8 _ _ (by omega) (by omega)]
  rfl

theorem number_any (b off n c : Nat) (b0 b1 b2 b3 : UInt8) (hn : 4 ≤ n) (w : World) (h0 : w.cell? ⟨b, off, none⟩ = some (.int .u8 (b0.toNat : Int)))
   (h1 : w.cell? ⟨b, off+1, none⟩ = some (.int .u8 (b1.toNat : Int))) (h2 : w.cell? ⟨b, off+2, none⟩ = some (.int .u8 (b2.toNat : Int))) (h3 : w.cell? ⟨b, off+3, none⟩ = some (.int .u8 (b3.toNat : Int))) :
    Calls Try.prog 30 #[.slice (some ⟨b, off, none⟩) n c] w fun e w' => e = .returned (.int .u32 ((num4 b0 b1 b2 b3 : Nat) : Int)) ∧ ∃ n, w' = w.drewN n := by
  have hn1 : 0 < n := by omega
  have hn2 : 1 < n := by omega
  have hn3 : 2 < n := by omega
  have hn4 : 3 < n := by omega
  have g0 := b0.toNat_lt
  have g1 := b1.toNat_lt
  have g2 := b2.toNat_lt
  have g3 := b3.toNat_lt
  have HO := Lib.hid (or4 b0 b1 b2 b3)
  go_enter Try.func30, Try.ntmps30
  go_wp2
  go_quiet (fail)
  go_wp2
  go_ret
  exact ⟨by rw [← HO.out]; rfl, nq, rfl⟩

theorem Clone_any (v : Value) (bs : List UInt8) (w : World) (hv : SB w v bs) :
    Calls Try.prog 23 #[v] w fun e w' => ∃ v', e = .returned v' ∧ w'.ownsRow w.heap.size 5 1 v' bs.length (bytesV bs) ∧ Below w.heap.size w w' := by
  obtain ⟨i0, hi0, hz0, hz1, hz2⟩ := info_parts info5
  obtain ⟨A, c, rfl, hv, hm⟩ := hv.shape
  have HV := Lib.hid hv
  clear hv
  have hown0 : (w.alloc (.cells #[] 5)).ownsRow w.heap.size 5 1 (.slice (some ⟨w.heap.size, 0, none⟩) 0 0) 0 [] := World.ownsRow_made w #[] 0 (Nat.le_refl _) (by unfold maxLen; omega) (by simp)
  have HO := Lib.hid hown0
  clear hown0
  have q25 : ∀ (w : World) (a : Option Addr) (n c n' c' : Nat), (binOp .eql 25 (.slice a n c) (.slice none n' c')).run Try.prog w = .ok (.bool a.isNone) w := fun w a n c n' c' => Lib.run_eql_slice_nil w 25 5 a n c n' c' Try.underlying25
  cases A with
  | none =>
    have hz := HV.out.isNil rfl
    have hbs : bs = [] := List.eq_nil_of_length_eq_zero hz
    subst hbs
    go_enter Try.func23, Try.ntmps23
    go_wp2
    go_ret
    exact ⟨_, rfl, World.ownsRow_nil _ _ _ _, Below.refl _ _⟩
  | some ad =>
    have HS := Lib.hid (HV.out.below (below_alloc1 w (.cells #[] 5)))
    go_enter Try.func23, Try.ntmps23
    go_wp2_with (first | (refine wpList_append_src _ rfl (.tmp 5) (.tmp 6) 25 rfl w.heap.size 5 i0 (.int .u8 0) 1 Try.underlying25 hi0 hz0 hz1 hz2 rfl _ _ _ rfl HO.out (some ad) bs.length c (bytesV bs) rfl (bytesV_length bs) HS.out.isNil HS.out.cells (bytesV_one bs) (by unfold maxLen; omega) (by omega) (by simp) ?_; intro v3 w3 hown3 hg3 hat3))
    go_ret
    refine ⟨_, rfl, ?_, (below_alloc1 w _).grown hg3 (by simp) (fun k hk => Nat.le_of_eq (Option.some.inj hk))⟩
    simpa using hown3
end Go.Proofs.Ytlhdnloimgckgaa
