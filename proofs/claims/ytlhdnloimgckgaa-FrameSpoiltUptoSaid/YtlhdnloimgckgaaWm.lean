/-
  The document's Sum and Put; Same; spoil.
-/
import Derived.Test.YtlhdnloimgckgaaWj
import Derived.Test.YtlhdnloimgckgaaWe
namespace Go.Proofs.Ytlhdnloimgckgaa
open Go.RowKit Go.Shelf

theorem own_of_block {w : World} {g n base : Nat} {bs : List UInt8} (h : w.heap[g]? = some (.cells (bytesV bs).toArray 5 (0, 0))) (hn : n = bs.length) (hb : base ≤ g) (hm : n ≤ maxLen) : w.ownsRow base 5 1 (.slice (some ⟨g, 0, none⟩) n n) n (bytesV bs) := by
  subst hn
  exact ⟨by rw [bytesV_length]; omega, .inr ⟨g, _, _, rfl, hb, h, Nat.le_refl _, hm, by simp [bytesV], by rw [Nat.mul_one]; exact List.take_of_length_le (by rw [bytesV_length]; exact Nat.le_refl _)⟩⟩

set_option maxHeartbeats 800000 in
theorem refSum_any (x : Nat) (hx : x < 4294967296) (v : Value) (p : List UInt8) (w : World) (hv : SB w v p) (hp : p.length ≤ 16384) :
    Calls Try.prog 31 #[.int .u32 (x : Int), v] w fun e w' => e = .returned (.int .u32 ((rsum x p : Nat) : Int)) ∧ Below w.heap.size w w' := by
  obtain ⟨A, c, rfl, hv, -⟩ := hv.shape
  have HV := Lib.hid hv
  obtain ⟨i0, hi0, hz0, hz1, hz2⟩ := info_parts info5
  have HI0 := Lib.hid hi0
  have HZ0 := Lib.hid hz0
  have HZ1 := Lib.hid hz1
  have HZ2 := Lib.hid hz2
  clear hi0 hz0 hz1 hz2 hv
  have heq : (#[.int .u8 ((x : Int) % 256), .int .u8 ((x : Int) / 256 % 256), .int .u8 ((x : Int) / 65536 % 256), .int .u8 ((x : Int) / 16777216), .int .u8 ((p.length : Int) / 16777216), .int .u8 ((p.length : Int) / 65536), .int .u8 ((p.length : Int) / 256), .int .u8 ((p.length : Int) % 256)] : Array Value) = (bytesV (Crc.le4 x ++ Crc.be4 p.length)).toArray := by
    simp only [bytesV, Crc.le4, Crc.be4, List.cons_append, List.nil_append, List.map_cons, List.map_nil, Crc.ofNat_toNat]
    have h1 : ((x / 16777216 % 256 : Nat) : Int) = (x : Int) / 16777216 := by omega
    have h2 : ((x / 65536 % 256 : Nat) : Int) = (x : Int) / 65536 % 256 := by omega
    have h3 : ((x / 256 % 256 : Nat) : Int) = (x : Int) / 256 % 256 := by omega
    have h4 : ((x % 256 : Nat) : Int) = (x : Int) % 256 := by omega
    have h5 : ((p.length / 16777216 % 256 : Nat) : Int) = (p.length : Int) / 16777216 := by omega
    have h6 : ((p.length / 65536 % 256 : Nat) : Int) = (p.length : Int) / 65536 := by omega
    have h7 : ((p.length / 256 % 256 : Nat) : Int) = (p.length : Int) / 256 := by omega
    have h8 : ((p.length % 256 : Nat) : Int) = (p.length : Int) % 256 := by omega
    rw [h1, h2, h3, h4, h5, h6, h7, h8]
  have hrow : (w.alloc (.cells #[.int .u8 ((x : Int) % 256), .int .u8 ((x : Int) / 256 % 256), .int .u8 ((x : Int) / 65536 % 256), .int .u8 ((x : Int) / 16777216), .int .u8 ((p.length : Int) / 16777216), .int .u8 ((p.length : Int) / 65536), .int .u8 ((p.length : Int) / 256), .int .u8 ((p.length : Int) % 256)] 5)).ownsRow w.heap.size 5 1 (.slice (some ⟨w.heap.size, 0, none⟩) 8 8) 8 (bytesV (Crc.le4 x ++ Crc.be4 p.length)) := by
    rw [heq]
    exact own_of_block (heap_alloc_new w _) (by simp [Crc.le4, Crc.be4]) (Nat.le_refl _) (by unfold maxLen; omega)
  have HROW := Lib.hid hrow
  clear heq hrow
  go_enter Try.func31, Try.ntmps31
  go_wp2_with (first | (refine wpList_append_src _ rfl (.tmp 32) (.tmp 33) 25 rfl w.heap.size 5 i0 (.int .u8 0) 1 Try.underlying25 HI0.out HZ0.out HZ1.out HZ2.out rfl _ _ _ rfl HROW.out A p.length c (bytesV p) rfl (bytesV_length p) HV.out.isNil (HV.out.below (below_alloc1 _ _)).cells (bytesV_one p) (by unfold maxLen; omega) (by omega) (by simp) ?_; intro v3 w3 hown3 hg3 hat3))
  have hl8 : (Crc.le4 x ++ Crc.be4 p.length).length = 8 := by simp [Crc.le4, Crc.be4]
  have hs3 : SB w3 v3 (Crc.le4 x ++ Crc.be4 p.length ++ p) := by
    refine SB_of_own (base := w.heap.size) ?_ (by rw [List.length_append, hl8]; omega)
    rw [List.length_append, hl8, bytesV_append]
    exact hown3
  have HB : Hid (Below w.heap.size w w3) := Lib.hid ((below_alloc1 w _).grown hg3 (by simp) (fun k hk => (HROW.out.lt k hk).1))
  obtain ⟨A3, c3, rfl, hs3, -⟩ := hs3.shape
  have HS3 := Lib.hid hs3
  clear hown3 hg3 hat3 hs3 hl8
  refine (refCheck_any _ _ _ HS3.out).mono ?_
  rintro e w4 ⟨rfl, rfl⟩
  rw [show Crc.check (Crc.le4 x ++ Crc.be4 p.length ++ p) = rsum x p from rfl]
  go_wp2
  go_ret
  exact ⟨rfl, HB.out⟩
end Go.Proofs.Ytlhdnloimgckgaa
