import Derived.Test.YtlhdnloimgckgaaRows
import Derived.Test.YtlhdnloimgckgaaCrc
import Derived.Test.YtlhdnloimgckgaaMem
import Derived.WalkKit
import Derived.ProofKit
import Derived.WalkLawsBesides
import Derived.WalkSpells
import Derived.BigQuiet
import Derived.Deep.QuietTactic
import Derived.Lib.Hide
namespace Go.Proofs.Ytlhdnloimgckgaa
open Go.RowKit

def zeros (n : Nat) : Array Value := Array.replicate n (.int .u32 0)
def tabTo (k : Nat) : Array Value := ((List.range 256).map fun j => Value.int .u32 (if j < k then ((Crc.c8 j : Nat) : Int) else 0)).toArray

theorem size_tabTo (k : Nat) : (tabTo k).size = 256 := by simp [tabTo]
theorem tabTo_at (k j : Nat) (h : j < 256) : (tabTo k)[j]? = some (.int .u32 (if j < k then ((Crc.c8 j : Nat) : Int) else 0)) := by
  simp [tabTo, h]
theorem tabTo_zero : zeros 256 = tabTo 0 := by
  apply Array.ext_getElem?
  intro i
  by_cases hi : i < 256
  · rw [tabTo_at _ _ hi]; simp [zeros, hi]
  · rw [Array.getElem?_eq_none (by simp only [zeros, Array.size_replicate]; omega), Array.getElem?_eq_none (by rw [size_tabTo]; omega)]
theorem tabTo_succ (k : Nat) (h : k < 256) : (tabTo k).setIfInBounds k (.int .u32 ((Crc.c8 k : Nat) : Int)) = tabTo (k + 1) := by
  apply Array.ext_getElem?
  intro i
  rw [Array.getElem?_setIfInBounds]
  by_cases hi : i < 256
  · rw [tabTo_at _ _ hi, size_tabTo]
    by_cases hk : k = i
    · subst hk
      rw [tabTo_at _ _ hi]; simp [h]
    · rw [if_neg hk, tabTo_at _ _ hi]
      congr 2
      by_cases h1 : i < k
      · rw [if_pos h1, if_pos (by omega)]
      · rw [if_neg h1, if_neg (by omega)]
  · have hne : k ≠ i := by omega
    rw [if_neg hne]
    rw [Array.getElem?_eq_none (by rw [size_tabTo]; omega), Array.getElem?_eq_none (by rw [size_tabTo]; omega)]
theorem oneCell_tabTo (k : Nat) : ∀ u ∈ (tabTo k).toList, u.oneCell' = true := by
  intro u hu
  simp [tabTo] at hu
  obtain ⟨j, _, rfl⟩ := hu
  rfl
attribute [irreducible] tabTo
theorem zero48 (w : World) : (zeroValue 48).run Try.prog w = .ok (.agg (zeros 256)) w := by kernel_rfl
theorem info48 : (Try.prog.info? 48).map (·.size) = some 256 := by kernel_rfl

theorem turn_step (c : Nat) (h : c < 4294967296) : bits BinOp.xor IntKind.u32 ((c : Int) / 2) (2197175160 * bits BinOp.and IntKind.u32 (c : Int) 1 % 4294967296) = ((Crc.cbit c : Nat) : Int) := by
  have h1 := u32_and_nat c 1 h (by decide)
  rw [nat_mask1] at h1
  have h1' : bits BinOp.and IntKind.u32 (c : Int) 1 = ((c % 2 : Nat) : Int) := h1
  rw [h1']
  have h2 : (2197175160 * ((c % 2 : Nat) : Int) % 4294967296) = ((if c % 2 = 1 then Crc.poly else 0 : Nat) : Int) := by
    rcases Nat.mod_two_eq_zero_or_one c with e | e <;> rw [e] <;> simp [Crc.poly]
  rw [h2, show ((c : Int) / 2) = ((c / 2 : Nat) : Int) from by omega]
  rw [u32_xor_nat _ _ (by omega) (by split <;> simp [Crc.poly])]
  rfl
set_option maxHeartbeats 400000 in
theorem turns_any (w : World) :
    Calls Try.prog 21 #[] w fun e w' => e = .returned (.agg (tabTo 256)) ∧ Below w.heap.size w w' := by
  go_enter Try.func21, Try.ntmps21
  go_wp2_with (refine wpList_alloc_row rfl 48 rfl (.agg (zeros 256)) (zero48 _) ?_; intro w1 hT hS hG)
  simp only [Value.cells, tabTo_zero] at hT
  have hB : Below w.heap.size w w1 := (Below.refl _ _).grown hG (Nat.le_refl _) (by simp)
  clear hS hG
  go_loopw [4] (fun i wr => ∃ k : Nat, k ≤ 256 ∧ i = .int .i64 k ∧ wr.heap[w.heap.size]? = some (.cells (tabTo k) 48 (0, 0)) ∧ Below w.heap.size w wr) (fun i _ => (256 - intOf i).toNat)
  case atStart => exact ⟨0, by omega, rfl, hT, hB⟩
  case round =>
    clear hT hB
    obtain ⟨k, hk, rfl, hT, hB⟩ := hrel
    have HT := Lib.hid hT
    have HB := Lib.hid hB
    clear hB
    by_cases hlt : k < 256
    · have hd : decide ((k : Int) < 256) = true := by simp; omega
      have hcell : wr.cell? ⟨w.heap.size, k, none⟩ = some (.int .u32 0) := by rw [cell_of_row wr _ _ _ _ _ hT, tabTo_at _ _ hlt]; simp
      have hfz : wr.frozen? ⟨w.heap.size, k, none⟩ = false := frozen_of_row wr _ _ _ _ hT
      clear hT
      go_wp2
      go_loop [9, 2] (fun j x => ∃ m : Nat, m ≤ 8 ∧ j = .int .i64 m ∧ x = .int .u32 ((Crc.cn m k : Nat) : Int)) (fun j _ => (8 - intOf j).toNat)
      case atStart => exact ⟨0, by omega, rfl, rfl⟩
      case round =>
        obtain ⟨m, hm, rfl, rfl⟩ := hrel
        by_cases hlt2 : m < 8
        · have hd2 : decide ((m : Int) < 8) = true := by simp; omega
          have hx : Crc.cn m k < 4294967296 := Crc.cn_lt m (by omega)
          go_wp2
          go_round
          case rel =>
            exact ⟨m + 1, by omega, by go_num, by rw [turn_step _ hx, Crc.cn_succ]⟩
          case measure => simp [intOf]; omega
        · have hd2 : decide ((m : Int) < 8) = false := by simp; omega
          have em : m = 8 := by omega
          subst em
          clear hk
          go_wp2
          go_roundw
          case rel => exact ⟨k + 1, by omega, by go_num, by rw [heap_setCell_same wr _ _ _ _ _ HT.out]; exact congrArg (fun c => some (Obj.cells c 48)) (tabTo_succ k hlt), HB.out.setCell (p := ⟨w.heap.size, k, none⟩) (Nat.le_refl _) _⟩
          case measure => simp [intOf]; omega
    · have hd : decide ((k : Int) < 256) = false := by simp; omega
      have ek : k = 256 := by omega
      have HK := Lib.hid ek
      clear ek hlt hk hT
      go_wp2_with (first | refine wpList_load_row rfl 48 _ rfl w.heap.size rfl 48 _ (0, 0) _ HT.out Try.underlying48 rfl (by rw [size_tabTo]; exact info48) ?_ | (refine wpList_store_row rfl 48 _ _ rfl w.heap.size rfl 48 _ _ rfl HT.out rfl (by rw [size_tabTo]; exact info48) (oneCell_tabTo k) ?_; intro w2 hT2 hS2 hG2))
      have hk := HK.out
      subst hk
      refine bodyPost_ret (v := .agg (tabTo 256)) ?_ rfl ⟨rfl, HB.out.grown hG2 HB.out.size (by simp)⟩
      exact results_cell_row (P := Try.prog) (p := 0) (ty := 48) rfl _ w2 w.heap.size 48 _ (0, 0) _ rfl hT2 Try.underlying48 rfl (by rw [size_tabTo]; exact info48)

theorem tab_at {w : World} {b : Nat} (h : w.heap[b]? = some (.cells (tabTo 256) 48 (0, 0))) (j : Nat) (hj : j < 256) : w.cell? ⟨b, j, none⟩ = some (.int .u32 ((Crc.c8 j : Nat) : Int)) := by
  rw [cell_of_row w _ _ _ _ _ h, tabTo_at _ _ hj, if_pos hj]

def concat (L : List (List UInt8)) : List UInt8 := L.flatten

theorem check_cell {x c : Nat} (_hx : x < 4294967296) (hc : c < 256) : bits BinOp.xor IntKind.u8 ((x : Int) % 256) (c : Int) = ((x % 256 ^^^ c : Nat) : Int) := by
  rw [show ((x : Int) % 256) = ((x % 256 : Nat) : Int) from by omega]
  exact u8_xor_nat _ _ (by omega) hc
theorem check_step {x y : Nat} (hx : x < 4294967296) (hy : y < 4294967296) : bits BinOp.xor IntKind.u32 (y : Int) ((x : Int) / 256) = ((y ^^^ x / 256 : Nat) : Int) := by
  rw [show ((x : Int) / 256) = ((x / 256 : Nat) : Int) from by omega]
  exact u32_xor_nat _ _ hy (by omega)
theorem take_flat_succ {α : Type} (L : List (List α)) (i : Nat) (h : i < L.length) : (L.take (i + 1)).flatten = (L.take i).flatten ++ L[i] := by
  rw [List.take_succ_eq_append_getElem h, List.flatten_append]; simp
theorem take_snoc {α : Type} (l : List α) (i : Nat) (h : i < l.length) : l.take (i + 1) = l.take i ++ [l[i]] := List.take_succ_eq_append_getElem h
theorem not32 {x : Nat} (hx : x < 4294967296) : bits BinOp.xor IntKind.u32 4294967295 (x : Int) = ((x ^^^ 4294967295 : Nat) : Int) := by
  rw [Nat.xor_comm]
  exact u32_xor_nat 4294967295 _ (by decide) hx

set_option maxHeartbeats 400000 in
theorem Check_any (v : Value) (L : List (List UInt8)) (w : World) (hv : SBB w v L) :
    Calls Try.prog 11 #[v] w fun e w' => e = .returned (.int .u32 ((Crc.check L.flatten : Nat) : Int)) ∧ Below w.heap.size w w' := by
  obtain ⟨A, c, rfl, hlc, hc, hcells⟩ := hv
  have HC := Lib.hid hcells
  have hm : L.length ≤ 140737488355328 := by omega
  clear hcells
  go_enter Try.func11, Try.ntmps11
  go_wp2_with (first | ((with_reducible refine (turns_any _).mono ?_); rintro e w1 ⟨rfl, hb1⟩) | (refine wpList_alloc_row rfl 48 rfl (.agg (zeros 256)) (zero48 _) ?_; intro w2 hT2 hS2 hG2; simp only [Value.cells, tabTo_zero] at hT2) | (refine wpList_store_row rfl 48 _ _ rfl _ rfl 48 _ (tabTo 256) rfl hT2 (by rw [size_tabTo, size_tabTo]) (by rw [size_tabTo]; exact info48) (oneCell_tabTo 256) ?_; intro w3 hT3 hS3 hG3))
  have hb3 : Below w.heap.size w w3 := ((hb1.grown hG2 hb1.size (by simp)).grown hG3 (by have := hb1.size; omega) (by have := hb1.size; simp; omega))
  have HT := Lib.hid hT3
  have HB := Lib.hid hb3
  clear hT2 hT3 hS2 hS3 hG2 hG3 hb1 hb3
  generalize w1.heap.size = B at *
  go_loop [4, 12] (fun x i => ∃ k : Nat, k ≤ L.length ∧ i = .int .i64 k ∧ x = .int .u32 ((Crc.crcs 4294967295 (L.take k).flatten : Nat) : Int)) (fun _ i => (L.length - (intOf i).toNat))
  case atStart => exact ⟨0, by omega, rfl, by simp [Crc.crcs]⟩
  case round =>
    obtain ⟨k, hk, rfl, rfl⟩ := hrel
    by_cases hlt : k < L.length
    · obtain ⟨b, o, rfl, hcell⟩ := HC.out.resolve_left (by intro h; subst h; simp at hlt)
      obtain ⟨u, hu, A2, c2, rfl, hl2, hc2, hr2⟩ := hcell k hlt
      have hu2 := cell_below HB.out hu
      have H2 := Lib.hid hr2
      have HL := Lib.hid (take_flat_succ L k hlt)
      have hl3 : L[k].length ≤ 140737488355328 := by omega
      generalize L[k] = bs at *
      clear hcell hu hr2 hl2 hc2
      go_wp2
      go_loop [4, 18] (fun x i => ∃ m : Nat, m ≤ bs.length ∧ i = .int .i64 m ∧ x = .int .u32 ((Crc.crcs 4294967295 ((L.take k).flatten ++ bs.take m) : Nat) : Int)) (fun _ i => (bs.length - (intOf i).toNat))
      case atStart => exact ⟨0, by omega, rfl, by simp⟩
      case round =>
        obtain ⟨m, hm, rfl, rfl⟩ := hrel
        by_cases hlt2 : m < bs.length
        · obtain ⟨b2, o2, rfl, hcell⟩ := H2.out.resolve_left (by intro h; subst h; simp at hlt2)
          have hb2 := cell_below HB.out (hcell m hlt2)
          have HL2 := Lib.hid (take_snoc bs m hlt2)
          have hbl := Crc.byte_lt bs[m]
          have hx : Crc.crcs 4294967295 ((L.take k).flatten ++ bs.take m) < 4294967296 := Crc.crcs_lt _ (by decide)
          generalize bs[m] = ch at *
          have HX : Hid (Crc.crcs 4294967295 ((L.take k).flatten ++ bs.take (m + 1)) = Crc.cbyte (Crc.crcs 4294967295 ((L.take k).flatten ++ bs.take m)) ch) := by
            rw [HL2.out, ← List.append_assoc, Crc.crcs_snoc]; exact rfl
          generalize Crc.crcs 4294967295 ((L.take k).flatten ++ bs.take m) = X at *
          have e1 := check_cell hx hbl
          have hi : X % 256 ^^^ ch.toNat < 256 := Nat.xor_lt_two_pow (n := 8) (by omega) hbl
          have hcell2 := tab_at HT.out (X % 256 ^^^ ch.toNat) hi
          have HS := Lib.hid (Crc.tab_step X ch)
          have hy : Crc.c8 (X % 256 ^^^ ch.toNat) < 4294967296 := Crc.cn_lt 8 (by omega)
          have e2 := check_step hx hy
          clear hcell
          generalize X % 256 ^^^ ch.toNat = J at *
          go_wp2
          go_round
          case rel => exact ⟨m + 1, by omega, by go_num, by rw [HX.out, ← HS.out]⟩
          case measure => simp [intOf]; omega
        · have em : m = bs.length := by omega
          have HM := Lib.hid em
          go_wp2
          go_round
          case rel => exact ⟨k + 1, by omega, by go_num, by rw [HL.out, HM.out, List.take_length]⟩
          case measure => simp [intOf]; omega
    · have HM : Hid (k = L.length) := by have : k = L.length := by omega
                                         exact this
      have hx : Crc.crcs 4294967295 (L.take k).flatten < 4294967296 := Crc.crcs_lt _ (by decide)
      have e := not32 hx
      have hs : IntKind.u32.signed = false := rfl
      have hmx : IntKind.u32.max = 4294967295 := rfl
      go_wp2
      go_ret
      exact ⟨by simp only [Crc.check]; rw [HM.out, List.take_length]; rfl, HB.out⟩
end Go.Proofs.Ytlhdnloimgckgaa
