/-
  digest.Mix.
-/
import Derived.Test.YtnemclbeofiakaaWj
namespace Go.Proofs.Ytnemclbeofiakaa
open Go.RowKit Bl

theorem results_ct {P : Program} {fn : Func} {p0 p : Tmp} {ty : TypeId} (h : fn.results = #[.cell p ty, .tmp p0]) (tmps : Array Value) (w : World) (g : Nat) (t : TypeId) (cs : Array Value) (fr : Nat × Nat) (d : TypeDesc)
    (hp : tmps.getD p undef = .pointer (some ⟨g, 0, none⟩)) (hg : w.heap[g]? = some (.cells cs t fr))
    (hu : P.underlying ty = some d) (hd : (match d with | .struct _ | .array _ _ => true | _ => false) = true) (hi : (P.info? ty).map (·.size) = some cs.size) :
    (results fn tmps).run P w = .ok (.tuple #[.agg cs, tmps.getD p0 undef]) w := by
  have hp' : tmps[p]?.getD undef = .pointer (some ⟨g, 0, none⟩) := by simpa using hp
  simp [results, h, hp', asAddr, run_loadVar_row w g t ty cs fr d hg hu hd hi]

theorem Mix_no (h : List Nat) (v : Value) (bs : List UInt8) (n : Nat) (last : Int) (w : World) (hv : SB w v bs) (hno : bs.length ≠ 64 ∨ (last ≠ 0 ∧ last ≠ 1)) :
    Calls Try.prog 9 #[.agg (wordsV h).toArray, v, .int .u64 (n : Int), .int .i64 last] w fun e w' => e = .returned (.tuple #[.agg (wordsV (List.replicate 8 0)).toArray, .int .i64 1]) ∧ Below w.heap.size w w' := by
  obtain ⟨A, c, rfl, -, -⟩ := hv.shape
  clear hv
  have fin : ∀ w1 w2 : World, World.grownBy (w.alloc (.cells (wordsV h).toArray 23)) w1 none → w1.heap.size = (w.alloc (.cells (wordsV h).toArray 23)).heap.size + 1 → w1.grownBy w2 (some (w.heap.size + 1)) → Below w.heap.size w w2 := by
    intro w1 w2 hG hS hG2
    refine (((Below.refl _ w).alloc (Nat.le_refl _) _).grown hG (by simp) (by simp)).grown hG2 ?_ ?_
    · rw [hS]; simp; omega
    · intro k e; injection e with e; omega
  have FIN := Lib.hid fin
  clear fin
  by_cases h1 : bs.length = 64
  · have hb : ((bs.length : Int) != 64) = false := by simp [h1]
    have hl0 : (last != 0) = true := by simp; omega
    have hl1 : (last != 1) = true := by simp; omega
    clear hno
    go_enter Try.func9, Try.ntmps9
    go_wp2_with (first
    | (refine wpList_alloc_row rfl 23 rfl _ (zero23 _) ?_; intro w1 hT hS hG; rw [World.size_alloc] at hT)
    | (refine wpList_store_row rfl 23 _ _ rfl (w.heap.size + 1) rfl 23 _ (wordsV (List.replicate 8 0)).toArray rfl hT rfl (by kernel_rfl) (wordsV_one _) ?_; intro w2 hT2 hS2 hG2))
    refine bodyPost_ret (v := .tuple #[.agg (wordsV (List.replicate 8 0)).toArray, .int .i64 1]) ?_ rfl ⟨rfl, FIN.out _ _ hG hS hG2⟩
    exact results_ct (P := Try.prog) (p := 8) (p0 := 9) (ty := 23) rfl _ w2 (w.heap.size + 1) 23 _ (0, 0) _ rfl hT2 Try.underlying23 rfl info23
  · have hb : ((bs.length : Int) != 64) = true := by simp; omega
    clear hno h1
    go_enter Try.func9, Try.ntmps9
    go_wp2_with (first
    | (refine wpList_alloc_row rfl 23 rfl _ (zero23 _) ?_; intro w1 hT hS hG; rw [World.size_alloc] at hT)
    | (refine wpList_store_row rfl 23 _ _ rfl (w.heap.size + 1) rfl 23 _ (wordsV (List.replicate 8 0)).toArray rfl hT rfl (by kernel_rfl) (wordsV_one _) ?_; intro w2 hT2 hS2 hG2))
    refine bodyPost_ret (v := .tuple #[.agg (wordsV (List.replicate 8 0)).toArray, .int .i64 1]) ?_ rfl ⟨rfl, FIN.out _ _ hG hS hG2⟩
    exact results_ct (P := Try.prog) (p := 8) (p0 := 9) (ty := 23) rfl _ w2 (w.heap.size + 1) 23 _ (0, 0) _ rfl hT2 Try.underlying23 rfl info23

theorem hh8 (h : List Nat) (hh : Wds 8 h) (m : List Nat) (n : Nat) (l : Bool) : (wordsV (mixF h m n l)).toArray.size = 8 := by
  rw [wordsV_size]; exact (hh.mixF m n l).1
theorem Mix_yes (h : List Nat) (hh : Wds 8 h) (v : Value) (bs : List UInt8) (n : Nat) (hn : n < 18446744073709551616) (last : Int) (w : World) (hv : SB w v bs) (h64 : bs.length = 64) (hl : last = 0 ∨ last = 1) :
    Calls Try.prog 9 #[.agg (wordsV h).toArray, v, .int .u64 (n : Int), .int .i64 last] w fun e w' => e = .returned (.tuple #[.agg (wordsV (mixF h (wordsF bs) n (last == 1))).toArray, .int .i64 0]) ∧ Below w.heap.size w w' := by
  obtain ⟨A, c, rfl, hv, -⟩ := hv.shape
  have HV := Lib.hid hv
  have HH := Lib.hid hh
  clear hv hh
  have hb : ((bs.length : Int) != 64) = false := by simp [h64]
  have hlb : (last != 0 && last != 1) = false := by rcases hl with rfl | rfl <;> rfl
  have H64 := Lib.hid h64
  clear h64
  obtain ⟨la, hla⟩ : ∃ b, b = (last == 1) := ⟨_, rfl⟩
  go_enter Try.func9, Try.ntmps9
  rcases hl with rfl | rfl
  all_goals
    simp only [Int.reduceBEq] at hla
    subst hla
    clear hlb
    go_wp2_with (first
      | (refine wpList_alloc_row rfl 23 rfl _ (zero23 _) ?_; intro w1 hT hS hG; rw [World.size_alloc] at hT; have HT := Lib.hid hT; have HS := Lib.hid hS; have HG := Lib.hid hG; clear hT hS hG)
      | (refine wpList_load_row rfl 23 _ rfl w.heap.size rfl 23 _ (0, 0) _ (blk_grown (World.alloc_heap_new w _) HG.out (by simp)) Try.underlying23 rfl (by rw [wordsV_size, HH.out.1]; kernel_rfl) ?_))
    have hB1 : Below w.heap.size w w1 := ((Below.refl _ w).alloc (Nat.le_refl _) _).grown HG.out (by simp) (by simp)
    refine (mix_any h HH.out _ bs n hn _ w1 (HV.out.below hB1) (Nat.le_of_eq H64.out)).mono ?_
    rintro e w2 ⟨rfl, hb2⟩
    have hB2 : Below w.heap.size w w2 := hB1.trans (hb2.mono hB1.size)
    have HB2 := Lib.hid hB2
    have HT2 := Lib.hid (blk_below HT.out hb2)
    have HL := Lib.hid (hh8 h HH.out (wordsF bs) n : ∀ l : Bool, (wordsV (mixF h (wordsF bs) n l)).toArray.size = 8)
    clear hB1 hb2 hB2
    go_wp2_with (refine wpList_store_row rfl 23 _ _ rfl (w.heap.size + 1) rfl 23 _ _ rfl HT2.out (by rw [HL.out]; rfl) (by rw [HL.out]; kernel_rfl) (wordsV_one _) ?_; intro w3 hT3 hS3 hG3)
    refine bodyPost_ret (v := .tuple #[.agg (wordsV (mixF h (wordsF bs) n _)).toArray, .int .i64 0]) ?_ rfl ⟨rfl, HB2.out.grown hG3 (by have := blk_lt HT2.out; omega) (fun k e => by injection e with e; omega)⟩
    exact results_ct (P := Try.prog) (p := 8) (p0 := 9) (ty := 23) rfl _ w3 (w.heap.size + 1) 23 _ (0, 0) _ rfl hT3 Try.underlying23 rfl (by rw [HL.out]; kernel_rfl)
end Go.Proofs.Ytnemclbeofiakaa
