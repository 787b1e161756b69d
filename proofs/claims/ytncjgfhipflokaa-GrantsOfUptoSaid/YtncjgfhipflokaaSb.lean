/-
  grants.all: the iterator over all grants.
-/
import Derived.RangeFuncNested
import Derived.RangeFuncBound
import Derived.RangeFuncCalls
import Derived.RangeFuncLeaves
import Derived.RangeFuncBox
import Derived.Shelf.Abstract
import Derived.Shelf.RegionOpen
import Derived.OwnWalkIn
import Derived.TacticsInMore
import Derived.LoopNIn
import Derived.LoopIn
import Derived.BigRegionIn
import Derived.BigGuardIn
import Derived.Test.YtncjgfhipflokaaSa
import Derived.Test.YtncjgfhipflokaaRange
namespace Go.Proofs.Ytncjgfhipflokaa
open Go.RowKit Go.Shelf Hp

/-- the cells of a state -/
def stV (sq : Int) (dv lv sv : Value) : Array Value := #[.int .u64 sq, dv, lv, sv]
theorem zero45 (w : World) : (zeroValue 45).run Try.prog w = .ok (.agg #[.string ⟨#[]⟩, .int .u64 0, .slice none 0 0, .slice none 0 0, .slice none 0 0, .int .i64 0]) w := by kernel_rfl
theorem zero48 (w : World) : (zeroValue 48).run Try.prog w = .ok (.agg #[.string ⟨#[]⟩, .string ⟨#[]⟩]) w := by kernel_rfl
theorem info45 : (Try.prog.info? 45).map (·.size) = some 6 := by kernel_rfl
theorem info48 : (Try.prog.info? 48).map (·.size) = some 2 := by kernel_rfl

theorem all_any (sq : Int) (dv lv sv : Value) (w : World) : Calls Try.prog 28 #[.agg (stV sq dv lv sv)] w fun e w' => e = .returned (.func (.func 41) #[] #[.pointer (some ⟨w.heap.size, 0, none⟩)]) ∧ w' = w.alloc (.cells (stV sq dv lv sv) 27) := by
  have hmf : ∀ (fn : Fn) (first cap : Array Value) (w : World), (Instr.makeFunc fn first cap).run Try.prog w = .ok (.func fn first cap) w := fun _ _ _ _ => rfl
  go_enter Try.func28, Try.ntmps28
  go_wp2_with fail
  go_ret
  exact ⟨rfl, rfl⟩

theorem docC_one (id : S) (sq gn : Int) (A B C : Option Addr) (n m k c d e : Nat) : ∀ u ∈ (docC id sq (.slice A n c) (.slice B m d) (.slice C k e) gn).toArray.toList, u.oneCell' = true := by
  intro u hu
  have hu' : u ∈ docC id sq (.slice A n c) (.slice B m d) (.slice C k e) gn := hu
  simp only [docC, List.mem_cons, List.not_mem_nil, or_false] at hu'
  rcases hu' with rfl | rfl | rfl | rfl | rfl | rfl <;> rfl
theorem grC_one (a b : S) : ∀ u ∈ ([encStr a, encStr b] : List Value).toArray.toList, u.oneCell' = true := by
  intro u hu
  have hu' : u ∈ [encStr a, encStr b] := hu
  simp only [List.mem_cons, List.not_mem_nil, or_false] at hu'
  rcases hu' with rfl | rfl <;> rfl
def penc (x : S × S) : Array Value := #[encStr x.1, encStr x.2]
theorem pairs_take (l : List Doc) (i : Nat) (h : i < l.length) : pairs (l.take (i + 1)) = pairs (l.take i) ++ l[i].grants := by
  have e : l.take (i + 1) = l.take i ++ [l[i]] := (List.take_append_getElem h).symm
  unfold pairs
  rw [e]
  simp only [List.map_append, List.flatten_append, List.map_cons, List.map_nil, List.flatten_cons, List.flatten_nil, List.append_nil]
theorem pairs_prefix (l : List Doc) (i : Nat) (h : i < l.length) (j : Nat) (hj : j ≤ l[i].grants.length) : ∃ k, pairs (l.take i) ++ l[i].grants.take j = (pairs l).take k := by
  have h1 : pairs l = pairs (l.take i) ++ (l[i].grants ++ pairs (l.drop (i + 1))) := by
    have h2 : l = l.take i ++ (l[i] :: l.drop (i + 1)) := by rw [List.getElem_cons_drop, List.take_append_drop]
    have h3 : pairs l = pairs (l.take i ++ (l[i] :: l.drop (i + 1))) := congrArg pairs h2
    rw [h3]
    unfold pairs
    simp only [List.map_append, List.flatten_append, List.map_cons, List.flatten_cons]
  refine ⟨(pairs (l.take i)).length + j, ?_⟩
  rw [h1, List.take_length_add_append, List.take_append_of_le_length hj]

set_option maxHeartbeats 1000000 in
set_option maxRecDepth 4000 in
theorem all1_iterates (T : World → Value → Prop) (hT : ∀ B0 w w' v, Low B0 w w' → T w v → T w' v) (B0 pb : Nat) (docs : List Doc) (sq : Int) (dv lv sv : Value) (w : World) (hbox : w.heap[pb]? = some (.cells (stV sq dv lv sv) 27 (0, 0))) (hds : DS T B0 w dv docs) (hB : B0 ≤ w.heap.size) :
    Iterates Try.prog 41 #[.pointer (some ⟨pb, 0, none⟩)] penc (fun xs => ∃ k, xs = (pairs docs).take k) (fun xs => xs = pairs docs) (fun _ _ => False) (Low B0) 0 w := by
  intro n l J W hbel hsz hJ hY hJ0
  have HJ := Lib.hid hJ
  have HY := Lib.hid hY
  have HJ0 := Lib.hid hJ0
  have hlow0 : Low B0 w W := Low.of_below hbel hB
  have hboxW := blk_below hbox hbel
  obtain ⟨A, c, rfl, hlc, hcm, hel⟩ := hds.low hT hlow0
  have hc1 : W.cell? ⟨pb, 1, none⟩ = some (.slice A docs.length c) := (cell_of_row W pb 1 _ _ _ hboxW).trans rfl
  have HEL := Lib.hid hel
  have hdl : docs.length ≤ 9223372036854775807 := by unfold maxLen at hcm; omega
  clear hJ hY hJ0 hbel hsz hbox hds hboxW hel hlow0
  refine callsIn_wide.2 ?_
  go_enter Try.func41, Try.ntmps41
  go_wp2_with fail
  clear hc1
  go_loopw [10] (fun i wr => ∃ k : Nat, k ≤ docs.length ∧ i = .int .i64 (k : Int) ∧ Low B0 W wr ∧ J (pairs (docs.take k)) wr) (fun i _ => docs.length - (intOf i).toNat)
  case atStart => exact ⟨0, Nat.zero_le _, rfl, Low.refl _ _, HJ0.out⟩
  case round =>
    clear HJ0
    obtain ⟨k, hk, rfl, hlow, hj⟩ := hrel
    have HLOW := Lib.hid hlow
    have HJK := Lib.hid hj
    clear hlow hj
    rcases (show k = docs.length ∨ k < docs.length by omega) with rfl | hlt
    · rw [List.take_length] at HJK
      have hd : decide ((docs.length : Int) < (docs.length : Int)) = false := by simp
      go_wp2_with fail
      go_end0
      exact ⟨⟨_, rfl⟩, _, rfl, HJK.out⟩
    · have hd : decide ((k : Int) < (docs.length : Int)) = true := by simp; omega
      have hd' : decide (k < docs.length) = true := by simp; omega
      obtain ⟨b, o, rfl, hrows⟩ := HEL.out.resolve_left (by omega)
      obtain ⟨cs, hcsl, hcells, d, hdk, hdr⟩ := hrows k hlt
      have hcells' := hcells.low HLOW.out
      obtain ⟨sq', nd, ch, gr, gn, rfl, hidl, hss, hgs, ⟨An, nn, cn, rfl⟩, _⟩ := hdr
      obtain ⟨Ac, cc, rfl, _, _, _, _⟩ := hss
      obtain ⟨Ag, cg, rfl, hglc, hgcm, _, hgel⟩ := hgs
      have HC := Lib.hid hcells'.2
      have HGE := Lib.hid hgel
      have hgl : d.grants.length ≤ 9223372036854775807 := by unfold maxLen at hgcm; omega
      have hdk' : docs[k] = d := by rw [List.getElem?_eq_getElem hlt] at hdk; injection hdk
      have HDK := Lib.hid hdk'
      clear hcells hcells' hgel hdk hdk' hcsl hrows
      obtain ⟨g4, hg4⟩ : ∃ g, g = wr.heap.size := ⟨_, rfl⟩
      have HG4 := Lib.hid hg4
      clear hg4
      go_upto_region 3 with (first
        | (refine wpList_index_n rfl _ _ 45 23 6 rfl b o docs.length c k rfl rfl hlt Try.underlying23 info45 ?_)
        | (refine wpList_load_at rfl 45 _ rfl b (o + k * 6) rfl (docC d.id sq' (.slice An nn cn) (.slice Ac d.chans.length cc) (.slice Ag d.grants.length cg) gn) _ HC.out Try.underlying45 rfl (by kernel_rfl) ?_)
        | (refine wpList_alloc_row rfl 45 rfl _ (zero45 _) ?_; rw [← HG4.out]; intro w2 hT2 hS2 hG2; have HT2 := Lib.hid hT2; have HG2 := Lib.hid (below_of_grown hG2); clear hT2 hS2 hG2)
        | (refine wpList_store_row rfl 45 _ _ rfl g4 rfl 45 _ _ rfl HT2.out rfl (by kernel_rfl) (docC_one _ _ _ _ _ _ _ _ _ _ _ _) ?_; intro w3 hT3 hS3 hG3; have HT3 := Lib.hid hT3; have HG3 := Lib.hid hG3; clear hT3 hS3 hG3))
      have hb3 : Below wr.heap.size wr w3 := HG2.out.grown HG3.out HG2.out.size (fun k e => by injection e with e; have := HG4.out; omega)
      have hc44 : w3.cell? ⟨g4, 4, none⟩ = some (.slice Ag d.grants.length cg) := (cell_of_row w3 g4 4 _ _ _ HT3.out).trans rfl
      have HJ3 := Lib.hid (HJ.out _ _ _ HJK.out (Touch.of_below hb3))
      have HLOW3 := Lib.hid (HLOW.out.trans (Low.of_all hb3))
      clear hb3 HT2 HG2 HT3 HG3 HG4 HC HJK
      go_wp2_with fail
      clear hc44
      go_loopw [17] (fun i wq => ∃ j : Nat, j ≤ d.grants.length ∧ i = .int .i64 (j : Int) ∧ Low B0 W wq ∧ J (pairs (docs.take k) ++ d.grants.take j) wq) (fun i _ => d.grants.length - (intOf i).toNat)
      case atStart => exact ⟨0, Nat.zero_le _, rfl, HLOW3.out, by simpa using HJ3.out⟩
      case round =>
        clear HJ3 HLOW3
        obtain ⟨j, hj, rfl, hlow, hjj⟩ := hrel
        have HLOW4 := Lib.hid hlow
        have HJ4 := Lib.hid hjj
        clear hlow hjj
        rcases (show j = d.grants.length ∨ j < d.grants.length by omega) with rfl | hjl
        · have hdd : decide ((d.grants.length : Int) < (d.grants.length : Int)) = false := by simp
          rw [List.take_length] at HJ4
          go_wp2_with fail
          go_roundw
          case rel => exact ⟨k + 1, by omega, rfl, HLOW4.out, by rw [pairs_take docs k hlt, HDK.out]; exact HJ4.out⟩
          case measure => simp [intOf]; omega
        · have hdd : decide ((j : Int) < (d.grants.length : Int)) = true := by simp; omega
          have hdd' : decide (j < d.grants.length) = true := by simp; omega
          obtain ⟨bg, og, rfl, hgr⟩ := HGE.out.resolve_left (by omega)
          obtain ⟨csg, _, hcg, x, hxj, rfl⟩ := hgr j hjl
          have HCG := Lib.hid (hcg.low HLOW4.out).2
          have HXJ := Lib.hid (show d.grants.take (j + 1) = d.grants.take j ++ [x] by rw [List.take_add_one, hxj]; rfl)
          clear hcg hgr hxj
          obtain ⟨g6, hg6⟩ : ∃ g, g = wr.heap.size := ⟨_, rfl⟩
          have HG6 := Lib.hid hg6
          clear hg6
          go_upto_region 6 with (first
            | (refine wpList_index_n rfl _ _ 48 43 2 rfl bg og d.grants.length cg j rfl rfl hjl Try.underlying43 info48 ?_)
            | (refine wpList_load_at rfl 48 _ rfl bg (og + j * 2) rfl [encStr x.1, encStr x.2] _ HCG.out Try.underlying48 rfl (by kernel_rfl) ?_)
            | (refine wpList_alloc_row rfl 48 rfl _ (zero48 _) ?_; rw [← HG6.out]; intro w5 hT2 hS2 hG2; have HT5 := Lib.hid hT2; have HG5 := Lib.hid (below_of_grown hG2); clear hT2 hS2 hG2)
            | (refine wpList_store_row rfl 48 _ _ rfl g6 rfl 48 _ _ rfl HT5.out rfl (by kernel_rfl) (grC_one _ _) ?_; intro w7 hT3 hS3 hG3; have HT7 := Lib.hid hT3; have HG7 := Lib.hid hG3; clear hT3 hS3 hG3))
          have hb7 : Below wr.heap.size wr w7 := HG5.out.grown HG7.out HG5.out.size (fun k e => by injection e with e; have := HG6.out; omega)
          have hc60 : w7.cell? ⟨g6, 0, none⟩ = some (encStr x.1) := (cell_of_row w7 g6 0 _ _ _ HT7.out).trans rfl
          have hc61 : w7.cell? ⟨g6, 1, none⟩ = some (encStr x.2) := (cell_of_row w7 g6 1 _ _ _ HT7.out).trans rfl
          have hj7 := HJ.out _ _ _ HJ4.out (Touch.of_below hb7)
          have HLOW7 := Lib.hid (HLOW4.out.trans (Low.of_all hb7))
          have hpre : ∃ q, (pairs (docs.take k) ++ d.grants.take j) ++ [x] = (pairs docs).take q := by
            rw [List.append_assoc, ← HXJ.out, ← HDK.out]
            exact pairs_prefix docs k hlt (j + 1) (by rw [HDK.out]; omega)
          have hY3 := HY.out _ x w7 hj7 (Nat.zero_le _) hpre
          obtain ⟨fn, tmps, assign, body, hy, hR⟩ := hY3
          have hy : (Instr.yield l #[encStr x.1, encStr x.2]).run Try.prog w7 = .ok (.round l fn tmps assign body) w7 := hy
          have HRR := Lib.hid hR
          clear hR hj7 hpre hb7 HT5 HG5 HT7 HG7 HG6 HCG HJ4
          simp only [Act.put, List.setIfInBounds_toArray, List.set_cons_zero, List.set_cons_succ]
          refine (wpIn_wide (n := n)).1 ?_
          gi_wp2
          refine ⟨fun h => by simp [Fence.wide] at h, HRR.out.mono ?_⟩
          rintro e w8 ⟨rfl, hJ8, hlow8⟩
          have HJ8 := Lib.hid hJ8
          have HLOW8 := Lib.hid (HLOW7.out.trans hlow8)
          clear hJ8 hlow8 hc60 hc61 hy
          gi_wp2
          go_wp2_with fail
          go_roundw
          case rel => exact ⟨j + 1, by omega, rfl, HLOW8.out, by rw [HXJ.out, ← List.append_assoc]; exact HJ8.out⟩
          case measure => simp [intOf]; omega
end Go.Proofs.Ytncjgfhipflokaa
