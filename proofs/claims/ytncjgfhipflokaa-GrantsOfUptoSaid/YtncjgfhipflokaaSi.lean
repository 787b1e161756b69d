/-
  slices.Min; grants.by.
-/
import Derived.Test.YtncjgfhipflokaaSh
import Derived.Lib.MinMaxS
namespace Go.Proofs.Ytncjgfhipflokaa
open Go.RowKit Go.Shelf Hp Go.Maps

/-- the least text of some -/
def least (l : List S) : Option S := (l.mergeSort leB).head?
theorem least_spec {l : List S} {m : S} (h : least l = some m) : m ∈ l ∧ ∀ x ∈ l, m ≤ x := by
  have tr : ∀ a b c : List UInt8, leB a b = true → leB b c = true → leB a c = true := fun a b c h1 h2 => by simp only [leB, decide_eq_true_eq] at *; exact List.le_trans h1 h2
  have tot : ∀ a b : List UInt8, (leB a b || leB b a) = true := fun a b => by simp only [leB, Bool.or_eq_true, decide_eq_true_eq]; exact List.le_total a b
  have hp := List.mergeSort_perm l leB
  have hs := List.pairwise_mergeSort tr tot l
  unfold least at h
  cases hm : l.mergeSort leB with
  | nil => rw [hm] at h; cases h
  | cons x t =>
    rw [hm] at h hp hs
    injection h with h
    subst h
    refine ⟨hp.mem_iff.1 (by simp), fun y hy => ?_⟩
    rcases List.mem_cons.1 (hp.mem_iff.2 hy) with rfl | hy
    · exact Hp.le_refl _
    · have := (List.pairwise_cons.1 hs).1 y hy
      simpa [leB] using this
theorem least_of {l : List S} {m : S} (h1 : m ∈ l) (h2 : ∀ x ∈ l, m ≤ x) : least l = some m := by
  cases h : least l with
  | none =>
    unfold least at h
    rw [List.head?_eq_none_iff] at h
    have hp := List.mergeSort_perm l leB
    rw [h] at hp
    have := hp.symm.eq_nil
    subst this
    cases h1
  | some m' =>
    obtain ⟨h3, h4⟩ := least_spec h
    rw [List.le_antisymm (h4 m h1) (h2 m' h3)]
theorem least_nil : least [] = none := by simp [least]
theorem least_none {l : List S} (h : least l = none) : l = [] := by
  unfold least at h
  rw [List.head?_eq_none_iff] at h
  have hp := List.mergeSort_perm l leB
  rw [h] at hp
  exact hp.symm.eq_nil

def mnS (a b : S) : S := if a < b ∨ a = b then a else b
theorem run_min (a b : S) (w : World) : (Builtin.min_ #[9, 9] 9 #[encStr a, encStr b]).run Try.prog w = .ok (encStr (mnS a b)) w := by
  have h := Go.Lib.run_min_strs (P := Try.prog) w #[9, 9] 9 ⟨a.toArray⟩ ⟨b.toArray⟩
  have e : Go.Lib.minS ⟨a.toArray⟩ ⟨b.toArray⟩ = ⟨(mnS a b).toArray⟩ := by
    unfold Go.Lib.minS mnS
    simp only []
    split <;> rfl
  rw [e] at h
  exact h
theorem mnS_le (a b : S) : mnS a b ≤ a ∧ mnS a b ≤ b ∧ (mnS a b = a ∨ mnS a b = b) := by
  unfold mnS
  split
  · rename_i h
    refine ⟨Hp.le_refl _, ?_, .inl rfl⟩
    rcases h with h | rfl
    · exact Hp.le_of_lt h
    · exact Hp.le_refl _
  · rename_i h
    exact ⟨Hp.le_of_not (fun h' => h (.inl h')), Hp.le_refl _, .inr rfl⟩

set_option maxHeartbeats 1000000 in
set_option maxRecDepth 4000 in
theorem min_any (B : Nat) (v : Value) (l : List S) (w : World) (ht : TX w B v l) (hl : l.length ≤ 99999) (hp : 0 < l.length) :
    Calls Try.prog 36 #[v] w fun e w' => w' = w ∧ ∃ m, e = .returned (encStr m) ∧ least l = some m := by
  have hmin := run_min
  obtain ⟨g, c, cur, rfl, hb, hg, hlc, hcm, hcs, htk, hcell⟩ := ht.at_ hp
  have HCELL := Lib.hid hcell
  have hc0 := hcell 0 hp
  have hd0 : decide ((l.length : Int) < 1) = false := by simp; omega
  clear ht hcell htk hg hcs hcm hb
  go_enter Try.func36, Try.ntmps36
  go_wp2_with fail
  go_loopw [3, 4] (fun vm vi wr => ∃ (k : Nat) (m : S), vm = encStr m ∧ vi = .int .i64 (k : Int) ∧ 1 ≤ k ∧ k ≤ l.length ∧ wr = w ∧ m ∈ l.take k ∧ ∀ x ∈ l.take k, m ≤ x) (fun _ vi _ => l.length - (intOf vi).toNat)
  case atStart =>
    have h1 : l.take 1 = [at_ l 0] := by rw [List.take_one, List.head?_eq_getElem?, List.getElem?_eq_getElem hp, at_get hp]; rfl
    exact ⟨1, at_ l 0, rfl, rfl, Nat.le_refl _, hp, rfl, by rw [h1]; simp, by rw [h1]; intro x hx; rw [List.mem_singleton.1 hx]; exact Hp.le_refl _⟩
  case round =>
    obtain ⟨k, m, rfl, rfl, hk1, hk, rfl, hmem, hle⟩ := hrel
    have HMEM := Lib.hid hmem
    have HLE := Lib.hid hle
    clear hmem hle hd0 hc0
    rcases (show k = l.length ∨ k < l.length by omega) with rfl | hlt
    · have hd : decide ((l.length : Int) < (l.length : Int)) = false := by simp
      go_wp2_with fail
      go_ret
      have h1 := HMEM.out
      have h2 := HLE.out
      rw [List.take_length] at h1 h2
      exact ⟨rfl, m, rfl, least_of h1 h2⟩
    · have hd : decide ((k : Int) < (l.length : Int)) = true := by simp; omega
      have hd' : decide (k < l.length) = true := by simp; omega
      have hck := HCELL.out k hlt
      go_wp2_with fail
      go_roundw
      case rel =>
        have htk : l.take (k + 1) = l.take k ++ [at_ l k] := by rw [at_get hlt]; exact (List.take_append_getElem hlt).symm
        obtain ⟨h1, h2, h3⟩ := mnS_le m (at_ l k)
        refine ⟨k + 1, mnS m (at_ l k), rfl, rfl, by omega, by omega, trivial, ?_, ?_⟩
        · rw [htk]
          rcases h3 with h3 | h3
          · rw [h3]; exact List.mem_append_left _ HMEM.out
          · rw [h3]; simp
        · rw [htk]
          intro x hx
          rcases List.mem_append.1 hx with hx | hx
          · exact Hp.tr h1 (HLE.out x hx)
          · rw [List.mem_singleton.1 hx]; exact h2
      case measure => simp [intOf]; omega

theorem results_tt {P : Program} {fn : Func} {p q : Tmp} (h : fn.results = #[.tmp p, .tmp q]) (tmps : Array Value) (w : World) : (results fn tmps).run P w = .ok (.tuple #[tmps.getD p undef, tmps.getD q undef]) w := by
  simp [results, h]
set_option maxHeartbeats 1000000 in
set_option maxRecDepth 4000 in
theorem by_any (B0 b n : Nat) (D : DataW Unit) (ks l : List S) (id : S) (sq gn : Int) (nd ch gr : Value) (w : World) (hown : w.ownsMap Try.prog 9 (plainElem Try.prog 3) b n D) (hkm : KM D ks) (hss : SS B0 w ch l) (hl : l.length ≤ 99999) :
    Calls Try.prog 24 #[.agg (docC id sq nd ch gr gn).toArray, .map (some b)] w fun e w' => e = .returned (.tuple #[encStr ((least (kp ks l)).getD []), .bool (least (kp ks l)).isSome]) ∧ Below w.heap.size w w' := by
  obtain ⟨W0, hW0⟩ : ∃ W0, W0 = (w.alloc (.cells (docC id sq nd ch gr gn).toArray 45)).alloc (.cells #[.map (some b)] 54) := ⟨_, rfl⟩
  have hrow : W0.heap[w.heap.size]? = some (.cells (docC id sq nd ch gr gn).toArray 45 (0, 0)) := by rw [hW0]; exact blk_alloc (World.alloc_heap_new w _) _
  have hr3 : W0.cell? ⟨w.heap.size, 3, none⟩ = some ch := cell_of_row W0 w.heap.size 3 _ _ _ hrow
  have hbox : W0.heap[w.heap.size + 1]? = some (.cells #[.map (some b)] 54 (0, 0)) := by rw [hW0]; exact alloc_new_at (by simp)
  have hbel : Below w.heap.size w W0 := by rw [hW0]; exact ((Below.refl _ w).alloc (Nat.le_refl _) _).alloc (by simp) _
  have hdel : DelAt W0 (w.heap.size + 1) ks := ⟨b, n, D, hbox, by rw [hW0]; exact (hown.alloc _).alloc _, hkm⟩
  obtain ⟨A, c, rfl, -, -, hml, -⟩ := (show SS B0 w ch l from hss)
  have hcl := clone_any B0 _ l W0 (hss.low (Low.of_all hbel)) hl
  have HCL := Lib.hid hcl
  have HDEL := Lib.hid hdel
  have HBEL := Lib.hid hbel
  have HML := Lib.hid hml
  have hkl : (kp ks l).length ≤ 99999 := by unfold kp; have := List.length_filter_le (fun c => decide (c ∈ ks)) l; omega
  have hs0 : W0.heap.size = w.heap.size + 2 := by rw [hW0]; simp
  rw [hW0] at hr3 HCL
  have HW0 := Lib.hid hW0
  clear hrow hbox hbel hdel hcl hss hml hW0 hown hkm
  go_enter Try.func24, Try.ntmps24
  go_wp2_with fail
  refine HCL.out.mono ?_
  rintro e w1 ⟨v1, rfl, htx1, hb1⟩
  rw [← HW0.out] at htx1 hb1
  have hdel1 : DelAt w1 (w.heap.size + 1) ks := by
    obtain ⟨b', n', D', h1, h2, h3⟩ := HDEL.out
    exact ⟨b', n', D', blk_below h1 hb1, own_touch h2 (fun o h => blk_below h hb1), h3⟩
  have hde := delete_any (w.heap.size + 1) W0.heap.size ks v1 l w1 hdel1 htx1 hl HML.out
  have HDE := Lib.hid hde
  have HTX1 := Lib.hid htx1
  have HB1 := Lib.hid hb1
  clear HCL htx1 hb1 hdel1 hde
  go_wp2_with fail
  refine HDE.out.mono ?_
  rintro e w2 ⟨v2, rfl, htx2, hg2⟩
  have hbb : Below w.heap.size w w2 := (HBEL.out.trans (HB1.out.mono (by omega))).grown hg2 (by have := HB1.out.size; omega) (fun k e => by have := own_ge HTX1.out k e; omega)
  obtain ⟨A2, c2, rfl⟩ := htx2.shape
  have HTX2 := Lib.hid htx2
  have HBB := Lib.hid hbb
  clear htx2 hg2 hbb
  rcases Nat.eq_zero_or_pos (kp ks l).length with h0 | h0
  · have hd : ((((kp ks l).length : Nat) : Int) == 0) = true := by rw [h0]; rfl
    have hnil : least (kp ks l) = none := by rw [List.eq_nil_of_length_eq_zero h0]; exact least_nil
    go_wp2_with fail
    refine bodyPost_ret (v := .tuple #[encStr [], .bool false]) (results_tt (P := Try.prog) (p := 4) (q := 5) rfl _ _) rfl ?_
    rw [hnil]
    exact ⟨rfl, HBB.out⟩
  · have hd : ((((kp ks l).length : Nat) : Int) == 0) = false := by rw [beq_eq_false_iff_ne]; omega
    go_wp2_with fail
    refine (min_any _ _ _ w2 HTX2.out hkl h0).mono ?_
    rintro e w3 ⟨rfl, m, rfl, hm⟩
    have HM := Lib.hid hm
    clear hm
    go_wp2_with fail
    refine bodyPost_ret (v := .tuple #[encStr m, .bool true]) (results_tt (P := Try.prog) (p := 4) (q := 5) rfl _ _) rfl ?_
    rw [HM.out]
    exact ⟨rfl, HBB.out⟩
end Go.Proofs.Ytncjgfhipflokaa
