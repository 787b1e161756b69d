/-
  slices.Clone; the closure of grants.by; slices.IndexFunc.
-/
import Derived.Test.YtncjgfhipflokaaSf
import Derived.Lib.SliceRun
namespace Go.Proofs.Ytncjgfhipflokaa
open Go.RowKit Go.Shelf Hp Go.Maps

theorem run_build350 (w : World) : (Instr.buildSlice 35 0 #[]).run Try.prog w = .ok (.slice (some ⟨w.heap.size, 0, none⟩) 0 0) (w.alloc (.cells #[] 9)) := by kernel_rfl
theorem wpList_build350 {Q : Exit → Act → World → Prop} {o : Oper} {a : Act} {w : World} {ops : Array Oper} {rest : List Oper} (hgd : o.guard = none) (ho : o.op = .buildSlice 35 0 #[]) (h : wpList Try.prog ops Q rest (a.put o.dst (.slice (some ⟨w.heap.size, 0, none⟩) 0 0)) (w.alloc (.cells #[] 9))) : wpList Try.prog ops Q (o :: rest) a w := by
  refine wpList_plain hgd fun K hK => ow_value' ?_ (hK _ _ h)
  unfold execOp
  simp only [ho, List.map_toArray, List.map_nil, Sem.run_bind, run_build350, Result.andThen_ok]
  rfl
theorem SS.cells {B0 : Nat} {w : World} {A : Option Addr} {n c : Nat} {l : List S} (h : SS B0 w (.slice A n c) l) : n = l.length ∧ (A = none → n = 0) ∧ ∀ ad, A = some ad → ∀ (j : Nat) (u : Value), (l.map encStr)[j]? = some u → w.cell? (ad.add j) = some u := by
  obtain ⟨A', c', e, h1, h2, h3, h4⟩ := h
  injection e with e1 e2 e3
  subst e1 e2 e3
  refine ⟨rfl, fun hA => ?_, fun ad hA j u hu => ?_⟩
  · rcases h4 with h4 | ⟨b, o, h4, _⟩
    · exact h4
    · rw [hA] at h4; cases h4
  · have hj : j < l.length := by have := (List.getElem?_eq_some_iff.1 hu).1; simpa using this
    rcases h4 with h4 | ⟨b, o, h4, h5⟩
    · omega
    · rw [hA] at h4
      injection h4 with h4
      subst h4
      obtain ⟨cs, _, hc, rfl⟩ := h5 j hj
      have h6 := hc.2 0 (encStr (at_ l j)) rfl
      rw [add_plain]
      rw [List.getElem?_map, List.getElem?_eq_getElem hj] at hu
      injection hu with hu
      rw [← hu, ← at_get hj]
      simpa using h6

set_option maxHeartbeats 1000000 in
set_option maxRecDepth 4000 in
theorem clone_any (B0 : Nat) (v : Value) (l : List S) (w : World) (h : SS B0 w v l) (hl : l.length ≤ 99999) :
    Calls Try.prog 34 #[v] w fun e w' => ∃ v', e = .returned v' ∧ TX w' w.heap.size v' l ∧ Below w.heap.size w w' := by
  obtain ⟨i0, hi0, hz0, hz1, hz2⟩ := info_parts info9
  have HI0 := Lib.hid hi0
  have HZ0 := Lib.hid hz0
  have HZ1 := Lib.hid hz1
  have HZ2 := Lib.hid hz2
  clear hi0 hz0 hz1 hz2
  obtain ⟨A, c, rfl, -, -, -, -⟩ := id h
  have hbel : Below w.heap.size w (w.alloc (.cells #[] 9)) := (Below.refl _ w).alloc (Nat.le_refl _) _
  have hcl := (h.low (Low.of_all hbel)).cells
  have HC := Lib.hid hcl
  have HBEL := Lib.hid hbel
  have htx0 : TX (w.alloc (.cells #[] 9)) w.heap.size (.slice (some ⟨w.heap.size, 0, none⟩) 0 0) [] := tx_new w _ (Nat.le_refl _)
  have HTX := Lib.hid htx0
  clear h hcl hbel htx0
  cases A with
  | none =>
    have hz : l = [] := List.eq_nil_of_length_eq_zero (HC.out.2.1 rfl)
    subst hz
    have hnil : (binOp .eql 35 (.slice none 0 c) (.slice none 0 0)).run Try.prog w = .ok (.bool true) w := Go.Lib.run_eql_slice_nil w 35 9 none 0 c 0 0 Try.underlying35
    go_enter Try.func34, Try.ntmps34
    go_wp2_with fail
    go_ret
    exact ⟨_, rfl, World.ownsRow_nil _ _ _ _, Below.refl _ _⟩
  | some ad =>
    have hnil : (binOp .eql 35 (.slice (some ad) l.length c) (.slice none 0 0)).run Try.prog w = .ok (.bool false) w := Go.Lib.run_eql_slice_nil w 35 9 (some ad) l.length c 0 0 Try.underlying35
    go_enter Try.func34, Try.ntmps34
    go_wp2_with (first
      | (refine wpList_build350 rfl rfl ?_)
      | (at_builtin; refine wpList_append_src _ rfl (.tmp 5) (.tmp 6) 35 rfl w.heap.size 9 i0 (.string ⟨#[]⟩) 16 Try.underlying35 HI0.out HZ0.out HZ1.out HZ2.out rfl (.slice (some ⟨w.heap.size, 0, none⟩) 0 0) 0 [] rfl HTX.out (some ad) l.length c (l.map encStr) rfl (by simp) (by simp) HC.out.2.2 (by intro u hu; obtain ⟨x, _, rfl⟩ := List.mem_map.1 hu; rfl) (by unfold maxLen; omega) (by omega) (by simp) ?_; intro v3 w5 hown3 hg3 hat3; have HO3 := Lib.hid hown3; have HG3 := Lib.hid hg3; clear hown3 hg3 hat3))
    go_ret
    refine ⟨_, rfl, ?_, HBEL.out.grown HG3.out (by simp) (fun k e => own_ge HTX.out k e)⟩
    have := HO3.out
    rw [Nat.zero_add, List.nil_append] at this
    exact this

/-- the closure's box and the map that counts ks -/
def DelAt (w : World) (p : Nat) (ks : List S) : Prop := ∃ b n D, w.heap[p]? = some (.cells #[.map (some b)] 54 (0, 0)) ∧ w.ownsMap Try.prog 9 (plainElem (H := Unit) Try.prog 3) b n D ∧ KM D ks
abbrev delF (p : Nat) : Value := .func (.func 35) #[] #[.pointer (some ⟨p, 0, none⟩)]
set_option maxRecDepth 4000 in
theorem del_any (p : Nat) (ks : List S) (c : S) (w : World) (h : DelAt w p ks) (hc : c.length ≤ maxLen) :
    Calls Try.prog 35 #[encStr c, .pointer (some ⟨p, 0, none⟩)] w fun e w' => e = .returned (.bool (!decide (c ∈ ks))) ∧ w' = w := by
  obtain ⟨b, n, D, hp, hown, hkm⟩ := h
  obtain ⟨cn, hcn, _, hz⟩ := hkm.at_ c
  have hkey := key_str c hc
  have hcell := row_cell hp
  have hq : ((cn : Int) == 0) = !decide (c ∈ ks) := by
    by_cases hm : c ∈ ks
    · have : cn ≠ 0 := fun e => hz.1 e hm
      simp [hm]; omega
    · have : cn = 0 := hz.2 hm
      simp [hm, this]
  clear hkm hp
  go_enter Try.func35, Try.ntmps35
  go_wp2_with (at_lookup; refine wpList_lookup_own_int _ rfl _ _ 54 rfl 9 3 .i64 law9 Try.underlying54 Try.underlying3 (zero3 _) b n D rfl hown _ _ rfl hkey ?_; intro c' hat hwc)
  go_ret
  have hcc : c' = (cn : Int) := by
    have h := hat.symm.trans hcn
    injection h with h
    injection h with h h'
  subst hcc
  rw [hq]
  exact ⟨rfl, rfl⟩

/-- those of l that are among ks -/
def kp (ks l : List S) : List S := l.filter fun c => decide (c ∈ ks)
theorem kp_take (ks l : List S) (j : Nat) (h : j < l.length) : kp ks (l.take (j + 1)) = if at_ l j ∈ ks then kp ks (l.take j) ++ [at_ l j] else kp ks (l.take j) := by
  have e : l.take (j + 1) = l.take j ++ [at_ l j] := by rw [at_get h]; exact (List.take_append_getElem h).symm
  unfold kp
  rw [e, List.filter_append]
  by_cases hm : at_ l j ∈ ks <;> simp [hm]

set_option maxHeartbeats 1000000 in
set_option maxRecDepth 4000 in
theorem index_any (p B : Nat) (ks : List S) (v : Value) (l : List S) (w : World) (h : DelAt w p ks) (ht : TX w B v l) (hl : l.length ≤ 99999) (hm : ∀ c ∈ l, c.length ≤ maxLen) :
    Calls Try.prog 45 #[v, delF p] w fun e w' => w' = w ∧ ((e = .returned (.int .i64 (-1)) ∧ kp ks l = l) ∨ ∃ i : Nat, i < l.length ∧ e = .returned (.int .i64 (i : Int)) ∧ kp ks (l.take (i + 1)) = l.take i) := by
  have eg : ∀ args w, (callFunc 35 args).run Try.prog w = .ok (.enter 35 args) w := enters_of Try.func35 (by kernel_rfl) rfl
  obtain ⟨A, c, rfl⟩ := ht.shape
  have H := Lib.hid h
  have HT := Lib.hid ht
  have HM := Lib.hid hm
  clear h ht hm
  go_enter Try.func45, Try.ntmps45
  go_wp2_with fail
  go_loopw [8] (fun i wr => ∃ k : Nat, k ≤ l.length ∧ i = .int .i64 (k : Int) ∧ wr = w ∧ kp ks (l.take k) = l.take k) (fun i _ => l.length - (intOf i).toNat)
  case atStart => exact ⟨0, Nat.zero_le _, rfl, rfl, rfl⟩
  case round =>
    obtain ⟨k, hk, rfl, rfl, hkp⟩ := hrel
    have HKP := Lib.hid hkp
    clear hkp
    rcases (show k = l.length ∨ k < l.length by omega) with rfl | hlt
    · have hd : decide ((l.length : Int) < (l.length : Int)) = false := by simp
      go_wp2_with fail
      go_ret
      refine ⟨rfl, .inl ⟨rfl, ?_⟩⟩
      have := HKP.out
      rwa [List.take_length] at this
    · have hd : decide ((k : Int) < (l.length : Int)) = true := by simp; omega
      have hd' : decide (k < l.length) = true := by simp; omega
      obtain ⟨g, c', cur, e, hb, hg, hlc, hcm, hcs, htk, hcell⟩ := HT.out.at_ (by omega)
      injection e with e1 e2 e3
      subst e1 e3
      have hck := hcell k hlt
      have hcl : (at_ l k).length ≤ maxLen := HM.out _ (by rw [at_get hlt]; exact List.getElem_mem hlt)
      have hdel := del_any p ks (at_ l k) wr H.out hcl
      have HDEL := Lib.hid hdel
      clear hcell htk hdel hg hcs hcm hlc hb e2
      go_wp2_with fail
      refine HDEL.out.mono ?_
      rintro e w3 ⟨rfl, rfl⟩
      have hkt := kp_take ks l k hlt
      have htk : l.take (k + 1) = l.take k ++ [at_ l k] := by rw [at_get hlt]; exact (List.take_append_getElem hlt).symm
      have HKT := Lib.hid hkt
      have HTK := Lib.hid htk
      clear hkt htk hck
      by_cases hmem : at_ l k ∈ ks
      · have hdm : (!decide (at_ l k ∈ ks)) = false := by simp [hmem]
        rw [if_pos hmem] at HKT
        go_wp2_with fail
        go_roundw
        case rel => exact ⟨k + 1, by omega, rfl, trivial, by rw [HKT.out, HTK.out, HKP.out]⟩
        case measure => simp [intOf]; omega
      · have hdm : (!decide (at_ l k ∈ ks)) = true := by simp [hmem]
        rw [if_neg hmem] at HKT
        go_wp2_with fail
        go_ret
        exact ⟨rfl, .inr ⟨k, hlt, rfl, by rw [HKT.out, HKP.out]⟩⟩
end Go.Proofs.Ytncjgfhipflokaa
