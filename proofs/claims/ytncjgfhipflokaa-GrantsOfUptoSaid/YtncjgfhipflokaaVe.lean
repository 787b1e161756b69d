/-
  tidewrackref14.Copy: a state, copied.
-/
import Derived.Test.YtncjgfhipflokaaVd
namespace Go.Proofs.Ytncjgfhipflokaa
open Go.RowKit Go.Shelf Hp Go.Maps

section
variable {Q : Exit → Act → World → Prop} {o : Oper} {a : Act} {w : World} {K : Act → World → Prop}
theorem ow_append_m (s x : Operand) (t : TypeId) (ho : o.op = .call { callee := .builtin .append, args := #[s, x], argTypes := #[t, t] })
    (base : Nat) (e : TypeId) (size bytes : Nat) (ht : Try.prog.underlying t = some (.slice e)) (hi : (Try.prog.info? e).map (fun i => (i.zero.map (·.cells.size), i.size, i.bytes)) = some (some size, size, bytes)) (hs0 : 0 < size)
    (v : Value) (n : Nat) (xs : List Value) (hs : a.eval s = v) (hown : w.ownsRow base e size v n xs)
    (A : Option Addr) (m c : Nat) (news : List Value) (hx : a.eval x = .slice A m c) (hl : news.length = m * size) (hA : A = none → m = 0) (hc : ∀ ad, A = some ad → ∀ j u, news[j]? = some u → w.cell? (ad.add j) = some u) (h1 : ∀ u ∈ news, u.oneCell' = true)
    (h63 : n + m ≤ maxLen) (hbytes : (n + m) * bytes ≤ 140737488355328) (hbase : base ≤ w.heap.size)
    (h : ∀ v' w', w'.ownsRow base e size v' (n + m) (xs ++ news) → w.grownBy w' v.ownBlock → (v'.ownBlock = v.ownBlock ∨ v'.ownBlock = some w.heap.size) → K (a.put o.dst v') w') : o.wp Try.prog a w K Q := by
  obtain ⟨i, hi1, hi2⟩ := Option.map_eq_some_iff.1 hi
  injection hi2 with hz hi3
  injection hi3 with hsz hby
  obtain ⟨z, hz1, hz2⟩ := Option.map_eq_some_iff.1 hz
  exact ow_append_n s x t ho base e i z size bytes ht hi1 hz1 hsz hby hz2 hs0 v n xs hs hown A m c news hx hl hA hc h1 h63 hbytes hbase h
theorem run_build27 (sq : Int) (A1 : Option Addr) (n1 c1 : Nat) (A2 : Option Addr) (n2 c2 : Nat) (w : World) : (Instr.build 27 #[(0, .int .u64 sq), (2, .slice A1 n1 c1), (3, .slice A2 n2 c2)]).run Try.prog w = .ok (.agg #[.int .u64 sq, .slice none 0 0, .slice A1 n1 c1, .slice A2 n2 c2]) w := by kernel_rfl
theorem ow_build27 (x y z : Operand) (ho : o.op = .build 27 #[(0, x), (2, y), (3, z)]) (sq : Int) (A1 : Option Addr) (n1 c1 : Nat) (A2 : Option Addr) (n2 c2 : Nat) (hx : a.eval x = .int .u64 sq) (hy : a.eval y = .slice A1 n1 c1) (hz : a.eval z = .slice A2 n2 c2)
    (h : K (a.put o.dst (.agg #[.int .u64 sq, .slice none 0 0, .slice A1 n1 c1, .slice A2 n2 c2])) w) : o.wp Try.prog a w K Q := by
  refine ow_value (v := .agg #[.int .u64 sq, .slice none 0 0, .slice A1 n1 c1, .slice A2 n2 c2]) ?_ h
  unfold execOp
  simp only [ho, List.map_toArray, List.map_cons, List.map_nil, hx, hy, hz, Sem.run_bind, run_build27, Result.andThen_ok]
  rfl
end
theorem fld27_0 : Fld 27 0 0 := fun _ _ _ => by kernel_rfl
theorem fld27_2 : Fld 27 2 2 := fun _ _ _ => by kernel_rfl
theorem fld27_3 : Fld 27 3 3 := fun _ _ _ => by kernel_rfl
theorem inf65 : (Try.prog.info? 65).isSome = true := by kernel_rfl
theorem inf70 : (Try.prog.info? 70).isSome = true := by kernel_rfl
theorem app65 : (Try.prog.info? 65).map (fun i => (i.zero.map (·.cells.size), i.size, i.bytes)) = some (some 2, 2, 24) := by kernel_rfl
theorem app70 : (Try.prog.info? 70).map (fun i => (i.zero.map (·.cells.size), i.size, i.bytes)) = some (some 22, 22, 88) := by kernel_rfl
theorem app45 : (Try.prog.info? 45).map (fun i => (i.zero.map (·.cells.size), i.size, i.bytes)) = some (some 6, 6, 104) := by kernel_rfl
theorem bld45 : (Try.prog.info? 45).map (fun i => (i.size, i.zero.isSome)) = some (6, true) := by kernel_rfl
/-- no two documents' grants lie in one block -/
def Dist (rows : List (List Value)) : Prop := ∀ (i j : Nat), i < j → ∀ ri rj : List Value, rows[i]? = some ri → rows[j]? = some rj → ∀ k, (ri.getD 4 undef).ownBlock = some k → (rj.getD 4 undef).ownBlock ≠ some k
theorem Dist.nil : Dist [] := fun i j _ ri rj h => by simp at h
theorem Dist.more {rows : List (List Value)} {r : List Value} (h : Dist rows) (hr : ∀ x ∈ rows, ∀ k, (x.getD 4 undef).ownBlock = some k → (r.getD 4 undef).ownBlock ≠ some k) : Dist (rows ++ [r]) := by
  intro i j hij ri rj hi hj k hk
  have hjl : j < rows.length + 1 := by have := (List.getElem?_eq_some_iff.1 hj).1; simpa using this
  have hi' : rows[i]? = some ri := by rwa [List.getElem?_append_left (by omega)] at hi
  rcases (show j < rows.length ∨ j = rows.length by omega) with hj1 | rfl
  · rw [List.getElem?_append_left hj1] at hj
    exact h i j hij ri rj hi' hj k hk
  · have : r = rj := by simpa using hj
    subst this
    exact hr ri (List.mem_of_getElem? hi') k hk
def DistX (X : Nat) (rows : List (List Value)) : Prop := Dist rows ∧ ∀ r ∈ rows, ∀ k, (r.getD 4 undef).ownBlock = some k → X < k
theorem DistX.nil (X : Nat) : DistX X [] := ⟨Dist.nil, fun r hr => absurd hr (by simp)⟩
theorem DistX.more {X : Nat} {rows : List (List Value)} {r : List Value} (h : DistX X rows) (hr : ∀ x ∈ rows, ∀ k, (x.getD 4 undef).ownBlock = some k → (r.getD 4 undef).ownBlock ≠ some k) (hx : ∀ k, (r.getD 4 undef).ownBlock = some k → X < k) : DistX X (rows ++ [r]) :=
  ⟨h.1.more hr, fun x hm => by
    rcases List.mem_append.1 hm with hm | hm
    · exact h.2 x hm
    · rw [List.mem_singleton.1 hm]; exact hx⟩
theorem CpR.rowlt {B0 X b o q m : Nat} {rows : List (List Value)} {lv : Value} {w : World} (h : CpR (DE m) B0 X 45 6 b o q rows lv w) : ∀ r ∈ rows, ∀ k, (r.getD 4 undef).ownBlock = some k → k < w.heap.size := by
  obtain ⟨_, h2, _, h4⟩ := h
  intro r hr k hk
  obtain ⟨i, hi⟩ := List.mem_iff_getElem?.1 hr
  obtain ⟨es, r', _, _, _, h5, h6⟩ := h4 i (by have := (List.getElem?_eq_some_iff.1 hi).1; omega)
  rw [hi] at h5
  injection h5 with h5
  subst h5
  obtain ⟨id, sq, nd, ch, gr, gn, nd', ch', gr', n1, n2, -, rfl, -, -, ⟨_, _, _, _, _, _, h7, _⟩⟩ := h6
  exact ownm_lt h7 k hk

set_option maxHeartbeats 4000000 in
set_option maxRecDepth 8000 in
theorem copyS_any (B0 m n ln sn : Nat) (sq : Int) (dv lv sv : Value) (W : World) (hB : B0 ≤ W.heap.size) (hd0 : One W (fun b => b < B0) 6 dv n (DF W (fun b => b < B0) m)) (hl0 : One W (fun b => b < B0) 2 lv ln onesP) (hs0 : One W (fun b => b < B0) 22 sv sn onesP) :
    Calls Try.prog 9 #[.agg (stV sq dv lv sv)] W fun e w' => ∃ X b o rows dv' lv' sv', e = .returned (.agg (stV sq dv' lv' sv')) ∧ W.heap.size ≤ X ∧ CpR (DE m) B0 X 45 6 b o n rows dv' w' ∧ DistX X rows ∧ (n = 0 ∨ ∃ c, dv = .slice (some ⟨b, o, none⟩) n c) ∧
      Two w' (fun b => b < B0 ∨ W.heap.size ≤ b) 2 lv lv' ln (· = ·) ∧ Two w' (fun b => b < B0 ∨ W.heap.size ≤ b) 22 sv sv' sn (· = ·) ∧ Below W.heap.size W w' := by
  obtain ⟨rl, hrl, -⟩ : ∃ rl, ∃ (h : ∃ A c, lv = .slice A ln c ∧ Rd W (fun b => b < B0) 2 A ln rl), True := by
    obtain ⟨A, c, rfl, _⟩ := id hl0
    obtain ⟨rl, h, _⟩ := hl0.rd (fun _ h => h)
    exact ⟨rl, ⟨A, c, rfl, h⟩, trivial⟩
  obtain ⟨LA, lc, rfl, hrl⟩ := hrl
  obtain ⟨rs, hrs, -⟩ : ∃ rs, ∃ (h : ∃ A c, sv = .slice A sn c ∧ Rd W (fun b => b < B0) 22 A sn rs), True := by
    obtain ⟨A, c, rfl, _⟩ := id hs0
    obtain ⟨rs, h, _⟩ := hs0.rd (fun _ h => h)
    exact ⟨rs, ⟨A, c, rfl, h⟩, trivial⟩
  obtain ⟨SA, sc, rfl, hrs⟩ := hrs
  have hln : ln ≤ 1048576 := by obtain ⟨_, _, _, h, _⟩ := hl0; exact h
  have hsn : sn ≤ 1048576 := by obtain ⟨_, _, _, h, _⟩ := hs0; exact h
  obtain ⟨DA, dc, rfl, hn, hla⟩ := hd0
  obtain ⟨N, hN⟩ : ∃ N, N = W.heap.size := ⟨_, rfl⟩
  obtain ⟨W0, hW0⟩ : ∃ W0, W0 = W.alloc (.cells (stV sq (.slice DA n dc) (.slice LA ln lc) (.slice SA sn sc)) 27) := ⟨_, rfl⟩
  have hrow : W0.heap[N]? = some (.cells (stV sq (.slice DA n dc) (.slice LA ln lc) (.slice SA sn sc)) 27 (0, 0)) := by rw [hW0, hN]; exact World.alloc_heap_new W _
  have hbel : Below W.heap.size W W0 := by rw [hW0]; exact (Below.refl _ W).alloc (Nat.le_refl _) _
  obtain ⟨b, o, hbo⟩ : ∃ b o, n = 0 ∨ (DA = some ⟨b, o, none⟩ ∧ b < B0 ∧ ∀ k, k < n → ∃ es : List Value, es.length = 6 ∧ (∀ j u, es[j]? = some u → W.cell? ⟨b, o + k * 6 + j, none⟩ = some u) ∧ DF W (fun b => b < B0) m es) := by
    rcases hla with h | ⟨b, o, h1, h2, h3⟩
    · exact ⟨0, 0, .inl h⟩
    · exact ⟨b, o, .inr ⟨h1, h2, h3⟩⟩
  have hsz : W0.heap.size = N + 1 := by rw [hW0, hN]; simp
  have HSZ0 := Lib.hid hsz
  have HROW := Lib.hid hrow
  have HBEL := Lib.hid hbel
  have HN := Lib.hid hN
  have HBO := Lib.hid hbo
  have HB := Lib.hid hB
  have HRL0 := Lib.hid hrl
  have HRS0 := Lib.hid hrs
  have hn1 : n ≤ 9223372036854775807 := by omega
  clear hrow hbel hbo hB hla hsz hrl hrs hl0 hs0
  go_enter Try.func9, Try.ntmps9
  go_upto_region 1 with (rw [← HN.out, ← hW0]; refine wpList_alloc_row rfl 27 rfl _ (zero27 _) ?_; rw [HSZ0.out]; intro w1 hT hS hG; have HT1 := Lib.hid hT; have HS1 := Lib.hid hS; have HG1 := Lib.hid (below_of_grown hG); clear hT hS hG)
  simp only [Act.put, List.setIfInBounds_toArray, List.set_cons_zero, List.set_cons_succ]
  clear hN hW0
  have HR1 := Lib.hid (blk_below HROW.out HG1.out)
  have hs1 : w1.heap.size = N + 2 := by have := HS1.out; have := HSZ0.out; omega
  have HZ1 := Lib.hid hs1
  have HB1 := Lib.hid (HBEL.out.trans (HG1.out.mono HBEL.out.size))
  have hr0 : w1.cell? ⟨N, 0 + 0, none⟩ = some (.int .u64 sq) := cell_of_row w1 N 0 _ _ _ HR1.out
  have hr2 : w1.cell? ⟨N, 0 + 2, none⟩ = some (.slice LA ln lc) := cell_of_row w1 N 2 _ _ _ HR1.out
  have hr3 : w1.cell? ⟨N, 0 + 3, none⟩ = some (.slice SA sn sc) := cell_of_row w1 N 3 _ _ _ HR1.out
  have HRL := Lib.hid (HRL0.out.keep (Keep.of_below HB1.out) (ok' := fun _ => True) (fun _ _ => trivial))
  have HRS := Lib.hid (HRS0.out.keep (Keep.of_below HB1.out) (ok' := fun _ => True) (fun _ _ => trivial))
  clear HROW HBEL HSZ0 HG1 HS1 hs1
  refine region_g 12 (fun k j => decide ((k = 5 ∧ j = 2) ∨ (k = 9 ∧ j = 6))) (fun i vs W => match i with
      | 0 => vs 0 = .pointer (some ⟨N, 0 + 0, none⟩)
      | 1 => vs 1 = .int .u64 sq
      | 2 => ∃ g, vs 2 = .slice (some ⟨g, 0, none⟩) 0 0 ∧ w1.heap.size ≤ g ∧ W.heap[g]? = some (.cells #[] 65 (0, 0))
      | 3 => vs 3 = .pointer (some ⟨N, 0 + 2, none⟩)
      | 4 => vs 4 = .slice LA ln lc
      | 5 => W.ownsRow w1.heap.size 65 2 (vs 5) ln rl.flatten
      | 6 => ∃ g, vs 6 = .slice (some ⟨g, 0, none⟩) 0 0 ∧ w1.heap.size ≤ g ∧ W.heap[g]? = some (.cells #[] 70 (0, 0))
      | 7 => vs 7 = .pointer (some ⟨N, 0 + 3, none⟩)
      | 8 => vs 8 = .slice SA sn sc
      | 9 => W.ownsRow w1.heap.size 70 22 (vs 9) sn rs.flatten
      | 10 => ∃ A1 c1 A2 c2, vs 5 = .slice A1 ln c1 ∧ vs 9 = .slice A2 sn c2 ∧ vs 10 = .agg (stV sq (.slice none 0 0) (.slice A1 ln c1) (.slice A2 sn c2))
      | 11 => ∃ g, vs 11 = .pointer (some ⟨g, 0, none⟩) ∧ w1.heap.size ≤ g ∧ W.heap[g]? = some (.cells #[.int .u64 0, .slice none 0 0, .slice none 0 0, .slice none 0 0] 27 (0, 0))
      | _ => True) (fun k W W' => (k ≠ 5 → k ≠ 9 → Below W.heap.size W W') ∧ (k = 5 → ∃ g, W.heap[g]? = some (.cells #[] 65 (0, 0)) ∧ W.grownBy W' (some g)) ∧ (k = 9 → ∃ g, W.heap[g]? = some (.cells #[] 70 (0, 0)) ∧ W.grownBy W' (some g))) (fun W => Below w1.heap.size w1 W) (by kernel_rfl) (by kernel_rfl) ?hst ?h0 ?step ?fin
  case hst =>
    intro i k vs W W' hki hdk hck h hG
    have hck := of_decide_eq_false hck
    match i, h with
    | 0, h => exact h
    | 1, h => exact h
    | 2, ⟨g, e1, e2, e3⟩ =>
      have h5 : k ≠ 5 := by omega
      by_cases h9 : k = 9
      · obtain ⟨g0, h6, h7⟩ := hG.2.2 h9
        exact ⟨g, e1, e2, blk_grown e3 h7 (fun e => by injection e with e; subst e; rw [h6] at e3; injection e3 with e3; injection e3 with _ e3; exact absurd e3 (by decide))⟩
      exact ⟨g, e1, e2, blk_below e3 (hG.1 h5 h9)⟩
    | 3, h => exact h
    | 4, h => exact h
    | 5, h =>
      have h5 : k ≠ 5 := by omega
      by_cases h9 : k = 9
      · obtain ⟨g0, h6, h7⟩ := hG.2.2 h9
        exact ownm_keep h h6 (by decide) h7
      exact ownm_below h (hG.1 h5 h9)
    | 6, ⟨g, e1, e2, e3⟩ =>
      by_cases h5 : k = 5
      · obtain ⟨g0, h6, h7⟩ := hG.2.1 h5
        exact ⟨g, e1, e2, blk_grown e3 h7 (fun e => by injection e with e; subst e; rw [h6] at e3; injection e3 with e3; injection e3 with _ e3; exact absurd e3 (by decide))⟩
      have h9 : k ≠ 9 := by omega
      exact ⟨g, e1, e2, blk_below e3 (hG.1 h5 h9)⟩
    | 7, h => exact h
    | 8, h => exact h
    | 9, h =>
      by_cases h5 : k = 5
      · obtain ⟨g0, h6, h7⟩ := hG.2.1 h5
        exact ownm_keep h h6 (by decide) h7
      have h9 : k ≠ 9 := by omega
      exact ownm_below h (hG.1 h5 h9)
    | 10, h => exact h
    | 11, ⟨g, e1, e2, e3⟩ =>
      by_cases h5 : k = 5
      · obtain ⟨g0, h6, h7⟩ := hG.2.1 h5
        exact ⟨g, e1, e2, blk_grown e3 h7 (fun e => by injection e with e; subst e; rw [h6] at e3; injection e3 with e3; injection e3 with _ e3; exact absurd e3 (by decide))⟩
      by_cases h9 : k = 9
      · obtain ⟨g0, h6, h7⟩ := hG.2.2 h9
        exact ⟨g, e1, e2, blk_grown e3 h7 (fun e => by injection e with e; subst e; rw [h6] at e3; injection e3 with e3; injection e3 with _ e3; exact absurd e3 (by decide))⟩
      exact ⟨g, e1, e2, blk_below e3 (hG.1 h5 h9)⟩
    | n + 12, _ => trivial
  case h0 => exact (Below.refl _ _).drew
  case step =>
    intro i op hi ho ac W hS hag hdep
    have hbr : Below W.heap.size W W := Below.refl _ _
    match i, hi, ho with
    | 0, _, rfl =>
      refine gstep rfl ?_
      exact ow_field fld27_0 _ rfl N 0 (hag 1 rfl) ⟨_, rfl, fun vs' h _ => h (fun e => by cases e), ⟨fun _ _ => hbr, fun h => absurd h (by decide), fun h => absurd h (by decide)⟩, hS⟩
    | 1, _, rfl =>
      refine gstep rfl ?_
      have hp : ac.eval (.tmp 5) = .pointer (some ⟨N, 0 + 0, none⟩) := hdep 0 (by omega) (by kernel_rfl) (fun k _ h => by have h := of_decide_eq_true h; omega)
      exact ow_load_int _ 22 .u64 rfl N (0 + 0) hp sq (below_cell hS hr0) Try.underlying22 ⟨_, rfl, fun vs' h _ => h (fun e => by cases e), ⟨fun _ _ => hbr, fun h => absurd h (by decide), fun h => absurd h (by decide)⟩, hS⟩
    | 2, _, rfl =>
      refine gstep rfl ?_
      have hbb := below_alloc1 W (.cells #[] 65)
      exact ow_build0 24 65 rfl Try.underlying24 inf65 ⟨_, rfl, fun vs' h _ => ⟨_, h (fun e => by cases e), hS.size, World.alloc_heap_new W _⟩, ⟨fun _ _ => hbb, fun h => absurd h (by decide), fun h => absurd h (by decide)⟩, hS.trans (hbb.mono hS.size)⟩
    | 3, _, rfl =>
      refine gstep rfl ?_
      exact ow_field fld27_2 _ rfl N 0 (hag 1 rfl) ⟨_, rfl, fun vs' h _ => h (fun e => by cases e), ⟨fun _ _ => hbr, fun h => absurd h (by decide), fun h => absurd h (by decide)⟩, hS⟩
    | 4, _, rfl =>
      refine gstep rfl ?_
      have hp : ac.eval (.tmp 8) = .pointer (some ⟨N, 0 + 2, none⟩) := hdep 3 (by omega) (by kernel_rfl) (fun k _ h => by have h := of_decide_eq_true h; omega)
      exact ow_load_slice' _ 65 24 rfl N (0 + 2) hp LA ln lc (below_cell hS hr2) Try.underlying24 ⟨_, rfl, fun vs' h _ => h (fun e => by cases e), ⟨fun _ _ => hbr, fun h => absurd h (by decide), fun h => absurd h (by decide)⟩, hS⟩
    | 5, _, rfl =>
      refine gstep rfl ?_
      obtain ⟨g, e0, hge, hg⟩ := hdep 2 (by omega) (by kernel_rfl) (fun k _ h => by have h := of_decide_eq_true h; obtain rfl : k = 5 := (by omega); exact .inl rfl)
      have e0 : ac.eval (.tmp 7) = .slice (some ⟨g, 0, none⟩) 0 0 := e0
      have h4 : ac.eval (.tmp 9) = .slice LA ln lc := hdep 4 (by omega) (by kernel_rfl) (fun k _ h => by have h := of_decide_eq_true h; omega)
      have HF := (HRL.out.keep (Keep.of_below hS) (ok' := fun _ => True) (fun _ _ => trivial)).flat (by omega)
      refine ow_append_m (.tmp 7) (.tmp 9) 24 rfl w1.heap.size 65 2 24 Try.underlying24 app65 (by decide) _ 0 [] e0 (own_new W _ g 2 65 hge hg) LA ln lc rl.flatten h4 HF.1 HF.2.1 HF.2.2.1 HF.2.2.2 (by unfold maxLen; omega) (by omega) hS.size ?_
      intro v' w' hown hgr _
      rw [List.nil_append, Nat.zero_add] at hown
      exact ⟨_, rfl, fun vs' h _ => by rw [h (fun e => by cases e)]; exact hown, ⟨fun h => absurd rfl h, fun _ => ⟨g, hg, hgr⟩, fun h => absurd h (by decide)⟩, hS.grown hgr hS.size (fun j e => ownm_ge (own_new W _ g 2 65 hge hg) j e)⟩
    | 6, _, rfl =>
      refine gstep rfl ?_
      have hbb := below_alloc1 W (.cells #[] 70)
      exact ow_build0 25 70 rfl Try.underlying25 inf70 ⟨_, rfl, fun vs' h _ => ⟨_, h (fun e => by cases e), hS.size, World.alloc_heap_new W _⟩, ⟨fun _ _ => hbb, fun h => absurd h (by decide), fun h => absurd h (by decide)⟩, hS.trans (hbb.mono hS.size)⟩
    | 7, _, rfl =>
      refine gstep rfl ?_
      exact ow_field fld27_3 _ rfl N 0 (hag 1 rfl) ⟨_, rfl, fun vs' h _ => h (fun e => by cases e), ⟨fun _ _ => hbr, fun h => absurd h (by decide), fun h => absurd h (by decide)⟩, hS⟩
    | 8, _, rfl =>
      refine gstep rfl ?_
      have hp : ac.eval (.tmp 12) = .pointer (some ⟨N, 0 + 3, none⟩) := hdep 7 (by omega) (by kernel_rfl) (fun k _ h => by have h := of_decide_eq_true h; omega)
      exact ow_load_slice' _ 70 25 rfl N (0 + 3) hp SA sn sc (below_cell hS hr3) Try.underlying25 ⟨_, rfl, fun vs' h _ => h (fun e => by cases e), ⟨fun _ _ => hbr, fun h => absurd h (by decide), fun h => absurd h (by decide)⟩, hS⟩
    | 9, _, rfl =>
      refine gstep rfl ?_
      obtain ⟨g, e0, hge, hg⟩ := hdep 6 (by omega) (by kernel_rfl) (fun k _ h => by have h := of_decide_eq_true h; obtain rfl : k = 9 := (by omega); exact .inl rfl)
      have e0 : ac.eval (.tmp 11) = .slice (some ⟨g, 0, none⟩) 0 0 := e0
      have h4 : ac.eval (.tmp 13) = .slice SA sn sc := hdep 8 (by omega) (by kernel_rfl) (fun k _ h => by have h := of_decide_eq_true h; omega)
      have HF := (HRS.out.keep (Keep.of_below hS) (ok' := fun _ => True) (fun _ _ => trivial)).flat (by omega)
      refine ow_append_m (.tmp 11) (.tmp 13) 25 rfl w1.heap.size 70 22 88 Try.underlying25 app70 (by decide) _ 0 [] e0 (own_new W _ g 22 70 hge hg) SA sn sc rs.flatten h4 HF.1 HF.2.1 HF.2.2.1 HF.2.2.2 (by unfold maxLen; omega) (by omega) hS.size ?_
      intro v' w' hown hgr _
      rw [List.nil_append, Nat.zero_add] at hown
      exact ⟨_, rfl, fun vs' h _ => by rw [h (fun e => by cases e)]; exact hown, ⟨fun _ h => absurd rfl h, fun h => absurd h (by decide), fun _ => ⟨g, hg, hgr⟩⟩, hS.grown hgr hS.size (fun j e => ownm_ge (own_new W _ g 22 70 hge hg) j e)⟩
    | 10, _, rfl =>
      refine gstep rfl ?_
      have h5 : W.ownsRow w1.heap.size 65 2 (ac.eval (.tmp 10)) ln rl.flatten := hdep 5 (by omega) (by kernel_rfl) (fun k _ h => by have h := of_decide_eq_true h; omega)
      have h9 : W.ownsRow w1.heap.size 70 22 (ac.eval (.tmp 14)) sn rs.flatten := hdep 9 (by omega) (by kernel_rfl) (fun k _ h => by have h := of_decide_eq_true h; omega)
      have h1 : ac.eval (.tmp 6) = .int .u64 sq := hdep 1 (by omega) (by kernel_rfl) (fun k _ h => by have h := of_decide_eq_true h; omega)
      obtain ⟨A1, c1, e5⟩ := own_shape h5
      obtain ⟨A2, c2, e9⟩ := own_shape h9
      exact ow_build27 _ _ _ rfl sq A1 ln c1 A2 sn c2 h1 e5 e9 ⟨_, rfl, fun vs' h hj => ⟨A1, c1, A2, c2, (hj 5 (by kernel_rfl)).trans e5, (hj 9 (by kernel_rfl)).trans e9, h (fun e => by cases e)⟩, ⟨fun _ _ => hbr, fun h => absurd h (by decide), fun h => absurd h (by decide)⟩, hS⟩
    | 11, _, rfl =>
      refine gstep rfl ?_
      exact ow_alloc_row 27 rfl _ (zero27 W) (fun w' hn hb => ⟨_, rfl, fun vs' h _ => ⟨_, h (fun e => by cases e), hS.size, hn⟩, ⟨fun _ _ => hb, fun h => absurd h (by decide), fun h => absurd h (by decide)⟩, hS.trans (hb.mono hS.size)⟩)
    | n + 12, hi, _ => exact absurd hi (by omega)
  case fin =>
    intro vs W hS hF
    have f5 : W.ownsRow w1.heap.size 65 2 (vs 5) ln rl.flatten := hF 5 (by omega) (fun k hk => decide_eq_false (by omega))
    have f9 : W.ownsRow w1.heap.size 70 22 (vs 9) sn rs.flatten := hF 9 (by omega) (fun k hk => decide_eq_false (by omega))
    have f10 : ∃ A1 c1 A2 c2, vs 5 = .slice A1 ln c1 ∧ vs 9 = .slice A2 sn c2 ∧ vs 10 = .agg (stV sq (.slice none 0 0) (.slice A1 ln c1) (.slice A2 sn c2)) := hF 10 (by omega) (fun k hk => decide_eq_false (by omega))
    have f11 : ∃ g, vs 11 = .pointer (some ⟨g, 0, none⟩) ∧ w1.heap.size ≤ g ∧ W.heap[g]? = some (.cells #[.int .u64 0, .slice none 0 0, .slice none 0 0, .slice none 0 0] 27 (0, 0)) := hF 11 (by omega) (fun k hk => decide_eq_false (by omega))
    clear hF
    change wpList _ _ _ _ (Act.put (Act.put (Act.put (Act.put (Act.put (Act.put (Act.put (Act.put (Act.put (Act.put (Act.put (Act.put _ (some 5) (vs 0)) (some 6) (vs 1)) (some 7) (vs 2)) (some 8) (vs 3)) (some 9) (vs 4)) (some 10) (vs 5)) (some 11) (vs 6)) (some 12) (vs 7)) (some 13) (vs 8)) (some 14) (vs 9)) (some 15) (vs 10)) (some 3) (vs 11)) W
    generalize vs 0 = z0
    generalize vs 1 = z1
    generalize vs 2 = z2
    generalize vs 3 = z3
    generalize vs 4 = z4
    generalize vs 5 = z5 at f5 f10 ⊢
    generalize vs 6 = z6
    generalize vs 7 = z7
    generalize vs 8 = z8
    generalize vs 9 = z9 at f9 f10 ⊢
    generalize vs 10 = z10 at f10 ⊢
    generalize vs 11 = z11 at f11 ⊢
    simp only [putAll, List.drop_succ_cons, List.drop_zero, Act.put, List.setIfInBounds_toArray, List.set_cons_zero, List.set_cons_succ]
    clear vs
    rename World => w2
    obtain ⟨LA', lc', SA', sc', rfl, rfl, rfl⟩ := f10
    obtain ⟨X, rfl, hX, hxr⟩ := f11
    have HXR := Lib.hid hxr
    have HO5 := Lib.hid f5
    have HO9 := Lib.hid f9
    have HB2 := Lib.hid (HB1.out.trans (hS.mono HB1.out.size))
    have HR2 := Lib.hid (blk_below HR1.out hS)
    have HQ2 := Lib.hid (blk_below HT1.out hS)
    have hXN : N + 2 ≤ X := by have := HZ1.out; omega
    clear hxr f5 f9 hX hr0 hr2 hr3 hS
    go_upto_region 2 with (refine wpList_store_row rfl 27 _ _ rfl X rfl 27 _ _ rfl HXR.out rfl (by kernel_rfl) (stV_one rfl rfl rfl) ?_; intro w3 hT hS hG; have HX3 := Lib.hid hT; have HG3 := Lib.hid hG; clear hT hS hG)
    simp only [Act.put]
    have HR3 := Lib.hid (blk_grown HR2.out HG3.out (fun e => by injection e with e; omega))
    have HQ3 := Lib.hid (blk_grown HQ2.out HG3.out (fun e => by injection e with e; omega))
    have HO53 := Lib.hid (ownm_keep HO5.out HXR.out (by decide) HG3.out)
    have HO93 := Lib.hid (ownm_keep HO9.out HXR.out (by decide) HG3.out)
    have HB3 := Lib.hid (HB2.out.grown HG3.out HB2.out.size (fun k e => by injection e with e; have := HN.out; omega))
    clear HXR HO5 HO9 HB2 HR2 HQ2 HG3 HR1 HT1
    go_wp2_with fail
    go_loopw [4] (fun vi wr => ∃ (q : Nat) (dvx : Value) (rows : List (List Value)), vi = .int .i64 (q : Int) ∧ q ≤ n ∧ Below X w3 wr ∧ wr.heap[X]? = some (.cells (stV sq dvx (.slice LA' ln lc') (.slice SA' sn sc')) 27 (0, 0)) ∧ wr.ownsRow w1.heap.size 65 2 (.slice LA' ln lc') ln rl.flatten ∧ wr.ownsRow w1.heap.size 70 22 (.slice SA' sn sc') sn rs.flatten ∧ CpR (DE m) B0 X 45 6 b o q rows dvx wr ∧ DistX X rows) (fun vi _ => n - (intOf vi).toNat)
    case atStart => exact ⟨0, .slice none 0 0, [], rfl, Nat.zero_le _, Below.refl _ _, HX3.out, HO53.out, HO93.out, ⟨own_nil _ _ _ _, rfl, fun r hr => absurd hr (by simp), fun k hk => absurd hk (by omega)⟩, DistX.nil X⟩
    case round =>
      obtain ⟨q, dvx, rows, rfl, hq, hbl, hx, ho5, ho9, hcp, hds⟩ := hrel
      obtain ⟨A', c', rfl⟩ := own_shape hcp.1
      have hr1 : wr.cell? ⟨N, 1, none⟩ = some (.slice DA n dc) := cell_of_row wr N 1 _ _ _ ((hbl.block N (by omega)).trans HR3.out)
      have HQ := Lib.hid ((hbl.block (N + 1) (by omega)).trans HQ3.out)
      have HBL := Lib.hid hbl
      have HX := Lib.hid hx
      have HO5 := Lib.hid ho5
      have HO9 := Lib.hid ho9
      have HCP := Lib.hid hcp
      have HDS := Lib.hid hds
      have HBW := Lib.hid (HB3.out.trans (hbl.mono (by have := HN.out; omega)))
      clear hbl hx ho5 ho9 hcp hds HX3 HO53 HO93
      rcases (show q = n ∨ q < n by omega) with rfl | hql
      · have hd : decide ((q : Int) < (q : Int)) = false := by simp
        go_wp2_with (first
          | (refine wpList_load_row rfl 27 _ rfl X rfl 27 _ (0, 0) _ HX.out Try.underlying27 rfl (by kernel_rfl) ?_)
          | (refine wpList_store_row rfl 27 _ _ rfl (N + 1) rfl 27 _ _ rfl HQ.out rfl (by kernel_rfl) (stV_one rfl rfl rfl) ?_; intro w9 hT hS hG; have HT9 := Lib.hid hT; have HG9 := Lib.hid hG; clear hT hS hG))
        have hbw9 : Below W.heap.size W w9 := HBW.out.grown HG9.out HBW.out.size (fun k e => by injection e with e; have := HN.out; omega)
        have hcp9 := HCP.out.keep (DE.lk m) (w' := w9) (fun k v hk h0 => blk_grown h0 HG9.out (fun e => by injection e with e; have := HB.out; have := HN.out; omega))
        have ho59 := ownm_keep2 HO5.out (W := w9) (fun g o hg _ h0 => blk_grown h0 HG9.out (fun e => by injection e with e; have := HZ1.out; omega))
        have ho99 := ownm_keep2 HO9.out (W := w9) (fun g o hg _ h0 => blk_grown h0 HG9.out (fun e => by injection e with e; have := HZ1.out; omega))
        have hrl9 := HRL0.out.keep (Keep.of_below hbw9) (ok' := fun b => b < B0 ∨ W.heap.size ≤ b) (fun _ h => .inl h)
        have hrs9 := HRS0.out.keep (Keep.of_below hbw9) (ok' := fun b => b < B0 ∨ W.heap.size ≤ b) (fun _ h => .inl h)
        refine bodyPost_ret (v := .agg (stV sq (.slice A' q c') (.slice LA' ln lc') (.slice SA' sn sc'))) ?_ rfl ⟨X, b, o, rows, _, _, _, rfl, by have := HN.out; omega, hcp9, HDS.out, HBO.out.imp _root_.id (fun ⟨e, _⟩ => ⟨dc, by rw [e]⟩), Two.of_rd ho59 hrl9 hln (fun b hb _ => .inr (by have := HZ1.out; have := HN.out; omega)), Two.of_rd ho99 hrs9 hsn (fun b hb _ => .inr (by have := HZ1.out; have := HN.out; omega)), hbw9⟩
        exact results_cell_row rfl _ w9 (N + 1) 27 _ (0, 0) _ rfl HT9.out Try.underlying27 rfl (by kernel_rfl)
      · have hd : decide ((q : Int) < (n : Int)) = true := by simp; omega
        have hd' : decide (q < n) = true := by simp; omega
        obtain ⟨rfl, hb, hla⟩ := HBO.out.resolve_left (by omega)
        obtain ⟨es, hlen, hces, hdf⟩ := hla q hql
        have HLEN := Lib.hid hlen
        have HC := Lib.hid (show ∀ j u, es[j]? = some u → wr.cell? ⟨b, o + q * 6 + j, none⟩ = some u from fun j u hj => below_cell HBW.out (hces j u hj))
        have HDF := Lib.hid (hdf.keep (Keep.of_below HBW.out) (fun _ h _ => h))
        have HBB := Lib.hid hb
        have HBR := Lib.hid (show B0 ≤ wr.heap.size from by have := HB.out; have := HBW.out.size; omega)
        have HOK := Lib.hid (show ∀ k, wr.heap.size ≤ k → X < k ∧ (Value.slice A' q c').ownBlock ≠ some k from fun k hk => ⟨by have := blk_lt HX.out; omega, fun e => by have := ownm_lt HCP.out.1 k e; omega⟩)
        have hx1 : wr.cell? ⟨X, 1, none⟩ = some (.slice A' q c') := cell_of_row wr X 1 _ _ _ HX.out
        clear hlen hces hdf hb hla HQ
        go_upto_region 5 with fail
        refine region_f 9 (fun i vs W => match i with
            | 0 => vs 0 = .pointer (some ⟨X, 0 + 1, none⟩)
            | 1 => vs 1 = .slice (A') q c'
            | 2 => vs 2 = .pointer (some ⟨N, 0 + 1, none⟩)
            | 3 => vs 3 = .slice (some ⟨b, o, none⟩) n dc
            | 4 => vs 4 = .int .i64 (q : Int)
            | 5 => vs 5 = .pointer (some ⟨b, o + q * 6, none⟩)
            | 6 => vs 6 = .agg es.toArray
            | 7 => ∃ es' : List Value, vs 7 = .agg es'.toArray ∧ DE m W (okq B0 X (.slice A' q c')) es es' ∧ (∀ k, (es'.getD 4 undef).ownBlock = some k → wr.heap.size ≤ k)
            | 8 => ∃ (g : Nat) (es' : List Value), vs 8 = .slice (some ⟨g, 0, none⟩) 1 1 ∧ W.heap[g]? = some (.cells es'.toArray 45 (0, 0)) ∧ DE m W (okq B0 X (.slice A' q c')) es es' ∧ (∀ k, (es'.getD 4 undef).ownBlock = some k → wr.heap.size ≤ k)
            | _ => True) (fun _ W W' => Below W.heap.size W W') (fun W => Below wr.heap.size wr W) (by kernel_rfl) (by kernel_rfl) ?hstv ?h0v ?stepv ?finv
        case hstv =>
          intro i k vs W W' _ _ h hG
          match i, h with
          | 0, h => exact h
          | 1, h => exact h
          | 2, h => exact h
          | 3, h => exact h
          | 4, h => exact h
          | 5, h => exact h
          | 6, h => exact h
          | 7, ⟨es', e1, e2, e3⟩ => exact ⟨es', e1, DE.lk m _ _ _ _ _ _ e2 (Keep.of_below hG) (fun _ h _ => h), e3⟩
          | 8, ⟨g, es', e1, e2, e3, e4⟩ => exact ⟨g, es', e1, blk_below e2 hG, DE.lk m _ _ _ _ _ _ e3 (Keep.of_below hG) (fun _ h _ => h), e4⟩
          | n + 9, _ => trivial
        case h0v => exact (Below.refl _ _).drew
        case stepv =>
          intro i op hi ho ac W hS hag hdep
          have hbr : Below W.heap.size W W := Below.refl _ _
          match i, hi, ho with
          | 0, _, rfl =>
            exact ow_field fld27_1 _ rfl X (0) (hag 3 rfl) ⟨_, rfl, fun vs' h _ => h (fun e => by cases e), hbr, hS⟩
          | 1, _, rfl =>
            have hp : ac.eval (.tmp 23) = .pointer (some ⟨X, 0 + 1, none⟩) := hdep 0 (by omega) (by kernel_rfl)
            exact ow_load_slice' _ 45 23 rfl X (0 + 1) hp (A') q c' (below_cell hS hx1) Try.underlying23 ⟨_, rfl, fun vs' h _ => h (fun e => by cases e), hbr, hS⟩
          | 2, _, rfl =>
            exact ow_field fld27_1 _ rfl N (0) (hag 1 rfl) ⟨_, rfl, fun vs' h _ => h (fun e => by cases e), hbr, hS⟩
          | 3, _, rfl =>
            have hp : ac.eval (.tmp 25) = .pointer (some ⟨N, 0 + 1, none⟩) := hdep 2 (by omega) (by kernel_rfl)
            exact ow_load_slice' _ 45 23 rfl N (0 + 1) hp (some ⟨b, o, none⟩) n dc (below_cell hS hr1) Try.underlying23 ⟨_, rfl, fun vs' h _ => h (fun e => by cases e), hbr, hS⟩
          | 4, _, rfl =>
            exact ow_move _ rfl (v := .int .i64 (q : Int)) (hag 4 rfl) ⟨_, rfl, fun vs' h _ => h (fun e => by cases e), hbr, hS⟩
          | 5, _, rfl =>
            have hs : ac.eval (.tmp 26) = .slice (some ⟨b, o, none⟩) n dc := hdep 3 (by omega) (by kernel_rfl)
            have hi : ac.eval (.tmp 27) = .int .i64 (q : Int) := hdep 4 (by omega) (by kernel_rfl)
            exact ow_index_n _ _ 45 23 6 rfl b o n dc q hs hi hql Try.underlying23 info45 ⟨_, rfl, fun vs' h _ => h (fun e => by cases e), hbr, hS⟩
          | 6, _, rfl =>
            have h5 : ac.eval (.tmp 28) = .pointer (some ⟨b, o + q * 6, none⟩) := hdep 5 (by omega) (by kernel_rfl)
            exact ow_load_at 45 _ rfl b (o + q * 6) h5 es _ (fun j u hj => below_cell hS (HC.out j u hj)) Try.underlying45 rfl (by rw [HLEN.out]; exact info45) ⟨_, rfl, fun vs' h _ => h (fun e => by cases e), hbr, hS⟩
          | 7, _, rfl =>
            have h6 : ac.eval (.tmp 29) = .agg es.toArray := hdep 6 (by omega) (by kernel_rfl)
            refine ow_call Try.func23 (by kernel_rfl) rfl _ _ rfl (vs := #[.agg es.toArray]) (by simp only [List.map_toArray, List.map_cons, List.map_nil, h6]) ?_
            refine (copyD_any B0 m es W (Nat.le_trans HBR.out hS.size) (HDF.out.keep (Keep.of_below hS) (fun _ h _ => h))).mono ?_
            rintro e w' ⟨es', rfl, hve, hnw, hbb⟩
            exact ⟨_, rfl, ⟨_, rfl, fun vs' h _ => ⟨es', h (fun e => by cases e), DE.lk m _ _ _ _ _ _ hve (fun _ _ _ h => h) (fun k hk _ => hk.imp _root_.id (fun h => HOK.out k (Nat.le_trans hS.size h))), fun k hk => Nat.le_trans hS.size (hnw k hk)⟩, hbb, hS.trans (hbb.mono hS.size)⟩⟩
          | 8, _, rfl =>
            obtain ⟨es', h1, h2, h3⟩ : ∃ es' : List Value, ac.eval (.tmp 30) = .agg es'.toArray ∧ DE m W (okq B0 X (.slice A' q c')) es es' ∧ (∀ k, (es'.getD 4 undef).ownBlock = some k → wr.heap.size ≤ k) := hdep 7 (by omega) (by kernel_rfl)
            have hbb := below_alloc1 W (.cells es'.toArray 45)
            exact ow_build1 23 45 _ rfl es' h1 Try.underlying23 (by rw [h2.len]; exact bld45) (by rw [h2.len]; omega) (by rw [h2.len]; omega) ⟨_, rfl, fun vs' h _ => ⟨_, es', h (fun e => by cases e), World.alloc_heap_new W _, DE.lk m _ _ _ _ _ _ h2 (Keep.of_below hbb) (fun _ h _ => h), h3⟩, hbb, hS.trans (hbb.mono hS.size)⟩
          | n + 9, hi, _ => exact absurd hi (by omega)
        case finv =>
          intro vs W hS hF
          have e1 : vs 1 = .slice (A') q c' := hF 1 (by omega)
          have f8 : ∃ (g : Nat) (es' : List Value), vs 8 = .slice (some ⟨g, 0, none⟩) 1 1 ∧ W.heap[g]? = some (.cells es'.toArray 45 (0, 0)) ∧ DE m W (okq B0 X (.slice A' q c')) es es' ∧ (∀ k, (es'.getD 4 undef).ownBlock = some k → wr.heap.size ≤ k) := hF 8 (by omega)
          clear hF
          change wpList _ _ _ _ (Act.put (Act.put (Act.put (Act.put (Act.put (Act.put (Act.put (Act.put (Act.put _ (some 23) (vs 0)) (some 24) (vs 1)) (some 25) (vs 2)) (some 26) (vs 3)) (some 27) (vs 4)) (some 28) (vs 5)) (some 29) (vs 6)) (some 30) (vs 7)) (some 31) (vs 8)) W
          rw [e1]
          clear e1
          generalize vs 0 = z0
          generalize vs 2 = z2
          generalize vs 3 = z3
          generalize vs 4 = z4
          generalize vs 5 = z5
          generalize vs 6 = z6
          generalize vs 7 = z7
          generalize vs 8 = z8 at f8 ⊢
          simp only [putAll, List.drop_succ_cons, List.drop_zero, Act.put, List.setIfInBounds_toArray, List.set_cons_zero, List.set_cons_succ]
          clear vs
          rename World => W8
          obtain ⟨g, es', rfl, hg, hve, hnw⟩ := f8
          have HG8 := Lib.hid hg
          have HVE := Lib.hid hve
          have HNW := Lib.hid hnw
          have HX8 := Lib.hid (blk_below HX.out hS)
          have HO58 := Lib.hid (ownm_below HO5.out hS)
          have HO98 := Lib.hid (ownm_below HO9.out hS)
          have HCP8 := Lib.hid (HCP.out.keep (DE.lk m) (w' := W8) (fun k v _ h0 => blk_below h0 hS))
          have HS8 := Lib.hid hS
          clear hg hve hnw hS hx1 hr1
          go_upto_region 4 with (first
            | (at_builtin; refine wpList_append_n rfl (.tmp 24) (.tmp 31) 23 rfl (X + 1) 45 6 104 Try.underlying23 app45 (by decide) _ q rows.flatten (by rfl) HCP8.out.1 (some ⟨g, 0, none⟩) 1 1 es' (by rfl) (by rw [HVE.out.len]) (fun h => by cases h) (fun ad e j x hx => by injection e with e; subst e; rw [add_plain, cell_of_row W8 g _ _ _ _ HG8.out, Nat.zero_add, List.getElem?_toArray]; exact hx) HVE.out.one (by unfold maxLen; omega) (by omega) (by have := blk_lt HX8.out; omega) ?_
               intro v' w9 hown hgr hv
               have HOWN := Lib.hid hown
               obtain ⟨A2, c2, rfl⟩ := own_shape hown
               have HGR := Lib.hid hgr
               have HV := Lib.hid hv
               have HX9 := Lib.hid (blk_grown HX8.out hgr (fun e => by have := ownm_ge HCP8.out.1 _ e.symm; omega))
               clear hown hgr hv)
            | (refine wpList_store_at rfl 23 _ _ rfl X 1 rfl 27 _ (.slice A2 (q + 1) c2) [.slice A2 (q + 1) c2] rfl rfl HX9.out (by simp [stV]) (by kernel_rfl) (by intro u hu; rw [List.mem_singleton.1 hu]; rfl) ?_
               intro w10 hT hS hG
               have HX10 := Lib.hid (show w10.heap[X]? = some (.cells (stV sq (.slice A2 (q + 1) c2) (.slice LA' ln lc') (.slice SA' sn sc')) 27 (0, 0)) from hT)
               have HG10 := Lib.hid hG
               clear hT hS hG))
          have hcm := CpR.more' (DE.lk m) HCP8.out (by have := HB.out; have := HN.out; omega) HLEN.out HBB.out (fun j u hj => below_cell HS8.out (HC.out j u hj)) HVE.out.len HVE.out.one HVE.out HOWN.out HGR.out HV.out
          have hcm10 := hcm.keep (DE.lk m) (w' := w10) (fun k v hk h0 => blk_grown h0 HG10.out (fun e => by injection e with e; have := HB.out; have := HN.out; omega))
          have hap5 := own_apart HO58.out HCP8.out.1 (by decide)
          have hap9 := own_apart HO98.out HCP8.out.1 (by decide)
          have ho59 := ownm_keep2 HO58.out (W := w9) (fun g o _ hk h0 => blk_grown h0 HGR.out (fun e => hap5 g hk e.symm))
          have ho99 := ownm_keep2 HO98.out (W := w9) (fun g o _ hk h0 => blk_grown h0 HGR.out (fun e => hap9 g hk e.symm))
          have ho510 := ownm_keep ho59 HX9.out (by decide) HG10.out
          have ho910 := ownm_keep ho99 HX9.out (by decide) HG10.out
          have hb10 : Below X w3 w10 := ((HBL.out.trans (HS8.out.mono (by have := blk_lt HX.out; omega))).grown HGR.out (by have := blk_lt HX8.out; omega) (fun k e => by have := ownm_ge HCP8.out.1 _ e; omega)).grown HG10.out (by have := blk_lt HX9.out; omega) (fun k e => by injection e with e; omega)
          have hdist : DistX X (rows ++ [es']) := HDS.out.more (fun r hr k hk e => by
            have h1 := HNW.out k e
            have h2 := CpR.rowlt HCP.out r hr k hk
            omega) (fun k hk => by
            have h1 := HNW.out k hk
            have := blk_lt HX.out
            omega)
          have HF1 := Lib.hid hcm10
          have HF2 := Lib.hid ho510
          have HF3 := Lib.hid ho910
          have HF4 := Lib.hid hb10
          have HF5 := Lib.hid hdist
          clear hcm hcm10 hap5 hap9 ho59 ho99 ho510 ho910 hb10 hdist
          go_wp2_with fail
          go_roundw
          case rel => exact ⟨q + 1, _, _, rfl, by omega, HF4.out, HX10.out, HF2.out, HF3.out, HF1.out, HF5.out⟩
          case measure => simp [intOf]; omega
end Go.Proofs.Ytncjgfhipflokaa
