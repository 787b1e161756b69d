/-
  Appending rows of documents: operations.
-/
import Derived.Test.YtncjgfhipflokaaUb
namespace Go.Proofs.Ytncjgfhipflokaa
open Go.RowKit Go.Shelf Hp Go.Maps

theorem run_append_n {P : Program} (w : World) (base : Nat) (t ty e : TypeId) (i : TypeInfo) (z : Value) (size bytes : Nat) (ht : P.underlying t = some (.slice e)) (hi : P.info? e = some i) (hz : i.zero = some z)
    (hsize : i.size = size) (hby : i.bytes = bytes) (hzs : z.cells.size = size) (hs0 : 0 < size)
    (v : Value) (n : Nat) (xs : List Value) (hown : w.ownsRow base e size v n xs)
    (A : Option Addr) (m c : Nat) (news : List Value) (hl : news.length = m * size) (hA : A = none → m = 0) (hc : ∀ ad, A = some ad → ∀ j u, news[j]? = some u → w.cell? (ad.add j) = some u) (h1 : ∀ u ∈ news, u.oneCell' = true)
    (h63 : n + m ≤ maxLen) (hbytes : (n + m) * bytes ≤ 140737488355328) (hbase : base ≤ w.heap.size) :
    ∃ v' w', (Builtin.append_ #[t, t] ty #[v, .slice A m c]).run P w = .ok v' w' ∧ w'.ownsRow base e size v' (n + m) (xs ++ news) ∧ w.grownBy w' v.ownBlock ∧
      (v'.ownBlock = v.ownBlock ∨ v'.ownBlock = some w.heap.size) := by
  rcases A with _ | ad
  · have hm : m = 0 := hA rfl
    subst hm
    have hn : news = [] := List.eq_nil_of_length_eq_zero (by rw [hl, Nat.zero_mul])
    subst hn
    refine ⟨v, w, ?_, by simpa using hown, World.grownBy.refl w _, .inl rfl⟩
    rcases hown.2 with ⟨rfl, rfl⟩ | ⟨g, cap, cur, rfl, _, _, hnc, _⟩
    · simp [Builtin.append_, run_underlying ht, sizeOf, typeInfo, hi, Builtin.lenOf, Builtin.firstCells]
    · simp [Builtin.append_, run_underlying ht, sizeOf, typeInfo, hi, Builtin.lenOf, Builtin.firstCells, hnc, storeCells]
  · obtain ⟨v', w', hrun, h2, h3, _, h5⟩ := run_append_own_at (P := P) w base t ty e i z size bytes ht hi hz hsize hby hzs hs0 v n xs hown ad m c news hl (hc ad rfl) h1 h63 hbytes hbase
    exact ⟨v', w', hrun, h2, h3, h5⟩
section
variable {Q : Exit → Act → World → Prop} {o : Oper} {a : Act} {w : World} {K : Act → World → Prop}
theorem ow_append_n (s x : Operand) (t : TypeId) (ho : o.op = .call { callee := .builtin .append, args := #[s, x], argTypes := #[t, t] })
    (base : Nat) (e : TypeId) (i : TypeInfo) (z : Value) (size bytes : Nat) (ht : Try.prog.underlying t = some (.slice e)) (hi : Try.prog.info? e = some i) (hz : i.zero = some z)
    (hsize : i.size = size) (hby : i.bytes = bytes) (hzs : z.cells.size = size) (hs0 : 0 < size)
    (v : Value) (n : Nat) (xs : List Value) (hs : a.eval s = v) (hown : w.ownsRow base e size v n xs)
    (A : Option Addr) (m c : Nat) (news : List Value) (hx : a.eval x = .slice A m c) (hl : news.length = m * size) (hA : A = none → m = 0) (hc : ∀ ad, A = some ad → ∀ j u, news[j]? = some u → w.cell? (ad.add j) = some u) (h1 : ∀ u ∈ news, u.oneCell' = true)
    (h63 : n + m ≤ maxLen) (hbytes : (n + m) * bytes ≤ 140737488355328) (hbase : base ≤ w.heap.size)
    (h : ∀ v' w', w'.ownsRow base e size v' (n + m) (xs ++ news) → w.grownBy w' v.ownBlock → (v'.ownBlock = v.ownBlock ∨ v'.ownBlock = some w.heap.size) → K (a.put o.dst v') w') : o.wp Try.prog a w K Q := by
  obtain ⟨v', w', hrun, h2, h3, h4⟩ := run_append_n (P := Try.prog) w base t o.type e i z size bytes ht hi hz hsize hby hzs hs0 v n xs hown A m c news hl hA hc h1 h63 hbytes hbase
  unfold Oper.wp execOp
  simp only [ho, resolve, invoke, builtin, Sem.run_bind, Sem.run_pure, Result.andThen_ok, List.map_toArray, List.map_cons, List.map_nil, hs, hx, hrun]
  exact h v' w' h2 h3 h4
theorem add_zero (A : Option Addr) : A.map (·.add 0) = A := by cases A <;> simp [Addr.add]
theorem ow_slice_to23 (x y : Operand) (ho : o.op = .slice 23 x none (some y) none) (A : Option Addr) (n c k : Nat) (hx : a.eval x = .slice A n c) (hy : a.eval y = .int .i64 (k : Int)) (hk : k ≤ c)
    (h : K (a.put o.dst (.slice A k c)) w) : o.wp Try.prog a w K Q := by
  refine ow_value (v := .slice A k c) ?_ h
  obtain ⟨i, hi1, hi2⟩ := Option.map_eq_some_iff.1 info45
  unfold execOp
  simp only [ho, hx, hy, Sem.run_bind, Option.map_some, Option.map_none]
  simp [go_sem, Try.underlying23, hk, sizeOf, typeInfo, Sem.run_bind, hi1, hi2]
theorem ow_slice_from23 (x y : Operand) (ho : o.op = .slice 23 x (some y) none none) (A : Option Addr) (n c k : Nat) (hx : a.eval x = .slice A n c) (hy : a.eval y = .int .i64 (k : Int)) (hk : k ≤ n)
    (h : K (a.put o.dst (.slice (if c = k then A else A.map (·.add (k * 6))) (n - k) (c - k))) w) : o.wp Try.prog a w K Q := by
  refine ow_value (v := .slice (if c = k then A else A.map (·.add (k * 6))) (n - k) (c - k)) ?_ h
  obtain ⟨i, hi1, hi2⟩ := Option.map_eq_some_iff.1 info45
  unfold execOp
  simp only [ho, hx, hy, Sem.run_bind, Option.map_some, Option.map_none]
  simp [go_sem, Try.underlying23, hk, sizeOf, typeInfo, Sem.run_bind, hi1, hi2]
end
/-- where rows of documents are read from -/
def Src (w : World) (A : Option Addr) (rows : List (List Value)) (n : Nat) : Prop := rows.length = n ∧ (∀ r ∈ rows, r.length = 6) ∧ (n = 0 ∨ ∃ b o, A = some ⟨b, o, none⟩ ∧ ∀ (k j : Nat) r u, rows[k]? = some r → r[j]? = some u → w.cell? ⟨b, o + k * 6 + j, none⟩ = some u)
theorem Src.below {w w' : World} {A : Option Addr} {rows : List (List Value)} {n : Nat} (h : Src w A rows n) (hb : Below w.heap.size w w') : Src w' A rows n := by
  refine ⟨h.1, h.2.1, h.2.2.imp _root_.id ?_⟩
  rintro ⟨b, o, e, h1⟩
  exact ⟨b, o, e, fun k j r u h2 h3 => below_cell hb (h1 k j r u h2 h3)⟩
theorem Src.take {w : World} {A : Option Addr} {rows : List (List Value)} {n : Nat} (h : Src w A rows n) (K : Nat) : ∀ ad, A = some ad → ∀ (j : Nat) u, (rows.take K).flatten[j]? = some u → w.cell? (ad.add j) = some u := by
  intro ad hA j u hu
  obtain ⟨r, h1, h2⟩ := flat_of (m := 6) (by omega) (rows.take K) (fun r hr => h.2.1 r (List.mem_of_mem_take hr)) j u hu
  have hlt := (List.getElem?_eq_some_iff.1 h1).1
  rw [List.length_take] at hlt
  have h3 : rows[j / 6]? = some r := by rw [List.getElem?_take_of_lt (by omega)] at h1; exact h1
  obtain ⟨b, o, e, h4⟩ := h.2.2.resolve_left (by have := h.1; omega)
  rw [hA] at e
  injection e with e
  subst e
  rw [add_plain]
  have h5 := h4 _ _ r u h3 h2
  rw [show o + j = o + j / 6 * 6 + j % 6 by omega]
  exact h5
theorem Src.drop {w : World} {A : Option Addr} {rows : List (List Value)} {n c : Nat} (h : Src w A rows n) (hc : n ≤ c) (K : Nat) (hK : K ≤ n) : ∀ ad, (if c = K then A else A.map (·.add (K * 6))) = some ad → ∀ (j : Nat) u, (rows.drop K).flatten[j]? = some u → w.cell? (ad.add j) = some u := by
  intro ad hA j u hu
  obtain ⟨r, h1, h2⟩ := flat_of (m := 6) (by omega) (rows.drop K) (fun r hr => h.2.1 r (List.mem_of_mem_drop hr)) j u hu
  have hlt := (List.getElem?_eq_some_iff.1 h1).1
  rw [List.length_drop] at hlt
  rw [List.getElem?_drop] at h1
  have hl := h.1
  obtain ⟨b, o, e, h4⟩ := h.2.2.resolve_left (by omega)
  rw [if_neg (by omega), e] at hA
  have hA : some ((⟨b, o, none⟩ : Addr).add (K * 6)) = some ad := hA
  injection hA with hA
  subst hA
  rw [add_plain, add_plain]
  have h5 := h4 _ _ r u h1 h2
  rw [show o + K * 6 + j = o + (K + j / 6) * 6 + j % 6 by omega]
  exact h5
theorem Src.none_ {w : World} {A : Option Addr} {rows : List (List Value)} {n : Nat} (h : Src w A rows n) (hA : A = none) : n = 0 := by
  rcases h.2.2 with h0 | ⟨b, o, e, _⟩
  · exact h0
  · rw [hA] at e; cases e
theorem own_none (w : World) (B g : Nat) (hB : B ≤ g) (hg : w.heap[g]? = some (.cells #[] 45 (0, 0))) : w.ownsRow B 45 6 (.slice (some ⟨g, 0, none⟩) 0 0) 0 [] := ⟨rfl, .inr ⟨g, 0, #[], rfl, hB, hg, Nat.le_refl _, by unfold maxLen; omega, rfl, rfl⟩⟩
theorem own_below6 {A W : World} {B n : Nat} {e : TypeId} {v : Value} {xs : List Value} (h : A.ownsRow B e 6 v n xs) (hb : Below A.heap.size A W) : W.ownsRow B e 6 v n xs := by
  refine ⟨h.1, h.2.imp _root_.id ?_⟩
  rintro ⟨g, cap, cur, h1, h2, h3, h4⟩
  exact ⟨g, cap, cur, h1, h2, blk_below h3 hb, h4⟩
theorem own_ge6 {w : World} {B n : Nat} {e : TypeId} {v : Value} {xs : List Value} (h : w.ownsRow B e 6 v n xs) : ∀ k, v.ownBlock = some k → B ≤ k := by
  intro k hk
  rcases h.2 with ⟨rfl, _⟩ | ⟨g, cap, cur, rfl, hb, _⟩
  · cases hk
  · have : g = k := by simpa [Value.ownBlock] using hk
    omega
theorem own_shape6 {w : World} {B n : Nat} {e : TypeId} {v : Value} {xs : List Value} (h : w.ownsRow B e 6 v n xs) : ∃ A c, v = .slice A n c := by
  rcases h.2 with ⟨rfl, h0⟩ | ⟨g, cap, cur, rfl, hb, _⟩
  · exact ⟨_, 0, by rw [h0]⟩
  · exact ⟨_, cap, rfl⟩
theorem run_build23_0 (w : World) : (Instr.buildSlice 23 0 #[]).run Try.prog w = .ok (.slice (some ⟨w.heap.size, 0, none⟩) 0 0) (w.alloc (.cells #[] 45)) := by kernel_rfl
theorem run_build23_1 (a b c d e f : Value) (w : World) : (Instr.buildSlice 23 1 #[(0, .agg #[a, b, c, d, e, f])]).run Try.prog w = .ok (.slice (some ⟨w.heap.size, 0, none⟩) 1 1) (w.alloc (.cells #[a, b, c, d, e, f] 45)) := by kernel_rfl
section
variable {Q : Exit → Act → World → Prop} {o : Oper} {a : Act} {w : World} {K : Act → World → Prop}
theorem ow_build23_0 (ho : o.op = .buildSlice 23 0 #[]) (h : K (a.put o.dst (.slice (some ⟨w.heap.size, 0, none⟩) 0 0)) (w.alloc (.cells #[] 45))) : o.wp Try.prog a w K Q := by
  refine ow_value' ?_ h
  unfold execOp
  simp only [ho, List.map_toArray, List.map_nil, Sem.run_bind, run_build23_0, Result.andThen_ok]
  rfl
theorem ow_build23_1 (x : Operand) (ho : o.op = .buildSlice 23 1 #[(0, x)]) (id : S) (sq : Int) (nd ch gr : Value) (gn : Int) (hx : a.eval x = .agg (docC id sq nd ch gr gn).toArray) (h : K (a.put o.dst (.slice (some ⟨w.heap.size, 0, none⟩) 1 1)) (w.alloc (.cells (docC id sq nd ch gr gn).toArray 45))) : o.wp Try.prog a w K Q := by
  refine ow_value' ?_ h
  have h1 : (Instr.buildSlice 23 1 #[(0, .agg (docC id sq nd ch gr gn).toArray)]).run Try.prog w = .ok (.slice (some ⟨w.heap.size, 0, none⟩) 1 1) (w.alloc (.cells (docC id sq nd ch gr gn).toArray 45)) := run_build23_1 _ _ _ _ _ _ w
  unfold execOp
  simp only [ho, List.map_toArray, List.map_cons, List.map_nil, hx, Sem.run_bind, h1, Result.andThen_ok]
  rfl
end
theorem RT.low {w w' : World} {v : Value} {l : List S} (h : RT w v l) (hl : Low w.heap.size w w') : RT w' v l := by
  obtain ⟨A, c, h1, h2, h3⟩ := h
  refine ⟨A, c, h1, h2, h3.imp _root_.id ?_⟩
  rintro ⟨b, o, h4, h5⟩
  refine ⟨b, o, h4, fun k hk => ?_⟩
  have h6 := h5 k hk
  have hlt := cell_lt h6
  have hg : w.heap[b]? = some w.heap[b] := by simp [hlt]
  have hg' := hl b _ hlt hg
  have : w'.cell? ⟨b, o + k, none⟩ = w.cell? ⟨b, o + k, none⟩ := by simp [World.cell?, hg, hg']
  rw [this]; exact h6
theorem own_keep6 {A W : World} {B n g : Nat} {e t : TypeId} {v : Value} {xs : List Value} {cs : Array Value} (h : A.ownsRow B e 6 v n xs) (hg : A.heap[g]? = some (.cells cs t (0, 0))) (ht : e ≠ t) (hgr : A.grownBy W (some g)) : W.ownsRow B e 6 v n xs := by
  refine ⟨h.1, h.2.imp _root_.id ?_⟩
  rintro ⟨g', cap, cur, h1, h2, h3, h4⟩
  refine ⟨g', cap, cur, h1, h2, blk_grown h3 hgr (fun e => ?_), h4⟩
  injection e with e
  subst e
  rw [hg] at h3
  injection h3 with h3
  injection h3 with _ h3
  exact ht h3.symm
theorem ins_length (docs : List Doc) (k : Nat) (d : Doc) (h : k ≤ docs.length) : (ins docs k d).length = k + 1 + (docs.length - k) := by
  unfold ins
  simp only [List.length_append, List.length_take, List.length_drop, List.length_singleton]
  omega
theorem zero27 (w : World) : (zeroValue 27).run Try.prog w = .ok (.agg #[.int .u64 0, .slice none 0 0, .slice none 0 0, .slice none 0 0]) w := by kernel_rfl
theorem stV_one {sq : Int} {dv lv sv : Value} (h0 : dv.oneCell' = true) (h1 : lv.oneCell' = true) (h2 : sv.oneCell' = true) : ∀ u ∈ (stV sq dv lv sv).toList, u.oneCell' = true := by
  intro u hu
  have hu' : u ∈ [Value.int .u64 sq, dv, lv, sv] := hu
  simp only [List.mem_cons, List.not_mem_nil, or_false] at hu'
  rcases hu' with rfl | rfl | rfl | rfl
  · rfl
  · exact h0
  · exact h1
  · exact h2
theorem LocT.one {w : World} {v : Value} (h : LocT w v) : v.oneCell' = true := by obtain ⟨A, n, c, rfl, _⟩ := h; rfl
theorem SeenT.one {w : World} {v : Value} (h : SeenT w v) : v.oneCell' = true := by obtain ⟨A, n, c, rfl, _⟩ := h; rfl
theorem fld27_1 : Fld 27 1 1 := fun _ _ _ => by kernel_rfl
theorem infos45 : (Try.prog.info? 45).map (fun i => (i.zero, i.size, i.bytes)) = some (some (.agg #[.string ⟨#[]⟩, .int .u64 0, .slice none 0 0, .slice none 0 0, .slice none 0 0, .int .i64 0]), 6, 104) := by kernel_rfl
end Go.Proofs.Ytncjgfhipflokaa
