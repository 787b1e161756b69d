/-
  Copies: what is built, appended to and read, of elements of any number of cells; a value, all of it, and its like.
-/
import Derived.Great.BuildSlice
import Derived.Test.YtncjgfhipflokaaUd
namespace Go.Proofs.Ytncjgfhipflokaa
open Go.RowKit Go.Shelf Hp Go.Maps

section
variable {P : Program}
theorem run_build1 (w : World) (t e : TypeId) (cs : List Value) (hu : P.underlying t = some (.slice e)) (hi : (P.info? e).map (fun i => (i.size, i.zero.isSome)) = some (cs.length, true)) (h0 : 0 < cs.length) (h1 : cs.length ≤ 100) :
    (Instr.buildSlice t 1 #[(0, .agg cs.toArray)]).run P w = .ok (.slice (some ⟨w.heap.size, 0, none⟩) 1 1) (w.alloc (.cells cs.toArray e)) := by
  obtain ⟨i, hi1, hi2⟩ := Option.map_eq_some_iff.1 hi
  injection hi2 with hs hz
  obtain ⟨z, hz⟩ := Option.isSome_iff_exists.1 hz
  have hf := Great.fill_whole h0 [Value.agg cs.toArray] ((Array.range (1 * i.size)).map (z.cells[· % z.cells.size]!)) (fun v hv => by rw [List.mem_singleton.1 hv]; simp [Value.cells]) (by simp [hs])
  refine run_buildSlice w t e 1 _ cs.toArray i z hu hi1 hz (by rw [hs]; omega) (by rw [hs]; omega) ?_
  rw [hs] at hf ⊢
  simpa [Value.cells] using hf
theorem run_build0 (w : World) (t e : TypeId) (hu : P.underlying t = some (.slice e)) (hi : (P.info? e).isSome = true) :
    (Instr.buildSlice t 0 #[]).run P w = .ok (.slice (some ⟨w.heap.size, 0, none⟩) 0 0) (w.alloc (.cells #[] e)) := by
  obtain ⟨i, hi1⟩ := Option.isSome_iff_exists.1 hi
  simp [Instr.buildSlice, run_underlying hu, sizeOf, typeInfo, hi1, newRow, Instr.fill]
  exact congrArg (fun c => w.alloc (.cells c e)) (Array.eq_empty_of_size_eq_zero (by simp))
end
section
variable {Q : Exit → Act → World → Prop} {o : Oper} {a : Act} {w : World} {K : Act → World → Prop} {ops : Array Oper} {rest : List Oper}
theorem ow_build0 (t e : TypeId) (ho : o.op = .buildSlice t 0 #[]) (hu : Try.prog.underlying t = some (.slice e)) (hi : (Try.prog.info? e).isSome = true)
    (h : K (a.put o.dst (.slice (some ⟨w.heap.size, 0, none⟩) 0 0)) (w.alloc (.cells #[] e))) : o.wp Try.prog a w K Q := by
  refine ow_value' ?_ h
  have hr := run_build0 (P := Try.prog) w t e hu hi
  unfold execOp
  simp only [ho, List.map_toArray, List.map_nil, Sem.run_bind, hr, Result.andThen_ok]
  rfl
theorem ow_build1 (t e : TypeId) (x : Operand) (ho : o.op = .buildSlice t 1 #[(0, x)]) (cs : List Value) (hx : a.eval x = .agg cs.toArray) (hu : Try.prog.underlying t = some (.slice e)) (hi : (Try.prog.info? e).map (fun i => (i.size, i.zero.isSome)) = some (cs.length, true)) (h0 : 0 < cs.length) (h1 : cs.length ≤ 100)
    (h : K (a.put o.dst (.slice (some ⟨w.heap.size, 0, none⟩) 1 1)) (w.alloc (.cells cs.toArray e))) : o.wp Try.prog a w K Q := by
  refine ow_value' ?_ h
  have hr := run_build1 (P := Try.prog) w t e cs hu hi h0 h1
  unfold execOp
  simp only [ho, List.map_toArray, List.map_cons, List.map_nil, hx, Sem.run_bind, hr, Result.andThen_ok]
  rfl
theorem wpList_build0 (hgd : o.guard = none) (t e : TypeId) (ho : o.op = .buildSlice t 0 #[]) (hu : Try.prog.underlying t = some (.slice e)) (hi : (Try.prog.info? e).isSome = true)
    (h : ∀ w', w'.heap[w.heap.size]? = some (.cells #[] e (0, 0)) → Below w.heap.size w w' → wpList Try.prog ops Q rest (a.put o.dst (.slice (some ⟨w.heap.size, 0, none⟩) 0 0)) w') : wpList Try.prog ops Q (o :: rest) a w :=
  wpList_plain hgd fun _ hK => ow_build0 t e ho hu hi (hK _ _ (h _ (World.alloc_heap_new w _) (below_alloc1 _ _)))
theorem wpList_build1 (hgd : o.guard = none) (t e : TypeId) (x : Operand) (ho : o.op = .buildSlice t 1 #[(0, x)]) (cs : List Value) (hx : a.eval x = .agg cs.toArray) (hu : Try.prog.underlying t = some (.slice e)) (hi : (Try.prog.info? e).map (fun i => (i.size, i.zero.isSome)) = some (cs.length, true)) (h0 : 0 < cs.length) (h1 : cs.length ≤ 100)
    (h : ∀ w', w'.heap[w.heap.size]? = some (.cells cs.toArray e (0, 0)) → Below w.heap.size w w' → wpList Try.prog ops Q rest (a.put o.dst (.slice (some ⟨w.heap.size, 0, none⟩) 1 1)) w') : wpList Try.prog ops Q (o :: rest) a w :=
  wpList_plain hgd fun _ hK => ow_build1 t e x ho cs hx hu hi h0 h1 (hK _ _ (h _ (World.alloc_heap_new w _) (below_alloc1 _ _)))
theorem wpList_append_n (hgd : o.guard = none) (s x : Operand) (t : TypeId) (ho : o.op = .call { callee := .builtin .append, args := #[s, x], argTypes := #[t, t] })
    (base : Nat) (e : TypeId) (size bytes : Nat) (ht : Try.prog.underlying t = some (.slice e)) (hi : (Try.prog.info? e).map (fun i => (i.zero.map (·.cells.size), i.size, i.bytes)) = some (some size, size, bytes)) (hs0 : 0 < size)
    (v : Value) (n : Nat) (xs : List Value) (hs : a.eval s = v) (hown : w.ownsRow base e size v n xs)
    (A : Option Addr) (m c : Nat) (news : List Value) (hx : a.eval x = .slice A m c) (hl : news.length = m * size) (hA : A = none → m = 0) (hc : ∀ ad, A = some ad → ∀ j u, news[j]? = some u → w.cell? (ad.add j) = some u) (h1 : ∀ u ∈ news, u.oneCell' = true)
    (h63 : n + m ≤ maxLen) (hbytes : (n + m) * bytes ≤ 140737488355328) (hbase : base ≤ w.heap.size)
    (h : ∀ v' w', w'.ownsRow base e size v' (n + m) (xs ++ news) → w.grownBy w' v.ownBlock → (v'.ownBlock = v.ownBlock ∨ v'.ownBlock = some w.heap.size) → wpList Try.prog ops Q rest (a.put o.dst v') w') : wpList Try.prog ops Q (o :: rest) a w := by
  obtain ⟨i, hi1, hi2⟩ := Option.map_eq_some_iff.1 hi
  injection hi2 with hz hi3
  injection hi3 with hsz hby
  obtain ⟨z, hz1, hz2⟩ := Option.map_eq_some_iff.1 hz
  exact wpList_plain hgd fun K hK => ow_append_n s x t ho base e i z size bytes ht hi1 hz1 hsz hby hz2 hs0 v n xs hs hown A m c news hx hl hA hc h1 h63 hbytes hbase (fun v' w' g1 g2 g3 => hK _ _ (h v' w' g1 g2 g3))
end

/-! ### rows of one's own -/
theorem own_new (w : World) (B g m : Nat) (e : TypeId) (hB : B ≤ g) (hg : w.heap[g]? = some (.cells #[] e (0, 0))) : w.ownsRow B e m (.slice (some ⟨g, 0, none⟩) 0 0) 0 [] := ⟨by simp, .inr ⟨g, 0, #[], rfl, hB, hg, Nat.le_refl _, by unfold maxLen; omega, by simp, by simp⟩⟩
theorem own_nil (w : World) (B m : Nat) (e : TypeId) : w.ownsRow B e m (.slice none 0 0) 0 [] := ⟨by simp, .inl ⟨rfl, rfl⟩⟩
theorem ownm_below {A W : World} {B m n : Nat} {e : TypeId} {v : Value} {xs : List Value} (h : A.ownsRow B e m v n xs) (hb : Below A.heap.size A W) : W.ownsRow B e m v n xs := by
  refine ⟨h.1, h.2.imp _root_.id ?_⟩
  rintro ⟨g, cap, cur, h1, h2, h3, h4⟩
  exact ⟨g, cap, cur, h1, h2, blk_below h3 hb, h4⟩
theorem ownm_ge {w : World} {B m n : Nat} {e : TypeId} {v : Value} {xs : List Value} (h : w.ownsRow B e m v n xs) : ∀ k, v.ownBlock = some k → B ≤ k := by
  intro k hk
  rcases h.2 with ⟨rfl, _⟩ | ⟨g, cap, cur, rfl, hb, _⟩
  · cases hk
  · have : g = k := by simpa [Value.ownBlock] using hk
    omega
theorem own_shape {w : World} {B m n : Nat} {e : TypeId} {v : Value} {xs : List Value} (h : w.ownsRow B e m v n xs) : ∃ A c, v = .slice A n c := by
  rcases h.2 with ⟨rfl, h0⟩ | ⟨g, cap, cur, rfl, hb, _⟩
  · exact ⟨_, 0, by rw [h0]⟩
  · exact ⟨_, cap, rfl⟩
/-- another block of another type has changed -/
theorem ownm_keep {A W : World} {B m n g : Nat} {e t : TypeId} {v : Value} {xs : List Value} {cs : Array Value} (h : A.ownsRow B e m v n xs) (hg : A.heap[g]? = some (.cells cs t (0, 0))) (ht : e ≠ t) (hgr : A.grownBy W (some g)) : W.ownsRow B e m v n xs := by
  refine ⟨h.1, h.2.imp _root_.id ?_⟩
  rintro ⟨b, cap, cur, h1, h2, h3, h4⟩
  refine ⟨b, cap, cur, h1, h2, blk_grown h3 hgr (fun e' => ?_), h4⟩
  injection e' with e'
  subst e'
  rw [hg] at h3
  injection h3 with h3
  injection h3 with _ h3
  exact ht h3.symm
theorem own_zero {w : World} {B m n : Nat} {e : TypeId} {v : Value} {xs : List Value} (h : w.ownsRow B e m v n xs) : w.ownsRow 0 e m v n xs := ⟨h.1, h.2.imp _root_.id (fun ⟨g, cap, cur, h1, _, h2⟩ => ⟨g, cap, cur, h1, Nat.zero_le _, h2⟩)⟩
theorem own_one {w : World} {B m n : Nat} {e : TypeId} {v : Value} {xs : List Value} (h : w.ownsRow B e m v n xs) : v.oneCell' = true := by
  obtain ⟨A, c, rfl⟩ := own_shape h
  rfl
theorem ownm_lt {w : World} {B m n : Nat} {e : TypeId} {v : Value} {xs : List Value} (h : w.ownsRow B e m v n xs) : ∀ k, v.ownBlock = some k → k < w.heap.size := by
  intro k hk
  rcases h.2 with ⟨rfl, _⟩ | ⟨g, cap, cur, rfl, hb, hg, _⟩
  · cases hk
  · have : g = k := by simpa [Value.ownBlock] using hk
    subst this
    exact blk_lt hg

/-- another block has changed -/
theorem ownm_keep2 {A W : World} {B m n : Nat} {e : TypeId} {v : Value} {xs : List Value} (h : A.ownsRow B e m v n xs) (hk : ∀ g o, B ≤ g → v.ownBlock = some g → A.heap[g]? = some o → W.heap[g]? = some o) : W.ownsRow B e m v n xs := by
  refine ⟨h.1, h.2.imp _root_.id ?_⟩
  rintro ⟨b, cap, cur, h1, h2, h3, h4⟩
  exact ⟨b, cap, cur, h1, h2, hk b _ h2 (by rw [h1]; rfl) h3, h4⟩
/-! ### elements, and their like; ok: the blocks in which they may lie -/
/-- A is kept in B where ok -/
def Keep (ok : Nat → Prop) (A B : World) : Prop := ∀ k o, ok k → A.heap[k]? = some o → B.heap[k]? = some o
theorem Keep.of_below {ok : Nat → Prop} {w w' : World} (h : Below w.heap.size w w') : Keep ok w w' := fun _ _ _ h0 => blk_below h0 h
theorem Keep.cell {ok : Nat → Prop} {w w' : World} (h : Keep ok w w') {b i : Nat} (hb : ok b) {v : Value} (hc : w.cell? ⟨b, i, none⟩ = some v) : w'.cell? ⟨b, i, none⟩ = some v := by
  have hlt := cell_lt hc
  have hg : w.heap[b]? = some w.heap[b] := by simp [hlt]
  have hg' := h b _ hb hg
  have : w'.cell? ⟨b, i, none⟩ = w.cell? ⟨b, i, none⟩ := by simp [World.cell?, hg, hg']
  rw [this]; exact hc
/-- texts -/
def RTo (w : World) (ok : Nat → Prop) (v : Value) (l : List S) : Prop := ∃ A c, v = .slice A l.length c ∧ l.length ≤ maxLen ∧ (l.length = 0 ∨ ∃ b o, A = some ⟨b, o, none⟩ ∧ ok b ∧ ∀ k, k < l.length → w.cell? ⟨b, o + k, none⟩ = some (encStr (at_ l k)))
theorem RTo.rt {w : World} {ok : Nat → Prop} {v : Value} {l : List S} (h : RTo w ok v l) : RT w v l := by
  obtain ⟨A, c, e, h1, h2⟩ := h
  exact ⟨A, c, e, h1, h2.imp _root_.id (fun ⟨b, o, e, _, h⟩ => ⟨b, o, e, h⟩)⟩
theorem RTo.keep {w w' : World} {ok ok' : Nat → Prop} {v : Value} {l : List S} (h : RTo w ok v l) (hk : Keep ok w w') (ho : ∀ b, ok b → b < w.heap.size → ok' b) : RTo w' ok' v l := by
  obtain ⟨A, c, e, h1, h2⟩ := h
  rcases Nat.eq_zero_or_pos l.length with h0 | h0
  · exact ⟨A, c, e, h1, .inl h0⟩
  refine ⟨A, c, e, h1, h2.imp _root_.id ?_⟩
  rintro ⟨b, o, e', h3, h4⟩
  exact ⟨b, o, e', ho b h3 (cell_lt (h4 0 h0)), fun k hk' => hk.cell h3 (h4 k hk')⟩
/-- n elements of m cells each -/
def One (w : World) (ok : Nat → Prop) (m : Nat) (v : Value) (n : Nat) (F : List Value → Prop) : Prop :=
  ∃ A c, v = .slice A n c ∧ n ≤ 1048576 ∧ (n = 0 ∨ ∃ b o, A = some ⟨b, o, none⟩ ∧ ok b ∧ ∀ k, k < n → ∃ es : List Value, es.length = m ∧ (∀ j u, es[j]? = some u → w.cell? ⟨b, o + k * m + j, none⟩ = some u) ∧ F es)
/-- n elements of m cells each, and as many others -/
def Two (w : World) (ok : Nat → Prop) (m : Nat) (v v' : Value) (n : Nat) (F : List Value → List Value → Prop) : Prop :=
  ∃ A c A' c', v = .slice A n c ∧ v' = .slice A' n c' ∧ n ≤ 1048576 ∧ (n = 0 ∨ ∃ b o b' o', A = some ⟨b, o, none⟩ ∧ A' = some ⟨b', o', none⟩ ∧ ok b ∧ ok b' ∧ ∀ k, k < n → ∃ es es' : List Value, es.length = m ∧ es'.length = m ∧
    (∀ j u, es[j]? = some u → w.cell? ⟨b, o + k * m + j, none⟩ = some u) ∧ (∀ j u, es'[j]? = some u → w.cell? ⟨b', o' + k * m + j, none⟩ = some u) ∧ F es es')
theorem One.keep {w w' : World} {ok ok' : Nat → Prop} {m n : Nat} {v : Value} {F F' : List Value → Prop} (h : One w ok m v n F) (hm : 0 < m) (hk : Keep ok w w') (ho : ∀ b, ok b → b < w.heap.size → ok' b) (hF : ∀ es, F es → F' es) : One w' ok' m v n F' := by
  obtain ⟨A, c, e, h1, h2⟩ := h
  rcases Nat.eq_zero_or_pos n with h0 | h0
  · exact ⟨A, c, e, h1, .inl h0⟩
  refine ⟨A, c, e, h1, h2.imp _root_.id ?_⟩
  rintro ⟨b, o, e', h3, h4⟩
  have hlt : b < w.heap.size := by
    obtain ⟨es, h5, h6, _⟩ := h4 0 h0
    exact cell_lt (h6 0 es[0] (List.getElem?_eq_getElem (by omega)))
  refine ⟨b, o, e', ho b h3 hlt, fun k hk' => ?_⟩
  obtain ⟨es, h5, h6, h7⟩ := h4 k hk'
  exact ⟨es, h5, fun j u hj => hk.cell h3 (h6 j u hj), hF es h7⟩
theorem Two.keep {w w' : World} {ok ok' : Nat → Prop} {m n : Nat} {v v' : Value} {F F' : List Value → List Value → Prop} (h : Two w ok m v v' n F) (hm : 0 < m) (hk : Keep ok w w') (ho : ∀ b, ok b → b < w.heap.size → ok' b) (hF : ∀ es es', F es es' → F' es es') : Two w' ok' m v v' n F' := by
  obtain ⟨A, c, A', c', e1, e2, h1, h2⟩ := h
  rcases Nat.eq_zero_or_pos n with h0 | h0
  · exact ⟨A, c, A', c', e1, e2, h1, .inl h0⟩
  refine ⟨A, c, A', c', e1, e2, h1, h2.imp _root_.id ?_⟩
  rintro ⟨b, o, b', o', e3, e4, g3, g4, h3⟩
  have hlt : b < w.heap.size ∧ b' < w.heap.size := by
    obtain ⟨es, es', h5, h5', h6, h7, _⟩ := h3 0 h0
    exact ⟨cell_lt (h6 0 es[0] (List.getElem?_eq_getElem (by omega))), cell_lt (h7 0 es'[0] (List.getElem?_eq_getElem (by omega)))⟩
  refine ⟨b, o, b', o', e3, e4, ho b g3 hlt.1, ho b' g4 hlt.2, fun k hk' => ?_⟩
  obtain ⟨es, es', h4, h5, h6, h7, h8⟩ := h3 k hk'
  exact ⟨es, es', h4, h5, fun j u hj => hk.cell g3 (h6 j u hj), fun j u hj => hk.cell g4 (h7 j u hj), hF es es' h8⟩
/-- what one's own row holds, one element behind the other -/
theorem own_cells {w : World} {B m n : Nat} {e : TypeId} {v : Value} {rows : List (List Value)} (h : w.ownsRow B e m v n rows.flatten) (hn : rows.length = n) (hl : ∀ r ∈ rows, r.length = m) :
    ∃ A c, v = .slice A n c ∧ n ≤ c ∧ c ≤ maxLen ∧ (n = 0 ∨ ∃ b, A = some ⟨b, 0, none⟩ ∧ B ≤ b ∧ b < w.heap.size ∧ ∀ (k j : Nat) r u, rows[k]? = some r → r[j]? = some u → w.cell? ⟨b, 0 + k * m + j, none⟩ = some u) := by
  rcases h.2 with ⟨rfl, h0⟩ | ⟨g, cap, cur, rfl, hB, hg, h1, h2, h3, h4⟩
  · exact ⟨none, 0, by rw [h0], by omega, by unfold maxLen; omega, .inl h0⟩
  · refine ⟨_, cap, rfl, h1, h2, .inr ⟨g, rfl, hB, blk_lt hg, fun k j r u hr hu => ?_⟩⟩
    have hk : k < rows.length := (List.getElem?_eq_some_iff.1 hr).1
    have hj : j < m := by have := (List.getElem?_eq_some_iff.1 hu).1; rwa [hl r (List.mem_of_getElem? hr)] at this
    rw [Nat.zero_add, cell_of_row w g _ _ _ _ hg]
    have h5 := flat_at rows hl k j r hr hj
    rw [← h4] at h5
    have hlt : k * m + j < n * m := by
      have : (k + 1) * m ≤ n * m := Nat.mul_le_mul_right m (by omega)
      rw [Nat.add_mul, Nat.one_mul] at this
      omega
    rw [List.getElem?_take_of_lt hlt] at h5
    rw [← Array.getElem?_toList, h5]
    exact hu
/-! ### a row of one's own that grows, each element the like of one elsewhere -/
/-- where the copies may lie, but for the row itself -/
def okq (B0 X : Nat) (lv : Value) : Nat → Prop := fun b => b < B0 ∨ (X < b ∧ lv.ownBlock ≠ some b)
def Lk (F : World → (Nat → Prop) → List Value → List Value → Prop) : Prop := ∀ w w' ok ok' es r, F w ok es r → Keep ok w w' → (∀ b, ok b → b < w.heap.size → ok' b) → F w' ok' es r
/-- q elements of m cells each, in one's own row behind X, the likes of those at b, o -/
def CpR (F : World → (Nat → Prop) → List Value → List Value → Prop) (B0 X : Nat) (e : TypeId) (m b o q : Nat) (rows : List (List Value)) (lv : Value) (w : World) : Prop :=
  w.ownsRow (X + 1) e m lv q rows.flatten ∧ rows.length = q ∧ (∀ r ∈ rows, r.length = m ∧ ∀ u ∈ r, u.oneCell' = true) ∧
    ∀ k, k < q → ∃ es r, es.length = m ∧ b < B0 ∧ (∀ j u, es[j]? = some u → w.cell? ⟨b, o + k * m + j, none⟩ = some u) ∧ rows[k]? = some r ∧ F w (okq B0 X lv) es r
def Cp (F : World → (Nat → Prop) → List Value → List Value → Prop) (B0 X : Nat) (e : TypeId) (m b o q : Nat) (lv : Value) (w : World) : Prop := ∃ rows : List (List Value), CpR F B0 X e m b o q rows lv w
/-- rows of unlike types lie apart -/
theorem own_apart {w : World} {B m n B' m' n' : Nat} {e e' : TypeId} {v v' : Value} {xs xs' : List Value} (h : w.ownsRow B e m v n xs) (h' : w.ownsRow B' e' m' v' n' xs') (he : e ≠ e') : ∀ k, v.ownBlock = some k → v'.ownBlock ≠ some k := by
  intro k hk hk'
  rcases h.2 with ⟨rfl, _⟩ | ⟨g, cap, cur, rfl, _, hg, _⟩
  · cases hk
  rcases h'.2 with ⟨rfl, _⟩ | ⟨g', cap', cur', rfl, _, hg', _⟩
  · cases hk'
  have e1 : g = k := by simpa [Value.ownBlock] using hk
  have e2 : g' = k := by simpa [Value.ownBlock] using hk'
  subst e1 e2
  rw [hg] at hg'
  injection hg' with hg'
  injection hg' with _ hg'
  exact he hg'
section
variable {F : World → (Nat → Prop) → List Value → List Value → Prop} {B0 X : Nat} {e : TypeId} {m b o q : Nat} {lv : Value} {w w' : World} {rows : List (List Value)}
theorem Cp.zero (hl : w.ownsRow (X + 1) e m lv 0 []) : Cp F B0 X e m b o 0 lv w := ⟨[], hl, rfl, fun r hr => absurd hr (by simp), fun k hk => absurd hk (by omega)⟩
theorem Cp.shape (h : Cp F B0 X e m b o q lv w) : ∃ A c, lv = .slice A q c := by obtain ⟨rows, h1, _⟩ := h; exact own_shape h1
/-- what leaves B0 and the blocks behind X be -/
theorem CpR.keep (hF : Lk F) (h : CpR F B0 X e m b o q rows lv w) (hk : ∀ k v, k < B0 ∨ X < k → w.heap[k]? = some v → w'.heap[k]? = some v) : CpR F B0 X e m b o q rows lv w' := by
  obtain ⟨h1, h2, h3, h4⟩ := h
  refine ⟨⟨h1.1, h1.2.imp _root_.id ?_⟩, h2, h3, fun k hk' => ?_⟩
  · rintro ⟨g, cap, cur, g1, g2, g3, g4⟩
    exact ⟨g, cap, cur, g1, g2, hk _ _ (.inr g2) g3, g4⟩
  · obtain ⟨es, r, h5, h6, h7, h8, h9⟩ := h4 k hk'
    have hkk : Keep (okq B0 X lv) w w' := fun k v hok h0 => hk k v (hok.imp _root_.id (fun h => h.1)) h0
    exact ⟨es, r, h5, h6, fun j u hj => hkk.cell (.inl h6) (h7 j u hj), h8, hF _ _ _ _ _ _ h9 hkk (fun _ h _ => h)⟩
theorem Cp.keep (hF : Lk F) (h : Cp F B0 X e m b o q lv w) (hk : ∀ k v, k < B0 ∨ X < k → w.heap[k]? = some v → w'.heap[k]? = some v) : Cp F B0 X e m b o q lv w' := by
  obtain ⟨rows, h⟩ := h
  exact ⟨rows, h.keep hF hk⟩
/-- an element more -/
theorem CpR.more' (hF : Lk F) (h : CpR F B0 X e m b o q rows lv w) (hB : B0 ≤ X) {v' : Value} {es r : List Value} (hes : es.length = m) (hb : b < B0) (hc : ∀ j u, es[j]? = some u → w.cell? ⟨b, o + q * m + j, none⟩ = some u) (hr : r.length = m) (hr1 : ∀ u ∈ r, u.oneCell' = true) (hlk : F w (okq B0 X lv) es r)
    (hown : w'.ownsRow (X + 1) e m v' (q + 1) (rows.flatten ++ r)) (hgr : w.grownBy w' lv.ownBlock) (hv : v'.ownBlock = lv.ownBlock ∨ v'.ownBlock = some w.heap.size) : CpR F B0 X e m b o (q + 1) (rows ++ [r]) v' w' := by
  obtain ⟨h1, h2, h3, h4⟩ := h
  have hkk : Keep (okq B0 X lv) w w' := fun k v hok h0 => blk_grown h0 hgr (fun he => by
    rcases hok with hok | ⟨_, hok⟩
    · have := ownm_ge h1 k he.symm
      omega
    · exact hok he.symm)
  have hoo : ∀ k, okq B0 X lv k → k < w.heap.size → okq B0 X v' k := fun k hok hlt => hok.imp _root_.id (fun ⟨g1, g2⟩ => ⟨g1, fun he => by
    rcases hv with hv | hv
    · exact g2 (hv ▸ he)
    · rw [hv] at he
      injection he with he
      omega⟩)
  refine ⟨?_, by simp [h2], fun x hx => ?_, fun k hk => ?_⟩
  · simpa using hown
  · rcases List.mem_append.1 hx with hx | hx
    · exact h3 x hx
    · rw [List.mem_singleton.1 hx]; exact ⟨hr, hr1⟩
  · rcases (show k < q ∨ k = q by omega) with hk | rfl
    · obtain ⟨es', r', h5, h6, h7, h8, h9⟩ := h4 k hk
      exact ⟨es', r', h5, h6, fun j u hj => hkk.cell (.inl h6) (h7 j u hj), by rw [List.getElem?_append_left (by omega)]; exact h8, hF _ _ _ _ _ _ h9 hkk hoo⟩
    · exact ⟨es, r, hes, hb, fun j u hj => hkk.cell (.inl hb) (hc j u hj), by rw [List.getElem?_append_right (by omega)]; simp [h2], hF _ _ _ _ _ _ hlk hkk hoo⟩
theorem CpR.more (hF : Lk F) (h : CpR F B0 X e m b o q rows lv w) (hB : B0 ≤ X) {v' : Value} {es r : List Value} (hes : es.length = m) (hb : b < B0) (hc : ∀ j u, es[j]? = some u → w.cell? ⟨b, o + q * m + j, none⟩ = some u) (hr : r.length = m) (hr1 : ∀ u ∈ r, u.oneCell' = true) (hlk : F w (okq B0 X lv) es r)
    (hown : w'.ownsRow (X + 1) e m v' (q + 1) (rows.flatten ++ r)) (hgr : w.grownBy w' lv.ownBlock) (hv : v'.ownBlock = lv.ownBlock ∨ v'.ownBlock = some w.heap.size) : Cp F B0 X e m b o (q + 1) v' w' := ⟨_, h.more' hF hB hes hb hc hr hr1 hlk hown hgr hv⟩
/-- all of them -/
theorem Cp.two (hF : Lk F) (h : Cp F B0 X e m b o q lv w) (hm : 0 < m) (hq : q ≤ 1048576) {c : Nat} {ok : Nat → Prop} (hok : ∀ k, k < B0 ∨ X < k → k < w.heap.size → ok k) : Two w ok m (.slice (some ⟨b, o, none⟩) q c) lv q (F w ok) := by
  obtain ⟨rows, h1, h2, h3, h4⟩ := h
  obtain ⟨A', c', rfl, _, _, h5⟩ := own_cells h1 h2 (fun r hr => (h3 r hr).1)
  refine ⟨_, c, A', c', rfl, rfl, hq, ?_⟩
  rcases h5 with h5 | ⟨b', rfl, g1, g2, h5⟩
  · exact .inl h5
  rcases Nat.eq_zero_or_pos q with h0 | h0
  · exact .inl h0
  obtain ⟨es0, r0, g3, g4, g5, _⟩ := h4 0 h0
  have hb : b < w.heap.size := cell_lt (g5 0 es0[0] (List.getElem?_eq_getElem (by omega)))
  refine .inr ⟨b, o, b', 0, rfl, rfl, hok b (.inl g4) hb, hok b' (.inr g1) g2, fun k hk => ?_⟩
  obtain ⟨es, r, h6, h7, h8, h9, h10⟩ := h4 k hk
  exact ⟨es, r, h6, (h3 r (List.mem_of_getElem? h9)).1, h8, fun j u hj => h5 k j r u h9 hj, hF _ _ _ _ _ _ h10 (fun _ _ _ h => h) (fun k hk hl => hok k (hk.imp _root_.id (fun h => h.1)) hl)⟩
end

/-! ### a value, all of it, and its like -/
def VF (w : World) (ok : Nat → Prop) : Nat → List Value → Prop
  | 0, _ => False
  | m + 1, cs => ∃ k0 k1 tx lv kv n ks, cs = valC (.int .i64 k0) (.int .i64 k1) tx lv kv ∧ ks.length ≤ 1048576 ∧ RTo w ok kv ks ∧ One w ok 5 lv n (VF w ok m)
def VE : Nat → World → (Nat → Prop) → List Value → List Value → Prop
  | 0, _, _, _, _ => False
  | m + 1, w, ok, cs, cs' => ∃ k0 k1 tx lv kv lv' kv' n ks, cs = valC (.int .i64 k0) (.int .i64 k1) tx lv kv ∧ cs' = valC (.int .i64 k0) (.int .i64 k1) tx lv' kv' ∧ RTo w ok kv ks ∧ RTo w ok kv' ks ∧ Two w ok 5 lv lv' n (VE m w ok)
theorem VF.keep {w w' : World} {ok ok' : Nat → Prop} (hk : Keep ok w w') (ho : ∀ b, ok b → b < w.heap.size → ok' b) : ∀ (m : Nat) (cs : List Value), VF w ok m cs → VF w' ok' m cs
  | 0, _, h => h
  | m + 1, _, ⟨k0, k1, tx, lv, kv, n, ks, e, c1, h1, h2⟩ => ⟨k0, k1, tx, lv, kv, n, ks, e, c1, h1.keep hk ho, h2.keep (by omega) hk ho (fun es h => VF.keep hk ho m es h)⟩
theorem VE.lk : ∀ m, Lk (VE m)
  | 0, _, _, _, _, _, _, h, _, _ => h
  | m + 1, w, w', ok, ok', _, _, ⟨k0, k1, tx, lv, kv, lv', kv', n, ks, e1, e2, h1, h2, h3⟩, hk, ho => ⟨k0, k1, tx, lv, kv, lv', kv', n, ks, e1, e2, h1.keep hk ho, h2.keep hk ho, h3.keep (by omega) hk ho (fun es es' h => VE.lk m _ _ _ _ es es' h hk ho)⟩
theorem VF.len {w : World} {ok : Nat → Prop} {m : Nat} {cs : List Value} (h : VF w ok m cs) : cs.length = 5 := by
  cases m with
  | zero => exact h.elim
  | succ m => obtain ⟨_, _, _, _, _, _, _, rfl, _⟩ := h; rfl
theorem VE.len {w : World} {ok : Nat → Prop} {m : Nat} {cs cs' : List Value} (h : VE m w ok cs cs') : cs'.length = 5 := by
  cases m with
  | zero => exact h.elim
  | succ m => obtain ⟨_, _, _, _, _, _, _, _, _, _, rfl, _⟩ := h; rfl
theorem VE.one {w : World} {ok : Nat → Prop} {m : Nat} {cs cs' : List Value} (h : VE m w ok cs cs') : ∀ u ∈ cs', u.oneCell' = true := by
  cases m with
  | zero => exact h.elim
  | succ m =>
    obtain ⟨k0, k1, tx, lv, kv, lv', kv', n, ks, _, rfl, _, ⟨KA, kc, rfl, _⟩, ⟨_, _, LA, lc, _, rfl, _⟩⟩ := h
    exact valC_one _ _ rfl rfl _ _ _ _ _ _ _
/-- all of it is more than some of it -/
theorem VF.vt {w : World} {ok : Nat → Prop} : ∀ (d m : Nat) (cs : List Value), VF w ok m cs → VT w d cs
  | _, 0, _, h => h.elim
  | 0, m + 1, _, ⟨k0, k1, tx, lv, kv, n, ks, e, _, ⟨KA, kc, e1, _⟩, ⟨LA, lc, e2, _⟩⟩ => ⟨.int .i64 k0, .int .i64 k1, tx, LA, n, lc, KA, ks.length, kc, e1 ▸ e2 ▸ e, rfl, rfl⟩
  | d + 1, m + 1, _, ⟨k0, k1, tx, lv, kv, n, ks, e, _, ⟨KA, kc, e1, h1, h2⟩, ⟨LA, lc, e2, h3, h4⟩⟩ => by
    refine ⟨.int .i64 k0, .int .i64 k1, tx, LA, n, lc, KA, ks.length, kc, e1 ▸ e2 ▸ e, rfl, rfl, by unfold maxLen; omega, h1, h2.imp _root_.id ?_, h4.imp _root_.id ?_⟩
    · rintro ⟨b, o, e3, _, h5⟩
      exact ⟨b, o, e3, fun k hk => ⟨_, h5 k hk⟩⟩
    · rintro ⟨b, o, e3, _, h5⟩
      refine ⟨b, o, e3, fun k hk => ?_⟩
      obtain ⟨es, _, h6, h7⟩ := h5 k hk
      exact ⟨es, h6, VF.vt d m es h7⟩
end Go.Proofs.Ytncjgfhipflokaa
