/-
  States in memory: what is read of them.
-/
import Derived.Test.YtncjgfhipflokaaGf
namespace Go.Proofs.Ytncjgfhipflokaa
open Go.RowKit Hp

/-- what a document tells here -/
structure Doc where
  id : S
  chans : List S
  grants : List (S × S)
/-- B is as A below B0 -/
def Low (B0 : Nat) (A B : World) : Prop := ∀ k o, k < B0 → A.heap[k]? = some o → B.heap[k]? = some o
theorem Low.refl (B0 : Nat) (A : World) : Low B0 A A := fun _ _ _ h => h
theorem Low.trans {B0 : Nat} {A B C : World} (h : Low B0 A B) (h' : Low B0 B C) : Low B0 A C := fun k o hk h0 => h' k o hk (h k o hk h0)
theorem Low.of_below {B0 B : Nat} {w w' : World} (h : Below B w w') (hB : B0 ≤ B) : Low B0 w w' := fun k o hk h0 => by
  have hlt := blk_lt h0
  exact (h.block k (by omega)).trans h0
theorem Low.of_all {B0 : Nat} {w w' : World} (h : Below w.heap.size w w') : Low B0 w w' := fun _ _ _ h0 => blk_below h0 h
theorem Low.mono {B0 B1 : Nat} {A B : World} (h : Low B0 A B) (hB : B1 ≤ B0) : Low B1 A B := fun k o hk h0 => h k o (by omega) h0
/-- a row of cells that lies below B0 -/
def Cells (B0 : Nat) (w : World) (b o : Nat) (cs : List Value) : Prop := b < B0 ∧ ∀ j v, cs[j]? = some v → w.cell? ⟨b, o + j, none⟩ = some v
theorem Cells.low {B0 b o : Nat} {w w' : World} {cs : List Value} (h : Cells B0 w b o cs) (hl : Low B0 w w') : Cells B0 w' b o cs :=
  ⟨h.1, fun j v hj => by
    have h0 := h.2 j v hj
    have hlt := cell_lt h0
    have hg : w.heap[b]? = some w.heap[b] := by simp [hlt]
    have hg' := hl b _ h.1 hg
    have : w'.cell? ⟨b, o + j, none⟩ = w.cell? ⟨b, o + j, none⟩ := by simp [World.cell?, hg, hg']
    rw [this]; exact h0⟩
/-- n elements of m cells each -/
def Elems (B0 : Nat) (w : World) (m : Nat) (A : Option Addr) (n : Nat) (F : Nat → List Value → Prop) : Prop :=
  n = 0 ∨ ∃ b o, A = some ⟨b, o, none⟩ ∧ ∀ k, k < n → ∃ cs, cs.length = m ∧ Cells B0 w b (o + k * m) cs ∧ F k cs
theorem Elems.low {B0 m n : Nat} {w w' : World} {A : Option Addr} {F F' : Nat → List Value → Prop} (h : Elems B0 w m A n F) (hl : Low B0 w w') (hF : ∀ k cs, F k cs → F' k cs) : Elems B0 w' m A n F' := by
  rcases h with h | ⟨b, o, rfl, h⟩
  · exact .inl h
  · refine .inr ⟨b, o, rfl, fun k hk => ?_⟩
    obtain ⟨cs, h1, h2, h3⟩ := h k hk
    exact ⟨cs, h1, h2.low hl, hF k cs h3⟩
/-- texts in a slice -/
def SS (B0 : Nat) (w : World) (v : Value) (l : List S) : Prop := ∃ A c, v = .slice A l.length c ∧ l.length ≤ c ∧ c ≤ maxLen ∧ (∀ x ∈ l, x.length ≤ maxLen) ∧ Elems B0 w 1 A l.length (fun k cs => cs = [encStr (at_ l k)])
/-- grants in a slice -/
def GS (B0 : Nat) (w : World) (v : Value) (l : List (S × S)) : Prop := ∃ A c, v = .slice A l.length c ∧ l.length ≤ c ∧ c ≤ maxLen ∧ (∀ x ∈ l, x.1.length ≤ maxLen ∧ x.2.length ≤ maxLen) ∧ Elems B0 w 2 A l.length (fun k cs => ∃ x, l[k]? = some x ∧ cs = [encStr x.1, encStr x.2])
theorem SS.low {B0 : Nat} {w w' : World} {v : Value} {l : List S} (h : SS B0 w v l) (hl : Low B0 w w') : SS B0 w' v l := by
  obtain ⟨A, c, h1, h2, h3, h4, h5⟩ := h
  exact ⟨A, c, h1, h2, h3, h4, h5.low hl fun _ _ h => h⟩
theorem GS.low {B0 : Nat} {w w' : World} {v : Value} {l : List (S × S)} (h : GS B0 w v l) (hl : Low B0 w w') : GS B0 w' v l := by
  obtain ⟨A, c, h1, h2, h3, h4, h5⟩ := h
  exact ⟨A, c, h1, h2, h3, h4, h5.low hl fun _ _ h => h⟩
/-- the cells of a document -/
def docC (id : S) (sq : Int) (nd ch gr : Value) (gn : Int) : List Value := [encStr id, .int .u64 sq, nd, ch, gr, .int .i64 gn]
/-- a document's cells read so; T: what is known of its tree -/
def DocR (T : World → Value → Prop) (B0 : Nat) (w : World) (d : Doc) (cs : List Value) : Prop :=
  ∃ sq nd ch gr gn, cs = docC d.id sq nd ch gr gn ∧ d.id.length ≤ maxLen ∧ SS B0 w ch d.chans ∧ GS B0 w gr d.grants ∧ (∃ A n c, nd = .slice A n c) ∧ T w nd
theorem DocR.low {T : World → Value → Prop} (hT : ∀ B0 w w' v, Low B0 w w' → T w v → T w' v) {B0 : Nat} {w w' : World} {d : Doc} {cs : List Value} (h : DocR T B0 w d cs) (hl : Low B0 w w') : DocR T B0 w' d cs := by
  obtain ⟨sq, nd, ch, gr, gn, h1, h2, h3, h4, h5, h6⟩ := h
  exact ⟨sq, nd, ch, gr, gn, h1, h2, h3.low hl, h4.low hl, h5, hT B0 w w' nd hl h6⟩
/-- documents in a slice -/
def DS (T : World → Value → Prop) (B0 : Nat) (w : World) (v : Value) (l : List Doc) : Prop := ∃ A c, v = .slice A l.length c ∧ l.length ≤ c ∧ c ≤ maxLen ∧ Elems B0 w 6 A l.length (fun k cs => ∃ d, l[k]? = some d ∧ DocR T B0 w d cs)
theorem DS.low {T : World → Value → Prop} (hT : ∀ B0 w w' v, Low B0 w w' → T w v → T w' v) {B0 : Nat} {w w' : World} {v : Value} {l : List Doc} (h : DS T B0 w v l) (hl : Low B0 w w') : DS T B0 w' v l := by
  obtain ⟨A, c, h1, h2, h3, h4⟩ := h
  exact ⟨A, c, h1, h2, h3, h4.low hl fun _ _ ⟨d, h5, h6⟩ => ⟨d, h5, h6.low hT hl⟩⟩
/-- all grants, one document behind the other -/
def pairs (l : List Doc) : List (S × S) := (l.map (·.grants)).flatten

section
variable {P : Program} {Q : Exit → Act → World → Prop} {o : Oper} {a : Act} {w : World} {K : Act → World → Prop} {ops : Array Oper} {rest : List Oper}
/-- a row loaded out of the midst of a block -/
theorem run_loadVar_at (w : World) (g off : Nat) (ty : TypeId) (cs : List Value) (d : TypeDesc) (hc : ∀ j v, cs[j]? = some v → w.cell? ⟨g, off + j, none⟩ = some v)
    (hu : P.underlying ty = some d) (hd : (match d with | .struct _ | .array _ _ => true | _ => false) = true) (hi : (P.info? ty).map (·.size) = some cs.length) :
    (loadVar ty ⟨g, off, none⟩).run P w = .ok (.agg cs.toArray) w := by
  have hl : (loadCells ⟨g, off, none⟩ cs.length).run P w = .ok cs.toArray w :=
    run_loadCells_list (P := P) w ⟨g, off, none⟩ cs (fun j v hv => by
      rw [add_plain]
      exact hc j v hv)
  obtain ⟨i, hi1, hi2⟩ := Option.map_eq_some_iff.1 hi
  have hagg : (isAgg ty).run P w = .ok true w := by
    unfold isAgg
    rw [Sem.run_bind, run_underlying hu w]
    cases d <;> simp_all
  simp [loadVar, Sem.run_bind, hagg, sizeOf, typeInfo, hi1, hi2, hl]
theorem ow_load_at (ty : TypeId) (x : Operand) (ho : o.op = .load ty x) (g off : Nat) (hx : a.eval x = .pointer (some ⟨g, off, none⟩)) (cs : List Value) (d : TypeDesc) (hc : ∀ j v, cs[j]? = some v → w.cell? ⟨g, off + j, none⟩ = some v)
    (hu : P.underlying ty = some d) (hd : (match d with | .struct _ | .array _ _ => true | _ => false) = true) (hi : (P.info? ty).map (·.size) = some cs.length) (h : K (a.put o.dst (.agg cs.toArray)) w) : o.wp P a w K Q := by
  unfold Oper.wp execOp
  simp only [ho, hx, Instr.loadAt, Instr.sureAddr, Sem.run_bind, Sem.run_pure, Result.andThen_ok, run_loadVar_at w g off ty cs d hc hu hd hi]
  exact h
theorem wpList_load_at (hgd : o.guard = none) (ty : TypeId) (x : Operand) (ho : o.op = .load ty x) (g off : Nat) (hx : a.eval x = .pointer (some ⟨g, off, none⟩)) (cs : List Value) (d : TypeDesc) (hc : ∀ j v, cs[j]? = some v → w.cell? ⟨g, off + j, none⟩ = some v)
    (hu : P.underlying ty = some d) (hd : (match d with | .struct _ | .array _ _ => true | _ => false) = true) (hi : (P.info? ty).map (·.size) = some cs.length) (h : wpList P ops Q rest (a.put o.dst (.agg cs.toArray)) w) : wpList P ops Q (o :: rest) a w :=
  wpList_plain hgd fun _ hK => ow_load_at ty x ho g off hx cs d hc hu hd hi (hK _ _ h)
/-- the address of an element of more cells than one -/
theorem wpList_index_n (hgd : o.guard = none) (x y : Operand) (e t : TypeId) (m : Nat) (ho : o.op = .indexAddr t x y) (b j n c k : Nat) (hx : a.eval x = .slice (some ⟨b, j, none⟩) n c) (hy : a.eval y = .int .i64 (k : Int)) (hk : k < n)
    (hu : P.underlying t = some (.slice e)) (hi : (P.info? e).map (·.size) = some m) (h : wpList P ops Q rest (a.put o.dst (.pointer (some ⟨b, j + k * m, none⟩))) w) : wpList P ops Q (o :: rest) a w := by
  refine wpList_plain hgd fun K hK => ow_value (v := .pointer (some ⟨b, j + k * m, none⟩)) ?_ (hK _ _ h)
  obtain ⟨i, hi1, hi2⟩ := Option.map_eq_some_iff.1 hi
  unfold execOp
  simp only [ho, hx, hy]
  simp [go_sem, hu, hk, sizeOf, typeInfo, Sem.run_bind, hi1, hi2, add_plain]
end
end Go.Proofs.Ytncjgfhipflokaa
