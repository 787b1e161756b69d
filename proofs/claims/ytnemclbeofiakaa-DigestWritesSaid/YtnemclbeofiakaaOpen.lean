/-
  What comes in, opened; what goes out, shut.
-/
import Derived.Test.YtnemclbeofiakaaRows
import Derived.Test.YtnemclbeofiakaaMem
import Derived.Test.YtnemclbeofiakaaWa
import Derived.WalkKit
import Derived.ProofKit
import Derived.OpenShut
import Derived.JoinedCond
import Derived.Deep.Matrix
namespace Go.Proofs.Ytnemclbeofiakaa
open Go.ChangeShapes Go.WideShapes Go.ChangeAt Go.RowKit

theorem own0 : ownKnob Try.prog.godebug = none := by kernel_rfl
theorem laid0 : laidOutB Try.prog = true := by kernel_rfl

/-- the arguments, read again in a world that has only grown -/
theorem trodAll_below {H : Type} {enc : TypeId × Value → H} {W W' : World} (hb : Below W.heap.size W W') : ∀ (ts : List TypeId) (vs : List Value) (ds : List (DataW H)) (p : List MemPlace),
    DataW.TrodAll enc Try.prog W 0 (fun _ => true) true ts vs ds p → (∀ t ∈ ts, Try.prog.readableRec t = true ∧ t < Try.prog.types.size) → (∀ x ∈ p, x.block < W.heap.size) →
      DataW.TrodAll enc Try.prog W' 0 (fun b => decide (b < W.heap.size)) true ts vs ds p := by
  intro ts
  induction ts with
  | nil =>
    intro vs ds p h _ _
    cases vs <;> cases ds <;> first | exact h | exact h.elim
  | cons t ts ih =>
    intro vs ds p h hr hlt
    cases vs with
    | nil => cases ds <;> exact h.elim
    | cons v vs =>
      cases ds with
      | nil => exact h.elim
      | cons d ds =>
        obtain ⟨p0, q0, h1, h2, rfl⟩ := h
        exact ⟨p0, q0, Below.trod laid0 (hr t (by simp)).1 (hr t (by simp)).2 h1 hb (fun x hx => hlt x (by simp [hx])), ih vs ds q0 h2 (fun t' ht' => hr t' (by simp [ht'])) (fun x hx => hlt x (by simp [hx])), rfl⟩

/-- the post of a law that answers true and leaves what was there -/
theorem post_true {H : Type} {enc : TypeId × Value → H} {f : Func} {s : ChangeSpec} {W W' : World} {args : Array Value} {ds gs : List (DataW H)} {before : List MemPlace}
    (hW : DataW.Whole enc Try.prog f.params.toList s.vars false W args.toList ds gs before) (hvars : s.vars = []) (hr : f.resultTypes = #[4])
    (h1 : (s.fn H (ds ++ gs)).results = [.lit (.bool true)]) (h2 : (s.fn H (ds ++ gs)).args = ds) (h3 : (s.fn H (ds ++ gs)).vars = [])
    (hts : ∀ t ∈ f.params.toList, Try.prog.readableRec t = true ∧ t < Try.prog.types.size) (hb : Below W.heap.size W W') :
    s.post enc Try.prog f false true false false W args (.bool true) W' := by
  have hW' := hW
  obtain ⟨p, q, hA, hV, rfl, _, _⟩ := hW
  rw [hvars] at hV
  obtain ⟨rfl, rfl⟩ := trodVars_none hV
  have hlt : ∀ x ∈ p, x.block < W.heap.size := fun x hx => hW'.lt x (by simp [hx])
  refine ⟨ds, [], p ++ [], [], p, [], hW', ?_, ?_, ?_, hb.frame _, fun h => by cases h⟩
  · rw [h1, hr]
    exact trodAll_cons_mk (shut_bool Try.underlying4 _) trodAll_mk0
  · rw [h2]; exact trodAll_below hb _ _ _ _ hA hts hlt
  · rw [h3, hvars]; exact rfl

theorem spot_none {w : World} {a : Addr} {v : Value} (h : w.cell? a = some v) : a.spot = none := by
  unfold World.cell? at h
  split at h
  · split at h
    · cases h
    · rename_i hs; simpa using hs
  · cases h
theorem addr_plain {a : Addr} (h : a.spot = none) : a = ⟨a.block, a.off, none⟩ := by cases a; simp_all
theorem add0 (a : Addr) : a.add 0 = a := by simp [Addr.add]
def toBytes (zs : List Int) : List UInt8 := zs.map fun n => UInt8.ofNat n.toNat
theorem byte_int {n : Int} (h : (Lit.int .u8 n).wf = true) : ((UInt8.ofNat n.toNat).toNat : Int) = n := by
  have hx : 0 ≤ n ∧ n ≤ 255 := by simpa [Lit.wf, IntKind.min, IntKind.max, IntKind.signed, IntKind.bits] using h
  rw [UInt8.toNat_ofNat']
  omega
/-- cells that hold the numbers zs read as bytes -/
theorem SB_of_nums {w : World} {a : Addr} {n c : Nat} {zs : List Int} (hn : n ≤ zs.length) (hc : n ≤ c) (hs : n ≤ 140737488355328) (hcell : ∀ i, i < n → w.cell? (a.add i) = some (.int .u8 (zs.getD i 0))) (hw : ∀ x ∈ zs, (Lit.int .u8 x).wf = true) :
    SB w (.slice (some a) n c) (toBytes (zs.take n)) := by
  have hl : (toBytes (zs.take n)).length = n := by simp [toBytes]; omega
  refine ⟨some a, c, by rw [hl], by omega, by omega, ?_⟩
  rcases Nat.eq_zero_or_pos n with h0 | h0
  · left; exact List.eq_nil_of_length_eq_zero (by omega)
  · right
    have h1 := hcell 0 h0
    rw [add0] at h1
    have hp := addr_plain (spot_none h1)
    refine ⟨a.block, a.off, by rw [← hp], fun i hi => ?_⟩
    have h2 := hcell i (by omega)
    rw [hp, add_plain] at h2
    rw [h2]
    have hz : i < zs.length := by omega
    have e : (toBytes (zs.take n))[i] = UInt8.ofNat (zs[i]).toNat := by simp [toBytes]
    rw [e, byte_int (hw _ (List.getElem_mem hz))]
    simp [List.getD_eq_getElem?_getD, hz]

theorem one_le {H : Type} (d : DataW H) : 1 ≤ Rows.uptoBulk d := by
  cases d with
  | lit l => cases l <;> simp [Rows.uptoBulk]
  | _ => simp [Rows.uptoBulk]
theorem length_le {H : Type} (l : List (DataW H)) : l.length ≤ Rows.uptoBulkAll l := by
  induction l with
  | nil => simp
  | cons x r ih => have := one_le x; simp only [Rows.uptoBulkAll, List.length_cons]; omega
theorem bulk_slice {H : Type} (a b : List (DataW H)) : a.length + 1 ≤ Rows.uptoBulk (.slice a b) := by
  have := length_le a
  simp only [Rows.uptoBulk]; omega

/-- a []byte -/
theorem open_b {H : Type} {enc : TypeId × Value → H} {W : World} {v : Value} {d : DataW H} {ps : List MemPlace} {base : Nat} (hval : Value.okWide Try.prog W .any base 24 v) (h : DataW.Trod enc Try.prog W 0 (fun _ => true) true 24 v d ps) :
    ∃ A n c, v = .slice A n c ∧ n + 1 ≤ Rows.uptoBulk d ∧ n ≤ maxLen ∧ (n ≤ 140737488355328 → ∃ bs : List UInt8, bs.length = n ∧ SB W (.slice A n c) bs) := by
  obtain ⟨A, n, c, rfl⟩ := okWide_slice Try.underlying24 hval
  obtain ⟨fuel, h⟩ := h
  rcases open_ints Try.underlying24 Try.underlying5 (by kernel_rfl) h with ⟨hcs, hx⟩ | ⟨a, len, cap, zs, hcs, _, hl, hm, hz, hx, hcell, hw⟩
  · have hcs : Value.slice A n c = .slice none 0 0 := by simpa [Value.cells] using hcs
    injection hcs with h1 h2 h3
    subst h1; subst h2; subst h3
    simp only [Prod.mk.injEq] at hx
    exact ⟨none, 0, 0, rfl, one_le d, Nat.zero_le _, fun _ => ⟨[], rfl, _, _, rfl, Nat.le_refl _, by simp, .inl rfl⟩⟩
  · have hcs : Value.slice A n c = .slice (some a) len cap := by simpa [Value.cells] using hcs
    injection hcs with h1 h2 h3
    subst h1; subst h2; subst h3
    simp only [Prod.mk.injEq] at hx
    simp only [if_true] at hz
    obtain ⟨rfl, _⟩ := hx
    refine ⟨some a, n, c, rfl, ?_, by omega, fun hs => ⟨toBytes (zs.take n), by simp [toBytes]; omega, SB_of_nums (by omega) hl hs (fun i hi => hcell i (by omega)) hw⟩⟩
    have h1 := bulk_slice (H := H) (lits .u8 (zs.take n)) (lits .u8 (zs.drop n))
    have h2 : (lits (H := H) .u8 (zs.take n)).length = n := by simp [lits]; omega
    omega

end Go.Proofs.Ytnemclbeofiakaa
