/-
  GrantsMore: a grant more, in whatever document, takes nothing away of what anybody sees; who is granted a channel sees the documents in it. Condition: what comes in is of bulk at most 1048576 (the second form's statement).
-/
import Derived.Test.YtncjgfhipflokaaChecked
import Derived.Test.YtncjgfhipflokaaVo
import Derived.Test.YtncjgfhipflokaaVh
namespace Go.Proofs.Ytncjgfhipflokaa
open Go.ChangeShapes Go.WideShapes Go.ChangeAt Go.RowKit Hp

/-- a grant -/
theorem open_grant {H : Type} {enc : TypeId × Value → H} {W : World} {v : Value} {d : DataW H} {ps : List MemPlace} {base : Nat} (hval : Value.okWide Try.prog W .any base 48 v) (h : DataW.Trod enc Try.prog W 0 (fun _ => true) true 48 v d ps) :
    ∃ g : S × S, v = .agg #[encStr g.1, encStr g.2] ∧ g.1.length ≤ maxLen ∧ g.2.length ≤ maxLen := by
  simp only [Value.okWide, Try.underlying48] at hval
  obtain ⟨cs, rfl, -, -⟩ := hval
  obtain ⟨fuel, h⟩ := h
  obtain ⟨k8, k9⟩ := trod_struct Try.underlying48 c48 h
  obtain ⟨_, _, t0⟩ : ∃ g z, DataW.trod enc Try.prog W 0 (fun _ => true) true g 9 (((Value.agg cs).cells.toList.drop 0).take (Try.prog.cellsOf 9)) = some z := k9 0 _ rfl
  rw [c9] at t0
  obtain ⟨_, _, t1⟩ : ∃ g z, DataW.trod enc Try.prog W 0 (fun _ => true) true g 9 (((Value.agg cs).cells.toList.drop 1).take (Try.prog.cellsOf 9)) = some z := k9 1 _ rfl
  rw [c9] at t1
  obtain ⟨p0, p1, e⟩ := list2 k8
  rw [e] at t0 t1
  obtain ⟨s, q0, l0⟩ := trod_text t0
  obtain ⟨s', q1, l1⟩ := trod_text t1
  have q0' : [p0] = [encStr s] := q0
  have q1' : [p1] = [encStr s'] := q1
  injection q0' with q0'; injection q1' with q1'
  subst q0' q1'
  have e2 : cs.toList = [encStr s, encStr s'] := e
  exact ⟨(s, s'), by rw [← Array.toArray_toList (xs := cs), e2], l0, l1⟩

set_option maxRecDepth 100000 in
theorem more_contract (H : Type) (enc : TypeId × Value → H) (W : World) (base : Nat) (args : Array Value) (ds gs : List (DataW H)) (before : List MemPlace)
    (hval : ∀ (j : Nat) t v, Try.f6.params[j]? = some t → args[j]? = some v → Value.okWide Try.prog W .any base t v)
    (hW : DataW.Whole enc Try.prog Try.f6.params.toList Rows.grantsMoreSpec.vars false W args.toList ds gs before) (hk : Rows.uptoSmall H (ds ++ gs) = true) :
    Calls Try.prog 6 args W fun e W' => ∃ v, e = .returned v ∧ Rows.grantsMoreSpec.post enc Try.prog Try.f6 false true false false W args v W' := by
  have hW' := hW
  obtain ⟨p, q, hA0, hV, rfl, hfz, hnd⟩ := hW
  have hA : DataW.TrodAll enc Try.prog W 0 (fun _ => true) true Try.f6.params.toList args.toList ds p := hA0
  rw [Try.params6] at hA hval
  obtain ⟨v0, vs0, d0, ds0, p0, q0, hargs, rfl, rfl, h0, r0⟩ := trodAll_cons hA
  obtain ⟨v1, vs1, d1, ds1, p1, q1, rfl, rfl, rfl, h1, r1⟩ := trodAll_cons r0
  obtain ⟨v2, vs2, d2, ds2, p2, q2, rfl, rfl, rfl, h2, r2⟩ := trodAll_cons r1
  obtain ⟨v3, vs3, d3, ds3, p3, q3, rfl, rfl, rfl, h3, r3⟩ := trodAll_cons r2
  obtain ⟨rfl, rfl, rfl⟩ := trodAll_nil r3
  obtain rfl : args = #[v0, v1, v2, v3] := by cases args; simp_all
  obtain ⟨rfl, rfl⟩ := trodVars_none hV
  have hb : Rows.uptoBulk d0 + (Rows.uptoBulk d1 + (Rows.uptoBulk d2 + Rows.uptoBulk d3)) ≤ 1048576 := by simpa [Rows.uptoSmall, Rows.uptoBulkAll] using hk
  obtain ⟨sq, dv, lv, sv, docs, rfl, hds, hlv, hsv⟩ := open_state (hval 0 27 v0 rfl rfl) h0
  have hb0 : Rows.uptoBulk d0 ≤ 1048576 := by omega
  have ho2 := open_state2 h0 hb0
  obtain ⟨n, ln, sn, hd0, hl0, hs0⟩ := ho2
  obtain ⟨g, rfl, hg⟩ := open_grant (hval 1 48 v1 rfl rfl) h1
  obtain ⟨n2, rfl, rfl, rfl, wf2⟩ := open_int Try.underlying3 (hval 2 3 v2 rfl rfl) h2
  obtain ⟨u, rfl, _⟩ := open_text (hval 3 9 v3 rfl rfl) h3
  refine (GrantsMore_any docs sq dv lv sv 1048576 n ln sn g hg n2 (by simpa [Lit.wf, IntKind.min, IntKind.max, IntKind.signed, IntKind.bits] using wf2) u W hds hlv hsv hd0 (hl0.weak fun es h => h.one) (hs0.weak fun es h => h.one)).mono ?_
  rintro e W' ⟨rfl, hbel⟩
  exact ⟨_, rfl, post_true hW' rfl rfl rfl rfl rfl (fun t ht => by
    have : t = 27 ∨ t = 48 ∨ t = 3 ∨ t = 9 := by simpa [Try.params6] using ht
    rcases this with rfl | rfl | rfl | rfl <;> exact ⟨by kernel_rfl, of_decide_eq_true (by kernel_rfl)⟩) hbel⟩

set_option maxRecDepth 100000 in
theorem more_lifted (os : Os) (started : os.Started) (H : Type) (enc : TypeId × Value → H) (F : Stop.Interp) :
    ReturnsInHanded {} Try.checked os 6 .any ((Rows.OpenSpec.upto Rows.grantsMoreSpec).pre6 enc Try.prog Try.f6 Rows.grantsMoreUptoRow.domain false) (((Rows.OpenSpec.upto Rows.grantsMoreSpec).at F).post enc Try.prog Try.f6 false true false false) := by
  refine returnsInHanded_of_cond (C := Try.checked) (s := Rows.OpenSpec.upto Rows.grantsMoreSpec) (k := Rows.uptoSmall) rfl own0 started (by kernel_rfl) Try.func6
    (OpenSpec.witness (enc := enc) (C := Try.checked) (s := Rows.OpenSpec.upto Rows.grantsMoreSpec) (k := Rows.uptoSmall) rfl false ⟨#[], #[.agg #[.int .u64 0, .slice none 0 0, .slice none 0 0, .slice none 0 0], .agg #[.string ⟨#[]⟩, .string ⟨#[]⟩], .int .i64 0, .string ⟨#[]⟩], []⟩ 8 (by kernel_rfl) (by kernel_rfl) (by kernel_rfl)
      (x := ([.agg [.lit (.int .u64 0), .nil, .nil, .nil], .agg [.lit (.string []), .lit (.string [])], .lit (.int .i64 0), .lit (.string [])], [], [])) (by kernel_rfl) rfl (by kernel_rfl)) ?_
  intro W base args ds gs before hval hW _ hk _
  exact more_contract H enc W base args ds gs before hval hW hk

theorem more_over : Rows.grantsMoreUptoRow.holds Try.pinned (Rows.OpenSpec.upto Rows.grantsMoreSpec) :=
  OpenClaim.holds_of_cond 6 Try.f6 rfl rfl rfl rfl rfl rfl rfl ⟨rfl, rfl, rfl, rfl, rfl⟩ rfl rfl rfl rfl rfl (by kernel_rfl) Try.func6 (by kernel_rfl)
    (of_decide_eq_true (by kernel_rfl)) (by unfold Func.isWrapper; first | (rw [if_pos (by decide +kernel)]; kernel_rfl) | (rw [if_neg (by decide +kernel)]; exact ⟨rfl, rfl⟩))
    (fun os started H enc _ F => more_lifted os started H enc F)

theorem grantsMoreProved : Rows.GrantsMoreUptoSaid := more_over
end Go.Proofs.Ytncjgfhipflokaa
