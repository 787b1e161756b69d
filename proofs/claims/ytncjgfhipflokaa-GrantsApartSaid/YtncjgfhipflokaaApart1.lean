/-
  GrantsApart: a document more, of another name, without grants to a user and without channels of that user's, changes nothing of what the user sees. No conditions (the first form's statement).
-/
import Derived.Test.YtncjgfhipflokaaChecked
import Derived.Test.YtncjgfhipflokaaOpen
import Derived.Test.YtncjgfhipflokaaUd
namespace Go.Proofs.Ytncjgfhipflokaa
open Go.ChangeShapes Go.WideShapes Go.ChangeAt Go.RowKit

/-- a document -/
theorem open_doc {H : Type} {enc : TypeId × Value → H} {W : World} {v : Value} {d : DataW H} {ps : List MemPlace} {base : Nat} (hval : Value.okWide Try.prog W .any base 45 v) (h : DataW.Trod enc Try.prog W 0 (fun _ => true) true 45 v d ps) :
    ∃ (e : Doc) (cs : List Value), v = .agg cs.toArray ∧ DocR TreeT W.heap.size W e cs := by
  simp only [Value.okWide, Try.underlying45] at hval
  obtain ⟨cs, rfl, -, -⟩ := hval
  obtain ⟨fuel, h⟩ := h
  obtain ⟨e, r⟩ := trod_doc h
  simp only [Value.cells] at r
  exact ⟨e, cs.toList, by simp, r⟩

set_option maxRecDepth 100000 in
theorem apart_lifted (os : Os) (started : os.Started) (H : Type) (enc : TypeId × Value → H) :
    ReturnsInHanded {} Try.checked os 5 .any (Rows.grantsApartSpec.pre6 enc Try.prog Try.f5 Rows.grantsApartRow.domain false) (Rows.grantsApartSpec.post enc Try.prog Try.f5 false true false false) := by
  refine returnsInHanded_of_change (C := Try.checked) own0 started (by kernel_rfl) Try.func5
    (ChangeSpec.witness6 (enc := enc) (C := Try.checked) false ⟨#[], #[.agg #[.int .u64 0, .slice none 0 0, .slice none 0 0, .slice none 0 0], .agg #[.string ⟨#[]⟩, .int .u64 0, .slice none 0 0, .slice none 0 0, .slice none 0 0, .int .i64 0], .string ⟨#[]⟩, .int .i64 0], []⟩ 8 (by kernel_rfl) (by kernel_rfl) (by kernel_rfl) (by kernel_rfl)) ?_
  intro W base args ds gs before hval0 hW _ _
  have hval : ∀ (j : Nat) t v, Try.f5.params[j]? = some t → args[j]? = some v → Value.okWide Try.prog W .any base t v := hval0
  have hW' := hW
  obtain ⟨p, q, hA0, hV, rfl, hfz, hnd⟩ := hW
  have hA : DataW.TrodAll enc Try.prog W 0 (fun _ => true) true Try.f5.params.toList args.toList ds p := hA0
  rw [Try.params5] at hA hval
  obtain ⟨v0, vs0, d0, ds0, p0, q0, hargs, rfl, rfl, h0, r0⟩ := trodAll_cons hA
  obtain ⟨v1, vs1, d1, ds1, p1, q1, rfl, rfl, rfl, h1, r1⟩ := trodAll_cons r0
  obtain ⟨v2, vs2, d2, ds2, p2, q2, rfl, rfl, rfl, h2, r2⟩ := trodAll_cons r1
  obtain ⟨v3, vs3, d3, ds3, p3, q3, rfl, rfl, rfl, h3, r3⟩ := trodAll_cons r2
  obtain ⟨rfl, rfl, rfl⟩ := trodAll_nil r3
  obtain rfl : args = #[v0, v1, v2, v3] := by cases args; simp_all
  obtain ⟨rfl, rfl⟩ := trodVars_none hV
  obtain ⟨sq, dv, lv, sv, docs, rfl, hds, hlv, hsv⟩ := open_state (hval 0 27 v0 rfl rfl) h0
  obtain ⟨d, dcs, rfl, hdr⟩ := open_doc (hval 1 45 v1 rfl rfl) h1
  obtain ⟨u, rfl, _⟩ := open_text (hval 2 9 v2 rfl rfl) h2
  obtain ⟨n3, rfl, rfl, rfl, wf3⟩ := open_int Try.underlying3 (hval 3 3 v3 rfl rfl) h3
  refine (GrantsApart_any W.heap.size docs sq dv lv sv d dcs u n3 (by simpa [Lit.wf, IntKind.min, IntKind.max, IntKind.signed, IntKind.bits] using wf3) W (Nat.le_refl _) hds hlv hsv hdr).mono ?_
  rintro e W' ⟨rfl, hbel⟩
  exact ⟨_, rfl, post_true hW' rfl rfl rfl rfl rfl (fun t ht => by
    have : t = 27 ∨ t = 45 ∨ t = 9 ∨ t = 3 := by simpa [Try.params5] using ht
    rcases this with rfl | rfl | rfl | rfl <;> exact ⟨by kernel_rfl, of_decide_eq_true (by kernel_rfl)⟩) hbel⟩

theorem grantsApartProved : Rows.GrantsApartSaid :=
  OpenClaim.holds_of_wide 5 Try.f5 rfl rfl rfl rfl rfl rfl rfl ⟨rfl, rfl, rfl, rfl, rfl⟩ rfl rfl rfl rfl rfl (by kernel_rfl) Try.func5 (by kernel_rfl)
    (of_decide_eq_true (by kernel_rfl)) (by unfold Func.isWrapper; first | (rw [if_pos (by decide +kernel)]; kernel_rfl) | (rw [if_neg (by decide +kernel)]; exact ⟨rfl, rfl⟩))
    (fun os started H enc _ => apart_lifted os started H enc)
end Go.Proofs.Ytncjgfhipflokaa
