/-
  GrantsUsers: the first form's statement.
-/
import Derived.Test.YtncjgfhipflokaaChecked
import Derived.Test.YtncjgfhipflokaaOpen
import Derived.Test.YtncjgfhipflokaaSt
namespace Go.Proofs.Ytncjgfhipflokaa
open Go.ChangeShapes Go.WideShapes Go.ChangeAt Go.RowKit

set_option maxRecDepth 100000 in
theorem users_lifted (os : Os) (started : os.Started) (H : Type) (enc : TypeId × Value → H) :
    ReturnsInHanded {} Try.checked os 4 .any (Rows.grantsUsersSpec.pre6 enc Try.prog Try.f4 Rows.grantsUsersRow.domain false) (Rows.grantsUsersSpec.post enc Try.prog Try.f4 false true false false) := by
  refine returnsInHanded_of_change (C := Try.checked) own0 started (by kernel_rfl) Try.func4
    (ChangeSpec.witness6 (enc := enc) (C := Try.checked) false ⟨#[], #[.agg #[.int .u64 0, .slice none 0 0, .slice none 0 0, .slice none 0 0], .string ⟨#[]⟩], []⟩ 8 (by kernel_rfl) (by kernel_rfl) (by kernel_rfl) (by kernel_rfl)) ?_
  intro W base args ds gs before hval0 hW _ _
  have hval : ∀ (j : Nat) t v, Try.f4.params[j]? = some t → args[j]? = some v → Value.okWide Try.prog W .any base t v := hval0
  have hW' := hW
  obtain ⟨p, q, hA0, hV, rfl, hfz, hnd⟩ := hW
  have hA : DataW.TrodAll enc Try.prog W 0 (fun _ => true) true Try.f4.params.toList args.toList ds p := hA0
  rw [Try.params4] at hA hval
  obtain ⟨v0, vs0, d0, ds0, p0, q0, hargs, rfl, rfl, h0, r0⟩ := trodAll_cons hA
  obtain ⟨v1, vs1, d1, ds1, p1, q1, rfl, rfl, rfl, h1, r1⟩ := trodAll_cons r0
  obtain ⟨rfl, rfl, rfl⟩ := trodAll_nil r1
  obtain rfl : args = #[v0, v1] := by cases args; simp_all
  obtain ⟨rfl, rfl⟩ := trodVars_none hV
  obtain ⟨sq, dv, lv, sv, docs, rfl, hds, hlv, hsv⟩ := open_state (hval 0 27 v0 rfl rfl) h0
  obtain ⟨u, rfl, _⟩ := open_text (hval 1 9 v1 rfl rfl) h1
  refine (GrantsUsers_any W.heap.size docs sq dv lv sv u W (Nat.le_refl _) hds hlv hsv).mono ?_
  rintro e W' ⟨rfl, hbel⟩
  exact ⟨_, rfl, post_true hW' rfl rfl rfl rfl rfl (fun t ht => by
    have : t = 27 ∨ t = 9 := by simpa [Try.params4] using ht
    rcases this with rfl | rfl <;> exact ⟨by kernel_rfl, of_decide_eq_true (by kernel_rfl)⟩) hbel⟩

theorem grantsUsersProved : Rows.GrantsUsersSaid :=
  OpenClaim.holds_of_wide 4 Try.f4 rfl rfl rfl rfl rfl rfl rfl ⟨rfl, rfl, rfl, rfl, rfl⟩ rfl rfl rfl rfl rfl (by kernel_rfl) Try.func4 (by kernel_rfl)
    (of_decide_eq_true (by kernel_rfl)) (by unfold Func.isWrapper; first | (rw [if_pos (by decide +kernel)]; kernel_rfl) | (rw [if_neg (by decide +kernel)]; exact ⟨rfl, rfl⟩))
    (fun os started H enc _ => users_lifted os started H enc)
end Go.Proofs.Ytncjgfhipflokaa
