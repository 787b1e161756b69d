/-
  tidewrackref14.Find: where a document is.
-/
import Derived.Test.YtncjgfhipflokaaVp
namespace Go.Proofs.Ytncjgfhipflokaa
open Go.RowKit Go.Shelf Hp Go.Maps

def Found (docs : List Doc) (id : S) (z : Int) : Prop := (z = -1 ∧ ∀ d ∈ docs, d.id ≠ id) ∨ ∃ (k : Nat) (d : Doc), z = (k : Int) ∧ docs[k]? = some d ∧ d.id = id ∧ ∀ e ∈ docs.take k, e.id ≠ id
set_option maxHeartbeats 1000000 in
set_option maxRecDepth 4000 in
theorem find_any (docs : List Doc) (sq : Int) (dv lv sv : Value) (w : World) (id : S) (B0 : Nat) (hds : DS (fun _ _ => True) B0 w dv docs) :
    Calls Try.prog 22 #[.agg (stV sq dv lv sv), encStr id] w fun e w' => (∃ z, e = .returned (.int .i64 z) ∧ Found docs id z) ∧ Below w.heap.size w w' := by
  obtain ⟨DA, dc, rows, rfl, h1, h2, hdrw, hcell⟩ := hds.rows
  have hdl1 : docs.length ≤ 9223372036854775807 := by unfold maxLen at h2; omega
  obtain ⟨N, hN⟩ : ∃ N, N = w.heap.size := ⟨_, rfl⟩
  obtain ⟨W0, hW0⟩ : ∃ W0, W0 = w.alloc (.cells (stV sq (.slice DA docs.length dc) lv sv) 27) := ⟨_, rfl⟩
  have hrow : W0.heap[N]? = some (.cells (stV sq (.slice DA docs.length dc) lv sv) 27 (0, 0)) := by rw [hW0, hN]; exact World.alloc_heap_new w _
  have hbel : Below w.heap.size w W0 := by rw [hW0]; exact (Below.refl _ w).alloc (Nat.le_refl _) _
  have hr1 : W0.cell? ⟨N, 1, none⟩ = some (.slice DA docs.length dc) := cell_of_row W0 N 1 _ _ _ hrow
  have HBEL := Lib.hid hbel
  have HN := Lib.hid hN
  have HROWS := Lib.hid hdrw
  have HCELL := Lib.hid hcell
  clear hrow hbel hdrw hcell h1 h2 hds
  go_enter Try.func22, Try.ntmps22
  go_upto_region 1 with fail
  rw [← HN.out, ← hW0]
  clear hN hW0
  go_wp2_with fail
  go_loopw [5] (fun vi wr => ∃ q : Nat, vi = .int .i64 (q : Int) ∧ q ≤ docs.length ∧ wr = W0 ∧ ∀ e ∈ docs.take q, e.id ≠ id) (fun vi _ => docs.length - (intOf vi).toNat)
  case atStart => exact ⟨0, rfl, Nat.zero_le _, rfl, fun e he => absurd he (by simp)⟩
  case round =>
    obtain ⟨q, rfl, hq, hwr, hne⟩ := hrel
    subst wr
    have HNE := Lib.hid hne
    clear hne
    rcases (show q = docs.length ∨ q < docs.length by omega) with rfl | hql
    · have hd : decide ((docs.length : Int) < (docs.length : Int)) = false := by simp
      rw [List.take_length] at HNE
      go_wp2_with fail
      go_ret
      exact ⟨⟨_, rfl, .inl ⟨rfl, HNE.out⟩⟩, HBEL.out⟩
    · have hd : decide ((q : Int) < (docs.length : Int)) = true := by simp; omega
      have hd' : decide (q < docs.length) = true := by simp; omega
      obtain ⟨bd, od, rfl, hbd, hcd⟩ := HCELL.out.resolve_left (by omega)
      have hqr : q < rows.length := by rw [HROWS.out.1]; exact hql
      obtain ⟨e, he⟩ : ∃ e, docs[q]? = some e := ⟨_, List.getElem?_eq_getElem hql⟩
      have hex : W0.cell? ⟨bd, od + q * 6, none⟩ = some (encStr e.id) := by
        have h1 := HROWS.out.2 q rows[q] e (List.getElem?_eq_getElem hqr) he
        obtain ⟨sq1, nd1, ch1, gr1, gn1, h2, _⟩ := h1
        exact below_cell HBEL.out (hcd q 0 _ _ (List.getElem?_eq_getElem hqr) (by rw [h2]; rfl))
      have HE := Lib.hid he
      clear hcd hbd hqr he
      by_cases hxu : e.id = id
      · have hqq : (e.id == id) = true := by simpa using hxu
        have HXU := Lib.hid hxu
        clear hxu
        go_wp2_with (refine wpList_index_n rfl _ _ 45 23 6 rfl bd od docs.length dc q rfl rfl hql Try.underlying23 info45 ?_)
        go_ret
        exact ⟨⟨_, rfl, .inr ⟨q, e, rfl, HE.out, HXU.out, HNE.out⟩⟩, HBEL.out⟩
      · have hqq : (e.id == id) = false := by simpa using hxu
        have HXU := Lib.hid hxu
        clear hxu
        go_wp2_with (refine wpList_index_n rfl _ _ 45 23 6 rfl bd od docs.length dc q rfl rfl hql Try.underlying23 info45 ?_)
        go_roundw
        case rel =>
          refine ⟨q + 1, rfl, by omega, trivial, fun x hx => ?_⟩
          rw [List.take_add_one, HE.out] at hx
          rcases List.mem_append.1 hx with hx | hx
          · exact HNE.out x hx
          · rw [show x = e by simpa using hx]; exact HXU.out
        case measure => simp [intOf]; omega
end Go.Proofs.Ytncjgfhipflokaa
