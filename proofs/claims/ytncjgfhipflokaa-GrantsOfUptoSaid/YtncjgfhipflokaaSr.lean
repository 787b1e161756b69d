/-
  tidewracklaw14.Long; operations on ints and bools for the laws.
-/
import Derived.Test.YtncjgfhipflokaaSq
namespace Go.Proofs.Ytncjgfhipflokaa
open Go.RowKit Go.Shelf Hp Go.Maps

theorem DS.low1 {T T' : World → Value → Prop} {B0 : Nat} {w w' : World} {v : Value} {l : List Doc} (h : DS T B0 w v l) (hT : ∀ v, T w v → T' w' v) (hl : Low B0 w w') : DS T' B0 w' v l := by
  obtain ⟨A, c, h1, h2, h3, h4⟩ := h
  refine ⟨A, c, h1, h2, h3, h4.low hl fun _ _ h5 => ?_⟩
  obtain ⟨d, h6, sq, nd, ch, gr, gn, h7, h8, h9, h10, h11, h12⟩ := h5
  exact ⟨d, h6, sq, nd, ch, gr, gn, h7, h8, h9.low hl, h10.low hl, h11, hT nd h12⟩
theorem DS.any {T : World → Value → Prop} {B0 : Nat} {w : World} {v : Value} {l : List Doc} (h : DS T B0 w v l) : DS (fun _ _ => True) B0 w v l := h.low1 (fun _ _ => trivial) (Low.refl _ _)
theorem VT.below {w W : World} (hb : Below w.heap.size w W) : ∀ (m : Nat) (cs : List Value), VT w m cs → VT W m cs := by
  intro m
  induction m with
  | zero => exact fun cs h => h
  | succ m ih =>
    rintro cs ⟨k0, k1, tx, LA, ln, lc, KA, kn, kc, h1, h2, h3, h4, h5, h6, h7⟩
    refine ⟨k0, k1, tx, LA, ln, lc, KA, kn, kc, h1, h2, h3, h4, h5, h6.imp _root_.id ?_, h7.imp _root_.id ?_⟩
    · rintro ⟨b, o, e, h⟩
      exact ⟨b, o, e, fun k hk => by obtain ⟨s, hs⟩ := h k hk; exact ⟨s, below_cell hb hs⟩⟩
    · rintro ⟨b, o, e, h⟩
      exact ⟨b, o, e, fun k hk => by obtain ⟨cs', h8, h9⟩ := h k hk; exact ⟨cs', fun j v hj => below_cell hb (h8 j v hj), ih _ h9⟩⟩
theorem TreeT.below {w W : World} (hb : Below w.heap.size w W) {v : Value} (h : TreeT w v) : TreeT W v := by
  obtain ⟨A, n, c, h1, h2, h3⟩ := h
  refine ⟨A, n, c, h1, h2, h3.imp _root_.id ?_⟩
  rintro ⟨b, o, e, h⟩
  exact ⟨b, o, e, fun k hk => by obtain ⟨cs', h8, h9⟩ := h k hk; exact ⟨cs', fun j v hj => below_cell hb (h8 j v hj), VT.below hb _ _ h9⟩⟩
theorem LocT.below {w W : World} (hb : Below w.heap.size w W) {v : Value} (h : LocT w v) : LocT W v := by
  obtain ⟨A, n, c, h1, h2, h3⟩ := h
  refine ⟨A, n, c, h1, h2, h3.imp _root_.id ?_⟩
  rintro ⟨b, o, e, h⟩
  exact ⟨b, o, e, fun k hk => by obtain ⟨s, hs⟩ := h k hk; exact ⟨s, below_cell hb hs⟩⟩
theorem SeenT.below {w W : World} (hb : Below w.heap.size w W) {v : Value} (h : SeenT w v) : SeenT W v := by
  obtain ⟨A, n, c, h1, h2, h3⟩ := h
  refine ⟨A, n, c, h1, h2, h3.imp _root_.id ?_⟩
  rintro ⟨b, o, e, h⟩
  exact ⟨b, o, e, fun k hk => by obtain ⟨s, u, x, h1, h2, h3⟩ := h k hk; exact ⟨s, u, x, below_cell hb h1, below_cell hb h2, below_cell hb h3⟩⟩

set_option maxHeartbeats 1000000 in
set_option maxRecDepth 4000 in
theorem long_any (B0 : Nat) (docs : List Doc) (sq : Int) (dv lv sv : Value) (w : World) (hds : DS TreeT B0 w dv docs) (hlv : LocT w lv) (hsv : SeenT w sv) :
    Calls Try.prog 7 #[.agg (stV sq dv lv sv)] w fun e w' => (∃ b, e = .returned (.bool b) ∧ (b = false → Small docs)) ∧ Below w.heap.size w w' := by
  obtain ⟨DA, dc, rfl, hdc, hdm, hde⟩ := (show DS TreeT B0 w dv docs from hds)
  obtain ⟨LA, ln, lc, rfl, hlm, hle⟩ := (show LocT w lv from hlv)
  obtain ⟨SA, sn, sc, rfl, hsm, hse⟩ := (show SeenT w sv from hsv)
  obtain ⟨N, hN⟩ : ∃ N, N = w.heap.size := ⟨_, rfl⟩
  obtain ⟨W1, hW1⟩ : ∃ W1, W1 = w.alloc (.cells (stV sq (.slice DA docs.length dc) (.slice LA ln lc) (.slice SA sn sc)) 27) := ⟨_, rfl⟩
  have hrow : W1.heap[N]? = some (.cells (stV sq (.slice DA docs.length dc) (.slice LA ln lc) (.slice SA sn sc)) 27 (0, 0)) := by rw [hW1, hN]; exact World.alloc_heap_new w _
  have hbel : Below w.heap.size w W1 := by rw [hW1]; exact (Below.refl _ w).alloc (Nat.le_refl _) _
  have hr1 : W1.cell? ⟨N, 1, none⟩ = some (.slice DA docs.length dc) := cell_of_row W1 N 1 _ _ _ hrow
  have hr2 : W1.cell? ⟨N, 2, none⟩ = some (.slice LA ln lc) := cell_of_row W1 N 2 _ _ _ hrow
  have hr3 : W1.cell? ⟨N, 3, none⟩ = some (.slice SA sn sc) := cell_of_row W1 N 3 _ _ _ hrow
  have hrw := longRows_any B0 docs _ _ _ W1 (hds.low1 (fun v h => TreeT.below hbel h) (Low.of_all hbel)) (hlv.below hbel) (hsv.below hbel)
  have HRW := Lib.hid hrw
  have HBEL := Lib.hid hbel
  have HROW := Lib.hid hrow
  have HN := Lib.hid hN
  clear hrw hbel hrow hds hlv hsv hdc hdm hde hlm hle hsm hse
  go_enter Try.func7, Try.ntmps7
  go_upto_region 1 with fail
  rw [← HN.out, ← hW1]
  clear hN hW1
  go_wp2_with fail
  refine HRW.out.mono ?_
  rintro e w2 ⟨⟨b, rfl, hb⟩, hb2⟩
  have HB := Lib.hid hb
  have HB2 := Lib.hid (HBEL.out.trans (hb2.mono HBEL.out.size))
  clear hb2 hb HRW
  go_wp2_with fail
  go_ret
  exact ⟨⟨b, rfl, HB.out⟩, HB2.out⟩
end Go.Proofs.Ytncjgfhipflokaa
