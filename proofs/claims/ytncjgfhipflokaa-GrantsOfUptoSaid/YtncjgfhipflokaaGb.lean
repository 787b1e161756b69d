/-
  A heap of texts behind an interface: what goes up.
-/
import Derived.Test.YtncjgfhipflokaaGa
namespace Go.Proofs.Ytncjgfhipflokaa
open Go.RowKit Hp

/-- all is kept but the heap's own blocks -/
structure Fr (X : Nat → Prop) (p : Nat) (w w' : World) : Prop where
  os : w'.os = w.os
  tape : w'.tape = w.tape
  output : w'.output = w.output
  size : w.heap.size ≤ w'.heap.size
  keep : ∀ k o, w.heap[k]? = some o → k ≠ p → (¬ X k ∨ ∀ cs, o ≠ .cells cs 9 (0, 0)) → w'.heap[k]? = some o
theorem Fr.refl (X : Nat → Prop) (p : Nat) (w : World) : Fr X p w w := ⟨rfl, rfl, rfl, Nat.le_refl _, fun _ _ h _ _ => h⟩
theorem Fr.trans {X : Nat → Prop} {p : Nat} {w w1 w2 : World} (h : Fr X p w w1) (h' : Fr X p w1 w2) : Fr X p w w2 :=
  ⟨h'.os.trans h.os, h'.tape.trans h.tape, h'.output.trans h.output, Nat.le_trans h.size h'.size, fun k o hk hne ho => h'.keep k o (h.keep k o hk hne ho) hne ho⟩
theorem Fr.of_below {X : Nat → Prop} {p : Nat} {w w' : World} (h : Below w.heap.size w w') : Fr X p w w' :=
  ⟨h.os, h.tape, h.output, h.size, fun _ _ hk _ _ => blk_below hk h⟩
theorem Fr.of_own {X : Nat → Prop} {B p : Nat} {w w' : World} {v : Value} {ts : List S} (h : TX w B v ts) (hX : ∀ k, v.ownBlock = some k → X k) (hg : w.grownBy w' v.ownBlock) : Fr X p w w' := by
  refine ⟨hg.os, hg.tape, hg.output, hg.size, fun k o hk _ ho => blk_grown hk hg (fun e => ?_)⟩
  rcases h.2 with ⟨rfl, _⟩ | ⟨g, cap, cur, rfl, hb, hgb, _⟩
  · cases e
  · have hkg : k = g := by simpa [Value.ownBlock] using e
    subst hkg
    rcases ho with ho | ho
    · exact ho (hX k (by simp [Value.ownBlock]))
    · rw [hgb] at hk
      injection hk with hk
      exact ho cur hk.symm
theorem Fr.of_p {X : Nat → Prop} {p : Nat} {w w' : World} (hg : w.grownBy w' (some p)) : Fr X p w w' :=
  ⟨hg.os, hg.tape, hg.output, hg.size, fun _ _ hk hne _ => blk_grown hk hg (fun e => by injection e with e; exact hne e)⟩
theorem Fr.below {X : Nat → Prop} {B p : Nat} {w w' : World} (h : Fr X p w w') (hX : ∀ k, X k → B ≤ k) (hp : B ≤ p) (hB : B ≤ w.heap.size) : Below B w w' := by
  refine ⟨h.os, h.tape, h.output, h.size, fun k hk => ?_⟩
  have hlt : k < w.heap.size := by omega
  have e : w.heap[k]? = some w.heap[k] := by simp [hlt]
  rw [e]
  exact h.keep k _ e (by omega) (.inl (fun hx => by have := hX k hx; omega))

/-- the heap: its variable's block, its texts -/
structure HT (w : World) (B : Nat) (X : Nat → Prop) (p : Nat) (ts : List S) : Prop where
  le : B ≤ p
  at_ : ∃ v, w.heap[p]? = some (.cells #[v] 77 (0, 0)) ∧ TX w B v ts ∧ ∀ k, v.ownBlock = some k → X k
theorem HT.below {w w' : World} {B p : Nat} {X : Nat → Prop} {ts : List S} (h : HT w B X p ts) (hb : Below w.heap.size w w') : HT w' B X p ts := by
  obtain ⟨v, h1, h2, h3⟩ := h.at_
  exact ⟨h.le, v, blk_below h1 hb, h2.below hb, h3⟩
theorem HT.lt {w : World} {B p : Nat} {X : Nat → Prop} {ts : List S} (h : HT w B X p ts) : p < w.heap.size := by obtain ⟨v, h1, _⟩ := h.at_; exact blk_lt h1
theorem HT.own {w w' : World} {B p : Nat} {X : Nat → Prop} {v : Value} {ts ts' : List S} (hX : ∀ k, v.ownBlock = some k → X k) (hle : B ≤ p) (hrow : w.heap[p]? = some (.cells #[v] 77 (0, 0))) (h : TX w B v ts) (h' : TX w' B v ts') (hg : w.grownBy w' v.ownBlock) : HT w' B X p ts' :=
  ⟨hle, v, own_keep h hg hrow (by decide), h', hX⟩

theorem meth_Push (p : Nat) (w : World) : (method 220 76 (.pointer (some ⟨p, 0, none⟩)) "Push").run Try.prog w = .ok (70, .pointer (some ⟨p, 0, none⟩)) w := by kernel_rfl
theorem meth_Pop (p : Nat) (w : World) : (method 220 76 (.pointer (some ⟨p, 0, none⟩)) "Pop").run Try.prog w = .ok (69, .pointer (some ⟨p, 0, none⟩)) w := by kernel_rfl
theorem load77 {w : World} {p : Nat} {A : Option Addr} {n c : Nat} (h : w.cell? ⟨p, 0, none⟩ = some (.slice A n c)) : (loadVar 77 ⟨p, 0, none⟩).run Try.prog w = .ok (.slice A n c) w := by
  simp [go_sem, h, Try.underlying77, isAgg, underlying]
theorem meth_val {w : World} {p : Nat} {A : Option Addr} {n c : Nat} (name : String) (f : FuncId) (hx : (((Try.prog.info? 76).bind fun i => i.methods.find? (·.name == name)).map fun m => (m.func, m.path)) = some (some (f, false), #[])) (h : w.cell? ⟨p, 0, none⟩ = some (.slice A n c)) :
    (method 220 76 (.pointer (some ⟨p, 0, none⟩)) name).run Try.prog w = .ok (f, .slice A n c) w := by
  obtain ⟨m, hm, hmf⟩ := Option.map_eq_some_iff.1 hx
  obtain ⟨i, hi, hfind⟩ := Option.bind_eq_some_iff.1 hm
  injection hmf with h1 h2
  have h3 := load77 h
  have hw : ∀ s1 s2 : String, (Builtin.ssaWrapNilChk_ #[76] 76 #[.pointer (some ⟨p, 0, none⟩), strVal s1, strVal s2]).run Try.prog w = .ok (.pointer (some ⟨p, 0, none⟩)) w := fun _ _ => by kernel_rfl
  unfold method
  simp [typeInfo, hi, hfind, h1, h2, follow, receiverAt, Place.get, run_underlying Try.underlying76, hw, asAddr, h3, Sem.run_bind]
theorem meth_Len {w : World} {p : Nat} {A : Option Addr} {n c : Nat} (h : w.cell? ⟨p, 0, none⟩ = some (.slice A n c)) : (method 220 76 (.pointer (some ⟨p, 0, none⟩)) "Len").run Try.prog w = .ok (38, .slice A n c) w := meth_val "Len" 38 (by kernel_rfl) h
theorem meth_Less {w : World} {p : Nat} {A : Option Addr} {n c : Nat} (h : w.cell? ⟨p, 0, none⟩ = some (.slice A n c)) : (method 220 76 (.pointer (some ⟨p, 0, none⟩)) "Less").run Try.prog w = .ok (68, .slice A n c) w := meth_val "Less" 68 (by kernel_rfl) h
theorem meth_Swap {w : World} {p : Nat} {A : Option Addr} {n c : Nat} (h : w.cell? ⟨p, 0, none⟩ = some (.slice A n c)) : (method 220 76 (.pointer (some ⟨p, 0, none⟩)) "Swap").run Try.prog w = .ok (71, .slice A n c) w := meth_val "Swap" 71 (by kernel_rfl) h
theorem row_cell {w : World} {p : Nat} {v : Value} {t : TypeId} (h : w.heap[p]? = some (.cells #[v] t (0, 0))) : w.cell? ⟨p, 0, none⟩ = some v := (cell_of_row w p 0 _ _ _ h).trans rfl

set_option maxRecDepth 4000 in
theorem up_any (B p : Nat) (X : Nat → Prop) (ts : List S) (j : Nat) (w : World) (h : HT w B X p ts) (hu : UpI ts ts.length j) (hj : j < ts.length) (hl : ts.length ≤ 100000) :
    Calls Try.prog 46 #[.iface 76 (.pointer (some ⟨p, 0, none⟩)), .int .i64 (j : Int)] w fun e w' => e = .returned (.tuple #[]) ∧ ∃ ts', ts'.Perm ts ∧ HP ts' ts'.length ∧ HT w' B X p ts' ∧ Fr X p w w' := by
  have HH := Lib.hid h
  have HU := Lib.hid hu
  clear h hu
  go_enter Try.func46, Try.ntmps46
  go_wp2_with fail
  go_loopw [1] (fun jv wr => ∃ (q : Nat) (us : List S), jv = .int .i64 (q : Int) ∧ q < us.length ∧ us.Perm ts ∧ UpI us us.length q ∧ HT wr B X p us ∧ Fr X p w wr) (fun jv _ => (intOf jv).toNat)
  case atStart => exact ⟨j, ts, rfl, hj, List.Perm.refl _, HU.out, HH.out, Fr.refl _ _ _⟩
  case round =>
    clear HH HU
    obtain ⟨q, us, rfl, hq, hpm, hu, hh, hf⟩ := hrel
    have hlen : us.length ≤ 100000 := by rw [hpm.length_eq]; exact hl
    have HH := Lib.hid hh
    have HU := Lib.hid hu
    have HP := Lib.hid hpm
    have HF := Lib.hid hf
    clear hh hu hpm hf
    rcases Nat.eq_zero_or_pos q with rfl | hq0
    · go_wp2_with fail
      go_end0
      exact ⟨rfl, us, HP.out, HU.out.stop (.inl rfl), HH.out, HF.out⟩
    · obtain ⟨v, hrow, htx, hX⟩ := HH.out.at_
      obtain ⟨A, c, rfl⟩ := htx.shape
      have hml := meth_Less (row_cell hrow)
      have hq1 : ((q : Int) - 1).tdiv 2 = ((par q : Nat) : Int) := by rw [Int.tdiv_eq_ediv_of_nonneg (by omega)]; unfold par; omega
      have hq2 : ((q : Int) - 1) / 2 = ((par q : Nat) : Int) := by unfold par; omega
      have hpl := par_lt hq0
      obtain ⟨i, hi⟩ : ∃ i, i = par q := ⟨_, rfl⟩
      rw [← hi] at hq1 hq2 hpl
      have hne : ((i : Int) == (q : Int)) = false := by rw [beq_eq_false_iff_ne]; omega
      have HI := Lib.hid hi
      have HT0 := Lib.hid htx
      have HR0 := Lib.hid hrow
      clear hi htx hrow
      go_wp2_with fail
      refine (Less_any wr B _ us q i HT0.out hq (by omega)).mono ?_
      rintro e w1 ⟨rfl, hb1⟩
      have HT1 := Lib.hid (HT0.out.below hb1)
      have HR1 := Lib.hid (blk_below HR0.out hb1)
      have HF1 := Lib.hid (HF.out.trans (Fr.of_below hb1))
      have HH1 := Lib.hid (HH.out.below hb1)
      clear hb1 HT0 HR0 HF HH hml hq1 hq2
      have hms := meth_Swap (row_cell HR1.out)
      by_cases hlt : at_ us q < at_ us i
      · rw [decide_eq_true hlt]
        have HLT := Lib.hid hlt
        clear hlt
        go_wp2_with fail
        refine (Swap_any w1 B _ us i q HT1.out (by omega) hq).mono ?_
        rintro e w2 ⟨rfl, htx2, hgr⟩
        have HH2 := Lib.hid (HT.own hX HH1.out.le HR1.out HT1.out htx2 hgr)
        have HF2 := Lib.hid (HF1.out.trans (Fr.of_own HT1.out hX hgr))
        clear htx2 hgr
        go_wp2_with fail
        go_roundw
        case rel =>
          have hst := HU.out.step (Nat.le_refl _) hq0 hq (by rw [← HI.out]; exact HLT.out)
          rw [← HI.out] at hst
          exact ⟨i, swapL us i q, rfl, by rw [swap_length]; omega, (swap_perm us i q (by omega) hq).trans HP.out, by rw [swap_length]; exact hst, HH2.out, HF2.out⟩
        case measure => simp [intOf]; omega
      · rw [decide_eq_false hlt]
        have HLT := Lib.hid hlt
        clear hlt
        go_wp2_with fail
        go_end0
        exact ⟨rfl, us, HP.out, HU.out.stop (.inr (by rw [← HI.out]; exact HLT.out)), HH1.out, HF1.out⟩
end Go.Proofs.Ytncjgfhipflokaa
