/-
  The rule for regions that draw their order, in its strongest form: what an operation is good for may speak of the values of those that it hangs on; the frame behind is told as the frame ahead with the values put in.
-/
import Derived.Test.YtncjgfhipflokaaReg
namespace Go.Proofs.Ytncjgfhipflokaa
open Go.RowKit

/-- operation j's value in the frame -/
def valOf (l : List Oper) (a : Act) (j : Nat) : Value := ((l[j]?).bind (·.dst)).elim undef fun d => a.eval (.tmp d)
/-- the frame with the first n operations' values -/
def putAll (l : List Oper) (vs : Nat → Value) : Nat → Act → Act
  | 0, a => a
  | n + 1, a => (putAll l vs n a).put ((l[n]?).bind (·.dst)) (vs n)

theorem putAll_at (l : List Oper) (a a0 : Act) (m : Nat) :
    (putAll l (valOf l a) m a0).tmps.size = a0.tmps.size ∧ (putAll l (valOf l a) m a0).defers = a0.defers ∧
      ∀ t, t < a0.tmps.size → (putAll l (valOf l a) m a0).eval (.tmp t) = if notDst l m t then a0.eval (.tmp t) else a.eval (.tmp t) := by
  induction m with
  | zero => exact ⟨rfl, rfl, fun t _ => by simp [putAll, notDst]⟩
  | succ m ih =>
    obtain ⟨h1, h2, h3⟩ := ih
    have hn : ∀ t, notDst l (m + 1) t = (notDst l m t && (((l[m]?).bind (·.dst)) != some t)) := by
      intro t
      simp [notDst, List.range_succ]
    simp only [putAll]
    cases hd : (l[m]?).bind (·.dst) with
    | none =>
      refine ⟨h1, h2, fun t ht => ?_⟩
      rw [hn, hd]
      simpa [Act.put] using h3 t ht
    | some d =>
      refine ⟨by simp [Act.put, h1], by simp [Act.put, h2], fun t ht => ?_⟩
      rw [hn, hd]
      by_cases hdt : d = t
      · subst hdt
        rw [eval_put_self (h1 ▸ ht)]
        simp [valOf, hd]
      · rw [eval_put_other hdt, h3 t ht]
        have : (some d != some t) = true := by simp [hdt]
        rw [this, Bool.and_true]
theorem act_putAll {l : List Oper} {n : Nat} {a a0 : Act} (hsz : a.tmps.size = a0.tmps.size) (hdf : a.defers = a0.defers) (hag : ∀ t, notDst l n t = true → a.eval (.tmp t) = a0.eval (.tmp t)) :
    a = putAll l (valOf l a) n a0 := by
  obtain ⟨h1, h2, h3⟩ := putAll_at l a a0 n
  have h4 : ∀ t, t < a0.tmps.size → (putAll l (valOf l a) n a0).eval (.tmp t) = a.eval (.tmp t) := by
    intro t ht
    rw [h3 t ht]
    split
    · rename_i h; exact (hag t h).symm
    · rfl
  generalize putAll l (valOf l a) n a0 = b at *
  obtain ⟨bt, bd⟩ := b
  obtain ⟨at_, ad⟩ := a
  simp only at h1 h2 hdf hsz h4
  rw [h2, hdf]
  congr 1
  apply Array.ext (by omega)
  intro i hi1 hi2
  have := h4 i (by omega)
  simp only [Act.eval] at this
  rw [Array.getD_eq_getD_getElem?, Array.getD_eq_getD_getElem?, Array.getElem?_eq_getElem hi1, Array.getElem?_eq_getElem hi2] at this
  simpa using this.symm

section
variable {P : Program} {Q : Exit → Act → World → Prop}

structure FInv (l : List Oper) (n : Nat) (a0 : Act) (F : Nat → (Nat → Value) → World → Prop) (S : World → Prop) (Pd : Nat → Act → World → Prop) (listed : Array Bool) (a : Act) (w : World) : Prop where
  size : listed.size = l.length
  inv : S w
  tmps : a.tmps.size = a0.tmps.size
  defers : a.defers = a0.defers
  same : ∀ t, notDst l n t = true → a.eval (.tmp t) = a0.eval (.tmp t)
  facts : ∀ j, j < n → listed.getD j false = true → ∀ vs', (∀ m, (m = j ∨ depC l l.length j m = true) → vs' m = valOf l a m) → F j vs' w
  tail : ∀ t, n ≤ t → t < l.length → listed.getD t true = false
  closed : Closed l listed
  pend : ∀ j, j < n → listed.getD j true = false → Pd j a w

theorem wpAny_f (l : List Oper) (n : Nat) (a0 : Act) (F : Nat → (Nat → Value) → World → Prop) (G : Nat → World → World → Prop) (S : World → Prop) (Pd : Nat → Act → World → Prop)
    (hB : evB l n a0.tmps.size = true) (hst : ∀ i k vs w w', k ≠ i → depC l l.length i k = false → F i vs w → G k w w' → F i vs w')
    (step : ∀ i o, i < n → l[i]? = some o → ∀ a w, S w → Pd i a w → (∀ t, notDst l n t = true → a.eval (.tmp t) = a0.eval (.tmp t)) → (∀ j, j < n → depC l l.length i j = true → F j (valOf l a) w) →
      o.wp P a w (fun a' w' => ∃ v, a' = a.put o.dst v ∧ (∀ vs', (o.dst ≠ none → vs' i = v) → (∀ j, depC l l.length i j = true → vs' j = valOf l a j) → F i vs' w') ∧ G i w w' ∧ S w' ∧ ∀ j, j < n → j ≠ i → depC l l.length i j = false → Pd j a w → Pd j (a.put o.dst v) w') Q)
    (fin : ∀ a w, S w → a.tmps.size = a0.tmps.size → a.defers = a0.defers → (∀ t, notDst l n t = true → a.eval (.tmp t) = a0.eval (.tmp t)) → (∀ j, j < n → F j (valOf l a) w) → wpList P l.toArray Q (l.drop n) a w) :
    ∀ (f : Nat) (listed : Array Bool) (a : Act) (w : World), FInv l n a0 F S Pd listed a w → left l listed ≤ f → wpAny P .any l.toArray Q f listed a w := by
  unfold evB at hB
  simp only [Bool.and_eq_true, decide_eq_true_eq, List.all_eq_true, List.mem_range, Bool.or_eq_true] at hB
  obtain ⟨⟨hn, hops⟩, htail⟩ := hB
  have hop : ∀ i o, i < n → l[i]? = some o → o.guard = none ∧ (∀ e ∈ o.after, Region.binds .any e = true → e.on < i) ∧ ∀ d, o.dst = some d → d < a0.tmps.size ∧ ∀ j, j < n → j ≠ i → ((l[j]?).bind (·.dst)) ≠ some d := by
    intro i o hi ho
    have h := hops i hi
    rw [ho] at h
    simp only [Bool.and_eq_true, beq_iff_eq] at h
    obtain ⟨⟨h1, h2⟩, h3⟩ := h
    refine ⟨h1, fun e he hb => ?_, ?_⟩
    · have := Array.all_eq_true'.1 h2 e he
      simpa [hb] using this
    · intro d hd
      rw [hd] at h3
      simp only [Bool.and_eq_true, decide_eq_true_eq, List.all_eq_true, List.mem_range, Bool.or_eq_true, bne_iff_ne] at h3
      exact ⟨h3.1, fun j hj hne => (h3.2 j hj).resolve_left hne⟩
  have htl0 : ∀ t o, n ≤ t → l[t]? = some o → (∀ e ∈ o.after, Region.binds .any e = true → e.on < t) ∧ ∀ j, j < t → depC l l.length t j = true := by
    intro t o ht ho
    have htlen : t < l.length := (List.getElem?_eq_some_iff.1 ho).1
    have h := (htail t htlen).resolve_left (by omega)
    rw [ho] at h
    simp only [Bool.and_eq_true, List.all_eq_true, List.mem_range] at h
    refine ⟨fun e he hb => ?_, h.2⟩
    have := Array.all_eq_true'.1 h.1 e he
    simpa [hb] using this
  have hlt : ∀ i o, l[i]? = some o → ∀ e ∈ o.after, Region.binds .any e = true → e.on < i := by
    intro i o ho
    rcases Nat.lt_or_ge i n with h | h
    · exact (hop i o h ho).2.1
    · exact (htl0 i o h ho).1
  have htl : ∀ t, n ≤ t → t < l.length → ∀ j, j < t → depC l l.length t j = true := fun t ht hlen => (htl0 t l[t] ht (by simp [hlen])).2
  intro f
  induction f with
  | zero =>
    intro listed a w inv hf
    refine wpAny_row l n hlt htl 0 n listed a w inv.closed hf (Nat.le_refl _) hn inv.size ?_ inv.tail ?_
    all_goals
      have hall : ∀ j, j < l.length → listed.getD j false = true := fun j hj => by
        cases hu : listed.getD j false with
        | true => rfl
        | false =>
          have := left_pos hj (getD_in (by rw [inv.size]; omega) hu)
          omega
    · exact fun j hj => hall j (by omega)
    · exact fin a w inv.inv inv.tmps inv.defers inv.same (fun j hj => inv.facts j hj (hall j (by omega)) _ (fun _ _ => rfl))
  | succ f ih =>
    intro listed a w inv hf
    by_cases hall : ∀ j, j < n → listed.getD j false = true
    · exact wpAny_row l n hlt htl (f + 1) n listed a w inv.closed hf (Nat.le_refl _) hn inv.size hall inv.tail (fin a w inv.inv inv.tmps inv.defers inv.same (fun j hj => inv.facts j hj (hall j hj) _ (fun _ _ => rfl)))
    · refine ⟨fun hr => absurd (fun j hj => least_ready inv.size hlt hr j (by omega)) hall, fun i hi => ?_⟩
      obtain ⟨hil, hiu⟩ := ready_lt hi
      have hoi : l[i]? = some l[i] := by simp [hil]
      have hin : i < n := by
        rcases Nat.lt_or_ge i n with h | h
        · exact h
        · exact absurd (fun j hj => ready_dep inv.closed hi _ j (htl i h hil j (by omega))) hall
      obtain ⟨hg, _, hdd⟩ := hop i l[i] hin hoi
      have hst' := step i l[i] hin hoi a w inv.inv (inv.pend i hin hiu) inv.same (fun j hj hdep => inv.facts j hj (ready_dep inv.closed hi _ j hdep) _ (fun _ _ => rfl))
      have h0 : l.toArray[i]? = some l[i] := by simp [hil]
      have hw : wpOp P l.toArray Q i (fun a' w' => ∃ v, a' = a.put l[i].dst v ∧ (∀ vs', (l[i].dst ≠ none → vs' i = v) → (∀ j, depC l l.length i j = true → vs' j = valOf l a j) → F i vs' w') ∧ G i w w' ∧ S w' ∧ ∀ j, j < n → j ≠ i → depC l l.length i j = false → Pd j a w → Pd j (a.put l[i].dst v) w') a w := by
        unfold wpOp
        simp only [h0]
        rw [if_pos (by simp [Region.wanted, hg])]
        exact .inl hst'
      refine wpOp_mono (fun a' w' h' => ?_) hw
      obtain ⟨v, rfl, hE, hG, hS, hP⟩ := h'
      have hpend : ∀ j, j < n → (listed.setIfInBounds i true).getD j true = false → Pd j (a.put l[i].dst v) w' := by
        intro j hj hlj
        by_cases hji : i = j
        · subst hji
          rw [getD_set_self_true (by rw [inv.size]; exact hil)] at hlj
          cases hlj
        · rw [getD_set_ne true hji] at hlj
          refine hP j hj (fun e => hji e.symm) ?_ (inv.pend j hj hlj)
          cases hdep : depC l l.length i j with
          | false => rfl
          | true =>
            have := ready_dep inv.closed hi _ j hdep
            rw [getD_both hlj] at this
            cases this
      have hnd : ∀ j, listed.getD j false = true → depC l l.length j i = false := by
        intro j hlj
        cases hdep : depC l l.length j i with
        | false => rfl
        | true =>
          have := closed_dep inv.closed _ _ _ hlj hdep
          rw [getD_both hiu] at this
          cases this
      have htail' : ∀ t, n ≤ t → t < l.length → (listed.setIfInBounds i true).getD t true = false := fun t ht ht2 => by
        rw [getD_set_ne true (by omega)]; exact inv.tail t ht ht2
      -- what the values are that the listed ones and those they hang on have
      have hkeep : ∀ j, listed.getD j false = true → valOf l (a.put l[i].dst v) j = valOf l a j := by
        intro j hlj
        have hji : i ≠ j := by
          rintro rfl
          rw [getD_both hiu] at hlj
          cases hlj
        unfold valOf
        cases hdj : (l[j]?).bind (·.dst) with
        | none => rfl
        | some d2 =>
          cases hd : l[i].dst with
          | none => rfl
          | some d =>
            have hjn : j < n := by
              rcases Nat.lt_or_ge j n with h | h
              · exact h
              · rcases Nat.lt_or_ge j l.length with h2 | h2
                · have := inv.tail j h h2
                  rw [getD_both this] at hlj
                  cases hlj
                · rw [List.getElem?_eq_none h2] at hdj
                  cases hdj
            have hne : d ≠ d2 := fun e => (hdd d hd).2 j hjn (fun e => hji e.symm) (by rw [hdj, e])
            show (a.put (some d) v).eval (.tmp d2) = a.eval (.tmp d2)
            exact eval_put_other hne
      have hself : l[i].dst ≠ none → valOf l (a.put l[i].dst v) i = v := by
        intro hne
        cases hd : l[i].dst with
        | none => exact absurd hd hne
        | some d =>
          unfold valOf
          rw [hoi]
          show ((l[i].dst).elim undef fun t => (a.put (some d) v).eval (.tmp t)) = v
          rw [hd]
          exact eval_put_self (by rw [inv.tmps]; exact (hdd d hd).1)
      have hfacts : ∀ j, j < n → (listed.setIfInBounds i true).getD j false = true → ∀ vs', (∀ m, (m = j ∨ depC l l.length j m = true) → vs' m = valOf l (a.put l[i].dst v) m) → F j vs' w' := by
        intro j hj hlj vs' hag
        by_cases hji : i = j
        · subst hji
          refine hE vs' (fun hne => by rw [hag i (.inl rfl)]; exact hself hne) (fun m hm => ?_)
          rw [hag m (.inr hm)]
          exact hkeep m (ready_dep inv.closed hi _ m hm)
        · rw [getD_set_ne false hji] at hlj
          refine hst _ _ _ _ _ hji (hnd j hlj) (inv.facts j hj hlj vs' fun m hm => ?_) hG
          rw [hag m hm]
          rcases hm with rfl | hm
          · exact hkeep _ hlj
          · exact hkeep m (closed_dep inv.closed _ _ _ hlj hm)
      refine ih _ _ _ ⟨by simp [inv.size], hS, ?_, ?_, fun t ht => ?_, hfacts, htail', closed_set inv.closed hi, hpend⟩ (by have := left_set hil inv.size hiu; omega)
      · rw [← inv.tmps]; cases l[i].dst <;> simp [Act.put]
      · rw [← inv.defers]; cases l[i].dst <;> rfl
      · cases hd : l[i].dst with
        | none => exact inv.same t ht
        | some d =>
          have hne : d ≠ t := by
            rintro rfl
            unfold notDst at ht
            rw [List.all_eq_true] at ht
            have := ht i (List.mem_range.2 hin)
            rw [hoi] at this
            simp [hd] at this
          rw [eval_put_other hne]
          exact inv.same t ht

/-- THE RULE. -/
theorem region_f_p {id : Nat} {a0 : Act} {w0 : World} {l : List Oper} (n : Nat) (F : Nat → (Nat → Value) → World → Prop) (G : Nat → World → World → Prop) (S : World → Prop) (Pd : Nat → Act → World → Prop) (hm : P.follows .mixedOrders = true)
    (hB : evB l n a0.tmps.size = true) (hst : ∀ i k vs w w', k ≠ i → depC l l.length i k = false → F i vs w → G k w w' → F i vs w') (h0 : S w0.drew) (hp0 : ∀ i, i < n → Pd i a0 w0.drew)
    (step : ∀ i o, i < n → l[i]? = some o → ∀ a w, S w → Pd i a w → (∀ t, notDst l n t = true → a.eval (.tmp t) = a0.eval (.tmp t)) → (∀ j, j < n → depC l l.length i j = true → F j (valOf l a) w) →
      o.wp P a w (fun a' w' => ∃ v, a' = a.put o.dst v ∧ (∀ vs', (o.dst ≠ none → vs' i = v) → (∀ j, depC l l.length i j = true → vs' j = valOf l a j) → F i vs' w') ∧ G i w w' ∧ S w' ∧ ∀ j, j < n → j ≠ i → depC l l.length i j = false → Pd j a w → Pd j (a.put o.dst v) w') Q)
    (fin : ∀ (vs : Nat → Value) w, S w → (∀ j, j < n → F j vs w) → wpList P l.toArray Q (l.drop n) (putAll l vs n a0) w) :
    (Code.region id l.toArray true).wp P Q a0 w0 := by
  refine wp_region_any hm ?_
  refine wpAny_f l n a0 F G S Pd hB hst step (fun a w hS hsz hdf hag hf => ?_) _ _ a0 _ ⟨by simp, h0, rfl, rfl, fun _ _ => rfl, fun j _ h => ?_, fun t _ ht => ?_, fun i _ _ h => ?_, fun i hi _ => hp0 i hi⟩ ?_
  · rw [act_putAll hsz hdf hag]
    exact fin _ w hS hf
  · rw [getD_replicate_false] at h; cases h
  · exact getD_in (by simpa using ht) (getD_replicate_false _ _)
  · rw [getD_replicate_false] at h; cases h
  · unfold left
    have := List.length_filter_le (fun j => !(Array.replicate l.toArray.size false).getD j true) (List.range l.length)
    simpa using this
/-- the rule, where nothing is waited for -/
theorem region_f {id : Nat} {a0 : Act} {w0 : World} {l : List Oper} (n : Nat) (F : Nat → (Nat → Value) → World → Prop) (G : Nat → World → World → Prop) (S : World → Prop) (hm : P.follows .mixedOrders = true)
    (hB : evB l n a0.tmps.size = true) (hst : ∀ i k vs w w', k ≠ i → depC l l.length i k = false → F i vs w → G k w w' → F i vs w') (h0 : S w0.drew)
    (step : ∀ i o, i < n → l[i]? = some o → ∀ a w, S w → (∀ t, notDst l n t = true → a.eval (.tmp t) = a0.eval (.tmp t)) → (∀ j, j < n → depC l l.length i j = true → F j (valOf l a) w) →
      o.wp P a w (fun a' w' => ∃ v, a' = a.put o.dst v ∧ (∀ vs', (o.dst ≠ none → vs' i = v) → (∀ j, depC l l.length i j = true → vs' j = valOf l a j) → F i vs' w') ∧ G i w w' ∧ S w') Q)
    (fin : ∀ (vs : Nat → Value) w, S w → (∀ j, j < n → F j vs w) → wpList P l.toArray Q (l.drop n) (putAll l vs n a0) w) :
    (Code.region id l.toArray true).wp P Q a0 w0 := by
  refine region_f_p n F G S (fun _ _ _ => True) hm hB hst h0 (fun _ _ => trivial) (fun i o hi ho a w hS _ hag hdep => ?_) fin
  refine Oper.wp_mono ?_ (step i o hi ho a w hS hag hdep)
  rintro a' w' ⟨v, h1, h2, h3, h4⟩
  exact ⟨v, h1, h2, h3, h4, fun _ _ _ _ _ => trivial⟩
end
end Go.Proofs.Ytncjgfhipflokaa
