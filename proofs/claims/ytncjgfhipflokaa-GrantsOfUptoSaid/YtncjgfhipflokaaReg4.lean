/-
  The rule for regions that draw their order, in which new variables (the operations of Al) are told apart: what an operation does to the world may be told by the values of those that it hangs on.
-/
import Derived.Test.YtncjgfhipflokaaReg3
namespace Go.Proofs.Ytncjgfhipflokaa
open Go.RowKit

section
variable {P : Program} {Q : Exit → Act → World → Prop}

structure DInv (l : List Oper) (n : Nat) (a0 : Act) (Al : Nat → Bool) (C : Nat → Nat → Bool) (F : Nat → (Nat → Value) → World → Prop) (S : World → Prop) (Pd : Nat → Act → World → Prop) (listed : Array Bool) (a : Act) (w : World) : Prop where
  size : listed.size = l.length
  inv : S w
  tmps : a.tmps.size = a0.tmps.size
  defers : a.defers = a0.defers
  same : ∀ t, notDst l n t = true → a.eval (.tmp t) = a0.eval (.tmp t)
  facts : ∀ j, j < n → listed.getD j false = true → (∀ k, k < n → C k j = true → listed.getD k true = false) → ∀ vs', (∀ m, (m = j ∨ depC l l.length j m = true) → vs' m = valOf l a m) → F j vs' w
  tail : ∀ t, n ≤ t → t < l.length → listed.getD t true = false
  closed : Closed l listed
  pend : ∀ j, j < n → listed.getD j true = false → Pd j a w
  al : ∀ j, Al j = true → listed.getD j false = true → ∃ p, valOf l a j = .pointer (some ⟨p, 0, none⟩) ∧ p < w.heap.size
  dis : ∀ i j, i ≠ j → Al i = true → Al j = true → listed.getD i false = true → listed.getD j false = true → valOf l a i ≠ valOf l a j

theorem wpAny_d (l : List Oper) (n : Nat) (a0 : Act) (Al : Nat → Bool) (C : Nat → Nat → Bool) (F : Nat → (Nat → Value) → World → Prop) (G : Nat → (Nat → Value) → World → World → Prop) (S : World → Prop) (Pd : Nat → Act → World → Prop)
    (hB : evG l n a0.tmps.size = true) (hAl : ∀ i, Al i = true → ((l[i]?).bind (·.dst)) ≠ none ∧ i < n) (hst : ∀ i k vs va w w', k ≠ i → depC l l.length i k = false → C k i = false → (∀ j, (j = i ∨ depC l l.length i j = true) → vs j = va j) → (∀ x y, x ≠ y → Al x = true → Al y = true → ((x = i ∨ depC l l.length i x = true) ∨ x = k ∨ depC l l.length k x = true) → ((y = i ∨ depC l l.length i y = true) ∨ y = k ∨ depC l l.length k y = true) → va x ≠ va y) → F i vs w → G k va w w' → F i vs w')
    (step : ∀ i o, i < n → l[i]? = some o → ∀ a w, S w → Pd i a w → (∀ t, notDst l n t = true → a.eval (.tmp t) = a0.eval (.tmp t)) → (∀ j, j < n → depC l l.length i j = true → (∀ k, k < n → C k j = true → k = i ∨ depC l l.length k i = true) → F j (valOf l a) w) →
      ((Region.wanted o (yielded l.toArray a.tmps) = true → o.wp P a w (fun a' w' => ∃ v, a' = a.put o.dst v ∧ (∀ vs', (o.dst ≠ none → vs' i = v) → (∀ j, depC l l.length i j = true → vs' j = valOf l a j) → F i vs' w') ∧ (∀ vs', (o.dst ≠ none → vs' i = v) → (∀ j, depC l l.length i j = true → vs' j = valOf l a j) → G i vs' w w') ∧ S w' ∧ w.heap.size ≤ w'.heap.size ∧ (Al i = true → ∃ p, v = .pointer (some ⟨p, 0, none⟩) ∧ w.heap.size ≤ p ∧ p < w'.heap.size) ∧ ∀ j, j < n → j ≠ i → depC l l.length i j = false → Pd j a w → Pd j (a.put o.dst v) w') Q) ∧ (Region.wanted o (yielded l.toArray a.tmps) = false → (fun a' w' => ∃ v, a' = a.put o.dst v ∧ (∀ vs', (o.dst ≠ none → vs' i = v) → (∀ j, depC l l.length i j = true → vs' j = valOf l a j) → F i vs' w') ∧ (∀ vs', (o.dst ≠ none → vs' i = v) → (∀ j, depC l l.length i j = true → vs' j = valOf l a j) → G i vs' w w') ∧ S w' ∧ w.heap.size ≤ w'.heap.size ∧ (Al i = true → ∃ p, v = .pointer (some ⟨p, 0, none⟩) ∧ w.heap.size ≤ p ∧ p < w'.heap.size) ∧ ∀ j, j < n → j ≠ i → depC l l.length i j = false → Pd j a w → Pd j (a.put o.dst v) w') (a.put o.dst undef) w)))
    (fin : ∀ a w, S w → a.tmps.size = a0.tmps.size → a.defers = a0.defers → (∀ t, notDst l n t = true → a.eval (.tmp t) = a0.eval (.tmp t)) → (∀ j, j < n → (∀ k, k < n → C k j = false) → F j (valOf l a) w) → wpList P l.toArray Q (l.drop n) a w) :
    ∀ (f : Nat) (listed : Array Bool) (a : Act) (w : World), DInv l n a0 Al C F S Pd listed a w → left l listed ≤ f → wpAny P .any l.toArray Q f listed a w := by
  unfold evG at hB
  simp only [Bool.and_eq_true, decide_eq_true_eq, List.all_eq_true, List.mem_range, Bool.or_eq_true] at hB
  obtain ⟨⟨hn, hops⟩, htail⟩ := hB
  have hop : ∀ i o, i < n → l[i]? = some o → (∀ e ∈ o.after, Region.binds .any e = true → e.on < i) ∧ ∀ d, o.dst = some d → d < a0.tmps.size ∧ ∀ j, j < n → j ≠ i → ((l[j]?).bind (·.dst)) ≠ some d := by
    intro i o hi ho
    have h := hops i hi
    rw [ho] at h
    simp only [Bool.and_eq_true] at h
    obtain ⟨h2, h3⟩ := h
    refine ⟨fun e he hb => ?_, ?_⟩
    · have := Array.all_eq_true'.1 h2 e he
      simpa [hb] using this
    · intro d hd
      rw [hd] at h3
      simp only [Bool.and_eq_true, decide_eq_true_eq, List.all_eq_true, List.mem_range, Bool.or_eq_true, bne_iff_ne] at h3
      exact ⟨h3.1, fun j hj hne => (h3.2 j hj).resolve_left hne⟩
  have htl0 : ∀ t o, n ≤ t → l[t]? = some o → (∀ e ∈ o.after, Region.binds .any e = true → e.on < t) ∧ ∀ j, j < t → depC l l.length t j = true := by
    intro t o ht ho
    have htlen : t < l.length := (List.getElem?_eq_some_iff.1 ho).1
    have h := (htail t htlen).resolve_left (by omega)
    rw [ho] at h
    simp only [Bool.and_eq_true, List.all_eq_true, List.mem_range] at h
    refine ⟨fun e he hb => ?_, h.2⟩
    have := Array.all_eq_true'.1 h.1 e he
    simpa [hb] using this
  have hlt : ∀ i o, l[i]? = some o → ∀ e ∈ o.after, Region.binds .any e = true → e.on < i := by
    intro i o ho
    rcases Nat.lt_or_ge i n with h | h
    · exact (hop i o h ho).1
    · exact (htl0 i o h ho).1
  have htl : ∀ t, n ≤ t → t < l.length → ∀ j, j < t → depC l l.length t j = true := fun t ht hlen => (htl0 t l[t] ht (by simp [hlen])).2
  intro f
  induction f with
  | zero =>
    intro listed a w inv hf
    refine wpAny_row l n hlt htl 0 n listed a w inv.closed hf (Nat.le_refl _) hn inv.size ?_ inv.tail ?_
    all_goals
      have hall : ∀ j, j < l.length → listed.getD j false = true := fun j hj => by
        cases hu : listed.getD j false with
        | true => rfl
        | false =>
          have := left_pos hj (getD_in (by rw [inv.size]; omega) hu)
          omega
    · exact fun j hj => hall j (by omega)
    · exact fin a w inv.inv inv.tmps inv.defers inv.same (fun j hj hc => inv.facts j hj (hall j (by omega)) (fun k hk h => by rw [hc k hk] at h; cases h) _ (fun _ _ => rfl))
  | succ f ih =>
    intro listed a w inv hf
    by_cases hall : ∀ j, j < n → listed.getD j false = true
    · exact wpAny_row l n hlt htl (f + 1) n listed a w inv.closed hf (Nat.le_refl _) hn inv.size hall inv.tail (fin a w inv.inv inv.tmps inv.defers inv.same (fun j hj hc => inv.facts j hj (hall j hj) (fun k hk h => by rw [hc k hk] at h; cases h) _ (fun _ _ => rfl)))
    · refine ⟨fun hr => absurd (fun j hj => least_ready inv.size hlt hr j (by omega)) hall, fun i hi => ?_⟩
      obtain ⟨hil, hiu⟩ := ready_lt hi
      have hoi : l[i]? = some l[i] := by simp [hil]
      have hin : i < n := by
        rcases Nat.lt_or_ge i n with h | h
        · exact h
        · exact absurd (fun j hj => ready_dep inv.closed hi _ j (htl i h hil j (by omega))) hall
      obtain ⟨_, hdd⟩ := hop i l[i] hin hoi
      have hunl : ∀ k, k < n → (k = i ∨ depC l l.length k i = true) → listed.getD k true = false := by
        intro k hk h
        rcases h with rfl | h
        · exact hiu
        · cases hu : listed.getD k false with
          | false => exact getD_in (by rw [inv.size]; omega) hu
          | true =>
            have := closed_dep inv.closed _ _ _ hu h
            rw [getD_both hiu] at this
            cases this
      have hst' := step i l[i] hin hoi a w inv.inv (inv.pend i hin hiu) inv.same (fun j hj hdep hc => inv.facts j hj (ready_dep inv.closed hi _ j hdep) (fun k hk h => hunl k hk (hc k hk h)) _ (fun _ _ => rfl))
      have h0 : l.toArray[i]? = some l[i] := by simp [hil]
      have hw : wpOp P l.toArray Q i (fun a' w' => ∃ v, a' = a.put l[i].dst v ∧ (∀ vs', (l[i].dst ≠ none → vs' i = v) → (∀ j, depC l l.length i j = true → vs' j = valOf l a j) → F i vs' w') ∧ (∀ vs', (l[i].dst ≠ none → vs' i = v) → (∀ j, depC l l.length i j = true → vs' j = valOf l a j) → G i vs' w w') ∧ S w' ∧ w.heap.size ≤ w'.heap.size ∧ (Al i = true → ∃ p, v = .pointer (some ⟨p, 0, none⟩) ∧ w.heap.size ≤ p ∧ p < w'.heap.size) ∧ ∀ j, j < n → j ≠ i → depC l l.length i j = false → Pd j a w → Pd j (a.put l[i].dst v) w') a w := by
        unfold wpOp
        simp only [h0]
        cases hwt : Region.wanted l[i] (yielded l.toArray a.tmps) with
        | true => rw [if_pos rfl]; exact .inl (hst'.1 hwt)
        | false => rw [if_neg Bool.false_ne_true]; exact hst'.2 hwt
      refine wpOp_mono (fun a' w' h' => ?_) hw
      obtain ⟨v, rfl, hE, hG', hS, hszW, hAlv, hP⟩ := h'
      have hpend : ∀ j, j < n → (listed.setIfInBounds i true).getD j true = false → Pd j (a.put l[i].dst v) w' := by
        intro j hj hlj
        by_cases hji : i = j
        · subst hji
          rw [getD_set_self_true (by rw [inv.size]; exact hil)] at hlj
          cases hlj
        · rw [getD_set_ne true hji] at hlj
          refine hP j hj (fun e => hji e.symm) ?_ (inv.pend j hj hlj)
          cases hdep : depC l l.length i j with
          | false => rfl
          | true =>
            have := ready_dep inv.closed hi _ j hdep
            rw [getD_both hlj] at this
            cases this
      have hnd : ∀ j, listed.getD j false = true → depC l l.length j i = false := by
        intro j hlj
        cases hdep : depC l l.length j i with
        | false => rfl
        | true =>
          have := closed_dep inv.closed _ _ _ hlj hdep
          rw [getD_both hiu] at this
          cases this
      have htail' : ∀ t, n ≤ t → t < l.length → (listed.setIfInBounds i true).getD t true = false := fun t ht ht2 => by
        rw [getD_set_ne true (by omega)]; exact inv.tail t ht ht2
      -- what the values are that the listed ones and those they hang on have
      have hkeep : ∀ j, listed.getD j false = true → valOf l (a.put l[i].dst v) j = valOf l a j := by
        intro j hlj
        have hji : i ≠ j := by
          rintro rfl
          rw [getD_both hiu] at hlj
          cases hlj
        unfold valOf
        cases hdj : (l[j]?).bind (·.dst) with
        | none => rfl
        | some d2 =>
          cases hd : l[i].dst with
          | none => rfl
          | some d =>
            have hjn : j < n := by
              rcases Nat.lt_or_ge j n with h | h
              · exact h
              · rcases Nat.lt_or_ge j l.length with h2 | h2
                · have := inv.tail j h h2
                  rw [getD_both this] at hlj
                  cases hlj
                · rw [List.getElem?_eq_none h2] at hdj
                  cases hdj
            have hne : d ≠ d2 := fun e => (hdd d hd).2 j hjn (fun e => hji e.symm) (by rw [hdj, e])
            show (a.put (some d) v).eval (.tmp d2) = a.eval (.tmp d2)
            exact eval_put_other hne
      have hself : l[i].dst ≠ none → valOf l (a.put l[i].dst v) i = v := by
        intro hne
        cases hd : l[i].dst with
        | none => exact absurd hd hne
        | some d =>
          unfold valOf
          rw [hoi]
          show ((l[i].dst).elim undef fun t => (a.put (some d) v).eval (.tmp t)) = v
          rw [hd]
          exact eval_put_self (by rw [inv.tmps]; exact (hdd d hd).1)
      have hG := hG' (valOf l (a.put l[i].dst v)) hself (fun m hm => hkeep m (ready_dep inv.closed hi _ m hm))
      have hal : ∀ j, Al j = true → (listed.setIfInBounds i true).getD j false = true → ∃ p, valOf l (a.put l[i].dst v) j = .pointer (some ⟨p, 0, none⟩) ∧ p < w'.heap.size := by
        intro j hj hlj
        by_cases hji : i = j
        · subst hji
          obtain ⟨p, h1, _, h3⟩ := hAlv hj
          refine ⟨p, ?_, h3⟩
          rw [hself (by have := (hAl i hj).1; rw [hoi] at this; exact this)]
          exact h1
        · rw [getD_set_ne false hji] at hlj
          obtain ⟨p, h1, h2⟩ := inv.al j hj hlj
          exact ⟨p, by rw [hkeep j hlj]; exact h1, by omega⟩
      have hdis : ∀ x y, x ≠ y → Al x = true → Al y = true → (listed.setIfInBounds i true).getD x false = true → (listed.setIfInBounds i true).getD y false = true → valOf l (a.put l[i].dst v) x ≠ valOf l (a.put l[i].dst v) y := by
        have key : ∀ y, i ≠ y → Al i = true → Al y = true → listed.getD y false = true → valOf l (a.put l[i].dst v) i ≠ valOf l (a.put l[i].dst v) y := by
          intro y hne hi1 hy hly e
          obtain ⟨p, h1, h2, _⟩ := hAlv hi1
          obtain ⟨q, h3, h4⟩ := inv.al y hy hly
          rw [hself (by have := (hAl i hi1).1; rw [hoi] at this; exact this), hkeep y hly, h1, h3] at e
          injection e with e
          injection e with e
          injection e with e
          omega
        intro x y hxy hx hy hlx hly
        by_cases h1 : i = x
        · subst h1
          rw [getD_set_ne false hxy] at hly
          exact key y hxy hx hy hly
        · rw [getD_set_ne false h1] at hlx
          by_cases h2 : i = y
          · subst h2
            exact fun e => key x h1 hy hx hlx e.symm
          · rw [getD_set_ne false h2] at hly
            rw [hkeep x hlx, hkeep y hly]
            exact inv.dis x y hxy hx hy hlx hly
      have hfacts : ∀ j, j < n → (listed.setIfInBounds i true).getD j false = true → (∀ k, k < n → C k j = true → (listed.setIfInBounds i true).getD k true = false) → ∀ vs', (∀ m, (m = j ∨ depC l l.length j m = true) → vs' m = valOf l (a.put l[i].dst v) m) → F j vs' w' := by
        intro j hj hlj hcons vs' hag
        by_cases hji : i = j
        · subst hji
          refine hE vs' (fun hne => by rw [hag i (.inl rfl)]; exact hself hne) (fun m hm => ?_)
          rw [hag m (.inr hm)]
          exact hkeep m (ready_dep inv.closed hi _ m hm)
        · rw [getD_set_ne false hji] at hlj
          have hCij : C i j = false := by
            cases h : C i j with
            | false => rfl
            | true =>
              have := hcons i hin h
              rw [getD_set_self_true (by rw [inv.size]; exact hil)] at this
              cases this
          have hcons' : ∀ k, k < n → C k j = true → listed.getD k true = false := by
            intro k hk h
            by_cases hki : i = k
            · subst hki; exact hiu
            · have := hcons k hk h
              rwa [getD_set_ne true hki] at this
          have hin' : ∀ x, ((x = j ∨ depC l l.length j x = true) ∨ x = i ∨ depC l l.length i x = true) → (listed.setIfInBounds i true).getD x false = true := by
            intro x hx
            rcases hx with (rfl | hx) | rfl | hx
            · rw [getD_set_ne false hji]; exact hlj
            · exact getD_set_true (closed_dep inv.closed _ _ _ hlj hx)
            · exact getD_set_self (by rw [inv.size]; exact hil) _
            · exact getD_set_true (ready_dep inv.closed hi _ x hx)
          refine hst _ _ _ _ _ _ hji (hnd j hlj) hCij hag (fun x y hxy hx hy h1 h2 => hdis x y hxy hx hy (hin' x h1) (hin' y h2)) (inv.facts j hj hlj hcons' vs' fun m hm => ?_) hG
          rw [hag m hm]
          rcases hm with rfl | hm
          · exact hkeep _ hlj
          · exact hkeep m (closed_dep inv.closed _ _ _ hlj hm)
      refine ih _ _ _ ⟨by simp [inv.size], hS, ?_, ?_, fun t ht => ?_, hfacts, htail', closed_set inv.closed hi, hpend, hal, hdis⟩ (by have := left_set hil inv.size hiu; omega)
      · rw [← inv.tmps]; cases l[i].dst <;> simp [Act.put]
      · rw [← inv.defers]; cases l[i].dst <;> rfl
      · cases hd : l[i].dst with
        | none => exact inv.same t ht
        | some d =>
          have hne : d ≠ t := by
            rintro rfl
            unfold notDst at ht
            rw [List.all_eq_true] at ht
            have := ht i (List.mem_range.2 hin)
            rw [hoi] at this
            simp [hd] at this
          rw [eval_put_other hne]
          exact inv.same t ht

/-- THE RULE, guards and all. -/
theorem region_d_p {id : Nat} {a0 : Act} {w0 : World} {l : List Oper} (n : Nat) (Al : Nat → Bool) (C : Nat → Nat → Bool) (F : Nat → (Nat → Value) → World → Prop) (G : Nat → (Nat → Value) → World → World → Prop) (S : World → Prop) (Pd : Nat → Act → World → Prop) (hm : P.follows .mixedOrders = true)
    (hB : evG l n a0.tmps.size = true) (hAl : ∀ i, Al i = true → ((l[i]?).bind (·.dst)) ≠ none ∧ i < n) (hst : ∀ i k vs va w w', k ≠ i → depC l l.length i k = false → C k i = false → (∀ j, (j = i ∨ depC l l.length i j = true) → vs j = va j) → (∀ x y, x ≠ y → Al x = true → Al y = true → ((x = i ∨ depC l l.length i x = true) ∨ x = k ∨ depC l l.length k x = true) → ((y = i ∨ depC l l.length i y = true) ∨ y = k ∨ depC l l.length k y = true) → va x ≠ va y) → F i vs w → G k va w w' → F i vs w') (h0 : S w0.drew) (hp0 : ∀ i, i < n → Pd i a0 w0.drew)
    (step : ∀ i o, i < n → l[i]? = some o → ∀ a w, S w → Pd i a w → (∀ t, notDst l n t = true → a.eval (.tmp t) = a0.eval (.tmp t)) → (∀ j, j < n → depC l l.length i j = true → (∀ k, k < n → C k j = true → k = i ∨ depC l l.length k i = true) → F j (valOf l a) w) →
      ((Region.wanted o (yielded l.toArray a.tmps) = true → o.wp P a w (fun a' w' => ∃ v, a' = a.put o.dst v ∧ (∀ vs', (o.dst ≠ none → vs' i = v) → (∀ j, depC l l.length i j = true → vs' j = valOf l a j) → F i vs' w') ∧ (∀ vs', (o.dst ≠ none → vs' i = v) → (∀ j, depC l l.length i j = true → vs' j = valOf l a j) → G i vs' w w') ∧ S w' ∧ w.heap.size ≤ w'.heap.size ∧ (Al i = true → ∃ p, v = .pointer (some ⟨p, 0, none⟩) ∧ w.heap.size ≤ p ∧ p < w'.heap.size) ∧ ∀ j, j < n → j ≠ i → depC l l.length i j = false → Pd j a w → Pd j (a.put o.dst v) w') Q) ∧ (Region.wanted o (yielded l.toArray a.tmps) = false → (fun a' w' => ∃ v, a' = a.put o.dst v ∧ (∀ vs', (o.dst ≠ none → vs' i = v) → (∀ j, depC l l.length i j = true → vs' j = valOf l a j) → F i vs' w') ∧ (∀ vs', (o.dst ≠ none → vs' i = v) → (∀ j, depC l l.length i j = true → vs' j = valOf l a j) → G i vs' w w') ∧ S w' ∧ w.heap.size ≤ w'.heap.size ∧ (Al i = true → ∃ p, v = .pointer (some ⟨p, 0, none⟩) ∧ w.heap.size ≤ p ∧ p < w'.heap.size) ∧ ∀ j, j < n → j ≠ i → depC l l.length i j = false → Pd j a w → Pd j (a.put o.dst v) w') (a.put o.dst undef) w)))
    (fin : ∀ (vs : Nat → Value) w, S w → (∀ j, j < n → (∀ k, k < n → C k j = false) → F j vs w) → wpList P l.toArray Q (l.drop n) (putAll l vs n a0) w) :
    (Code.region id l.toArray true).wp P Q a0 w0 := by
  refine wp_region_any hm ?_
  refine wpAny_d l n a0 Al C F G S Pd hB hAl hst step (fun a w hS hsz hdf hag hf => ?_) _ _ a0 _ ⟨by simp, h0, rfl, rfl, fun _ _ => rfl, fun j _ h => ?_, fun t _ ht => ?_, fun i _ _ h => ?_, fun i hi _ => hp0 i hi, fun j _ h => ?_, fun i j _ _ _ h _ => ?_⟩ ?_
  · rw [act_putAll hsz hdf hag]
    exact fin _ w hS hf
  · rw [getD_replicate_false] at h; cases h
  · exact getD_in (by simpa using ht) (getD_replicate_false _ _)
  · rw [getD_replicate_false] at h; cases h
  · rw [getD_replicate_false] at h; cases h
  · rw [getD_replicate_false] at h; cases h
  · unfold left
    have := List.length_filter_le (fun j => !(Array.replicate l.toArray.size false).getD j true) (List.range l.length)
    simpa using this
/-- .. where nothing is guarded and nothing waited for -/
theorem region_d {id : Nat} {a0 : Act} {w0 : World} {l : List Oper} (n : Nat) (Al : Nat → Bool) (C : Nat → Nat → Bool) (F : Nat → (Nat → Value) → World → Prop) (G : Nat → (Nat → Value) → World → World → Prop) (S : World → Prop) (hm : P.follows .mixedOrders = true)
    (hB : evB l n a0.tmps.size = true) (hAl : ∀ i, Al i = true → ((l[i]?).bind (·.dst)) ≠ none ∧ i < n) (hst : ∀ i k vs va w w', k ≠ i → depC l l.length i k = false → C k i = false → (∀ j, (j = i ∨ depC l l.length i j = true) → vs j = va j) → (∀ x y, x ≠ y → Al x = true → Al y = true → ((x = i ∨ depC l l.length i x = true) ∨ x = k ∨ depC l l.length k x = true) → ((y = i ∨ depC l l.length i y = true) ∨ y = k ∨ depC l l.length k y = true) → va x ≠ va y) → F i vs w → G k va w w' → F i vs w') (h0 : S w0.drew)
    (step : ∀ i o, i < n → l[i]? = some o → ∀ a w, S w → (∀ t, notDst l n t = true → a.eval (.tmp t) = a0.eval (.tmp t)) → (∀ j, j < n → depC l l.length i j = true → (∀ k, k < n → C k j = true → k = i ∨ depC l l.length k i = true) → F j (valOf l a) w) →
      o.wp P a w (fun a' w' => ∃ v, a' = a.put o.dst v ∧ (∀ vs', (o.dst ≠ none → vs' i = v) → (∀ j, depC l l.length i j = true → vs' j = valOf l a j) → F i vs' w') ∧ (∀ vs', (o.dst ≠ none → vs' i = v) → (∀ j, depC l l.length i j = true → vs' j = valOf l a j) → G i vs' w w') ∧ S w' ∧ w.heap.size ≤ w'.heap.size ∧ (Al i = true → ∃ p, v = .pointer (some ⟨p, 0, none⟩) ∧ w.heap.size ≤ p ∧ p < w'.heap.size)) Q)
    (fin : ∀ (vs : Nat → Value) w, S w → (∀ j, j < n → (∀ k, k < n → C k j = false) → F j vs w) → wpList P l.toArray Q (l.drop n) (putAll l vs n a0) w) :
    (Code.region id l.toArray true).wp P Q a0 w0 := by
  have hG : evG l n a0.tmps.size = true := by
    unfold evB at hB
    unfold evG
    simp only [Bool.and_eq_true, List.all_eq_true, List.mem_range] at hB ⊢
    refine ⟨⟨hB.1.1, fun i hi => ?_⟩, hB.2⟩
    have h := hB.1.2 i hi
    cases ho : l[i]? with
    | none => rw [ho] at h; exact h
    | some o =>
      rw [ho] at h
      simp only [Bool.and_eq_true] at h ⊢
      exact ⟨h.1.2, h.2⟩
  refine region_d_p n Al C F G S (fun _ _ _ => True) hm hG hAl hst h0 (fun _ _ => trivial) (fun i o hi ho a w hS _ hag hdep => ?_) fin
  have hgd : o.guard = none := by
    unfold evB at hB
    simp only [Bool.and_eq_true, List.all_eq_true, List.mem_range] at hB
    have h := hB.1.2 i hi
    rw [ho] at h
    simp only [Bool.and_eq_true, beq_iff_eq] at h
    exact h.1.1
  have hw : Region.wanted o (yielded l.toArray a.tmps) = true := by simp [Region.wanted, hgd]
  refine ⟨fun _ => Oper.wp_mono ?_ (step i o hi ho a w hS hag hdep), fun h => by rw [hw] at h; cases h⟩
  rintro a' w' ⟨v, h1, h2, h3, h4, h5, h6⟩
  exact ⟨v, h1, h2, h3, h4, h5, h6, fun _ _ _ _ _ => trivial⟩
end
end Go.Proofs.Ytncjgfhipflokaa
