/-
  One rule for a region that draws its order: n operations that come in any order that their edges allow, then the others one by one. Each operation is looked at once.
-/
import Derived.Test.YtncjgfhipflokaaMem
import Derived.Orders
import Derived.StillTail
import Derived.BigRegion
import Derived.OrdersIn
import Derived.RangeFuncCalls
namespace Go.Proofs.Ytncjgfhipflokaa
open Go.RowKit

/-- does operation i hang on operation j, by one edge or by several? -/
def depC (l : List Oper) : Nat → Nat → Nat → Bool
  | 0, _, _ => false
  | f + 1, i, j => match l[i]? with
    | some o => o.after.any fun e => Region.binds .any e && (e.on == j || depC l f e.on j)
    | none => false
def dstOf (l : List Oper) (j : Nat) : Operand := .tmp (((l[j]?).bind (·.dst)).getD 0)
/-- slot t is written by none of the first n operations -/
def notDst (l : List Oper) (n t : Nat) : Bool := (List.range n).all fun j => ((l[j]?).bind (·.dst)) != some t
/-- the shape that the rule asks: the first n operations have no guards, write slots of their own; the others stand behind all of them, in a row -/
def evB (l : List Oper) (n N : Nat) : Bool :=
  decide (n ≤ l.length) &&
  ((List.range n).all fun i => match l[i]? with
    | some o => (o.guard == none) && (o.after.all fun e => !Region.binds .any e || decide (e.on < i)) && (match o.dst with | some d => decide (d < N) && ((List.range n).all fun j => decide (j = i) || (((l[j]?).bind (·.dst)) != some d)) | none => true)
    | none => false) &&
  ((List.range l.length).all fun t => decide (t < n) || (match l[t]? with | some o => (o.after.all fun e => !Region.binds .any e || decide (e.on < t)) && ((List.range t).all fun j => depC l l.length t j) | none => false))

section
variable {P : Program} {Q : Exit → Act → World → Prop}

/-- whatever is listed: all that it hangs on is listed -/
def Closed (l : List Oper) (listed : Array Bool) : Prop := ∀ i o, l[i]? = some o → listed.getD i false = true → ∀ e ∈ o.after, Region.binds .any e = true → listed.getD e.on false = true
structure EvInv (l : List Oper) (n : Nat) (a0 : Act) (E : Nat → Value → World → Prop) (S : World → Prop) (Pd : Nat → Act → World → Prop) (listed : Array Bool) (a : Act) (w : World) : Prop where
  size : listed.size = l.length
  inv : S w
  tmps : a.tmps.size = a0.tmps.size
  defers : a.defers = a0.defers
  same : ∀ t, notDst l n t = true → a.eval (.tmp t) = a0.eval (.tmp t)
  facts : ∀ j, j < n → listed.getD j false = true → E j (a.eval (dstOf l j)) w
  tail : ∀ t, n ≤ t → t < l.length → listed.getD t true = false
  closed : Closed l listed
  pend : ∀ j, j < n → listed.getD j true = false → Pd j a w
  nones : ∀ j o, j < n → l[j]? = some o → o.dst = none → listed.getD j false = true → ∀ u, E j u w

theorem eval_put_self {a : Act} {d : Tmp} {v : Value} (h : d < a.tmps.size) : (a.put (some d) v).eval (.tmp d) = v := by
  simp [Act.put, Act.eval, h]
theorem eval_put_other {a : Act} {d t : Tmp} {v : Value} (h : d ≠ t) : (a.put (some d) v).eval (.tmp t) = a.eval (.tmp t) := by
  simp [Act.put, Act.eval, h]

theorem getD_set_self {listed : Array Bool} {i : Nat} (h : i < listed.size) (d : Bool) : (listed.setIfInBounds i true).getD i d = true := by simp [h]

theorem closed_dep {l : List Oper} {listed : Array Bool} (hc : Closed l listed) : ∀ (f i j : Nat), listed.getD i false = true → depC l f i j = true → listed.getD j false = true := by
  intro f
  induction f with
  | zero => intro i j _ h; cases h
  | succ f ih =>
    intro i j hi h
    simp only [depC] at h
    cases ho : l[i]? with
    | none => rw [ho] at h; cases h
    | some o =>
      rw [ho] at h
      obtain ⟨e, he, hb⟩ := Array.any_eq_true'.1 h
      simp only [Bool.and_eq_true, Bool.or_eq_true, beq_iff_eq] at hb
      have h1 := hc i o ho hi e he hb.1
      rcases hb.2 with h2 | h2
      · rwa [h2] at h1
      · exact ih e.on j h1 h2
/-- what is ready: all that it hangs on has been -/
theorem ready_dep {l : List Oper} {listed : Array Bool} (hc : Closed l listed) {i : Nat} (hi : i ∈ Region.ready .any l.toArray listed) (f j : Nat) (hj : depC l f i j = true) : listed.getD j false = true := by
  obtain ⟨_, o', ho', hall⟩ := mem_ready.1 hi
  have ho : l[i]? = some o' := by simpa using ho'
  cases f with
  | zero => cases hj
  | succ f =>
    simp only [depC, ho] at hj
    obtain ⟨e, he, hb⟩ := Array.any_eq_true'.1 hj
    simp only [Bool.and_eq_true, Bool.or_eq_true, beq_iff_eq] at hb
    have h1 := hall e he hb.1
    rcases hb.2 with h2 | h2
    · rwa [h2] at h1
    · exact closed_dep hc f e.on j h1 h2
theorem closed_set {l : List Oper} {listed : Array Bool} (hc : Closed l listed) {i : Nat} (hi : i ∈ Region.ready .any l.toArray listed) : Closed l (listed.setIfInBounds i true) := by
  obtain ⟨_, o', ho', hall⟩ := mem_ready.1 hi
  have ho : l[i]? = some o' := by simpa using ho'
  intro k o hk hl e he hb
  by_cases h : i = k
  · subst h
    have : o = o' := Option.some.inj (hk.symm.trans ho)
    subst this
    exact getD_set_true (hall e he hb)
  · rw [getD_set_ne false h] at hl
    exact getD_set_true (hc k o hk hl e he hb)

theorem filter_lt {l : List Nat} {p q : Nat → Bool} (h : ∀ j, q j = true → p j = true) {i : Nat} (hi : i ∈ l) (hp : p i = true) (hq : q i = false) : (l.filter q).length < (l.filter p).length := by
  have hle : ∀ m : List Nat, (m.filter q).length ≤ (m.filter p).length := by
    intro m
    induction m with
    | nil => simp
    | cons x m ih =>
      cases hx : q x with
      | true => simp [hx, h x hx]; exact ih
      | false =>
        cases hx2 : p x with
        | true => simp [hx, hx2]; omega
        | false => simp [hx, hx2]; exact ih
  induction l with
  | nil => cases hi
  | cons x l ih =>
    rcases List.mem_cons.1 hi with e | e
    · subst e
      simp only [List.filter_cons, hp, hq]
      have := hle l
      simp
      omega
    · have := ih e
      cases hx : q x with
      | true => simp [hx, h x hx]; exact this
      | false =>
        cases hx2 : p x with
        | true => simp [hx, hx2]; omega
        | false => simp [hx, hx2]; exact this
def left (l : List Oper) (listed : Array Bool) : Nat := ((List.range l.length).filter fun j => !listed.getD j true).length
theorem left_set {l : List Oper} {listed : Array Bool} {i : Nat} (hi : i < l.length) (hsz : listed.size = l.length) (hu : listed.getD i true = false) : left l (listed.setIfInBounds i true) < left l listed := by
  refine filter_lt (i := i) (fun j hj => ?_) (List.mem_range.2 hi) (by simp [hu]) (by rw [getD_set_self (by omega)]; rfl)
  by_cases h : i = j
  · subst h; rw [getD_set_self (by omega)] at hj; simp at hj
  · rwa [getD_set_ne true h] at hj
theorem left_pos {l : List Oper} {listed : Array Bool} {i : Nat} (hi : i < l.length) (hu : listed.getD i true = false) : 0 < left l listed :=
  List.length_pos_of_mem (List.mem_filter.2 ⟨List.mem_range.2 hi, by simp [hu]⟩)
theorem ready_lt {l : List Oper} {listed : Array Bool} {i : Nat} (hi : i ∈ Region.ready .any l.toArray listed) : i < l.length ∧ listed.getD i true = false := by
  obtain ⟨h1, o, ho, _⟩ := mem_ready.1 hi
  exact ⟨by have := (Array.getElem?_eq_some_iff.1 ho).1; simpa using this, h1⟩
theorem least_ready {l : List Oper} {listed : Array Bool} (hsz : listed.size = l.length) (hlt : ∀ i o, l[i]? = some o → ∀ e ∈ o.after, Region.binds .any e = true → e.on < i) (h : Region.ready .any l.toArray listed = []) : ∀ i, i < l.length → listed.getD i false = true := by
  intro i
  induction i using Nat.strongRecOn with
  | _ i ih =>
    intro hi
    cases hu : listed.getD i false with
    | true => rfl
    | false =>
      have hr : i ∈ Region.ready .any l.toArray listed := mem_ready.2 ⟨getD_in (by omega) hu, l[i], by simp [hi], fun e he hb => by
        have h1 := hlt i l[i] (by simp [hi]) e he hb
        exact ih e.on h1 (by omega)⟩
      rw [h] at hr
      cases hr

theorem wpAny_row (l : List Oper) (n : Nat) (hlt : ∀ i o, l[i]? = some o → ∀ e ∈ o.after, Region.binds .any e = true → e.on < i)
    (htl : ∀ t, n ≤ t → t < l.length → ∀ j, j < t → depC l l.length t j = true) :
    ∀ (f k : Nat) (listed : Array Bool) (a : Act) (w : World), Closed l listed → left l listed ≤ f → n ≤ k → k ≤ l.length → listed.size = l.length → (∀ j, j < k → listed.getD j false = true) → (∀ t, k ≤ t → t < l.length → listed.getD t true = false) →
      wpList P l.toArray Q (l.drop k) a w → wpAny P .any l.toArray Q f listed a w := by
  have done : ∀ (k : Nat) (listed : Array Bool) (a : Act) (w : World), k ≤ l.length → (∀ t, k ≤ t → t < l.length → listed.getD t true = false) → (∀ i, i < l.length → listed.getD i false = true) → wpList P l.toArray Q (l.drop k) a w → Q .normal a w := by
    intro k listed a w hk hu hall h
    have hkl : k = l.length := by
      rcases Nat.lt_or_ge k l.length with h1 | h1
      · have h2 := hu k (Nat.le_refl _) h1
        have h3 := hall k h1
        rw [getD_both h2] at h3
        cases h3
      · omega
    subst hkl
    rw [List.drop_length] at h
    exact h
  intro f
  induction f with
  | zero =>
    intro k listed a w hcl hf hnk hk hsz hl hu h
    have hr : Region.ready .any l.toArray listed = [] := by
      rw [List.eq_nil_iff_forall_not_mem]
      intro i hi
      obtain ⟨h1, h2⟩ := ready_lt hi
      have := left_pos h1 h2
      omega
    exact ⟨hr, done k listed a w hk hu (least_ready hsz hlt hr) h⟩
  | succ f ih =>
    intro k listed a w hcl hf hnk hk hsz hl hu h
    refine ⟨fun hr => done k listed a w hk hu (least_ready hsz hlt hr) h, fun i hi => ?_⟩
    obtain ⟨hil, hiu⟩ := ready_lt hi
    have hik : i = k := by
      rcases Nat.lt_trichotomy i k with h1 | h1 | h1
      · have := hl i h1
        rw [getD_both hiu] at this
        cases this
      · exact h1
      · have h2 := htl i (by omega) hil k h1
        have := ready_dep hcl hi _ k h2
        rw [getD_both (hu k (Nat.le_refl _) (by omega))] at this
        cases this
    subst hik
    have h0 : l.toArray[i]? = some l[i] := by simp [hil]
    rw [List.drop_eq_getElem_cons hil] at h
    have hw : wpOp P l.toArray Q i (wpList P l.toArray Q (l.drop (i + 1))) a w := by unfold wpOp; simp only [h0]; exact h
    refine wpOp_mono (fun a' w' h' => ih (i + 1) _ a' w' (closed_set hcl hi) (by have := left_set hil hsz hiu; omega) (by omega) (by omega) (by simp [hsz]) (fun j hj => ?_) (fun t ht ht2 => ?_) h') hw
    · by_cases hji : i = j
      · subst hji; exact getD_set_self (by omega) _
      · rw [getD_set_ne false hji]; exact hl j (by omega)
    · rw [getD_set_ne true (by omega)]; exact hu t (by omega) ht2

theorem getD_set_self_true {listed : Array Bool} {i : Nat} (h : i < listed.size) : (listed.setIfInBounds i true).getD i true = true := by simp [h]
theorem wpAny_ev (l : List Oper) (n : Nat) (a0 : Act) (E : Nat → Value → World → Prop) (G : Nat → World → World → Prop) (S : World → Prop) (Pd : Nat → Act → World → Prop)
    (hB : evB l n a0.tmps.size = true) (hst : ∀ i k v w w', k ≠ i → depC l l.length i k = false → E i v w → G k w w' → E i v w')
    (step : ∀ i o, i < n → l[i]? = some o → ∀ a w, S w → Pd i a w → (∀ t, notDst l n t = true → a.eval (.tmp t) = a0.eval (.tmp t)) → (∀ j, j < n → depC l l.length i j = true → E j (a.eval (dstOf l j)) w) →
      o.wp P a w (fun a' w' => ∃ v, a' = a.put o.dst v ∧ (E i v w' ∧ (o.dst = none → ∀ u, E i u w')) ∧ G i w w' ∧ S w' ∧ ∀ j, j < n → j ≠ i → depC l l.length i j = false → Pd j a w → Pd j (a.put o.dst v) w') Q)
    (fin : ∀ a w, S w → a.tmps.size = a0.tmps.size → a.defers = a0.defers → (∀ t, notDst l n t = true → a.eval (.tmp t) = a0.eval (.tmp t)) → (∀ j, j < n → E j (a.eval (dstOf l j)) w) → wpList P l.toArray Q (l.drop n) a w) :
    ∀ (f : Nat) (listed : Array Bool) (a : Act) (w : World), EvInv l n a0 E S Pd listed a w → left l listed ≤ f → wpAny P .any l.toArray Q f listed a w := by
  unfold evB at hB
  simp only [Bool.and_eq_true, decide_eq_true_eq, List.all_eq_true, List.mem_range, Bool.or_eq_true] at hB
  obtain ⟨⟨hn, hops⟩, htail⟩ := hB
  have hop : ∀ i o, i < n → l[i]? = some o → o.guard = none ∧ (∀ e ∈ o.after, Region.binds .any e = true → e.on < i) ∧ ∀ d, o.dst = some d → d < a0.tmps.size ∧ ∀ j, j < n → j ≠ i → ((l[j]?).bind (·.dst)) ≠ some d := by
    intro i o hi ho
    have h := hops i hi
    rw [ho] at h
    simp only [Bool.and_eq_true, beq_iff_eq] at h
    obtain ⟨⟨h1, h2⟩, h3⟩ := h
    refine ⟨h1, fun e he hb => ?_, ?_⟩
    · have := Array.all_eq_true'.1 h2 e he
      simpa [hb] using this
    · intro d hd
      rw [hd] at h3
      simp only [Bool.and_eq_true, decide_eq_true_eq, List.all_eq_true, List.mem_range, Bool.or_eq_true, bne_iff_ne] at h3
      exact ⟨h3.1, fun j hj hne => (h3.2 j hj).resolve_left hne⟩
  have htl0 : ∀ t o, n ≤ t → l[t]? = some o → (∀ e ∈ o.after, Region.binds .any e = true → e.on < t) ∧ ∀ j, j < t → depC l l.length t j = true := by
    intro t o ht ho
    have htlen : t < l.length := (List.getElem?_eq_some_iff.1 ho).1
    have h := (htail t htlen).resolve_left (by omega)
    rw [ho] at h
    simp only [Bool.and_eq_true, List.all_eq_true, List.mem_range] at h
    refine ⟨fun e he hb => ?_, h.2⟩
    have := Array.all_eq_true'.1 h.1 e he
    simpa [hb] using this
  have hlt : ∀ i o, l[i]? = some o → ∀ e ∈ o.after, Region.binds .any e = true → e.on < i := by
    intro i o ho
    rcases Nat.lt_or_ge i n with h | h
    · exact (hop i o h ho).2.1
    · exact (htl0 i o h ho).1
  have htl : ∀ t, n ≤ t → t < l.length → ∀ j, j < t → depC l l.length t j = true := fun t ht hlen => (htl0 t l[t] ht (by simp [hlen])).2
  intro f
  induction f with
  | zero =>
    intro listed a w inv hf
    refine wpAny_row l n hlt htl 0 n listed a w inv.closed hf (Nat.le_refl _) hn inv.size ?_ inv.tail ?_
    all_goals
      have hall : ∀ j, j < l.length → listed.getD j false = true := fun j hj => by
        cases hu : listed.getD j false with
        | true => rfl
        | false =>
          have := left_pos hj (getD_in (by rw [inv.size]; omega) hu)
          omega
    · exact fun j hj => hall j (by omega)
    · exact fin a w inv.inv inv.tmps inv.defers inv.same (fun j hj => inv.facts j hj (hall j (by omega)))
  | succ f ih =>
    intro listed a w inv hf
    by_cases hall : ∀ j, j < n → listed.getD j false = true
    · exact wpAny_row l n hlt htl (f + 1) n listed a w inv.closed hf (Nat.le_refl _) hn inv.size hall inv.tail (fin a w inv.inv inv.tmps inv.defers inv.same (fun j hj => inv.facts j hj (hall j hj)))
    · refine ⟨fun hr => absurd (fun j hj => least_ready inv.size hlt hr j (by omega)) hall, fun i hi => ?_⟩
      obtain ⟨hil, hiu⟩ := ready_lt hi
      have hoi : l[i]? = some l[i] := by simp [hil]
      have hin : i < n := by
        rcases Nat.lt_or_ge i n with h | h
        · exact h
        · exact absurd (fun j hj => ready_dep inv.closed hi _ j (htl i h hil j (by omega))) hall
      obtain ⟨hg, _, hdd⟩ := hop i l[i] hin hoi
      have hst' := step i l[i] hin hoi a w inv.inv (inv.pend i hin hiu) inv.same (fun j hj hdep => inv.facts j hj (ready_dep inv.closed hi _ j hdep))
      have h0 : l.toArray[i]? = some l[i] := by simp [hil]
      have hw : wpOp P l.toArray Q i (fun a' w' => ∃ v, a' = a.put l[i].dst v ∧ (E i v w' ∧ (l[i].dst = none → ∀ u, E i u w')) ∧ G i w w' ∧ S w' ∧ ∀ j, j < n → j ≠ i → depC l l.length i j = false → Pd j a w → Pd j (a.put l[i].dst v) w') a w := by
        unfold wpOp
        simp only [h0]
        rw [if_pos (by simp [Region.wanted, hg])]
        exact .inl hst'
      refine wpOp_mono (fun a' w' h' => ?_) hw
      obtain ⟨v, rfl, ⟨hE, hEn⟩, hG, hS, hP⟩ := h'
      have hpend : ∀ j, j < n → (listed.setIfInBounds i true).getD j true = false → Pd j (a.put l[i].dst v) w' := by
        intro j hj hlj
        by_cases hji : i = j
        · subst hji
          rw [getD_set_self_true (by rw [inv.size]; exact hil)] at hlj
          cases hlj
        · rw [getD_set_ne true hji] at hlj
          refine hP j hj (fun e => hji e.symm) ?_ (inv.pend j hj hlj)
          cases hdep : depC l l.length i j with
          | false => rfl
          | true =>
            have := ready_dep inv.closed hi _ j hdep
            rw [getD_both hlj] at this
            cases this
      have hnd : ∀ j, listed.getD j false = true → depC l l.length j i = false := by
        intro j hlj
        cases hdep : depC l l.length j i with
        | false => rfl
        | true =>
          have := closed_dep inv.closed _ _ _ hlj hdep
          rw [getD_both hiu] at this
          cases this
      have hnones : ∀ j o, j < n → l[j]? = some o → o.dst = none → (listed.setIfInBounds i true).getD j false = true → ∀ u, E j u w' := by
        intro j o hj ho hdn hlj u
        by_cases hji : i = j
        · subst hji
          have : o = l[i] := Option.some.inj (ho.symm.trans hoi)
          subst this
          exact hEn hdn u
        · rw [getD_set_ne false hji] at hlj
          exact hst _ _ _ _ _ hji (hnd j hlj) (inv.nones j o hj ho hdn hlj u) hG
      have htail' : ∀ t, n ≤ t → t < l.length → (listed.setIfInBounds i true).getD t true = false := fun t ht ht2 => by
        rw [getD_set_ne true (by omega)]; exact inv.tail t ht ht2
      cases hd : l[i].dst with
      | none =>
        have hput : a.put none v = a := rfl
        rw [hd, hput] at hpend
        rw [hput]
        refine ih _ _ _ ⟨by simp [inv.size], hS, inv.tmps, inv.defers, inv.same, fun j hj hlj => ?_, htail', closed_set inv.closed hi, hpend, hnones⟩ (by have := left_set hil inv.size hiu; omega)
        by_cases hji : i = j
        · subst hji; exact hEn hd _
        · rw [getD_set_ne false hji] at hlj
          exact hst _ _ _ _ _ hji (hnd j hlj) (inv.facts j hj hlj) hG
      | some d =>
        rw [hd] at hpend
        obtain ⟨hdN, hdo⟩ := hdd d hd
        refine ih _ _ _ ⟨by simp [inv.size], hS, by simp [Act.put, inv.tmps], by simp [Act.put, inv.defers], fun t ht => ?_, fun j hj hlj => ?_, htail', closed_set inv.closed hi, hpend, hnones⟩ (by have := left_set hil inv.size hiu; omega)
        · have hne : d ≠ t := by
            rintro rfl
            unfold notDst at ht
            rw [List.all_eq_true] at ht
            have := ht i (List.mem_range.2 hin)
            rw [hoi] at this
            simp [hd] at this
          rw [eval_put_other hne]
          exact inv.same t ht
        · by_cases hji : i = j
          · subst hji
            have he : dstOf l i = .tmp d := by simp [dstOf, hil, hd]
            rw [he, eval_put_self (by rw [inv.tmps]; exact hdN)]
            exact hE
          · have hlj0 := hlj
            rw [getD_set_ne false hji] at hlj
            have hlen : j < l.length := by omega
            have hf := inv.facts j hj hlj
            cases hd2 : l[j].dst with
            | some d2 =>
              have he : dstOf l j = .tmp d2 := by simp [dstOf, hlen, hd2]
              have hne : d ≠ d2 := by
                intro e
                exact hdo j hj (fun e => hji e.symm) (by simp [hlen, hd2, e])
              rw [he] at hf ⊢
              rw [eval_put_other hne]
              exact hst _ _ _ _ _ hji (hnd j hlj) hf hG
            | none => exact hnones j l[j] hj (by simp [hlen]) hd2 hlj0 _

/-- THE RULE. E i v w: what operation i's value v is good for in the world w; G: what each of them does to the world; S: what holds of the world all along; Pd i: what operation i finds as long as it has not been. -/
theorem region_ev_p {id : Nat} {a0 : Act} {w0 : World} {l : List Oper} (n : Nat) (E : Nat → Value → World → Prop) (G : Nat → World → World → Prop) (S : World → Prop) (Pd : Nat → Act → World → Prop) (hm : P.follows .mixedOrders = true)
    (hB : evB l n a0.tmps.size = true) (hst : ∀ i k v w w', k ≠ i → depC l l.length i k = false → E i v w → G k w w' → E i v w') (h0 : S w0.drew) (hp0 : ∀ i, i < n → Pd i a0 w0.drew)
    (step : ∀ i o, i < n → l[i]? = some o → ∀ a w, S w → Pd i a w → (∀ t, notDst l n t = true → a.eval (.tmp t) = a0.eval (.tmp t)) → (∀ j, j < n → depC l l.length i j = true → E j (a.eval (dstOf l j)) w) →
      o.wp P a w (fun a' w' => ∃ v, a' = a.put o.dst v ∧ (E i v w' ∧ (o.dst = none → ∀ u, E i u w')) ∧ G i w w' ∧ S w' ∧ ∀ j, j < n → j ≠ i → depC l l.length i j = false → Pd j a w → Pd j (a.put o.dst v) w') Q)
    (fin : ∀ a w, S w → a.tmps.size = a0.tmps.size → a.defers = a0.defers → (∀ t, notDst l n t = true → a.eval (.tmp t) = a0.eval (.tmp t)) → (∀ j, j < n → E j (a.eval (dstOf l j)) w) → wpList P l.toArray Q (l.drop n) a w) :
    (Code.region id l.toArray true).wp P Q a0 w0 := by
  refine wp_region_any hm ?_
  refine wpAny_ev l n a0 E G S Pd hB hst step fin _ _ a0 _ ⟨by simp, h0, rfl, rfl, fun _ _ => rfl, fun j _ h => ?_, fun t _ ht => ?_, fun i _ _ h => ?_, fun i hi _ => hp0 i hi, fun j o _ _ _ h => ?_⟩ ?_
  · rw [getD_replicate_false] at h; cases h
  · exact getD_in (by simpa using ht) (getD_replicate_false _ _)
  · rw [getD_replicate_false] at h; cases h
  · rw [getD_replicate_false] at h; cases h
  · unfold left
    have := List.length_filter_le (fun j => !(Array.replicate l.toArray.size false).getD j true) (List.range l.length)
    simpa using this
/-- the rule, where nothing is waited for -/
theorem region_ev {id : Nat} {a0 : Act} {w0 : World} {l : List Oper} (n : Nat) (E : Nat → Value → World → Prop) (G : World → World → Prop) (S : World → Prop) (hm : P.follows .mixedOrders = true)
    (hB : evB l n a0.tmps.size = true) (hnn : ((List.range n).all fun i => ((l[i]?).bind (·.dst)).isSome) = true) (hst : ∀ i v w w', E i v w → G w w' → E i v w') (h0 : S w0.drew)
    (step : ∀ i o, i < n → l[i]? = some o → ∀ a w, S w → (∀ t, notDst l n t = true → a.eval (.tmp t) = a0.eval (.tmp t)) → (∀ j, j < n → depC l l.length i j = true → E j (a.eval (dstOf l j)) w) →
      o.wp P a w (fun a' w' => ∃ v, a' = a.put o.dst v ∧ E i v w' ∧ G w w' ∧ S w') Q)
    (fin : ∀ a w, S w → a.tmps.size = a0.tmps.size → a.defers = a0.defers → (∀ t, notDst l n t = true → a.eval (.tmp t) = a0.eval (.tmp t)) → (∀ j, j < n → E j (a.eval (dstOf l j)) w) → wpList P l.toArray Q (l.drop n) a w) :
    (Code.region id l.toArray true).wp P Q a0 w0 := by
  refine region_ev_p n E (fun _ => G) S (fun _ _ _ => True) hm hB (fun i k v w w' _ _ => hst i v w w') h0 (fun _ _ => trivial) (fun i o hi ho a w hS _ hag hdep => ?_) fin
  refine Oper.wp_mono ?_ (step i o hi ho a w hS hag hdep)
  rintro a' w' ⟨v, h1, h2, h3, h4⟩
  refine ⟨v, h1, ⟨h2, fun hd => ?_⟩, h3, h4, fun _ _ _ _ _ => trivial⟩
  have := List.all_eq_true.1 hnn i (List.mem_range.2 hi)
  rw [ho] at this
  simp [hd] at this
end

/-! ### the same in a round's frame -/
def noDefer (l : List Oper) : Bool := l.all fun o => match o.op with | .defer _ => false | _ => true
section
variable {P : Program} {Q : Exit → Act → World → Prop}
theorem rowsIn_wide {n : Nat} {row : String} {args : Array Value} {w : World} {R : Value → World → Prop} (h : Rows P row args w R) : RowsIn Fence.wide n P row args w R := by
  intro c cs _
  obtain ⟨v, w', h1, h2⟩ := h c cs
  exact ⟨v, w', h1, stepsIn_wide.2 h2⟩
theorem wpIn_of_wp {r n : Nat} {o : Oper} {a : Act} {w : World} {K : Act → World → Prop} (hd : ∀ c, o.op ≠ .defer c) (h : o.wp P a w K Q) : o.wpIn (Fence.wide.inRound r) n P a w K Q := by
  refine ⟨fun _ _ => trivial, ?_⟩
  rw [Oper.semAt_eq _ _ _ hd]
  unfold Oper.wp at h
  generalize (execOp a.eval o).run P w = res at h
  cases res with
  | ok x w' =>
    cases x <;> simp only [Oper.upon] at h <;> simp only [Oper.uponIn]
    case value v => exact h
    case skip => exact h
    case defer d => exact h
    case enter f args => exact ⟨fun h => by simp [Fence.wide] at h, callsIn_wide.2 h⟩
    case row rw_ args => exact ⟨fun h => by simp [Fence.wide] at h, rowsIn_wide h⟩
  | halt x w' =>
    cases x <;> simp only [Oper.upon] at h <;> simp only [Oper.uponIn]
    exact h
theorem wpOpIn_of {r n : Nat} {ops : Array Oper} (hq : ∀ a w, ¬ Q .outgrown a w) (hd : ∀ (i : Nat) (o : Oper) (c : Call), ops[i]? = some o → o.op ≠ Op.defer c) {i : Nat} {K : Act → World → Prop} {a : Act} {w : World} (h : wpOp P ops Q i K a w) : wpOpIn (Fence.wide.inRound r) n P ops Q i K a w := by
  unfold wpOp at h
  unfold wpOpIn
  cases ho : ops[i]? with
  | none => simp only [ho] at h ⊢; exact h
  | some o =>
    simp only [ho] at h ⊢
    split
    · rename_i hw
      rw [if_pos hw] at h
      rcases h with h | ⟨_, a2, w2, h⟩
      · exact wpIn_of_wp (fun c => hd i o c ho) h
      · exact absurd h (hq _ _)
    · rename_i hw
      rw [if_neg hw] at h
      exact ⟨fun _ _ => trivial, h⟩
theorem wpAnyIn_of {r n : Nat} {md : Region.Mode} {ops : Array Oper} (hq : ∀ a w, ¬ Q .outgrown a w) (hd : ∀ (i : Nat) (o : Oper) (c : Call), ops[i]? = some o → o.op ≠ Op.defer c) : ∀ (f : Nat) (listed : Array Bool) (a : Act) (w : World), wpAny P md ops Q f listed a w → wpAnyIn (Fence.wide.inRound r) n P md ops Q f listed a w := by
  intro f
  induction f with
  | zero => intro listed a w h; exact h
  | succ f ih =>
    intro listed a w h
    exact ⟨h.1, fun i hi => wpOpIn_mono (fun a' w' h' => ih _ _ _ h') (wpOpIn_of hq hd (h.2 i hi))⟩
/-- THE RULE, in a round's frame. -/
theorem region_ev_p_in {r m : Nat} {id : Nat} {a0 : Act} {w0 : World} {l : List Oper} (n : Nat) (E : Nat → Value → World → Prop) (G : Nat → World → World → Prop) (S : World → Prop) (Pd : Nat → Act → World → Prop) (hq : ∀ a w, ¬ Q .outgrown a w) (hnd : noDefer l = true) (hm : P.follows .mixedOrders = true)
    (hB : evB l n a0.tmps.size = true) (hst : ∀ i k v w w', k ≠ i → depC l l.length i k = false → E i v w → G k w w' → E i v w') (h0 : S w0.drew) (hp0 : ∀ i, i < n → Pd i a0 w0.drew)
    (step : ∀ i o, i < n → l[i]? = some o → ∀ a w, S w → Pd i a w → (∀ t, notDst l n t = true → a.eval (.tmp t) = a0.eval (.tmp t)) → (∀ j, j < n → depC l l.length i j = true → E j (a.eval (dstOf l j)) w) →
      o.wp P a w (fun a' w' => ∃ v, a' = a.put o.dst v ∧ (E i v w' ∧ (o.dst = none → ∀ u, E i u w')) ∧ G i w w' ∧ S w' ∧ ∀ j, j < n → j ≠ i → depC l l.length i j = false → Pd j a w → Pd j (a.put o.dst v) w') Q)
    (fin : ∀ a w, S w → a.tmps.size = a0.tmps.size → a.defers = a0.defers → (∀ t, notDst l n t = true → a.eval (.tmp t) = a0.eval (.tmp t)) → (∀ j, j < n → E j (a.eval (dstOf l j)) w) → wpList P l.toArray Q (l.drop n) a w) :
    (Code.region id l.toArray true).wpIn (Fence.wide.inRound r) m P Q a0 w0 := by
  refine wpIn_region_any hm (wpAnyIn_of hq ?_ _ _ _ _ ?_)
  · intro i o c ho he
    have hmem : o ∈ l := List.mem_of_getElem? (by simpa using ho)
    have := List.all_eq_true.1 hnd o hmem
    rw [he] at this
    cases this
  refine wpAny_ev l n a0 E G S Pd hB hst step fin _ _ a0 _ ⟨by simp, h0, rfl, rfl, fun _ _ => rfl, fun j _ h => ?_, fun t _ ht => ?_, fun i _ _ h => ?_, fun i hi _ => hp0 i hi, fun j o _ _ _ h => ?_⟩ ?_
  · rw [getD_replicate_false] at h; cases h
  · exact getD_in (by simpa using ht) (getD_replicate_false _ _)
  · rw [getD_replicate_false] at h; cases h
  · rw [getD_replicate_false] at h; cases h
  · unfold left
    have := List.length_filter_le (fun j => !(Array.replicate l.toArray.size false).getD j true) (List.range l.length)
    simpa using this
/-- a list of operations one by one, in a round's frame -/
theorem wpListIn_of {r n : Nat} {ops : Array Oper} (hq : ∀ a w, ¬ Q .outgrown a w) : ∀ (l : List Oper) (a : Act) (w : World), noDefer l = true → wpList P ops Q l a w → wpListIn (Fence.wide.inRound r) n P ops Q l a w := by
  intro l
  induction l with
  | nil => intro a w _ h; exact h
  | cons o l ih =>
    intro a w hnd h
    simp only [noDefer, List.all_cons, Bool.and_eq_true] at hnd
    simp only [wpList] at h
    simp only [wpListIn]
    split
    · rename_i hw
      rw [if_pos hw] at h
      rcases h with h | ⟨_, a2, w2, h⟩
      · exact wpIn_of_wp (fun c he => by rw [he] at hnd; cases hnd.1) (Oper.wp_mono (fun a' w' h' => ih _ _ hnd.2 h') h)
      · exact absurd h (hq _ _)
    · rename_i hw
      rw [if_neg hw] at h
      exact ⟨fun _ _ => trivial, ih _ _ hnd.2 h⟩
end

section
variable {P : Program} {Q : Exit → Act → World → Prop} {o : Oper} {a : Act} {w : World} {K : Act → World → Prop}
theorem ow_value {v : Value} (hr : (execOp a.eval o).run P w = .ok (.value v) w) (h : K (a.put o.dst v) w) : o.wp P a w K Q := by
  unfold Oper.wp; rw [hr]; exact h
theorem ow_value' {v : Value} {w' : World} (hr : (execOp a.eval o).run P w = .ok (.value v) w') (h : K (a.put o.dst v) w') : o.wp P a w K Q := by
  unfold Oper.wp; rw [hr]; exact h
theorem ow_move (x : Operand) (ho : o.op = .move x) {v : Value} (hx : a.eval x = v) (h : K (a.put o.dst v) w) : o.wp P a w K Q := by
  subst hx; exact ow_value (BigFrame.run_move x ho w) h
theorem ow_assign (x : Operand) (ho : o.op = .assign x) {v : Value} (hx : a.eval x = v) (h : K (a.put o.dst v) w) : o.wp P a w K Q := by
  subst hx; exact ow_value (BigFrame.run_assign x ho w) h
theorem ow_call {f : FuncId} {fn : Func} {c : Code} (hf : P.funcs[f]? = some fn) (hname : (fn.name == "runtime.NumGoroutine") = false) (hb : fn.body = some c) (args : Array Operand) (ats : Array TypeId)
    (ho : o.op = .call { callee := .value (.func f), args := args, argTypes := ats }) {vs : Array Value} (hx : args.map a.eval = vs)
    (h : Calls P f vs w fun e w' => ∃ v, e = .returned v ∧ K (a.put o.dst v) w') : o.wp P a w K Q := by
  subst hx
  have hr : (execOp a.eval o).run P w = .ok (.enter f (args.map a.eval)) w := by
    unfold execOp
    simp only [ho]
    have h1 : fn.name ≠ "runtime.NumGoroutine" := by simpa using hname
    simp [resolve, Deferred.ofValue, invoke, callFunc, Act.eval, hf, h1, hb]
  unfold Oper.wp
  rw [hr, Oper.upon_enter]
  refine h.mono ?_
  rintro e w' ⟨v, rfl, hk⟩
  exact hk
theorem ow_load_row (ty : TypeId) (x : Operand) (ho : o.op = .load ty x) (g : Nat) (hx : a.eval x = .pointer (some ⟨g, 0, none⟩)) (t : TypeId) (cs : Array Value) (fr : Nat × Nat) (d : TypeDesc) (hg : w.heap[g]? = some (.cells cs t fr))
    (hu : P.underlying ty = some d) (hd : (match d with | .struct _ | .array _ _ => true | _ => false) = true) (hi : (P.info? ty).map (·.size) = some cs.size) (h : K (a.put o.dst (.agg cs)) w) : o.wp P a w K Q :=
  wp_load_row ty x ho g hx t cs fr d hg hu hd hi h
end
end Go.Proofs.Ytncjgfhipflokaa
