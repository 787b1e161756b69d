/-
  Counting maps: grants.Users, grants.channels.
-/
import Derived.Test.YtncjgfhipflokaaSb
import Derived.Maps.OwnIn
import Derived.Maps.Views
namespace Go.Proofs.Ytncjgfhipflokaa
open Go.RowKit Go.Shelf Hp Go.Maps

theorem zero3 (w : World) : (zeroValue 3).run Try.prog w = .ok (.int .i64 0) w := by kernel_rfl
abbrev kS (x : S) : Lit := .string x
abbrev z64 : DataW Unit := .lit (.int .i64 0)
/-- D counts the texts ks -/
structure KM (D : DataW Unit) (ks : List S) : Prop where
  tidy : Tidy D
  has_ : ∀ x, Maps.has D (kS x) = decide (x ∈ ks)
  size_ : Maps.size D ≤ ks.length
  at_ : ∀ x, ∃ c : Nat, D.atKey (kS x) z64 = .lit (.int .i64 (c : Int)) ∧ c ≤ ks.length ∧ (c = 0 ↔ x ∉ ks)
theorem isKey (x : S) : WideAt.IsKeyLit (kS x) := trivial
theorem KM.start : KM (.map []) [] := by
  refine ⟨tidy_empty, fun x => by simp [has_eq], by simp [size_eq], fun x => ⟨0, ?_, Nat.le_refl _, by simp⟩⟩
  exact atKey_of_not_has (by simp [has_eq]) _
theorem KM.put {D : DataW Unit} {ks : List S} (h : KM D ks) (x : S) {c : Int} (hc : D.atKey (kS x) z64 = .lit (.int .i64 c)) : KM (D.put (kS x) (.lit (.int .i64 (c + 1)))) (ks ++ [x]) := by
  have hne : ∀ y : S, y ≠ x → kS y ≠ kS x := fun y hy e => hy (by injection e)
  refine ⟨h.tidy.put (isKey x) _, fun y => ?_, ?_, fun y => ?_⟩
  · by_cases hy : y = x
    · subst hy
      rw [has_put_same h.tidy.isMap (isKey y)]
      simp
    · rw [has_put_other (hne y hy), h.has_]
      simp [hy]
  · rw [size_put h.tidy, List.length_append]
    have := h.size_
    split <;> simp <;> omega
  · by_cases hy : y = x
    · subst hy
      obtain ⟨n, h1, h2, h3⟩ := h.at_ y
      rw [hc] at h1
      injection h1 with h1
      injection h1 with h1 h1'
      subst h1'
      exact ⟨n + 1, by rw [atKey_put_same h.tidy.isMap (isKey y)]; rfl, by simp; omega, by simp⟩
    · obtain ⟨n, h1, h2, h3⟩ := h.at_ y
      refine ⟨n, by rw [atKey_put_other (hne y hy)]; exact h1, by simp; omega, ?_⟩
      rw [h3]; simp [hy]
/-- l: those of ks, rising, each once -/
def Keys (l ks : List S) : Prop := l.Pairwise (· < ·) ∧ ∀ x, x ∈ l ↔ x ∈ ks
theorem Keys.uniq {l l' ks ks' : List S} (h : Keys l ks) (h' : Keys l' ks') (he : ∀ x, x ∈ ks ↔ x ∈ ks') : l = l' := by
  have hnd : ∀ m : List S, m.Pairwise (· < ·) → m.Nodup := fun m hm => hm.imp fun {a b} hab e => by subst e; exact List.lt_irrefl _ hab
  have hp : l.Perm l' := (List.perm_ext_iff_of_nodup (hnd _ h.1) (hnd _ h'.1)).2 fun x => by rw [h.2, h'.2, he]
  exact List.Perm.eq_of_pairwise (le := fun a b => a < b) (fun a b _ _ h1 h2 => absurd h2 (List.lt_asymm h1)) h.1 h'.1 hp
theorem Keys.of {l ks : List S} {D : DataW Unit} (hk : KM D ks) (hstr : ∀ es, D = .map es → ∀ p ∈ es, ∃ x, p.1 = .string x) (hp : l.Perm (strKeys D)) (hs : l.Pairwise (· ≤ ·)) : Keys l ks := by
  obtain ⟨es, rfl, hpw⟩ := hk.tidy
  have hst := hstr es rfl
  have hnd : (strKeys (.map es)).Nodup := by
    show (es.map fun p => strOf p.1).Nodup
    refine List.pairwise_map.2 (hpw.imp_of_mem fun {p q} hp' hq' hne e => hne ?_)
    obtain ⟨a, ha⟩ := hst p hp'
    obtain ⟨b, hb⟩ := hst q hq'
    rw [ha, hb] at e ⊢
    exact congrArg _ e
  have hmem : ∀ x, x ∈ strKeys (.map es : DataW Unit) ↔ x ∈ ks := by
    intro x
    have h1 := hk.has_ x
    rw [has_eq] at h1
    constructor
    · intro hx
      obtain ⟨p, hp', e⟩ := List.mem_map.1 hx
      obtain ⟨a, ha⟩ := hst p hp'
      have : es.any (fun p => p.1.sameKey (kS x)) = true := List.any_eq_true.2 ⟨p, hp', by
        rw [ha] at e ⊢
        have e : a = x := e
        subst e
        simp [Lit.sameKey]⟩
      rw [this] at h1
      simpa using h1.symm
    · intro hx
      have : es.any (fun p => p.1.sameKey (kS x)) = true := by rw [h1]; simpa using hx
      obtain ⟨p, hp', e⟩ := List.any_eq_true.1 this
      obtain ⟨a, ha⟩ := hst p hp'
      rw [ha] at e
      have e : a = x := by simpa [Lit.sameKey] using e
      exact List.mem_map.2 ⟨p, hp', by rw [ha]; exact e⟩
  refine ⟨?_, fun x => (hp.mem_iff).trans (hmem x)⟩
  have hnl : l.Nodup := hp.nodup_iff.2 hnd
  exact (hs.and hnl).imp fun {a b} ⟨h1, h2⟩ => Classical.byContradiction fun hn => h2 (List.le_antisymm h1 (List.not_lt.1 hn))

theorem own_strs {w : World} {b n : Nat} {D : DataW Unit} (h : w.ownsMap Try.prog 9 (plainElem Try.prog 3) b n D) : ∀ es, D = .map es → ∀ p ∈ es, ∃ x, p.1 = .string x := by
  obtain ⟨es, he, hko⟩ := h.keysOf
  intro es' he' p hp
  obtain rfl : es = es' := by rw [he] at he'; injection he'
  obtain ⟨v, hv⟩ := hko p hp
  obtain ⟨x, _, hx, _⟩ := Maps.keyOf_str Try.underlying9 hv
  exact ⟨x, hx⟩
theorem own_touch {w w' : World} {b n : Nat} {D : DataW Unit} (h : w.ownsMap Try.prog 9 (plainElem Try.prog 3) b n D) (hk : ∀ o, w.heap[b]? = some o → w'.heap[b]? = some o) : w'.ownsMap Try.prog 9 (plainElem Try.prog 3) b n D := by
  obtain ⟨es, c, h1, h2⟩ := h
  exact ⟨es, c, hk _ h1, h2⟩
theorem pairs_le {T : World → Value → Prop} {B0 : Nat} {w : World} {v : Value} {l : List Doc} (h : DS T B0 w v l) : ∀ p ∈ pairs l, p.1.length ≤ maxLen ∧ p.2.length ≤ maxLen := by
  obtain ⟨A, c, rfl, _, _, hel⟩ := h
  intro p hp
  obtain ⟨g, hg, hpg⟩ := List.mem_flatten.1 hp
  obtain ⟨d, hd, rfl⟩ := List.mem_map.1 hg
  obtain ⟨k, hk, hkd⟩ := List.getElem_of_mem hd
  rcases hel with h0 | ⟨b, o, _, hrows⟩
  · omega
  obtain ⟨cs, _, _, d', hd', sq, nd, ch, gr, gn, _, _, _, hgs, _⟩ := hrows k hk
  rw [List.getElem?_eq_getElem hk] at hd'
  injection hd' with hd'
  obtain ⟨_, _, _, _, _, hb, _⟩ := hgs
  rw [← hd', hkd] at hb
  exact hb p hpg
theorem key_str (x : S) (h : x.length ≤ maxLen) : keyOf Try.prog 9 (encStr x) = some (kS x) := WideMaps.keyOf_string_mk Try.underlying9 (by simpa [ByteArray.size] using h)
end Go.Proofs.Ytncjgfhipflokaa
