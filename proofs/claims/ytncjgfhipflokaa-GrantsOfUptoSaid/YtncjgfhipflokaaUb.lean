/-
  A document more: plain laws.
-/
import Derived.Test.YtncjgfhipflokaaUa
namespace Go.Proofs.Ytncjgfhipflokaa
open Go.RowKit Go.Shelf Hp Go.Maps

theorem pairs_append (a b : List Doc) : pairs (a ++ b) = pairs a ++ pairs b := by simp [pairs]
theorem pairs_one (d : Doc) : pairs [d] = d.grants := by simp [pairs]
theorem chF_append (u : S) (a b : List (S × S)) : chF u (a ++ b) = chF u a ++ chF u b := by simp [chF]
theorem chF_none {u : S} {l : List (S × S)} (h : ∀ g ∈ l, g.1 ≠ u) : chF u l = [] := by
  unfold chF
  rw [List.map_eq_nil_iff, List.filter_eq_nil_iff]
  intro p hp
  simpa using h p hp
/-- docs with d at place k -/
def ins (docs : List Doc) (k : Nat) (d : Doc) : List Doc := docs.take k ++ ([d] ++ docs.drop k)
theorem chans_ins {docs : List Doc} {k : Nat} {d : Doc} {u : S} (h : ∀ g ∈ d.grants, g.1 ≠ u) : chansOf (ins docs k d) u = chansOf docs u := by
  unfold chansOf ins
  have e : pairs docs = pairs (docs.take k) ++ pairs (docs.drop k) := by rw [← pairs_append, List.take_append_drop]
  rw [e, pairs_append, pairs_append, pairs_one, chF_append, chF_append, chF_append, chF_none h, List.nil_append]
theorem find_ins {docs : List Doc} {k : Nat} {d : Doc} {id : S} (h : d.id ≠ id) : (ins docs k d).find? (fun e => decide (e.id = id)) = docs.find? (fun e => decide (e.id = id)) := by
  have e : docs.find? (fun e => decide (e.id = id)) = (docs.take k ++ docs.drop k).find? (fun e => decide (e.id = id)) := by rw [List.take_append_drop]
  rw [e]
  unfold ins
  rw [List.find?_append, List.find?_append, List.find?_append]
  simp [h]
theorem by_ins {docs : List Doc} {k : Nat} {d : Doc} {u id : S} (h : ∀ g ∈ d.grants, g.1 ≠ u) (hid : d.id ≠ id) : byOf (ins docs k d) u id = byOf docs u id := by
  unfold byOf
  rw [find_ins hid, chans_ins h]
theorem by_new {docs : List Doc} {k : Nat} {d : Doc} {u : S} (h : ∀ g ∈ d.grants, g.1 ≠ u) (hids : ∀ e ∈ docs, e.id ≠ d.id) (hch : ∀ c ∈ d.chans, c ∉ chansOf docs u) : byOf (ins docs k d) u d.id = none := by
  unfold byOf
  have h1 : (ins docs k d).find? (fun e => decide (e.id = d.id)) = some d := by
    unfold ins
    rw [List.find?_append]
    have h2 : (docs.take k).find? (fun e => decide (e.id = d.id)) = none := by
      rw [List.find?_eq_none]
      intro e he
      simpa using hids e (List.mem_of_mem_take he)
    rw [h2]
    simp
  rw [h1, chans_ins h]
  have h3 : kp (chansOf docs u) d.chans = [] := by
    unfold kp
    rw [List.filter_eq_nil_iff]
    intro c hc
    simpa using hch c hc
  show least (kp (chansOf docs u) d.chans) = none
  rw [h3, least_nil]
theorem seen_ins {docs : List Doc} {k : Nat} {d : Doc} {u : S} (h : ∀ g ∈ d.grants, g.1 ≠ u) (hids : ∀ e ∈ docs, e.id ≠ d.id) (hch : ∀ c ∈ d.chans, c ∉ chansOf docs u) : seenOf (ins docs k d) u = seenOf docs u := by
  unfold seenOf seenF
  have hp : ∀ l : List Doc, (∀ e ∈ l, e ∈ docs) → l.filter (fun e => (byOf (ins docs k d) u e.id).isSome) = l.filter (fun e => (byOf docs u e.id).isSome) := fun l hl => List.filter_congr fun e he => by
    rw [by_ins h (fun e' => hids e (hl e he) e'.symm)]
  have e1 : ∀ P : Doc → Bool, (ins docs k d).filter P = (docs.take k).filter P ++ ([d].filter P ++ (docs.drop k).filter P) := fun P => by unfold ins; rw [List.filter_append, List.filter_append]
  have e2 : ([d] : List Doc).filter (fun e => (byOf (ins docs k d) u e.id).isSome) = [] := by
    rw [List.filter_eq_nil_iff]
    intro e he
    rw [List.mem_singleton.1 he, by_new h hids hch]
    simp
  have e3 : docs.filter (fun e => (byOf docs u e.id).isSome) = (docs.take k ++ docs.drop k).filter (fun e => (byOf docs u e.id).isSome) := by rw [List.take_append_drop]
  rw [e1, e2, List.nil_append, hp _ (fun e he => List.mem_of_mem_take he), hp _ (fun e he => List.mem_of_mem_drop he), ← List.filter_append, ← e3]
theorem small_ins {docs : List Doc} {k : Nat} {d : Doc} (h : Small docs) (hd : Small [d]) : (ins docs k d).length ≤ 61 ∧ (∀ e ∈ ins docs k d, e.chans.length ≤ 99999) ∧ (pairs (ins docs k d)).length ≤ 99999 := by
  have hm : ∀ e ∈ ins docs k d, e.chans.length ≤ 200 ∧ e.grants.length ≤ 60 := by
    intro e he
    unfold ins at he
    rcases List.mem_append.1 he with he | he
    · exact h.2 e (List.mem_of_mem_take he)
    · rcases List.mem_append.1 he with he | he
      · exact hd.2 e he
      · exact h.2 e (List.mem_of_mem_drop he)
  have hl : (ins docs k d).length ≤ 61 := by
    have := h.1
    unfold ins
    simp only [List.length_append, List.length_take, List.length_drop, List.length_singleton]
    omega
  refine ⟨hl, fun e he => by have := (hm e he).1; omega, ?_⟩
  have := pairs_60 (ins docs k d) (fun e he => (hm e he).2)
  omega
end Go.Proofs.Ytncjgfhipflokaa
