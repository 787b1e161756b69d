/-
  A grant more: plain laws; documents that own their rows.
-/
import Derived.Test.YtncjgfhipflokaaVe
namespace Go.Proofs.Ytncjgfhipflokaa
open Go.RowKit Go.Shelf Hp Go.Maps

/-! ### plain -/
/-- docs with a grant more in place k -/
def more (docs : List Doc) (k : Nat) (d : Doc) (g : S × S) : List Doc := docs.set k ⟨d.id, d.chans, d.grants ++ [g]⟩
theorem pairs_more {docs : List Doc} {k : Nat} {d : Doc} {g : S × S} (hk : docs[k]? = some d) : ∃ A B, pairs docs = A ++ B ∧ pairs (more docs k d g) = A ++ (g :: B) := by
  have hlt : k < docs.length := (List.getElem?_eq_some_iff.1 hk).1
  have hd : docs[k] = d := (List.getElem?_eq_some_iff.1 hk).2
  refine ⟨pairs (docs.take k) ++ d.grants, pairs (docs.drop (k + 1)), ?_, ?_⟩
  · have e : docs = docs.take k ++ ([d] ++ docs.drop (k + 1)) := by
      rw [← hd, List.singleton_append, List.getElem_cons_drop, List.take_append_drop]
    have e2 := congrArg pairs e
    rw [pairs_append, pairs_append, pairs_one, ← List.append_assoc] at e2
    exact e2
  · have e : more docs k d g = docs.take k ++ ([⟨d.id, d.chans, d.grants ++ [g]⟩] ++ docs.drop (k + 1)) := by
      unfold more
      rw [List.set_eq_take_append_cons_drop, if_pos hlt]
      rfl
    rw [e, pairs_append, pairs_append, pairs_one]
    simp
theorem chans_more {docs : List Doc} {k : Nat} {d : Doc} {g : S × S} (hk : docs[k]? = some d) {u c : S} (h : c ∈ chansOf docs u) : c ∈ chansOf (more docs k d g) u := by
  obtain ⟨A, B, e1, e2⟩ := pairs_more (g := g) hk
  rw [mem_chans, e1, List.mem_append] at h
  rw [mem_chans, e2, List.mem_append, List.mem_cons]
  exact h.imp _root_.id .inr
theorem chans_same {docs : List Doc} {k : Nat} {d : Doc} {g : S × S} (hk : docs[k]? = some d) {u : S} (h : g.1 ≠ u) : chansOf (more docs k d g) u = chansOf docs u := by
  obtain ⟨A, B, e1, e2⟩ := pairs_more (g := g) hk
  unfold chansOf
  rw [e1, e2, chF_append, chF_append]
  have : chF u (g :: B) = chF u B := by unfold chF; simp [h]
  rw [this]
theorem chans_new {docs : List Doc} {k : Nat} {d : Doc} {g : S × S} (hk : docs[k]? = some d) : g.2 ∈ chansOf (more docs k d g) g.1 := by
  obtain ⟨A, B, e1, e2⟩ := pairs_more (g := g) hk
  rw [mem_chans, e2]
  simp
def sk (d : Doc) : S × List S := (d.id, d.chans)
theorem more_sk {docs : List Doc} {k : Nat} {d : Doc} {g : S × S} (hk : docs[k]? = some d) : (more docs k d g).map sk = docs.map sk := by
  unfold more
  rw [List.map_set]
  apply List.ext_getElem?
  intro i
  rw [List.getElem?_set]
  by_cases h : k = i
  · subst h
    rw [if_pos rfl]
    have hlt : k < docs.length := (List.getElem?_eq_some_iff.1 hk).1
    rw [if_pos (by simpa using hlt), List.getElem?_map, hk]
    rfl
  · rw [if_neg h]
theorem find_sk (docs : List Doc) (id : S) : (docs.find? (fun e => decide (e.id = id))).map sk = (docs.map sk).find? (fun p => decide (p.1 = id)) := by
  rw [List.find?_map]
  rfl
theorem by_some {docs : List Doc} {u id : S} : (byOf docs u id).isSome = true ↔ ∃ p, (docs.map sk).find? (fun p => decide (p.1 = id)) = some p ∧ ∃ c ∈ p.2, c ∈ chansOf docs u := by
  rw [← find_sk]
  unfold byOf
  cases hf : docs.find? (fun e => decide (e.id = id)) with
  | none => simp
  | some d =>
    constructor
    · intro h
      obtain ⟨c, hc⟩ := Option.isSome_iff_exists.1 h
      obtain ⟨h2, h3⟩ := List.mem_filter.1 (least_spec hc).1
      exact ⟨sk d, rfl, c, h2, by simpa using h3⟩
    · rintro ⟨p, hp, c, hc, hcu⟩
      injection hp with hp
      subst hp
      show (least (kp (chansOf docs u) d.chans)).isSome = true
      cases hl : least (kp (chansOf docs u) d.chans) with
      | some c => rfl
      | none =>
        have := least_none hl
        have hm : c ∈ kp (chansOf docs u) d.chans := List.mem_filter.2 ⟨hc, by simpa using hcu⟩
        rw [this] at hm
        cases hm
theorem by_more {docs : List Doc} {k : Nat} {d : Doc} {g : S × S} (hk : docs[k]? = some d) {u id : S} (h : (byOf docs u id).isSome = true) : (byOf (more docs k d g) u id).isSome = true := by
  obtain ⟨p, h1, c, h2, h3⟩ := by_some.1 h
  exact by_some.2 ⟨p, by rw [more_sk hk]; exact h1, c, h2, chans_more hk h3⟩
theorem by_same {docs : List Doc} {k : Nat} {d : Doc} {g : S × S} (hk : docs[k]? = some d) {u id : S} (hg : g.1 ≠ u) : (byOf (more docs k d g) u id).isSome = true ↔ (byOf docs u id).isSome = true := by
  rw [by_some, by_some, more_sk hk, chans_same hk hg]
theorem seen_iff {docs : List Doc} {u id : S} : id ∈ seenOf docs u ↔ (byOf docs u id).isSome = true := by
  constructor
  · intro h
    obtain ⟨c, hc⟩ := seen_mem h
    rw [hc]; rfl
  · intro h
    obtain ⟨c, hc⟩ := Option.isSome_iff_exists.1 h
    obtain ⟨_, d, hd, rfl, _⟩ := by_mem hc
    exact List.mem_map.2 ⟨d, List.mem_filter.2 ⟨hd, h⟩, rfl⟩
theorem nodup_le {α : Type} [DecidableEq α] : ∀ (l l' : List α), l.Nodup → (∀ x ∈ l, x ∈ l') → l.length ≤ l'.length
  | [], _, _, _ => Nat.zero_le _
  | x :: l, l', hn, hs => by
    have h1 : x ∈ l' := hs x (by simp)
    have h2 := nodup_le l (l'.erase x) (List.nodup_cons.1 hn).2 (fun y hy => (List.mem_erase_of_ne (fun e => (List.nodup_cons.1 hn).1 (by rw [← e]; exact hy))).2 (hs y (by simp [hy])))
    rw [List.length_erase_of_mem h1] at h2
    have := List.length_pos_of_mem h1
    simp only [List.length_cons]
    omega
theorem Keys.le {l l' ks ks' : List S} (h : Keys l ks) (h' : Keys l' ks') (hs : ∀ x ∈ ks, x ∈ ks') : l.length ≤ l'.length :=
  nodup_le l l' (h.1.imp fun {a b} hab e => by subst e; exact List.lt_irrefl _ hab) (fun x hx => (h'.2 x).2 (hs x ((h.2 x).1 hx)))
/-- the first of a name is found -/
theorem find_first {docs : List Doc} {i : Nat} {e : Doc} (hi : docs[i]? = some e) (hf : ∀ x ∈ docs.take i, x.id ≠ e.id) : (docs.map sk).find? (fun p => decide (p.1 = e.id)) = some (sk e) := by
  rw [← find_sk]
  have h1 : docs = docs.take i ++ ([e] ++ docs.drop (i + 1)) := by
    obtain ⟨hlt, he⟩ := List.getElem?_eq_some_iff.1 hi
    rw [← he, List.singleton_append, List.getElem_cons_drop, List.take_append_drop]
  have h2 : (docs.take i).find? (fun x => decide (x.id = e.id)) = none := by
    rw [List.find?_eq_none]
    intro x hx
    simpa using hf x hx
  have h3 := congrArg (fun l : List Doc => l.find? (fun x => decide (x.id = e.id))) h1
  simp only [List.find?_append, h2, Option.none_or] at h3
  rw [h3]
  simp
theorem first_sees {docs : List Doc} {i : Nat} {e : Doc} {u c : S} (hi : docs[i]? = some e) (hf : ∀ x ∈ docs.take i, x.id ≠ e.id) (hc : c ∈ e.chans) (hu : c ∈ chansOf docs u) : (byOf docs u e.id).isSome = true :=
  by_some.2 ⟨sk e, find_first hi hf, c, hc, hu⟩

/-! ### documents that own their rows -/
def grC (l : List (S × S)) : List (List Value) := l.map fun x => [encStr x.1, encStr x.2]
def chC (l : List S) : List (List Value) := l.map fun s => [encStr s]
def DOwn (w : World) (d : Doc) (r : List Value) : Prop := ∃ sq nd ch gr gn, r = docC d.id sq nd ch gr gn ∧ (∃ A n c, nd = .slice A n c) ∧ w.ownsRow 0 9 1 ch d.chans.length (chC d.chans).flatten ∧ w.ownsRow 0 48 2 gr d.grants.length (grC d.grants).flatten ∧
  d.id.length ≤ maxLen ∧ (∀ x ∈ d.chans, x.length ≤ maxLen) ∧ ∀ x ∈ d.grants, x.1.length ≤ maxLen ∧ x.2.length ≤ maxLen
theorem DOwn.docR {w : World} {d : Doc} {r : List Value} (h : DOwn w d r) : DocR (fun _ _ => True) w.heap.size w d r := by
  obtain ⟨sq, nd, ch, gr, gn, rfl, hnd, h1, h2, h3, h4, h5⟩ := h
  refine ⟨sq, nd, ch, gr, gn, rfl, h3, ?_, ?_, hnd, trivial⟩
  · obtain ⟨A, c, rfl, g1, g2, g3⟩ := own_cells h1 (by simp [chC]) (fun r hr => by obtain ⟨s, _, rfl⟩ := List.mem_map.1 hr; rfl)
    refine ⟨A, c, rfl, g1, g2, h4, g3.imp _root_.id ?_⟩
    rintro ⟨b, rfl, _, g4, g5⟩
    refine ⟨b, 0, rfl, fun k hk => ⟨[encStr (at_ d.chans k)], rfl, ⟨g4, fun j v hj => g5 k j _ v ?_ hj⟩, rfl⟩⟩
    unfold chC
    rw [List.getElem?_map, List.getElem?_eq_getElem hk, at_get hk]; rfl
  · obtain ⟨A, c, rfl, g1, g2, g3⟩ := own_cells h2 (by simp [grC]) (fun r hr => by obtain ⟨s, _, rfl⟩ := List.mem_map.1 hr; rfl)
    refine ⟨A, c, rfl, g1, g2, h5, g3.imp _root_.id ?_⟩
    rintro ⟨b, rfl, _, g4, g5⟩
    refine ⟨b, 0, rfl, fun k hk => ⟨[encStr d.grants[k].1, encStr d.grants[k].2], rfl, ⟨g4, fun j v hj => g5 k j _ v ?_ hj⟩, d.grants[k], List.getElem?_eq_getElem hk, rfl⟩⟩
    unfold grC
    rw [List.getElem?_map, List.getElem?_eq_getElem hk]; rfl
/-- what two readings of the same cells say -/
theorem rd_eq {B0 : Nat} {w w' : World} {ok : Nat → Prop} {m n : Nat} {A : Option Addr} {F : Nat → List Value → Prop} {rows : List (List Value)} (h : Elems B0 w m A n F) (hr : Rd w' ok m A n rows) (hk : ∀ k o, k < B0 → w.heap[k]? = some o → w'.heap[k]? = some o) : ∀ k r, rows[k]? = some r → F k r := by
  intro k r hkr
  have hlt : k < rows.length := (List.getElem?_eq_some_iff.1 hkr).1
  rw [hr.1] at hlt
  obtain ⟨b, o, e1, h1⟩ := h.resolve_left (by omega)
  obtain ⟨b', o', e2, -, h2⟩ := hr.2.2.resolve_left (by omega)
  rw [e1] at e2
  injection e2 with e2
  injection e2 with e3 e4
  subst e3 e4
  obtain ⟨cs, h3, h4, h5⟩ := h1 k hlt
  have hl := (hr.2.1 r (List.mem_of_getElem? hkr)).1
  have : r = cs := by
    apply List.ext_getElem?
    intro j
    rcases Nat.lt_or_ge j m with hj | hj
    · have g1 := (h4.low (fun k o hk' h0 => hk k o hk' h0)).2 j cs[j] (List.getElem?_eq_getElem (by omega))
      have g2 := h2 k j r r[j] hkr (List.getElem?_eq_getElem (by omega))
      rw [g1] at g2
      rw [List.getElem?_eq_getElem (by omega : j < r.length), List.getElem?_eq_getElem (by omega : j < cs.length)]
      injection g2 with g2
      rw [g2]
    · rw [List.getElem?_eq_none (by omega), List.getElem?_eq_none (by omega)]
  subst this
  exact h5
/-- copies own what they hold -/
theorem copied {T : World → Value → Prop} {B0 X m b o n c : Nat} {rows : List (List Value)} {dv' : Value} {docs : List Doc} {w w' : World} (h : CpR (DE m) B0 X 45 6 b o n rows dv' w') (hds : DS T B0 w (.slice (some ⟨b, o, none⟩) n c) docs) (hk : ∀ k o, k < B0 → w.heap[k]? = some o → w'.heap[k]? = some o) :
    ∀ (k : Nat) (r : List Value) (d : Doc), rows[k]? = some r → docs[k]? = some d → DOwn w' d r := by
  intro k r d hr hd
  obtain ⟨A, c1, e, h1, h2, h3⟩ := hds
  injection e with e1 e2 e3
  subst e1 e2 e3
  have hlt : k < docs.length := (List.getElem?_eq_some_iff.1 hd).1
  obtain ⟨_, g2, _, g4⟩ := h
  obtain ⟨es, r', g5, g6, g7, g8, g9⟩ := g4 k hlt
  rw [hr] at g8
  injection g8 with g8
  subst g8
  obtain ⟨b1, o1, e1, h4⟩ := h3.resolve_left (by omega)
  injection e1 with e1
  injection e1 with e2 e3
  subst e2 e3
  obtain ⟨cs, k1, k2, d', k3, k4⟩ := h4 k hlt
  rw [hd] at k3
  injection k3 with k3
  subst k3
  have hes : es = cs := by
    apply List.ext_getElem?
    intro j
    rcases Nat.lt_or_ge j 6 with hj | hj
    · have q1 := (k2.low (fun k o hk' h0 => hk k o hk' h0)).2 j cs[j] (List.getElem?_eq_getElem (by omega))
      have q2 := g7 j es[j] (List.getElem?_eq_getElem (by omega))
      rw [q1] at q2
      rw [List.getElem?_eq_getElem (by omega : j < es.length), List.getElem?_eq_getElem (by omega : j < cs.length)]
      injection q2 with q2
      rw [q2]
    · rw [List.getElem?_eq_none (by omega), List.getElem?_eq_none (by omega)]
  subst hes
  obtain ⟨sq, nd, ch, gr, gn, e0, hid, hss, hgs, _, _⟩ := k4
  obtain ⟨id, sq', nd1, ch1, gr1, gn1, nd', ch', gr', n1, n2, e1, rfl, hte, hch, hgr⟩ := g9
  rw [e0] at e1
  have e1 : [encStr d.id, .int .u64 sq, nd, ch, gr, .int .i64 gn] = [encStr id, .int .u64 sq', nd1, ch1, gr1, .int .i64 gn1] := e1
  injection e1 with a1 e1
  injection e1 with _ e1
  injection e1 with _ e1
  injection e1 with a4 e1
  injection e1 with a5 _
  subst a4 a5
  have hnd : ∃ A n c, nd' = .slice A n c := by
    obtain ⟨n, h⟩ := hte
    obtain ⟨A, c, e⟩ := h.one2
    exact ⟨A, n, c, e⟩
  obtain ⟨CA, cc, rc, rfl, _, hrc, hoc, _⟩ := hch
  obtain ⟨GA, gc, rg, rfl, _, hrg, hog, _⟩ := hgr
  obtain ⟨A1, c1, e1, _, _, hlc, hec⟩ := hss
  injection e1 with p1 p2 p3
  subst p1 p2
  obtain ⟨A2, c2, e2, _, _, hlg, heg⟩ := hgs
  injection e2 with p4 p5 p6
  subst p4 p5
  have hrc' : rc = chC d.chans := by
    apply List.ext_getElem?
    intro i
    rcases Nat.lt_or_ge i d.chans.length with hi | hi
    · have hil : i < rc.length := by rw [hrc.1]; exact hi
      have q1 := rd_eq hec hrc hk i rc[i] (List.getElem?_eq_getElem hil)
      unfold chC
      rw [List.getElem?_eq_getElem hil, List.getElem?_map, List.getElem?_eq_getElem hi, q1, at_get hi]
      rfl
    · rw [List.getElem?_eq_none (by rw [hrc.1]; exact hi), List.getElem?_eq_none (by simp [chC]; exact hi)]
  have hrg' : rg = grC d.grants := by
    apply List.ext_getElem?
    intro i
    rcases Nat.lt_or_ge i d.grants.length with hi | hi
    · have hil : i < rg.length := by rw [hrg.1]; exact hi
      obtain ⟨x, q0, q1⟩ := rd_eq heg hrg hk i rg[i] (List.getElem?_eq_getElem hil)
      unfold grC
      rw [List.getElem?_eq_getElem hil, List.getElem?_map, q0, q1]
      rfl
    · rw [List.getElem?_eq_none (by rw [hrg.1]; exact hi), List.getElem?_eq_none (by simp [grC]; exact hi)]
  subst hrc' hrg'
  exact ⟨sq', nd', ch', gr', gn1, by unfold docC; rw [a1], hnd, hoc, hog, hid, hlc, hlg⟩
end Go.Proofs.Ytncjgfhipflokaa
