/-
  What comes in, opened, all of it, where it is of bounded bulk.
-/
import Derived.Test.YtncjgfhipflokaaOpen
import Derived.Test.YtncjgfhipflokaaVe
namespace Go.Proofs.Ytncjgfhipflokaa
open Go.ChangeShapes Go.WideShapes Go.ChangeAt Go.RowKit Hp

theorem bulk_one {H : Type} (d : DataW H) : 1 ≤ Rows.uptoBulk d := by
  cases d with
  | lit l => cases l <;> simp [Rows.uptoBulk]
  | _ => simp [Rows.uptoBulk]
theorem bulk_len {H : Type} (l : List (DataW H)) : l.length ≤ Rows.uptoBulkAll l := by
  induction l with
  | nil => simp
  | cons x r ih => have := bulk_one x; simp only [Rows.uptoBulkAll, List.length_cons]; omega
theorem bulk_mem {H : Type} {d : DataW H} : ∀ {l : List (DataW H)}, d ∈ l → Rows.uptoBulk d ≤ Rows.uptoBulkAll l
  | x :: r, h => by
    simp only [Rows.uptoBulkAll]
    rcases List.mem_cons.1 h with rfl | h
    · omega
    · have := bulk_mem h; omega
theorem chop {α : Type} (l : List α) (i k : Nat) : l.drop i = (l.drop i).take k ++ l.drop (i + k) := by
  rw [← List.drop_drop, List.take_append_drop]
def LocC (es : List Value) : Prop := ∃ s n, es = [.string s, .int .u64 n]
def SeenC (es : List Value) : Prop := ∃ s1 s2 n r g s3, es = [.string s1] ++ ([.string s2] ++ ([.int .u64 n] ++ (r ++ ([.int .i64 g] ++ [.string s3])))) ∧ RevC r
theorem LocC.one {es : List Value} (h : LocC es) : onesP es := by
  obtain ⟨s, n, rfl⟩ := h
  intro u hu
  simp only [List.mem_cons, List.not_mem_nil, or_false] at hu
  rcases hu with rfl | rfl <;> rfl
theorem SeenC.one {es : List Value} (h : SeenC es) : onesP es := by
  obtain ⟨s1, s2, n, r, g, s3, rfl, hr⟩ := h
  intro u hu
  simp only [List.mem_append, List.mem_cons, List.not_mem_nil, or_false] at hu
  rcases hu with rfl | rfl | rfl | hu | rfl | rfl
  · rfl
  · rfl
  · rfl
  · exact hr.one u hu
  · rfl
  · rfl

section
variable {H : Type} {enc : TypeId × Value → H} {W : World} {fuel : Nat} {cs : List Value} {x : DataW H × List MemPlace}
theorem trod_slice2 {t e : TypeId} {m : Nat} (hu : Try.prog.underlying t = some (.slice e)) (hm : Try.prog.cellsOf e = m) (hm0 : 0 < m) (h : DataW.trod enc Try.prog W 0 (fun _ => true) true fuel t cs = some x) :
    ∃ A n c, cs = [.slice A n c] ∧ n + 1 ≤ Rows.uptoBulk x.1 ∧ (n = 0 ∨ ∃ b o, A = some ⟨b, o, none⟩ ∧ b < W.heap.size ∧ ∀ k, k < n → ∃ es : List Value, es.length = m ∧ (∀ (j : Nat) v, es[j]? = some v → W.cell? ⟨b, o + k * m + j, none⟩ = some v) ∧
      ∃ f y, DataW.trod enc Try.prog W 0 (fun _ => true) true f e es = some y ∧ Rows.uptoBulk y.1 + 1 ≤ Rows.uptoBulk x.1) := by
  rcases DataW.trod_slice hu h with ⟨rfl, rfl⟩ | ⟨a, n, c, elems, rest, f, -, rfl, rfl, _, _, _, hel, hk, _, _⟩
  · exact ⟨none, 0, 0, rfl, by simp [Rows.uptoBulk], .inl rfl⟩
  · have hb : n + 1 ≤ Rows.uptoBulk (DataW.slice (elems.map (·.1)) (rest.map (·.1))) := by
      have := bulk_len (elems.map (·.1))
      simp only [List.length_map, hel] at this
      simp only [Rows.uptoBulk]
      omega
    refine ⟨some a, n, c, rfl, hb, ?_⟩
    rcases Nat.eq_zero_or_pos n with h0 | h0
    · exact .inl h0
    have hget : ∀ k, k < n → ∃ es y, W.cells? 0 (a.add (k * m)) m = some es ∧ DataW.trod enc Try.prog W 0 (fun _ => true) true f e es = some y ∧ y ∈ elems := by
      intro k hkn
      have h1 := hk k hkn
      rw [hm, List.getElem?_eq_getElem (by omega)] at h1
      obtain ⟨es, h2, h3⟩ := Option.bind_eq_some_iff.1 h1
      exact ⟨es, _, h2, h3, List.getElem_mem _⟩
    have hsp : a = ⟨a.block, a.off, none⟩ := by
      obtain ⟨es, _, h5, _⟩ := hget 0 h0
      obtain ⟨h6, h7⟩ := cells_at h5
      have h8 := h7 0 es[0] (by rw [List.getElem?_eq_getElem])
      rw [Nat.zero_mul] at h8
      have h9 : (a.add 0).add 0 = a := by simp [Addr.add]
      rw [h9] at h8
      exact addr_plain (spot_none h8)
    have hcell : ∀ k es, k < n → W.cells? 0 (a.add (k * m)) m = some es → es.length = m ∧ ∀ (j : Nat) v, es[j]? = some v → W.cell? ⟨a.block, a.off + k * m + j, none⟩ = some v := by
      intro k es hkn h5
      obtain ⟨h7, h8⟩ := cells_at h5
      refine ⟨h7, fun j v hv => ?_⟩
      have h9 := h8 j v hv
      have e : (a.add (k * m)).add j = ⟨a.block, a.off + k * m + j, none⟩ := by
        rw [hsp, add_plain, add_plain]
      rw [e] at h9
      exact h9
    refine .inr ⟨a.block, a.off, by rw [← hsp], ?_, fun k hkn => ?_⟩
    · obtain ⟨es, _, h5, _⟩ := hget 0 h0
      obtain ⟨h6, h7⟩ := hcell 0 es h0 h5
      exact cell_lt (h7 0 es[0] (List.getElem?_eq_getElem (by omega)))
    · obtain ⟨es, y, h5, h6, h7⟩ := hget k hkn
      obtain ⟨h8, h9⟩ := hcell k es hkn h5
      have h10 : Rows.uptoBulk y.1 ≤ Rows.uptoBulkAll (elems.map (·.1)) := bulk_mem (List.mem_map_of_mem h7)
      refine ⟨es, h8, h9, f, y, h6, ?_⟩
      show Rows.uptoBulk y.1 + 1 ≤ Rows.uptoBulk (DataW.slice (elems.map (·.1)) (rest.map (·.1)))
      simp only [Rows.uptoBulk]
      omega
theorem trod_struct2 {t : TypeId} {fs : Array Field} {m : Nat} (hu : Try.prog.underlying t = some (.struct fs)) (hm : Try.prog.cellsOf t = m) (h : DataW.trod enc Try.prog W 0 (fun _ => true) true fuel t cs = some x) :
    cs.length = m ∧ ∀ (i : Nat) (f : Field), fs.toList[i]? = some f → ∃ g y, DataW.trod enc Try.prog W 0 (fun _ => true) true g f.type ((cs.drop f.offset).take (Try.prog.cellsOf f.type)) = some y ∧ Rows.uptoBulk y.1 + 1 ≤ Rows.uptoBulk x.1 := by
  cases fuel with
  | zero => simp [DataW.trod] at h
  | succ g =>
    rw [DataW.trod_step] at h
    unfold DataW.trodStep at h
    simp only [hu, hm] at h
    split at h
    · rename_i hl
      simp only [Option.map_eq_some_iff] at h
      obtain ⟨ys, hy, hx⟩ := h
      refine ⟨hl, fun i f hf => ?_⟩
      obtain ⟨y, h1, h2⟩ := (mapM_at hy).2 i f hf
      refine ⟨g, y, h2, ?_⟩
      rw [← hx]
      have : Rows.uptoBulk y.1 ≤ Rows.uptoBulkAll (ys.map (·.1)) := bulk_mem (List.mem_map_of_mem (List.mem_of_getElem? h1))
      show Rows.uptoBulk y.1 + 1 ≤ Rows.uptoBulk (DataW.agg (ys.map (·.1)))
      simp only [Rows.uptoBulk]
      omega
    · cases h
theorem c68 : Try.prog.cellsOf 68 = 17 := by kernel_rfl
theorem c66 : Try.prog.cellsOf 66 = 16 := by kernel_rfl
theorem c5 : Try.prog.cellsOf 5 = 1 := by kernel_rfl
theorem trod_rev (h : DataW.trod enc Try.prog W 0 (fun _ => true) true fuel 68 cs = some x) : RevC cs := by
  obtain ⟨h8, h9⟩ := trod_struct Try.underlying68 c68 h
  obtain ⟨f0, y0, t0⟩ : ∃ g y, DataW.trod enc Try.prog W 0 (fun _ => true) true g 22 ((cs.drop 0).take (Try.prog.cellsOf 22)) = some y := h9 0 _ rfl
  rw [c22] at t0
  obtain ⟨f1, y1, t1⟩ : ∃ g y, DataW.trod enc Try.prog W 0 (fun _ => true) true g 66 ((cs.drop 1).take (Try.prog.cellsOf 66)) = some y := h9 1 _ rfl
  rw [c66] at t1
  obtain ⟨g, q0, _⟩ := DataW.trod_int Try.underlying22 t0
  obtain ⟨xs, m, -, -, hl, hx, hi⟩ := DataW.trod_array Try.underlying66 t1
  rw [c66] at hl
  have hk : ∀ k, k < 16 → ∃ z : Int, ((cs.drop 1).take 16)[k]? = some (.int .u8 z) := by
    intro k hk
    have h1 := hi k hk
    rw [c5, Nat.mul_one, List.getElem?_eq_getElem (by omega)] at h1
    obtain ⟨z, h2, _⟩ := DataW.trod_int Try.underlying5 h1
    refine ⟨z, ?_⟩
    have h3 := congrArg (fun l : List Value => l[0]?) h2
    simp only [List.getElem?_take, List.getElem?_drop, Nat.lt_one_iff, if_true, Nat.add_zero, List.getElem?_cons_zero] at h3
    rw [Nat.add_comm] at h3
    simpa [List.getElem?_take, List.getElem?_drop, hk, Nat.add_comm] using h3
  obtain ⟨hs, hsl, hsp⟩ := choose_list hk
  refine ⟨g, hs, ?_, hsl⟩
  have e1 : cs = (cs.drop 0).take 1 ++ ((cs.drop 1).take 16 ++ cs.drop 17) := by
    have a1 := chop cs 0 1
    have a2 := chop cs 1 16
    rw [List.drop_zero, Nat.zero_add] at a1
    rw [← a2, List.drop_zero]
    exact a1
  have e2 : cs.drop 17 = [] := List.drop_of_length_le (by omega)
  have e3 : (cs.drop 1).take 16 = hs.map (Value.int .u8) := by
    apply List.ext_getElem?
    intro i
    rcases Nat.lt_or_ge i 16 with hi16 | hi16
    · rw [List.getElem?_map, List.getElem?_eq_getElem (by omega : i < hs.length), hsp i _ (List.getElem?_eq_getElem (by omega))]; rfl
    · rw [List.getElem?_eq_none (by omega), List.getElem?_eq_none (by simp; omega)]
  rw [e1, q0, e2, e3, List.append_nil]
  rfl
theorem SS.rto {B0 : Nat} {w : World} {v : Value} {l : List S} (h : SS B0 w v l) : RTo w (fun b => b < B0) v l := by
  obtain ⟨A, c, rfl, h1, h2, _, h4⟩ := h
  refine ⟨A, c, rfl, by omega, ?_⟩
  rcases Nat.eq_zero_or_pos l.length with h0 | h0
  · exact .inl h0
  refine h4.imp _root_.id ?_
  rintro ⟨b, o, rfl, h5⟩
  refine ⟨b, o, rfl, ?_, fun k hk => ?_⟩
  · obtain ⟨cs, _, h6, _⟩ := h5 0 h0
    exact h6.1
  · obtain ⟨cs, _, h6, rfl⟩ := h5 k hk
    have := h6.2 0 _ rfl
    simpa using this
theorem trod_val2 (W : World) : ∀ (m fuel : Nat) (cs : List Value) (x : DataW H × List MemPlace), DataW.trod enc Try.prog W 0 (fun _ => true) true fuel 87 cs = some x → Rows.uptoBulk x.1 ≤ m → m ≤ 1048576 → VF W (fun b => b < W.heap.size) m cs := by
  intro m
  induction m with
  | zero => intro fuel cs x _ hb _; exact absurd (bulk_one x.1) (by omega)
  | succ m ih =>
    intro fuel cs x h hbk hm
    obtain ⟨h8, h9⟩ := trod_struct2 Try.underlying87 c87 h
    obtain ⟨f0, y0, t0, _⟩ : ∃ g y, DataW.trod enc Try.prog W 0 (fun _ => true) true g 3 ((cs.drop 0).take (Try.prog.cellsOf 3)) = some y ∧ Rows.uptoBulk y.1 + 1 ≤ Rows.uptoBulk x.1 := h9 0 _ rfl
    rw [c3] at t0
    obtain ⟨f1, y1, t1, _⟩ : ∃ g y, DataW.trod enc Try.prog W 0 (fun _ => true) true g 2 ((cs.drop 1).take (Try.prog.cellsOf 2)) = some y ∧ Rows.uptoBulk y.1 + 1 ≤ Rows.uptoBulk x.1 := h9 1 _ rfl
    rw [c2] at t1
    obtain ⟨f2, y2, t2, _⟩ : ∃ g y, DataW.trod enc Try.prog W 0 (fun _ => true) true g 9 ((cs.drop 2).take (Try.prog.cellsOf 9)) = some y ∧ Rows.uptoBulk y.1 + 1 ≤ Rows.uptoBulk x.1 := h9 2 _ rfl
    rw [c9] at t2
    obtain ⟨f3, y3, t3, b3⟩ : ∃ g y, DataW.trod enc Try.prog W 0 (fun _ => true) true g 85 ((cs.drop 3).take (Try.prog.cellsOf 85)) = some y ∧ Rows.uptoBulk y.1 + 1 ≤ Rows.uptoBulk x.1 := h9 3 _ rfl
    rw [c85] at t3
    obtain ⟨f4, y4, t4, b4⟩ : ∃ g y, DataW.trod enc Try.prog W 0 (fun _ => true) true g 35 ((cs.drop 4).take (Try.prog.cellsOf 35)) = some y ∧ Rows.uptoBulk y.1 + 1 ≤ Rows.uptoBulk x.1 := h9 4 _ rfl
    rw [c35] at t4
    obtain ⟨e0, e1, e2, e3, e4, rfl⟩ := list5 h8
    obtain ⟨n0, q0, _⟩ := DataW.trod_int Try.underlying3 t0
    obtain ⟨n1, q1, _⟩ := DataW.trod_int Try.underlying2 t1
    obtain ⟨s2, q2, _⟩ := DataW.trod_string Try.underlying9 t2
    obtain ⟨LA, ln, lc, q3, g1, g2⟩ := trod_slice2 Try.underlying85 c87 (by omega) t3
    obtain ⟨KA, kn, kc, q4, g3, _⟩ := trod_slice2 Try.underlying35 c9 (by omega) t4
    obtain ⟨kv, ks, q5, hss⟩ := trod_texts t4
    have q0' : [e0] = [.int .i64 n0] := q0
    have q1' : [e1] = [.int .i64 n1] := q1
    have q2' : [e2] = [.string s2] := q2
    have q3' : [e3] = [.slice LA ln lc] := q3
    have q4' : [e4] = [.slice KA kn kc] := q4
    have q5' : [e4] = [kv] := q5
    injection q0' with q0'; injection q1' with q1'; injection q2' with q2'; injection q3' with q3'; injection q4' with q4'; injection q5' with q5'
    have hkn : ks.length = kn := by
      obtain ⟨A, c, e, _⟩ := hss
      rw [← q5', q4'] at e
      injection e with _ e _
      exact e.symm
    subst q0' q1' q2' q3' q5'
    refine ⟨n0, n1, s2, _, _, ln, ks, rfl, by omega, hss.rto, LA, lc, rfl, by omega, g2.imp _root_.id ?_⟩
    rintro ⟨b, o, e, hb, hk⟩
    refine ⟨b, o, e, hb, fun k hkn => ?_⟩
    obtain ⟨es, g4, g5, f, y, g6, g7⟩ := hk k hkn
    exact ⟨es, g4, g5, ih f es y g6 (by omega) (by omega)⟩
theorem trod_tree2 {m : Nat} (hm : m ≤ 1048576) (h : DataW.trod enc Try.prog W 0 (fun _ => true) true fuel 42 cs = some x) (hb : Rows.uptoBulk x.1 ≤ m) : ∃ nd, cs = [nd] ∧ TF W (fun b => b < W.heap.size) m nd := by
  obtain ⟨h8, h9⟩ := trod_struct2 Try.underlying42 c42 h
  obtain ⟨f0, y0, t0, b0⟩ : ∃ g y, DataW.trod enc Try.prog W 0 (fun _ => true) true g 40 ((cs.drop 0).take (Try.prog.cellsOf 40)) = some y ∧ Rows.uptoBulk y.1 + 1 ≤ Rows.uptoBulk x.1 := h9 0 _ rfl
  rw [c40] at t0
  obtain ⟨A, n, c, q0, g1, g2⟩ := trod_slice2 Try.underlying40 c89 (by omega) t0
  obtain ⟨e0, rfl⟩ := list1 h8
  have q0' : [e0] = [.slice A n c] := q0
  injection q0' with q0'
  subst q0'
  refine ⟨_, rfl, n, A, c, rfl, by omega, g2.imp _root_.id ?_⟩
  rintro ⟨b, o, e, hbs, hk⟩
  refine ⟨b, o, e, hbs, fun k hkn => ?_⟩
  obtain ⟨es, g4, g5, f, y, g6, g7⟩ := hk k hkn
  refine ⟨es, g4, g5, ?_⟩
  obtain ⟨k8, k9⟩ := trod_struct2 Try.underlying89 c89 g6
  obtain ⟨_, _, t0, _⟩ : ∃ g z, DataW.trod enc Try.prog W 0 (fun _ => true) true g 68 ((es.drop 0).take (Try.prog.cellsOf 68)) = some z ∧ Rows.uptoBulk z.1 + 1 ≤ Rows.uptoBulk y.1 := k9 0 _ rfl
  rw [c68] at t0
  obtain ⟨_, _, t1, _⟩ : ∃ g z, DataW.trod enc Try.prog W 0 (fun _ => true) true g 68 ((es.drop 17).take (Try.prog.cellsOf 68)) = some z ∧ Rows.uptoBulk z.1 + 1 ≤ Rows.uptoBulk y.1 := k9 1 _ rfl
  rw [c68] at t1
  obtain ⟨_, _, t2, _⟩ : ∃ g z, DataW.trod enc Try.prog W 0 (fun _ => true) true g 3 ((es.drop 34).take (Try.prog.cellsOf 3)) = some z ∧ Rows.uptoBulk z.1 + 1 ≤ Rows.uptoBulk y.1 := k9 2 _ rfl
  rw [c3] at t2
  obtain ⟨_, _, t3, _⟩ : ∃ g z, DataW.trod enc Try.prog W 0 (fun _ => true) true g 3 ((es.drop 35).take (Try.prog.cellsOf 3)) = some z ∧ Rows.uptoBulk z.1 + 1 ≤ Rows.uptoBulk y.1 := k9 3 _ rfl
  rw [c3] at t3
  obtain ⟨_, z4, t4, b4⟩ : ∃ g z, DataW.trod enc Try.prog W 0 (fun _ => true) true g 87 ((es.drop 36).take (Try.prog.cellsOf 87)) = some z ∧ Rows.uptoBulk z.1 + 1 ≤ Rows.uptoBulk y.1 := k9 4 _ rfl
  rw [c87] at t4
  obtain ⟨n2, q2, _⟩ := DataW.trod_int Try.underlying3 t2
  obtain ⟨n3, q3, _⟩ := DataW.trod_int Try.underlying3 t3
  have a0 := chop es 0 17
  have a1 := chop es 17 17
  have a2 := chop es 34 1
  have a3 := chop es 35 1
  have a4 := chop es 36 5
  have a5 : es.drop 41 = [] := List.drop_of_length_le (by omega)
  refine ⟨(es.drop 0).take 17 ++ ((es.drop 17).take 17 ++ [.int .i64 n2, .int .i64 n3]), (es.drop 36).take 5, ⟨_, _, n2, n3, rfl, trod_rev t0, trod_rev t1⟩, ?_, trod_val2 W m _ _ _ t4 (by omega) hm⟩
  rw [List.append_assoc, List.append_assoc]
  rw [a5, List.append_nil] at a4
  rw [← a4]
  have a3' : es.drop 35 = .int .i64 n3 :: es.drop 36 := by rw [a3, q3]; rfl
  have a2' : es.drop 34 = .int .i64 n2 :: (.int .i64 n3 :: es.drop 36) := by rw [a2, q2, show 34 + 1 = 35 from rfl, a3']; rfl
  rw [show 17 + 17 = 34 from rfl, a2'] at a1
  rw [show 0 + 17 = 17 from rfl, List.drop_zero] at a0
  rw [show ([.int .i64 n2, .int .i64 n3] : List Value) ++ es.drop 36 = .int .i64 n2 :: (.int .i64 n3 :: es.drop 36) from rfl, ← a1]
  exact a0
theorem trod_doc2 {m : Nat} (hm : m ≤ 1048576) (h : DataW.trod enc Try.prog W 0 (fun _ => true) true fuel 45 cs = some x) (hb : Rows.uptoBulk x.1 ≤ m) : DF W (fun b => b < W.heap.size) m cs := by
  obtain ⟨h8, h9⟩ := trod_struct2 Try.underlying45 c45 h
  obtain ⟨f0, y0, t0, _⟩ : ∃ g y, DataW.trod enc Try.prog W 0 (fun _ => true) true g 9 ((cs.drop 0).take (Try.prog.cellsOf 9)) = some y ∧ Rows.uptoBulk y.1 + 1 ≤ Rows.uptoBulk x.1 := h9 0 _ rfl
  rw [c9] at t0
  obtain ⟨f1, y1, t1, _⟩ : ∃ g y, DataW.trod enc Try.prog W 0 (fun _ => true) true g 22 ((cs.drop 1).take (Try.prog.cellsOf 22)) = some y ∧ Rows.uptoBulk y.1 + 1 ≤ Rows.uptoBulk x.1 := h9 1 _ rfl
  rw [c22] at t1
  obtain ⟨f2, y2, t2, b2⟩ : ∃ g y, DataW.trod enc Try.prog W 0 (fun _ => true) true g 42 ((cs.drop 2).take (Try.prog.cellsOf 42)) = some y ∧ Rows.uptoBulk y.1 + 1 ≤ Rows.uptoBulk x.1 := h9 2 _ rfl
  rw [c42] at t2
  obtain ⟨f3, y3, t3, b3⟩ : ∃ g y, DataW.trod enc Try.prog W 0 (fun _ => true) true g 35 ((cs.drop 3).take (Try.prog.cellsOf 35)) = some y ∧ Rows.uptoBulk y.1 + 1 ≤ Rows.uptoBulk x.1 := h9 3 _ rfl
  rw [c35] at t3
  obtain ⟨f4, y4, t4, b4⟩ : ∃ g y, DataW.trod enc Try.prog W 0 (fun _ => true) true g 43 ((cs.drop 4).take (Try.prog.cellsOf 43)) = some y ∧ Rows.uptoBulk y.1 + 1 ≤ Rows.uptoBulk x.1 := h9 4 _ rfl
  rw [c43] at t4
  obtain ⟨f5, y5, t5, _⟩ : ∃ g y, DataW.trod enc Try.prog W 0 (fun _ => true) true g 3 ((cs.drop 5).take (Try.prog.cellsOf 3)) = some y ∧ Rows.uptoBulk y.1 + 1 ≤ Rows.uptoBulk x.1 := h9 5 _ rfl
  rw [c3] at t5
  obtain ⟨e0, e1, e2, e3, e4, e5, rfl⟩ := list6 h8
  obtain ⟨s0, q0, l0⟩ := trod_text t0
  obtain ⟨n1, q1, _⟩ := DataW.trod_int Try.underlying22 t1
  obtain ⟨nd, q2, ht⟩ := trod_tree2 hm t2 (by omega)
  obtain ⟨CA, cn, cc, q3, g3, g4⟩ := trod_slice2 Try.underlying35 c9 (by omega) t3
  obtain ⟨GA, gn, gc, q4, g5, g6⟩ := trod_slice2 Try.underlying43 c48 (by omega) t4
  obtain ⟨n5, q5, _⟩ := DataW.trod_int Try.underlying3 t5
  have q0' : [e0] = [encStr s0] := q0
  have q1' : [e1] = [.int .u64 n1] := q1
  have q2' : [e2] = [nd] := q2
  have q3' : [e3] = [.slice CA cn cc] := q3
  have q4' : [e4] = [.slice GA gn gc] := q4
  have q5' : [e5] = [.int .i64 n5] := q5
  injection q0' with q0'; injection q1' with q1'; injection q2' with q2'; injection q3' with q3'; injection q4' with q4'; injection q5' with q5'
  subst q0' q1' q2' q3' q4' q5'
  refine ⟨s0, n1, _, _, _, n5, cn, gn, rfl, ht, ⟨CA, cc, rfl, by omega, g4.imp _root_.id ?_⟩, ⟨GA, gc, rfl, by omega, g6.imp _root_.id ?_⟩⟩
  · rintro ⟨b, o, e, hbs, hk⟩
    refine ⟨b, o, e, hbs, fun k hkn => ?_⟩
    obtain ⟨es, g7, g8, f, y, g9, _⟩ := hk k hkn
    refine ⟨es, g7, g8, fun u hu => ?_⟩
    obtain ⟨s, rfl, _⟩ := DataW.trod_string Try.underlying9 g9
    rw [List.mem_singleton.1 hu]; rfl
  · rintro ⟨b, o, e, hbs, hk⟩
    refine ⟨b, o, e, hbs, fun k hkn => ?_⟩
    obtain ⟨es, g7, g8, f, y, g9, _⟩ := hk k hkn
    refine ⟨es, g7, g8, fun u hu => ?_⟩
    obtain ⟨k8, k9⟩ := trod_struct Try.underlying48 c48 g9
    obtain ⟨_, _, t0⟩ : ∃ g z, DataW.trod enc Try.prog W 0 (fun _ => true) true g 9 ((es.drop 0).take (Try.prog.cellsOf 9)) = some z := k9 0 _ rfl
    rw [c9] at t0
    obtain ⟨_, _, t1⟩ : ∃ g z, DataW.trod enc Try.prog W 0 (fun _ => true) true g 9 ((es.drop 1).take (Try.prog.cellsOf 9)) = some z := k9 1 _ rfl
    rw [c9] at t1
    obtain ⟨p0, p1, rfl⟩ := list2 k8
    obtain ⟨s, q0, _⟩ := DataW.trod_string Try.underlying9 t0
    obtain ⟨s', q1, _⟩ := DataW.trod_string Try.underlying9 t1
    have q0' : [p0] = [.string s] := q0
    have q1' : [p1] = [.string s'] := q1
    injection q0' with q0'; injection q1' with q1'
    subst q0' q1'
    simp only [List.mem_cons, List.not_mem_nil, or_false] at hu
    rcases hu with rfl | rfl <;> rfl
theorem trod_state2 {m : Nat} (hm : m ≤ 1048576) (h : DataW.trod enc Try.prog W 0 (fun _ => true) true fuel 27 cs = some x) (hb : Rows.uptoBulk x.1 ≤ m) :
    ∃ sq dv lv sv n ln sn, cs = (stV sq dv lv sv).toList ∧ One W (fun b => b < W.heap.size) 6 dv n (DF W (fun b => b < W.heap.size) m) ∧ One W (fun b => b < W.heap.size) 2 lv ln LocC ∧ One W (fun b => b < W.heap.size) 22 sv sn SeenC := by
  obtain ⟨h8, h9⟩ := trod_struct2 Try.underlying27 c27 h
  obtain ⟨f0, y0, t0, _⟩ : ∃ g y, DataW.trod enc Try.prog W 0 (fun _ => true) true g 22 ((cs.drop 0).take (Try.prog.cellsOf 22)) = some y ∧ Rows.uptoBulk y.1 + 1 ≤ Rows.uptoBulk x.1 := h9 0 _ rfl
  rw [c22] at t0
  obtain ⟨f1, y1, t1, b1⟩ : ∃ g y, DataW.trod enc Try.prog W 0 (fun _ => true) true g 23 ((cs.drop 1).take (Try.prog.cellsOf 23)) = some y ∧ Rows.uptoBulk y.1 + 1 ≤ Rows.uptoBulk x.1 := h9 1 _ rfl
  rw [c23] at t1
  obtain ⟨f2, y2, t2, b2⟩ : ∃ g y, DataW.trod enc Try.prog W 0 (fun _ => true) true g 24 ((cs.drop 2).take (Try.prog.cellsOf 24)) = some y ∧ Rows.uptoBulk y.1 + 1 ≤ Rows.uptoBulk x.1 := h9 2 _ rfl
  rw [c24] at t2
  obtain ⟨f3, y3, t3, b3⟩ : ∃ g y, DataW.trod enc Try.prog W 0 (fun _ => true) true g 25 ((cs.drop 3).take (Try.prog.cellsOf 25)) = some y ∧ Rows.uptoBulk y.1 + 1 ≤ Rows.uptoBulk x.1 := h9 3 _ rfl
  rw [c25] at t3
  obtain ⟨e0, e1, e2, e3, rfl⟩ := list4 h8
  obtain ⟨n0, q0, _⟩ := DataW.trod_int Try.underlying22 t0
  obtain ⟨DA, n, dc, q1, g1, g2⟩ := trod_slice2 Try.underlying23 c45 (by omega) t1
  obtain ⟨LA, ln, lc, q2, g3, g4⟩ := trod_slice2 Try.underlying24 c65 (by omega) t2
  obtain ⟨SA, sn, sc, q3, g5, g6⟩ := trod_slice2 Try.underlying25 c70 (by omega) t3
  have q0' : [e0] = [.int .u64 n0] := q0
  have q1' : [e1] = [.slice DA n dc] := q1
  have q2' : [e2] = [.slice LA ln lc] := q2
  have q3' : [e3] = [.slice SA sn sc] := q3
  injection q0' with q0'; injection q1' with q1'; injection q2' with q2'; injection q3' with q3'
  subst q0' q1' q2' q3'
  refine ⟨n0, _, _, _, n, ln, sn, rfl, ⟨DA, dc, rfl, by omega, g2.imp _root_.id ?_⟩, ⟨LA, lc, rfl, by omega, g4.imp _root_.id ?_⟩, ⟨SA, sc, rfl, by omega, g6.imp _root_.id ?_⟩⟩
  · rintro ⟨b, o, e, hbs, hk⟩
    refine ⟨b, o, e, hbs, fun k hkn => ?_⟩
    obtain ⟨es, g7, g8, f, y, g9, g10⟩ := hk k hkn
    exact ⟨es, g7, g8, trod_doc2 hm g9 (by omega)⟩
  · rintro ⟨b, o, e, hbs, hk⟩
    refine ⟨b, o, e, hbs, fun k hkn => ?_⟩
    obtain ⟨es, g7, g8, f, y, g9, _⟩ := hk k hkn
    refine ⟨es, g7, g8, ?_⟩
    obtain ⟨k8, k9⟩ := trod_struct Try.underlying65 c65 g9
    obtain ⟨_, _, t0⟩ : ∃ g z, DataW.trod enc Try.prog W 0 (fun _ => true) true g 9 ((es.drop 0).take (Try.prog.cellsOf 9)) = some z := k9 0 _ rfl
    rw [c9] at t0
    obtain ⟨_, _, t1⟩ : ∃ g z, DataW.trod enc Try.prog W 0 (fun _ => true) true g 22 ((es.drop 1).take (Try.prog.cellsOf 22)) = some z := k9 1 _ rfl
    rw [c22] at t1
    obtain ⟨p0, p1, rfl⟩ := list2 k8
    obtain ⟨s, q0, _⟩ := DataW.trod_string Try.underlying9 t0
    obtain ⟨z, q1, _⟩ := DataW.trod_int Try.underlying22 t1
    have q0' : [p0] = [.string s] := q0
    have q1' : [p1] = [.int .u64 z] := q1
    injection q0' with q0'; injection q1' with q1'
    subst q0' q1'
    exact ⟨s, z, rfl⟩
  · rintro ⟨b, o, e, hbs, hk⟩
    refine ⟨b, o, e, hbs, fun k hkn => ?_⟩
    obtain ⟨es, g7, g8, f, y, g9, _⟩ := hk k hkn
    refine ⟨es, g7, g8, ?_⟩
    obtain ⟨k8, k9⟩ := trod_struct Try.underlying70 c70 g9
    obtain ⟨_, _, t0⟩ : ∃ g z, DataW.trod enc Try.prog W 0 (fun _ => true) true g 9 ((es.drop 0).take (Try.prog.cellsOf 9)) = some z := k9 0 _ rfl
    rw [c9] at t0
    obtain ⟨_, _, t1⟩ : ∃ g z, DataW.trod enc Try.prog W 0 (fun _ => true) true g 9 ((es.drop 1).take (Try.prog.cellsOf 9)) = some z := k9 1 _ rfl
    rw [c9] at t1
    obtain ⟨_, _, t2⟩ : ∃ g z, DataW.trod enc Try.prog W 0 (fun _ => true) true g 22 ((es.drop 2).take (Try.prog.cellsOf 22)) = some z := k9 2 _ rfl
    rw [c22] at t2
    obtain ⟨_, _, t3⟩ : ∃ g z, DataW.trod enc Try.prog W 0 (fun _ => true) true g 68 ((es.drop 3).take (Try.prog.cellsOf 68)) = some z := k9 3 _ rfl
    rw [c68] at t3
    obtain ⟨_, _, t4⟩ : ∃ g z, DataW.trod enc Try.prog W 0 (fun _ => true) true g 3 ((es.drop 20).take (Try.prog.cellsOf 3)) = some z := k9 4 _ rfl
    rw [c3] at t4
    obtain ⟨_, _, t5⟩ : ∃ g z, DataW.trod enc Try.prog W 0 (fun _ => true) true g 9 ((es.drop 21).take (Try.prog.cellsOf 9)) = some z := k9 5 _ rfl
    rw [c9] at t5
    obtain ⟨s1, q1, _⟩ := DataW.trod_string Try.underlying9 t0
    obtain ⟨s2, q2, _⟩ := DataW.trod_string Try.underlying9 t1
    obtain ⟨n2, q3, _⟩ := DataW.trod_int Try.underlying22 t2
    obtain ⟨g0, q4, _⟩ := DataW.trod_int Try.underlying3 t4
    obtain ⟨s3, q5, _⟩ := DataW.trod_string Try.underlying9 t5
    have a0 := chop es 0 1
    have a1 := chop es 1 1
    have a2 := chop es 2 1
    have a3 := chop es 3 17
    have a4 := chop es 20 1
    have a5 := chop es 21 1
    have a6 : es.drop 22 = [] := List.drop_of_length_le (by omega)
    refine ⟨s1, s2, n2, (es.drop 3).take 17, g0, s3, ?_, trod_rev t3⟩
    rw [q1, List.drop_zero] at a0
    rw [q2] at a1
    rw [q3] at a2
    rw [q4] at a4
    rw [q5, show 21 + 1 = 22 from rfl, a6, List.append_nil] at a5
    rw [show 20 + 1 = 21 from rfl, a5] at a4
    rw [show 3 + 17 = 20 from rfl, a4] at a3
    rw [show 2 + 1 = 3 from rfl, a3] at a2
    rw [show 1 + 1 = 2 from rfl, a2] at a1
    rw [show 0 + 1 = 1 from rfl, a1] at a0
    exact a0
end
theorem One.weak {w : World} {ok : Nat → Prop} {m n : Nat} {v : Value} {F F' : List Value → Prop} (h : One w ok m v n F) (hF : ∀ es, F es → F' es) : One w ok m v n F' := by
  obtain ⟨A, c, e, h1, h2⟩ := h
  exact ⟨A, c, e, h1, h2.imp _root_.id (fun ⟨b, o, e, hb, h3⟩ => ⟨b, o, e, hb, fun k hk => by obtain ⟨es, g1, g2, g3⟩ := h3 k hk; exact ⟨es, g1, g2, hF es g3⟩⟩)⟩
/-- a state, all of it -/
theorem open_state2 {H : Type} {enc : TypeId × Value → H} {W : World} {sq : Int} {dv lv sv : Value} {d : DataW H} {ps : List MemPlace} (h : DataW.Trod enc Try.prog W 0 (fun _ => true) true 27 (.agg (stV sq dv lv sv)) d ps) (hb : Rows.uptoBulk d ≤ 1048576) :
    ∃ n ln sn, One W (fun b => b < W.heap.size) 6 dv n (DF W (fun b => b < W.heap.size) 1048576) ∧ One W (fun b => b < W.heap.size) 2 lv ln LocC ∧ One W (fun b => b < W.heap.size) 22 sv sn SeenC := by
  obtain ⟨fuel, h⟩ := h
  obtain ⟨sq', dv', lv', sv', n, ln, sn, e, r⟩ := trod_state2 (Nat.le_refl 1048576) h hb
  have e : [.int .u64 sq, dv, lv, sv] = [.int .u64 sq', dv', lv', sv'] := e
  injection e with _ e
  injection e with e1 e
  injection e with e2 e
  injection e with e3 e
  subst e1 e2 e3
  exact ⟨n, ln, sn, r⟩
end Go.Proofs.Ytncjgfhipflokaa
