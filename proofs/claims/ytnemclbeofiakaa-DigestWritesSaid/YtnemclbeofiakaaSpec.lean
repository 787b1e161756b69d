/-
  The sum BLAKE2s in plain Lean: words are numbers. No program here.
-/
namespace Go.Proofs.Ytnemclbeofiakaa.Bl

abbrev M : Nat := 4294967296
def ror (x k : Nat) : Nat := x / 2 ^ k ||| (x * 2 ^ (32 - k)) % M
/-- half of a stir, one write behind the other -/
def halfA (v : List Nat) (a b x : Nat) : List Nat := v.set a ((v.getD a 0 + v.getD b 0 + x) % M)
def halfX (v : List Nat) (d a r : Nat) : List Nat := v.set d (ror (v.getD d 0 ^^^ v.getD a 0) r)
def halfC (v : List Nat) (c d : Nat) : List Nat := v.set c ((v.getD c 0 + v.getD d 0) % M)
def half (v : List Nat) (a b c d x r s : Nat) : List Nat := halfX (halfC (halfX (halfA v a b x) d a r) c d) b c s
def stirF (v : List Nat) (a b c d x y : Nat) : List Nat := half (half v a b c d x 16 12) a b c d y 8 7
/-- the words that are stirred in the i-th step of a round -/
def qd (i by_ : Nat) : Nat := by_ * 4 + (i + by_ * (i / 4)) % 4
def sigma : List (List Nat) := [
  [0, 1, 2, 3, 4, 5, 6, 7, 8, 9, 10, 11, 12, 13, 14, 15],
  [14, 10, 4, 8, 9, 15, 13, 6, 1, 12, 0, 2, 11, 7, 5, 3],
  [11, 8, 12, 0, 5, 2, 15, 13, 10, 14, 3, 6, 7, 1, 9, 4],
  [7, 9, 3, 1, 13, 12, 11, 14, 2, 6, 5, 10, 4, 0, 15, 8],
  [9, 0, 5, 7, 2, 4, 10, 15, 14, 1, 11, 12, 6, 8, 3, 13],
  [2, 12, 6, 10, 0, 11, 8, 3, 4, 13, 7, 5, 15, 14, 1, 9],
  [12, 5, 1, 15, 14, 13, 4, 10, 0, 7, 6, 3, 9, 2, 8, 11],
  [13, 11, 7, 14, 12, 1, 3, 9, 5, 0, 15, 4, 8, 6, 2, 10],
  [6, 15, 14, 9, 11, 3, 0, 8, 12, 2, 13, 7, 1, 4, 10, 5],
  [10, 2, 8, 4, 7, 6, 1, 5, 15, 11, 9, 14, 3, 12, 13, 0]]
def sg (r j : Nat) : Nat := (sigma.getD r []).getD j 0
def step (m : List Nat) (r i : Nat) (v : List Nat) : List Nat := stirF v (qd i 0) (qd i 1) (qd i 2) (qd i 3) (m.getD (sg r (2 * i)) 0) (m.getD (sg r (2 * i + 1)) 0)
/-- the first i steps of round r -/
def steps (m : List Nat) (r : Nat) : Nat → List Nat → List Nat
  | 0, v => v
  | i + 1, v => step m r i (steps m r i v)
/-- the first r rounds -/
def rounds (m : List Nat) : Nat → List Nat → List Nat
  | 0, v => v
  | r + 1, v => steps m r 8 (rounds m r v)
def iv : List Nat := [0x6a09e667, 0xbb67ae85, 0x3c6ef372, 0xa54ff53a, 0x510e527f, 0x9b05688c, 0x1f83d9ab, 0x5be0cd19]
/-- the row that is stirred, at its begin -/
def init (h : List Nat) (n : Nat) (last : Bool) : List Nat :=
  h ++ [0x6a09e667, 0xbb67ae85, 0x3c6ef372, 0xa54ff53a, 0x510e527f ^^^ n % M, 0x9b05688c ^^^ n / M % M, if last then 0x1f83d9ab ^^^ 0xffffffff else 0x1f83d9ab, 0x5be0cd19]
def fold (h v : List Nat) : List Nat := (List.range 8).map fun i => h.getD i 0 ^^^ (v.getD i 0 ^^^ v.getD (i + 8) 0)
def mixF (h m : List Nat) (n : Nat) (last : Bool) : List Nat := fold h (rounds m 10 (init h n last))
def word (b : List UInt8) (i : Nat) : Nat := (b.getD (4 * i) 0).toNat + 256 * (b.getD (4 * i + 1) 0).toNat + 65536 * (b.getD (4 * i + 2) 0).toNat + 16777216 * (b.getD (4 * i + 3) 0).toNat
/-- the words of a block -/
def wordsF (b : List UInt8) : List Nat := (List.range 16).map (word b)
/-- what is written: blocks are mixed in as long as more than one block's bytes are there -/
def writeL : Nat → List Nat → Nat → List UInt8 → List Nat × Nat × List UInt8
  | 0, h, n, r => (h, n, r)
  | f + 1, h, n, r => if r.length ≤ 64 then (h, n, r) else writeL f (mixF h (wordsF (r.take 64)) ((n + 64) % 18446744073709551616) false) ((n + 64) % 18446744073709551616) (r.drop 64)
def outF (h : List Nat) (size : Nat) : List UInt8 := (List.range size).map fun i => UInt8.ofNat (h.getD (i / 4) 0 / 2 ^ (8 * (i % 4)))
/-- the sum behind bytes of one block at most -/
def lastF (h : List Nat) (n : Nat) (r : List UInt8) : List Nat := mixF h (wordsF r) ((n + r.length) % 18446744073709551616) true
def beginF (size : Nat) : List Nat := (0x6a09e667 ^^^ (0x01010000 ^^^ size)) :: iv.drop 1

def Wds (k : Nat) (l : List Nat) : Prop := l.length = k ∧ ∀ x ∈ l, x < M

theorem ror_lt {x k : Nat} (hx : x < M) (_hk : k ≤ 32) : ror x k < M := by
  unfold ror
  refine Nat.or_lt_two_pow (n := 32) ?_ (Nat.mod_lt _ (by decide))
  exact Nat.lt_of_le_of_lt (Nat.div_le_self _ _) hx
theorem getD_lt {k : Nat} {l : List Nat} (h : Wds k l) (i : Nat) : l.getD i 0 < M := by
  rw [List.getD_eq_getElem?_getD]
  cases e : l[i]? with
  | none => exact (by decide : 0 < M)
  | some x => exact h.2 x (List.mem_of_getElem? e)
theorem Wds.set {k : Nat} {l : List Nat} (h : Wds k l) (i : Nat) {x : Nat} (hx : x < M) : Wds k (l.set i x) := by
  refine ⟨by simp [h.1], fun y hy => ?_⟩
  rcases List.mem_or_eq_of_mem_set hy with hy | rfl
  · exact h.2 y hy
  · exact hx
theorem xor_lt {x y : Nat} (hx : x < M) (hy : y < M) : x ^^^ y < M := Nat.xor_lt_two_pow (n := 32) hx hy
theorem Wds.halfA {k : Nat} {l : List Nat} (h : Wds k l) (a b x : Nat) : Wds k (halfA l a b x) := h.set _ (Nat.mod_lt _ (by decide))
theorem Wds.halfC {k : Nat} {l : List Nat} (h : Wds k l) (c d : Nat) : Wds k (halfC l c d) := h.set _ (Nat.mod_lt _ (by decide))
theorem Wds.halfX {k : Nat} {l : List Nat} (h : Wds k l) (d a r : Nat) (hr : r ≤ 32) : Wds k (halfX l d a r) := h.set _ (ror_lt (xor_lt (getD_lt h _) (getD_lt h _)) hr)
theorem Wds.half {k : Nat} {l : List Nat} (h : Wds k l) (a b c d x r s : Nat) (hr : r ≤ 32) (hs : s ≤ 32) : Wds k (half l a b c d x r s) := (((h.halfA a b x).halfX d a r hr).halfC c d).halfX b c s hs
theorem Wds.stirF {k : Nat} {l : List Nat} (h : Wds k l) (a b c d x y : Nat) : Wds k (stirF l a b c d x y) := (h.half a b c d x 16 12 (by decide) (by decide)).half a b c d y 8 7 (by decide) (by decide)
theorem Wds.steps {k : Nat} {l : List Nat} (h : Wds k l) (m : List Nat) (r i : Nat) : Wds k (steps m r i l) := by
  induction i with
  | zero => exact h
  | succ i ih => exact ih.stirF _ _ _ _ _ _
theorem Wds.rounds {k : Nat} {l : List Nat} (h : Wds k l) (m : List Nat) (r : Nat) : Wds k (rounds m r l) := by
  induction r with
  | zero => exact h
  | succ r ih => exact ih.steps _ _ _
theorem Wds.init {h : List Nat} (hh : Wds 8 h) (n : Nat) (last : Bool) : Wds 16 (init h n last) := by
  refine ⟨by simp [Bl.init, hh.1], fun x hx => ?_⟩
  unfold Bl.init at hx
  rcases List.mem_append.1 hx with hx | hx
  · exact hh.2 x hx
  · have h1 : n % M < M := Nat.mod_lt _ (by decide)
    have h2 : n / M % M < M := Nat.mod_lt _ (by decide)
    simp only [List.mem_cons, List.not_mem_nil, or_false] at hx
    rcases hx with rfl | rfl | rfl | rfl | rfl | rfl | rfl | rfl
    · decide
    · decide
    · decide
    · decide
    · exact xor_lt (by decide) h1
    · exact xor_lt (by decide) h2
    · cases last <;> decide
    · decide
theorem Wds.fold {h v : List Nat} (hh : Wds 8 h) (hv : Wds 16 v) : Wds 8 (fold h v) := by
  refine ⟨by simp [Bl.fold], fun x hx => ?_⟩
  unfold Bl.fold at hx
  obtain ⟨i, _, rfl⟩ := List.mem_map.1 hx
  exact xor_lt (getD_lt hh _) (xor_lt (getD_lt hv _) (getD_lt hv _))
theorem Wds.mixF {h : List Nat} (hh : Wds 8 h) (m : List Nat) (n : Nat) (last : Bool) : Wds 8 (mixF h m n last) := hh.fold ((hh.init n last).rounds m 10)
theorem word_lt (b : List UInt8) (i : Nat) : word b i < M := by
  have h1 := (b.getD (4 * i) 0).toNat_lt; have h2 := (b.getD (4 * i + 1) 0).toNat_lt; have h3 := (b.getD (4 * i + 2) 0).toNat_lt; have h4 := (b.getD (4 * i + 3) 0).toNat_lt
  unfold word M; omega
theorem wds_words (b : List UInt8) : Wds 16 (wordsF b) := by
  refine ⟨by simp [wordsF], fun x hx => ?_⟩
  obtain ⟨i, _, rfl⟩ := List.mem_map.1 hx
  exact word_lt b i
theorem wds_iv : Wds 8 iv := ⟨rfl, by decide⟩
theorem qd_lt {i by_ : Nat} (hb : by_ < 4) : qd i by_ < 16 := by unfold qd; omega
/-- the published example -/
theorem sum_abc : outF (lastF (beginF 32) 0 [97, 98, 99]) 32 = [0x50, 0x8c, 0x5e, 0x8c, 0x32, 0x7c, 0x14, 0xe2, 0xe1, 0xa7, 0x2b, 0xa3, 0x4e, 0xeb, 0x45, 0x2f, 0x37, 0x45, 0x8b, 0x20, 0x9e, 0xd6, 0x3a, 0x29, 0x4d, 0x99, 0x9b, 0x4c, 0x86, 0x67, 0x59, 0x82] := by
  decide +kernel
end Go.Proofs.Ytnemclbeofiakaa.Bl
