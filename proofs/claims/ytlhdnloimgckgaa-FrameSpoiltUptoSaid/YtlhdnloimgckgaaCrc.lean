/-
  Plain laws on CRC-32C: the bit step is linear, one to one below 2^32, and keeps the parity of the bits; the table's step and the bit by bit step are the same. No program here.
-/
namespace Go.Proofs.Ytlhdnloimgckgaa.Crc

def poly : Nat := 0x82f63b78

/-- one bit -/
def cbit (x : Nat) : Nat := x / 2 ^^^ (if x % 2 = 1 then poly else 0)

/-- n bits -/
def cn : Nat → Nat → Nat
  | 0, x => x
  | n + 1, x => cn n (cbit x)

def c8 (x : Nat) : Nat := cn 8 x
def cbyte (x : Nat) (c : UInt8) : Nat := c8 (x ^^^ c.toNat)
def crcs (x : Nat) (bs : List UInt8) : Nat := bs.foldl cbyte x
def check (bs : List UInt8) : Nat := crcs 0xffffffff bs ^^^ 0xffffffff

theorem xor_div2 (x y : Nat) : (x ^^^ y) / 2 = x / 2 ^^^ y / 2 := by
  have := Nat.shiftRight_xor_distrib (a := x) (b := y) (i := 1)
  simpa [Nat.shiftRight_eq_div_pow] using this
theorem xor_mod2 (x y : Nat) : (x ^^^ y) % 2 = (x % 2) ^^^ (y % 2) := by
  have := Nat.xor_mod_two_pow (a := x) (b := y) (n := 1)
  simpa using this

theorem cbit_xor (x y : Nat) : cbit (x ^^^ y) = cbit x ^^^ cbit y := by
  unfold cbit
  rw [xor_div2, xor_mod2]
  rcases Nat.mod_two_eq_zero_or_one x with hx | hx <;> rcases Nat.mod_two_eq_zero_or_one y with hy | hy <;> rw [hx, hy] <;> simp
  · rw [Nat.xor_assoc]
  · rw [Nat.xor_assoc, Nat.xor_assoc, Nat.xor_comm (y / 2)]
  · rw [Nat.xor_comm (y / 2) poly, Nat.xor_assoc, ← Nat.xor_assoc poly, Nat.xor_self, Nat.zero_xor]

theorem cn_xor (n : Nat) : ∀ x y, cn n (x ^^^ y) = cn n x ^^^ cn n y := by
  induction n with
  | zero => intro x y; rfl
  | succ n ih => intro x y; simp only [cn, cbit_xor, ih]
theorem cn_add (m n x : Nat) : cn (m + n) x = cn n (cn m x) := by
  induction m generalizing x with
  | zero => simp [cn]
  | succ m ih => rw [Nat.succ_add]; simp only [cn]; exact ih _
theorem cn_succ (n x : Nat) : cn (n + 1) x = cbit (cn n x) := by rw [cn_add]; rfl
theorem cbit_double (y : Nat) : cbit (2 * y) = y := by
  unfold cbit
  have h1 : 2 * y / 2 = y := by omega
  have h2 : 2 * y % 2 = 0 := by omega
  rw [h1, h2]; simp
theorem cn_shift (n : Nat) : ∀ y, cn n (2 ^ n * y) = y := by
  induction n with
  | zero => intro y; simp [cn]
  | succ n ih =>
    intro y
    simp only [cn]
    rw [Nat.pow_succ, Nat.mul_comm (2 ^ n) 2, Nat.mul_assoc, cbit_double]
    exact ih y

theorem xor_lt {x y n : Nat} (hx : x < 2 ^ n) (hy : y < 2 ^ n) : x ^^^ y < 2 ^ n := Nat.xor_lt_two_pow hx hy
theorem poly_lt : poly < 2 ^ 32 := by decide
theorem cbit_lt {x : Nat} (h : x < 2 ^ 32) : cbit x < 2 ^ 32 := by
  unfold cbit
  refine xor_lt (by omega) ?_
  split
  · exact poly_lt
  · decide
theorem cn_lt (n : Nat) : ∀ {x : Nat}, x < 2 ^ 32 → cn n x < 2 ^ 32 := by
  induction n with
  | zero => intro x h; exact h
  | succ n ih => intro x h; exact ih (cbit_lt h)
theorem byte_lt (c : UInt8) : c.toNat < 256 := c.toNat_lt
theorem byte_lt32 (c : UInt8) : c.toNat < 2 ^ 32 := Nat.lt_of_lt_of_le c.toNat_lt (by decide)
theorem cbyte_lt {x : Nat} (h : x < 2 ^ 32) (c : UInt8) : cbyte x c < 2 ^ 32 := cn_lt 8 (xor_lt h (byte_lt32 c))
theorem crcs_lt (bs : List UInt8) : ∀ {x : Nat}, x < 2 ^ 32 → crcs x bs < 2 ^ 32 := by
  induction bs with
  | nil => intro x h; exact h
  | cons c bs ih => intro x h; exact ih (cbyte_lt h c)
theorem check_lt (bs : List UInt8) : check bs < 2 ^ 32 := xor_lt (crcs_lt bs (by decide)) (by decide)
theorem crcs_append (x : Nat) (a b : List UInt8) : crcs x (a ++ b) = crcs (crcs x a) b := by simp [crcs]
theorem crcs_snoc (x : Nat) (a : List UInt8) (c : UInt8) : crcs x (a ++ [c]) = cbyte (crcs x a) c := by simp [crcs]

theorem split_add (x n : Nat) : x = 2 ^ n * (x / 2 ^ n) ^^^ x % 2 ^ n := by
  have h := Nat.two_pow_add_eq_or_of_lt (i := n) (b := x % 2 ^ n) (Nat.mod_lt _ (Nat.two_pow_pos n)) (x / 2 ^ n)
  have h2 : 2 ^ n * (x / 2 ^ n) + x % 2 ^ n = x := Nat.div_add_mod x (2 ^ n)
  apply Nat.eq_of_testBit_eq
  intro i
  rw [Nat.testBit_xor, Nat.testBit_two_pow_mul, Nat.testBit_mod_two_pow, Nat.testBit_div_two_pow]
  by_cases hi : i < n
  · have h3 : ¬ n ≤ i := by omega
    simp [hi, h3]
  · have h3 : n ≤ i := by omega
    simp [hi, h3, Nat.sub_add_cancel h3]

/-- the table's step is the eight bits' -/
theorem tab_step (x : Nat) (c : UInt8) : c8 (x % 256 ^^^ c.toNat) ^^^ x / 256 = cbyte x c := by
  unfold cbyte c8
  have h := split_add x 8
  have h2 : x ^^^ c.toNat = 2 ^ 8 * (x / 2 ^ 8) ^^^ (x % 2 ^ 8 ^^^ c.toNat) := by
    rw [← Nat.xor_assoc, ← h]
  rw [h2, cn_xor 8 (2 ^ 8 * (x / 2 ^ 8)), cn_shift, Nat.xor_comm]

/-! ### bit by bit -/
/-- the reference's inner round -/
def rbit (x bit : Nat) : Nat := if x % 2 = bit then x / 2 else x / 2 ^^^ poly
theorem rbit_eq (x bit : Nat) (hb : bit < 2) : rbit x bit = cbit (x ^^^ bit) := by
  unfold rbit cbit
  rw [xor_div2, xor_mod2]
  have h0 : bit / 2 = 0 := by omega
  have hm : bit % 2 = bit := by omega
  rw [h0, hm]
  rcases Nat.mod_two_eq_zero_or_one x with hx | hx <;> rcases (show bit = 0 ∨ bit = 1 from by omega) with hb | hb <;> subst hb <;> rw [hx] <;> simp
/-- the state behind k of a byte's bits -/
def rk (x c : Nat) : Nat → Nat
  | 0 => x
  | k + 1 => rbit (rk x c k) (c / 2 ^ k % 2)
theorem rk_eq (x c : Nat) : ∀ k, rk x c k = cn k (x ^^^ c % 2 ^ k) := by
  intro k
  induction k with
  | zero => simp [rk, cn, Nat.mod_one]
  | succ k ih =>
    rw [rk, ih, rbit_eq _ _ (by omega), cn_succ]
    have h1 : c / 2 ^ k % 2 = cn k (2 ^ k * (c / 2 ^ k % 2)) := (cn_shift k _).symm
    rw [h1, ← cn_xor, Nat.xor_assoc]
    congr 2
    congr 1
    have h2 := split_add (c % 2 ^ (k + 1)) k
    have h3 : c % 2 ^ (k + 1) / 2 ^ k = c / 2 ^ k % 2 := by
      rw [Nat.pow_succ, Nat.mod_mul_right_div_self]
    have h4 : c % 2 ^ (k + 1) % 2 ^ k = c % 2 ^ k := by
      rw [Nat.mod_mod_of_dvd _ (Nat.pow_dvd_pow 2 (Nat.le_succ k))]
    rw [h3, h4] at h2
    rw [h2, Nat.xor_comm]
theorem rk_byte (x : Nat) (c : UInt8) : rk x c.toNat 8 = cbyte x c := by
  rw [rk_eq]
  have := byte_lt c
  rw [Nat.mod_eq_of_lt (by simpa using this)]; rfl
theorem rk_lt {x c : Nat} (h : x < 2 ^ 32) : ∀ k, rk x c k < 2 ^ 32 := by
  intro k
  induction k with
  | zero => exact h
  | succ k ih =>
    rw [rk, rbit_eq _ _ (by omega)]
    exact cbit_lt (xor_lt ih (by omega))

/-! ### one to one -/
theorem cbit_zero {z : Nat} (hz : z < 2 ^ 32) (h : cbit z = 0) : z = 0 := by
  unfold cbit at h
  rcases Nat.mod_two_eq_zero_or_one z with hx | hx
  · rw [hx] at h; simp at h; omega
  · rw [hx] at h
    simp only [if_true] at h
    have h1 : z / 2 = poly := by
      have h2 : z / 2 ^^^ poly ^^^ poly = 0 ^^^ poly := by rw [h]
      rw [Nat.xor_assoc, Nat.xor_self] at h2
      simpa using h2
    unfold poly at h1
    omega
theorem cn_zero (n : Nat) : ∀ {z : Nat}, z < 2 ^ 32 → cn n z = 0 → z = 0 := by
  induction n with
  | zero => intro z _ h; exact h
  | succ n ih => intro z hz h; exact cbit_zero hz (ih (cbit_lt hz) h)
theorem xor_eq_zero {x y : Nat} (h : x ^^^ y = 0) : x = y := by
  have h2 : x ^^^ y ^^^ y = 0 ^^^ y := by rw [h]
  rw [Nat.xor_assoc, Nat.xor_self] at h2
  simpa using h2
theorem cn_inj (n : Nat) {x y : Nat} (hx : x < 2 ^ 32) (hy : y < 2 ^ 32) (h : cn n x = cn n y) : x = y := by
  refine xor_eq_zero (cn_zero n (xor_lt hx hy) ?_)
  rw [cn_xor, h, Nat.xor_self]
theorem xor_right_inj {x y z : Nat} (h : x ^^^ z = y ^^^ z) : x = y := by
  have h2 : x ^^^ z ^^^ z = y ^^^ z ^^^ z := by rw [h]
  rw [Nat.xor_assoc, Nat.xor_assoc, Nat.xor_self] at h2
  simpa using h2
theorem crcs_inj (bs : List UInt8) : ∀ {x y : Nat}, x < 2 ^ 32 → y < 2 ^ 32 → crcs x bs = crcs y bs → x = y := by
  induction bs with
  | nil => intro x y _ _ h; exact h
  | cons c bs ih =>
    intro x y hx hy h
    exact xor_right_inj (cn_inj 8 (xor_lt hx (byte_lt32 c)) (xor_lt hy (byte_lt32 c)) (ih (cbyte_lt hx c) (cbyte_lt hy c) h))

/-! ### four bytes -/
def le4 (x : Nat) : List UInt8 := [UInt8.ofNat x, UInt8.ofNat (x / 256), UInt8.ofNat (x / 65536), UInt8.ofNat (x / 16777216)]
def be4 (x : Nat) : List UInt8 := [UInt8.ofNat (x / 16777216), UInt8.ofNat (x / 65536), UInt8.ofNat (x / 256), UInt8.ofNat x]
theorem ofNat_toNat (x : Nat) : (UInt8.ofNat x).toNat = x % 256 := by simp [UInt8.toNat_ofNat']
theorem crcs_le4 {x y : Nat} (hy : y < 2 ^ 32) : crcs x (le4 y) = cn 32 (x ^^^ y) := by
  have e1 : y = 256 * (256 * (256 * (y / 16777216) ^^^ y / 65536 % 256) ^^^ y / 256 % 256) ^^^ y % 256 := by
    have h1 := split_add (y / 65536) 8
    have h2 := split_add (y / 256) 8
    have h3 := split_add y 8
    simp only [Nat.div_div_eq_div_mul, Nat.reducePow, Nat.reduceMul] at h1 h2 h3
    rw [← h1, ← h2, ← h3]
  have hd : y / 16777216 % 256 = y / 16777216 := by omega
  have s8 : ∀ z, cn 8 (256 * z) = z := fun z => cn_shift 8 z
  have key : cn 32 (x ^^^ y) = cn 8 (cn 8 (cn 8 (cn 8 (x ^^^ y % 256) ^^^ y / 256 % 256) ^^^ y / 65536 % 256) ^^^ y / 16777216 % 256) := by
    rw [hd, show (32 : Nat) = 8 + (8 + (8 + 8)) from rfl, cn_add, cn_add, cn_add]
    congr 1
    rw [show cn 8 (x ^^^ y) = cn 8 (x ^^^ y % 256) ^^^ y / 256 % 256 ^^^ 256 * (256 * (y / 16777216) ^^^ y / 65536 % 256) from by
      conv => lhs; rw [e1]
      rw [Nat.xor_comm (256 * _) (y % 256), ← Nat.xor_assoc, cn_xor, s8, Nat.xor_comm (256 * _) (y / 256 % 256), ← Nat.xor_assoc]]
    rw [cn_xor, s8, Nat.xor_comm (256 * _) (y / 65536 % 256), ← Nat.xor_assoc, cn_xor, s8]
  rw [key]
  simp [crcs, le4, cbyte, c8]

/-! ### parity -/
def par : Nat → Nat
  | 0 => 0
  | n + 1 => ((n + 1) % 2 + par ((n + 1) / 2)) % 2
theorem par_eq (x : Nat) : par x = (x % 2 + par (x / 2)) % 2 := by
  cases x with
  | zero => simp [par]
  | succ n => rw [par]
theorem par_lt (x : Nat) : par x < 2 := by rw [par_eq]; exact Nat.mod_lt _ (by decide)
theorem par_xor (x : Nat) : ∀ y, par (x ^^^ y) = (par x + par y) % 2 := by
  induction x using Nat.strongRecOn with
  | _ x ih =>
    intro y
    rcases Nat.eq_zero_or_pos x with h0 | h0
    · subst h0
      have := par_lt y
      simp [par]; omega
    · rw [par_eq (x ^^^ y), xor_div2, ih (x / 2) (by omega), xor_mod2, par_eq x, par_eq y]
      rcases Nat.mod_two_eq_zero_or_one x with hx | hx <;> rcases Nat.mod_two_eq_zero_or_one y with hy | hy <;> rw [hx, hy] <;> simp <;> omega
theorem par_poly : par poly = 1 := by simp [par, poly]
theorem par_cbit (x : Nat) : par (cbit x) = par x := by
  unfold cbit
  rw [par_xor, par_eq x]
  rcases Nat.mod_two_eq_zero_or_one x with hx | hx <;> rw [hx]
  · have : par 0 = 0 := by simp [par]
    simp [this]
  · simp only [if_true, par_poly]; omega
theorem par_cn (n : Nat) : ∀ x, par (cn n x) = par x := by
  induction n with
  | zero => intro x; rfl
  | succ n ih => intro x; simp only [cn, ih, par_cbit]
def pars (bs : List UInt8) : Nat := bs.foldl (fun p c => (p + par c.toNat) % 2) 0
theorem pars_from (bs : List UInt8) : ∀ p, p < 2 → bs.foldl (fun p c => (p + par c.toNat) % 2) p = (p + pars bs) % 2 := by
  induction bs with
  | nil => intro p hp; simp [pars]; omega
  | cons c bs ih =>
    intro p hp
    have hc := par_lt c.toNat
    simp only [pars, List.foldl_cons]
    rw [ih _ (Nat.mod_lt _ (by decide)), ih _ (Nat.mod_lt _ (by decide))]
    omega
theorem pars_lt (bs : List UInt8) : pars bs < 2 := by
  cases bs with
  | nil => decide
  | cons c bs => simp only [pars, List.foldl_cons]; rw [pars_from _ _ (Nat.mod_lt _ (by decide))]; exact Nat.mod_lt _ (by decide)
theorem pars_cons (c : UInt8) (bs : List UInt8) : pars (c :: bs) = (par c.toNat + pars bs) % 2 := by
  have hc := par_lt c.toNat
  simp only [pars, List.foldl_cons]; rw [pars_from _ _ (Nat.mod_lt _ (by decide))]; simp [pars]
theorem pars_append (a b : List UInt8) : pars (a ++ b) = (pars a + pars b) % 2 := by
  induction a with
  | nil => have := pars_lt b; simp [pars] at *; omega
  | cons c a ih => rw [List.cons_append, pars_cons, pars_cons, ih]; omega
theorem par_crcs (bs : List UInt8) : ∀ x, par (crcs x bs) = (par x + pars bs) % 2 := by
  induction bs with
  | nil => intro x; have := par_lt x; simp [crcs, pars]; omega
  | cons c bs ih =>
    intro x
    have e : crcs x (c :: bs) = crcs (cbyte x c) bs := rfl
    rw [e, ih, pars_cons]
    unfold cbyte c8
    rw [par_cn, par_xor]
    omega
theorem par_ones : par 0xffffffff = 0 := by simp [par]
theorem par_check (bs : List UInt8) : par (check bs) = pars bs := by
  unfold check
  have := pars_lt bs
  rw [par_xor, par_crcs, par_ones]; omega

end Go.Proofs.Ytlhdnloimgckgaa.Crc
