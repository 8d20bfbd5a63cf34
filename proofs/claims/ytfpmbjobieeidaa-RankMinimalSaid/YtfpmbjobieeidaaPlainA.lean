/-
  Plain laws on fractions and their comparison: no program in sight.
-/
namespace Go.Proofs.Ytfpmbjobieeidaa.Rk

/-- The product of two words, its high and its low word. -/
def hi (x y : Nat) : Nat := x * y / 18446744073709551616
def lo (x y : Nat) : Nat := x * y % 18446744073709551616

theorem hilo_lt {x y u v : Nat} : x * y < u * v ↔ hi x y < hi u v ∨ hi x y = hi u v ∧ lo x y < lo u v := by
  unfold hi lo; omega
theorem hilo_eq {x y u v : Nat} : x * y = u * v ↔ hi x y = hi u v ∧ lo x y = lo u v := by
  unfold hi lo; omega

theorem hilo_cases {x y u v : Nat} {r s t : Int} (h : r = if u * v < x * y then s else if x * y = u * v then 0 else t) :
    (hi u v < hi x y ∧ r = s) ∨ (hi x y = hi u v ∧ lo u v < lo x y ∧ r = s) ∨ (hi x y = hi u v ∧ lo x y = lo u v ∧ r = 0) ∨
      (hi x y = hi u v ∧ lo x y < lo u v ∧ r = t) ∨ (hi x y < hi u v ∧ r = t) := by
  by_cases h1 : u * v < x * y
  · rw [if_pos h1] at h
    rcases hilo_lt.1 h1 with k | ⟨k, l⟩
    · exact .inl ⟨k, h⟩
    · exact .inr (.inl ⟨k.symm, l, h⟩)
  · rw [if_neg h1] at h
    by_cases h2 : x * y = u * v
    · rw [if_pos h2] at h
      exact .inr (.inr (.inl ⟨(hilo_eq.1 h2).1, (hilo_eq.1 h2).2, h⟩))
    · rw [if_neg h2] at h
      rcases hilo_lt.1 (show x * y < u * v by omega) with k | ⟨k, l⟩
      · exact .inr (.inr (.inr (.inr ⟨k, h⟩)))
      · exact .inr (.inr (.inr (.inl ⟨k, l, h⟩)))

/-- A fraction as Compare takes it: 0 by 1 if the denominator is not positive. -/
def nu (n d : Int) : Int := if d ≤ 0 then 0 else n
def de (_n d : Int) : Int := if d ≤ 0 then 1 else d
theorem de_pos (n d : Int) : 1 ≤ de n d := by unfold de; split <;> omega

/-- What Compare answers. -/
def cmp (an ad bn bd : Int) : Int := Int.sign (nu an ad * de bn bd - nu bn bd * de an ad)

theorem sign_cases (x : Int) : x < 0 ∧ Int.sign x = -1 ∨ x = 0 ∧ Int.sign x = 0 ∨ 0 < x ∧ Int.sign x = 1 := by
  rcases Int.lt_trichotomy x 0 with h | h | h
  · exact .inl ⟨h, Int.sign_eq_neg_one_of_neg h⟩
  · subst h; exact .inr (.inl ⟨rfl, rfl⟩)
  · exact .inr (.inr ⟨h, Int.sign_eq_one_of_pos h⟩)

theorem sign_of_lt {x : Int} (h : x < 0) : Int.sign x = -1 := Int.sign_eq_neg_one_of_neg h
theorem sign_of_gt {x : Int} (h : 0 < x) : Int.sign x = 1 := Int.sign_eq_one_of_pos h

/-- The sign of a difference of products, by amounts, where both numerators have one sign. -/
theorem cross_pos {a b c d : Int} (ha : 0 < a) (hc : 0 < c) (hb : 0 < b) (hd : 0 < d) :
    Int.sign (a * b - c * d) = if c.natAbs * d.toNat < a.natAbs * b.toNat then 1 else if a.natAbs * b.toNat = c.natAbs * d.toNat then 0 else -1 := by
  have e1 : ((a.natAbs * b.toNat : Nat) : Int) = a * b := by rw [Int.natCast_mul, Int.toNat_of_nonneg (by omega), Int.natAbs_of_nonneg (by omega)]
  have e2 : ((c.natAbs * d.toNat : Nat) : Int) = c * d := by rw [Int.natCast_mul, Int.toNat_of_nonneg (by omega), Int.natAbs_of_nonneg (by omega)]
  generalize a.natAbs * b.toNat = x at *
  generalize c.natAbs * d.toNat = y at *
  rw [← e1, ← e2]
  by_cases h1 : y < x
  · rw [if_pos h1, sign_of_gt (by omega)]
  · by_cases h2 : x = y
    · rw [if_neg h1, if_pos h2, h2]; simp
    · rw [if_neg h1, if_neg h2, sign_of_lt (by omega)]
theorem cross_neg {a b c d : Int} (ha : a < 0) (hc : c < 0) (hb : 0 < b) (hd : 0 < d) :
    Int.sign (a * b - c * d) = if c.natAbs * d.toNat < a.natAbs * b.toNat then -1 else if a.natAbs * b.toNat = c.natAbs * d.toNat then 0 else 1 := by
  have e1 : ((a.natAbs * b.toNat : Nat) : Int) = -(a * b) := by rw [Int.natCast_mul, Int.toNat_of_nonneg (by omega), Int.ofNat_natAbs_of_nonpos (by omega), Int.neg_mul]
  have e2 : ((c.natAbs * d.toNat : Nat) : Int) = -(c * d) := by rw [Int.natCast_mul, Int.toNat_of_nonneg (by omega), Int.ofNat_natAbs_of_nonpos (by omega), Int.neg_mul]
  generalize a.natAbs * b.toNat = x at *
  generalize c.natAbs * d.toNat = y at *
  have e1' : a * b = -(x : Int) := by omega
  have e2' : c * d = -(y : Int) := by omega
  rw [e1', e2']
  by_cases h1 : y < x
  · rw [if_pos h1, sign_of_lt (by omega)]
  · by_cases h2 : x = y
    · rw [if_neg h1, if_pos h2, h2]; simp
    · rw [if_neg h1, if_neg h2, sign_of_gt (by omega)]
theorem cross_nonneg {a b c d : Int} (ha : 0 ≤ a) (hc : 0 ≤ c) (hb : 0 < b) (hd : 0 < d) :
    Int.sign (a * b - c * d) = if c.natAbs * d.toNat < a.natAbs * b.toNat then 1 else if a.natAbs * b.toNat = c.natAbs * d.toNat then 0 else -1 := by
  have e1 : ((a.natAbs * b.toNat : Nat) : Int) = a * b := by rw [Int.natCast_mul, Int.toNat_of_nonneg (by omega), Int.natAbs_of_nonneg (by omega)]
  have e2 : ((c.natAbs * d.toNat : Nat) : Int) = c * d := by rw [Int.natCast_mul, Int.toNat_of_nonneg (by omega), Int.natAbs_of_nonneg (by omega)]
  generalize a.natAbs * b.toNat = x at *
  generalize c.natAbs * d.toNat = y at *
  rw [← e1, ← e2]
  by_cases h1 : y < x
  · rw [if_pos h1, sign_of_gt (by omega)]
  · by_cases h2 : x = y
    · rw [if_neg h1, if_pos h2, h2]; simp
    · rw [if_neg h1, if_neg h2, sign_of_lt (by omega)]
/-- Numerators of different signs, or the first one 0. -/
theorem cross_mixed {a b c d : Int} (hb : 0 < b) (hd : 0 < d) (h : Int.sign a ≠ Int.sign c ∨ Int.sign a = 0) :
    Int.sign (a * b - c * d) = Int.sign (Int.sign a - Int.sign c) := by
  rcases sign_cases a with ⟨ha, ea⟩ | ⟨ha, ea⟩ | ⟨ha, ea⟩ <;> rcases sign_cases c with ⟨hc, ec⟩ | ⟨hc, ec⟩ | ⟨hc, ec⟩ <;> rw [ea, ec] at h <;> rw [ea, ec]
  case inl.inl => omega
  case inr.inr.inr.inr => omega
  all_goals first
    | (subst ha; subst hc; simp)
    | (subst ha; have := Int.mul_pos hc hd; rw [Int.zero_mul, sign_of_lt (by omega)]; rfl)
    | (subst ha; have := Int.mul_neg_of_neg_of_pos hc hd; rw [Int.zero_mul, sign_of_gt (by omega)]; rfl)
    | (subst hc; have := Int.mul_pos ha hb; rw [Int.zero_mul, sign_of_gt (by omega)]; rfl)
    | (subst hc; have := Int.mul_neg_of_neg_of_pos ha hb; rw [Int.zero_mul, sign_of_lt (by omega)]; rfl)
    | (have := Int.mul_pos ha hb; have := Int.mul_neg_of_neg_of_pos hc hd; rw [sign_of_gt (by omega)]; rfl)
    | (have := Int.mul_neg_of_neg_of_pos ha hb; have := Int.mul_pos hc hd; rw [sign_of_lt (by omega)]; rfl)

/-- Compare is an order: the laws that are asked of it. -/
theorem cmp_bounds (an ad bn bd : Int) : -1 ≤ cmp an ad bn bd ∧ cmp an ad bn bd ≤ 1 := by
  unfold cmp
  rcases sign_cases (nu an ad * de bn bd - nu bn bd * de an ad) with ⟨_, e⟩ | ⟨_, e⟩ | ⟨_, e⟩ <;> rw [e] <;> omega
theorem cmp_swap (an ad bn bd : Int) : cmp an ad bn bd = -cmp bn bd an ad := by
  unfold cmp
  rw [← Int.sign_neg]; congr 1; omega
theorem cmp_self (an ad : Int) : cmp an ad an ad = 0 := by unfold cmp; simp
theorem cmp_le_iff (an ad bn bd : Int) : cmp an ad bn bd ≤ 0 ↔ nu an ad * de bn bd ≤ nu bn bd * de an ad := by
  unfold cmp
  rcases sign_cases (nu an ad * de bn bd - nu bn bd * de an ad) with ⟨h, e⟩ | ⟨h, e⟩ | ⟨h, e⟩ <;> rw [e] <;> constructor <;> intro _ <;> omega
theorem cmp_lt_iff (an ad bn bd : Int) : cmp an ad bn bd < 0 ↔ nu an ad * de bn bd < nu bn bd * de an ad := by
  unfold cmp
  rcases sign_cases (nu an ad * de bn bd - nu bn bd * de an ad) with ⟨h, e⟩ | ⟨h, e⟩ | ⟨h, e⟩ <;> rw [e] <;> constructor <;> intro _ <;> omega
theorem cmp_eq_iff (an ad bn bd : Int) : cmp an ad bn bd = 0 ↔ nu an ad * de bn bd = nu bn bd * de an ad := by
  unfold cmp
  rcases sign_cases (nu an ad * de bn bd - nu bn bd * de an ad) with ⟨h, e⟩ | ⟨h, e⟩ | ⟨h, e⟩ <;> rw [e] <;> constructor <;> intro _ <;> omega

theorem cross_trans {a b c d e f : Int} (hb : 0 < b) (hd : 0 < d) (hf : 0 < f) (h1 : a * d ≤ c * b) (h2 : c * f ≤ e * d) : a * f ≤ e * b := by
  have e1 : a * d * f ≤ c * b * f := Int.mul_le_mul_of_nonneg_right h1 (by omega)
  have e2 : c * f * b ≤ e * d * b := Int.mul_le_mul_of_nonneg_right h2 (by omega)
  have e3 : a * f * d ≤ e * b * d := by
    have i1 : a * f * d = a * d * f := by rw [Int.mul_right_comm]
    have i2 : c * b * f = c * f * b := by rw [Int.mul_right_comm]
    have i3 : e * d * b = e * b * d := by rw [Int.mul_right_comm]
    omega
  exact Int.le_of_mul_le_mul_right e3 hd
theorem cross_trans_lt {a b c d e f : Int} (hb : 0 < b) (hd : 0 < d) (hf : 0 < f) (h1 : a * d ≤ c * b) (h2 : c * f ≤ e * d) (h : a * d < c * b ∨ c * f < e * d) : a * f < e * b := by
  rcases Int.lt_or_le (a * f) (e * b) with h' | h'
  · exact h'
  · exfalso
    rcases h with h | h
    · have := cross_trans (a := c) (b := d) (c := e) (d := f) (e := a) (f := b) hd hf hb h2 (by omega)
      omega
    · have := cross_trans (a := e) (b := f) (c := a) (d := b) (e := c) (f := d) hf hb hd (by omega) h1
      omega

theorem cmp_trans (an ad bn bd cn cd : Int) (h1 : cmp an ad bn bd ≤ 0) (h2 : cmp bn bd cn cd ≤ 0) :
    cmp an ad cn cd ≤ 0 ∧ (cmp an ad bn bd < 0 ∨ cmp bn bd cn cd < 0 → cmp an ad cn cd < 0) := by
  have pa := de_pos an ad
  have pb := de_pos bn bd
  have pc := de_pos cn cd
  rw [cmp_le_iff] at *
  simp only [cmp_lt_iff]
  exact ⟨cross_trans (by omega) (by omega) (by omega) h1 h2, fun h => cross_trans_lt (by omega) (by omega) (by omega) h1 h2 h⟩

/-- A fraction in lowest terms, and its error. -/
def frNum (n d : Int) : Int := (if d < 0 then -n else n).tdiv (Int.gcd n d)
def frDen (n d : Int) : Int := (if d < 0 then -d else d).tdiv (Int.gcd n d)
def frOk (n d : Int) : Prop := d ≠ 0 ∧ n ≠ -9223372036854775808 ∧ d ≠ -9223372036854775808
instance (n d : Int) : Decidable (frOk n d) := by unfold frOk; infer_instance
def frErr (n d : Int) : Int := if d = 0 then 1 else if n = -9223372036854775808 ∨ d = -9223372036854775808 then 3 else 0
def frN (n d : Int) : Int := if frOk n d then frNum n d else 0
def frD (n d : Int) : Int := if frOk n d then frDen n d else 0

theorem gcd_pos {n d : Int} (h : d ≠ 0) : 0 < (Int.gcd n d : Int) := by
  have : 0 < Int.gcd n d := Int.gcd_pos_of_ne_zero_right n h
  omega
theorem frNum_mul {n d : Int} : frNum n d * Int.gcd n d = if d < 0 then -n else n := by
  unfold frNum
  have h : (Int.gcd n d : Int) ∣ (if d < 0 then -n else n) := by
    split
    · exact Int.dvd_neg.2 (Int.gcd_dvd_left ..)
    · exact Int.gcd_dvd_left ..
  exact Int.tdiv_mul_cancel h
theorem frDen_mul {n d : Int} : frDen n d * Int.gcd n d = if d < 0 then -d else d := by
  unfold frDen
  have h : (Int.gcd n d : Int) ∣ (if d < 0 then -d else d) := by
    split
    · exact Int.dvd_neg.2 (Int.gcd_dvd_right ..)
    · exact Int.gcd_dvd_right ..
  exact Int.tdiv_mul_cancel h
theorem frDen_pos {n d : Int} (h : d ≠ 0) : 0 < frDen n d := by
  have h1 := frDen_mul (n := n) (d := d)
  have h2 := gcd_pos (n := n) h
  have h3 : 0 < frDen n d * Int.gcd n d := by rw [h1]; split <;> omega
  rcases Int.lt_or_le 0 (frDen n d) with h4 | h4
  · exact h4
  · have := Int.mul_nonneg (a := -(frDen n d)) (b := Int.gcd n d) (by omega) (by omega)
    rw [Int.neg_mul] at this
    omega
/-- The fraction in lowest terms compares equal to what it comes from, if that has a positive denominator. -/
theorem cmp_frac {n d : Int} (h : 0 < d) : cmp n d (frNum n d) (frDen n d) = 0 := by
  rw [cmp_eq_iff]
  have h1 := frDen_mul (n := n) (d := d)
  have h2 := frNum_mul (n := n) (d := d)
  have h3 := frDen_pos (n := n) (d := d) (by omega)
  have h4 := gcd_pos (n := n) (d := d) (by omega)
  rw [if_neg (by omega)] at h1 h2
  unfold nu de
  rw [if_neg (by omega), if_neg (by omega), if_neg (by omega), if_neg (by omega)]
  have h5 : n * frDen n d * Int.gcd n d = frNum n d * d * Int.gcd n d := by
    rw [Int.mul_assoc, h1, Int.mul_right_comm, h2]
  exact Int.eq_of_mul_eq_mul_right (by omega) h5
end Go.Proofs.Ytfpmbjobieeidaa.Rk
