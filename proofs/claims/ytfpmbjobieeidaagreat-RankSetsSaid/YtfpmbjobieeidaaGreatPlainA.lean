/-
  Plain laws on fractions and their comparison: no program in sight.
  Plain laws on lists of numbers that increase: no program in sight.
  Plain laws on the order of sets, and on sets within sets: no program in sight.
  Plain laws on sets of at most 256 numbers, as one number of 256 bits, in four words.
  What the search for hitting sets computes: no program in sight.
  The table of hits, and what Hit computes: no program in sight.
  The scores: no program in sight.
  Tallies: no program in sight.
  Rankings: no program in sight.
-/
namespace Go.Proofs.YtfpmbjobieeidaaGreat.Rk

/-- The product of two words, its high and its low word. -/
def hi (x y : Nat) : Nat := x * y / 18446744073709551616
def lo (x y : Nat) : Nat := x * y % 18446744073709551616

theorem hilo_lt {x y u v : Nat} : x * y < u * v ↔ hi x y < hi u v ∨ hi x y = hi u v ∧ lo x y < lo u v := by
  unfold hi lo; omega
theorem hilo_eq {x y u v : Nat} : x * y = u * v ↔ hi x y = hi u v ∧ lo x y = lo u v := by
  unfold hi lo; omega

theorem hilo_cases {x y u v : Nat} {r s t : Int} (h : r = if u * v < x * y then s else if x * y = u * v then 0 else t) :
    (hi u v < hi x y ∧ r = s) ∨ (hi x y = hi u v ∧ lo u v < lo x y ∧ r = s) ∨ (hi x y = hi u v ∧ lo x y = lo u v ∧ r = 0) ∨
      (hi x y = hi u v ∧ lo x y < lo u v ∧ r = t) ∨ (hi x y < hi u v ∧ r = t) := by
  by_cases h1 : u * v < x * y
  · rw [if_pos h1] at h
    rcases hilo_lt.1 h1 with k | ⟨k, l⟩
    · exact .inl ⟨k, h⟩
    · exact .inr (.inl ⟨k.symm, l, h⟩)
  · rw [if_neg h1] at h
    by_cases h2 : x * y = u * v
    · rw [if_pos h2] at h
      exact .inr (.inr (.inl ⟨(hilo_eq.1 h2).1, (hilo_eq.1 h2).2, h⟩))
    · rw [if_neg h2] at h
      rcases hilo_lt.1 (show x * y < u * v by omega) with k | ⟨k, l⟩
      · exact .inr (.inr (.inr (.inr ⟨k, h⟩)))
      · exact .inr (.inr (.inr (.inl ⟨k, l, h⟩)))

/-- A fraction as Compare takes it: 0 by 1 if the denominator is not positive. -/
def nu (n d : Int) : Int := if d ≤ 0 then 0 else n
def de (_n d : Int) : Int := if d ≤ 0 then 1 else d
theorem de_pos (n d : Int) : 1 ≤ de n d := by unfold de; split <;> omega

/-- What Compare answers. -/
def cmp (an ad bn bd : Int) : Int := Int.sign (nu an ad * de bn bd - nu bn bd * de an ad)

theorem sign_cases (x : Int) : x < 0 ∧ Int.sign x = -1 ∨ x = 0 ∧ Int.sign x = 0 ∨ 0 < x ∧ Int.sign x = 1 := by
  rcases Int.lt_trichotomy x 0 with h | h | h
  · exact .inl ⟨h, Int.sign_eq_neg_one_of_neg h⟩
  · subst h; exact .inr (.inl ⟨rfl, rfl⟩)
  · exact .inr (.inr ⟨h, Int.sign_eq_one_of_pos h⟩)

theorem sign_of_lt {x : Int} (h : x < 0) : Int.sign x = -1 := Int.sign_eq_neg_one_of_neg h
theorem sign_of_gt {x : Int} (h : 0 < x) : Int.sign x = 1 := Int.sign_eq_one_of_pos h

/-- The sign of a difference of products, by amounts, where both numerators have one sign. -/
theorem cross_pos {a b c d : Int} (ha : 0 < a) (hc : 0 < c) (hb : 0 < b) (hd : 0 < d) :
    Int.sign (a * b - c * d) = if c.natAbs * d.toNat < a.natAbs * b.toNat then 1 else if a.natAbs * b.toNat = c.natAbs * d.toNat then 0 else -1 := by
  have e1 : ((a.natAbs * b.toNat : Nat) : Int) = a * b := by rw [Int.natCast_mul, Int.toNat_of_nonneg (by omega), Int.natAbs_of_nonneg (by omega)]
  have e2 : ((c.natAbs * d.toNat : Nat) : Int) = c * d := by rw [Int.natCast_mul, Int.toNat_of_nonneg (by omega), Int.natAbs_of_nonneg (by omega)]
  generalize a.natAbs * b.toNat = x at *
  generalize c.natAbs * d.toNat = y at *
  rw [← e1, ← e2]
  by_cases h1 : y < x
  · rw [if_pos h1, sign_of_gt (by omega)]
  · by_cases h2 : x = y
    · rw [if_neg h1, if_pos h2, h2]; simp
    · rw [if_neg h1, if_neg h2, sign_of_lt (by omega)]
theorem cross_neg {a b c d : Int} (ha : a < 0) (hc : c < 0) (hb : 0 < b) (hd : 0 < d) :
    Int.sign (a * b - c * d) = if c.natAbs * d.toNat < a.natAbs * b.toNat then -1 else if a.natAbs * b.toNat = c.natAbs * d.toNat then 0 else 1 := by
  have e1 : ((a.natAbs * b.toNat : Nat) : Int) = -(a * b) := by rw [Int.natCast_mul, Int.toNat_of_nonneg (by omega), Int.ofNat_natAbs_of_nonpos (by omega), Int.neg_mul]
  have e2 : ((c.natAbs * d.toNat : Nat) : Int) = -(c * d) := by rw [Int.natCast_mul, Int.toNat_of_nonneg (by omega), Int.ofNat_natAbs_of_nonpos (by omega), Int.neg_mul]
  generalize a.natAbs * b.toNat = x at *
  generalize c.natAbs * d.toNat = y at *
  have e1' : a * b = -(x : Int) := by omega
  have e2' : c * d = -(y : Int) := by omega
  rw [e1', e2']
  by_cases h1 : y < x
  · rw [if_pos h1, sign_of_lt (by omega)]
  · by_cases h2 : x = y
    · rw [if_neg h1, if_pos h2, h2]; simp
    · rw [if_neg h1, if_neg h2, sign_of_gt (by omega)]
theorem cross_nonneg {a b c d : Int} (ha : 0 ≤ a) (hc : 0 ≤ c) (hb : 0 < b) (hd : 0 < d) :
    Int.sign (a * b - c * d) = if c.natAbs * d.toNat < a.natAbs * b.toNat then 1 else if a.natAbs * b.toNat = c.natAbs * d.toNat then 0 else -1 := by
  have e1 : ((a.natAbs * b.toNat : Nat) : Int) = a * b := by rw [Int.natCast_mul, Int.toNat_of_nonneg (by omega), Int.natAbs_of_nonneg (by omega)]
  have e2 : ((c.natAbs * d.toNat : Nat) : Int) = c * d := by rw [Int.natCast_mul, Int.toNat_of_nonneg (by omega), Int.natAbs_of_nonneg (by omega)]
  generalize a.natAbs * b.toNat = x at *
  generalize c.natAbs * d.toNat = y at *
  rw [← e1, ← e2]
  by_cases h1 : y < x
  · rw [if_pos h1, sign_of_gt (by omega)]
  · by_cases h2 : x = y
    · rw [if_neg h1, if_pos h2, h2]; simp
    · rw [if_neg h1, if_neg h2, sign_of_lt (by omega)]
/-- Numerators of different signs, or the first one 0. -/
theorem cross_mixed {a b c d : Int} (hb : 0 < b) (hd : 0 < d) (h : Int.sign a ≠ Int.sign c ∨ Int.sign a = 0) :
    Int.sign (a * b - c * d) = Int.sign (Int.sign a - Int.sign c) := by
  rcases sign_cases a with ⟨ha, ea⟩ | ⟨ha, ea⟩ | ⟨ha, ea⟩ <;> rcases sign_cases c with ⟨hc, ec⟩ | ⟨hc, ec⟩ | ⟨hc, ec⟩ <;> rw [ea, ec] at h <;> rw [ea, ec]
  case inl.inl => omega
  case inr.inr.inr.inr => omega
  all_goals first
    | (subst ha; subst hc; simp)
    | (subst ha; have := Int.mul_pos hc hd; rw [Int.zero_mul, sign_of_lt (by omega)]; rfl)
    | (subst ha; have := Int.mul_neg_of_neg_of_pos hc hd; rw [Int.zero_mul, sign_of_gt (by omega)]; rfl)
    | (subst hc; have := Int.mul_pos ha hb; rw [Int.zero_mul, sign_of_gt (by omega)]; rfl)
    | (subst hc; have := Int.mul_neg_of_neg_of_pos ha hb; rw [Int.zero_mul, sign_of_lt (by omega)]; rfl)
    | (have := Int.mul_pos ha hb; have := Int.mul_neg_of_neg_of_pos hc hd; rw [sign_of_gt (by omega)]; rfl)
    | (have := Int.mul_neg_of_neg_of_pos ha hb; have := Int.mul_pos hc hd; rw [sign_of_lt (by omega)]; rfl)

/-- Compare is an order: the laws that are asked of it. -/
theorem cmp_bounds (an ad bn bd : Int) : -1 ≤ cmp an ad bn bd ∧ cmp an ad bn bd ≤ 1 := by
  unfold cmp
  rcases sign_cases (nu an ad * de bn bd - nu bn bd * de an ad) with ⟨_, e⟩ | ⟨_, e⟩ | ⟨_, e⟩ <;> rw [e] <;> omega
theorem cmp_swap (an ad bn bd : Int) : cmp an ad bn bd = -cmp bn bd an ad := by
  unfold cmp
  rw [← Int.sign_neg]; congr 1; omega
theorem cmp_self (an ad : Int) : cmp an ad an ad = 0 := by unfold cmp; simp
theorem cmp_le_iff (an ad bn bd : Int) : cmp an ad bn bd ≤ 0 ↔ nu an ad * de bn bd ≤ nu bn bd * de an ad := by
  unfold cmp
  rcases sign_cases (nu an ad * de bn bd - nu bn bd * de an ad) with ⟨h, e⟩ | ⟨h, e⟩ | ⟨h, e⟩ <;> rw [e] <;> constructor <;> intro _ <;> omega
theorem cmp_lt_iff (an ad bn bd : Int) : cmp an ad bn bd < 0 ↔ nu an ad * de bn bd < nu bn bd * de an ad := by
  unfold cmp
  rcases sign_cases (nu an ad * de bn bd - nu bn bd * de an ad) with ⟨h, e⟩ | ⟨h, e⟩ | ⟨h, e⟩ <;> rw [e] <;> constructor <;> intro _ <;> omega
theorem cmp_eq_iff (an ad bn bd : Int) : cmp an ad bn bd = 0 ↔ nu an ad * de bn bd = nu bn bd * de an ad := by
  unfold cmp
  rcases sign_cases (nu an ad * de bn bd - nu bn bd * de an ad) with ⟨h, e⟩ | ⟨h, e⟩ | ⟨h, e⟩ <;> rw [e] <;> constructor <;> intro _ <;> omega

theorem cross_trans {a b c d e f : Int} (hb : 0 < b) (hd : 0 < d) (hf : 0 < f) (h1 : a * d ≤ c * b) (h2 : c * f ≤ e * d) : a * f ≤ e * b := by
  have e1 : a * d * f ≤ c * b * f := Int.mul_le_mul_of_nonneg_right h1 (by omega)
  have e2 : c * f * b ≤ e * d * b := Int.mul_le_mul_of_nonneg_right h2 (by omega)
  have e3 : a * f * d ≤ e * b * d := by
    have i1 : a * f * d = a * d * f := by rw [Int.mul_right_comm]
    have i2 : c * b * f = c * f * b := by rw [Int.mul_right_comm]
    have i3 : e * d * b = e * b * d := by rw [Int.mul_right_comm]
    omega
  exact Int.le_of_mul_le_mul_right e3 hd
theorem cross_trans_lt {a b c d e f : Int} (hb : 0 < b) (hd : 0 < d) (hf : 0 < f) (h1 : a * d ≤ c * b) (h2 : c * f ≤ e * d) (h : a * d < c * b ∨ c * f < e * d) : a * f < e * b := by
  rcases Int.lt_or_le (a * f) (e * b) with h' | h'
  · exact h'
  · exfalso
    rcases h with h | h
    · have := cross_trans (a := c) (b := d) (c := e) (d := f) (e := a) (f := b) hd hf hb h2 (by omega)
      omega
    · have := cross_trans (a := e) (b := f) (c := a) (d := b) (e := c) (f := d) hf hb hd (by omega) h1
      omega

theorem cmp_trans (an ad bn bd cn cd : Int) (h1 : cmp an ad bn bd ≤ 0) (h2 : cmp bn bd cn cd ≤ 0) :
    cmp an ad cn cd ≤ 0 ∧ (cmp an ad bn bd < 0 ∨ cmp bn bd cn cd < 0 → cmp an ad cn cd < 0) := by
  have pa := de_pos an ad
  have pb := de_pos bn bd
  have pc := de_pos cn cd
  rw [cmp_le_iff] at *
  simp only [cmp_lt_iff]
  exact ⟨cross_trans (by omega) (by omega) (by omega) h1 h2, fun h => cross_trans_lt (by omega) (by omega) (by omega) h1 h2 h⟩

/-- A fraction in lowest terms, and its error. -/
def frNum (n d : Int) : Int := (if d < 0 then -n else n).tdiv (Int.gcd n d)
def frDen (n d : Int) : Int := (if d < 0 then -d else d).tdiv (Int.gcd n d)
def frOk (n d : Int) : Prop := d ≠ 0 ∧ n ≠ -9223372036854775808 ∧ d ≠ -9223372036854775808
instance (n d : Int) : Decidable (frOk n d) := by unfold frOk; infer_instance
def frErr (n d : Int) : Int := if d = 0 then 1 else if n = -9223372036854775808 ∨ d = -9223372036854775808 then 3 else 0
def frN (n d : Int) : Int := if frOk n d then frNum n d else 0
def frD (n d : Int) : Int := if frOk n d then frDen n d else 0

theorem gcd_pos {n d : Int} (h : d ≠ 0) : 0 < (Int.gcd n d : Int) := by
  have : 0 < Int.gcd n d := Int.gcd_pos_of_ne_zero_right n h
  omega
theorem frNum_mul {n d : Int} : frNum n d * Int.gcd n d = if d < 0 then -n else n := by
  unfold frNum
  have h : (Int.gcd n d : Int) ∣ (if d < 0 then -n else n) := by
    split
    · exact Int.dvd_neg.2 (Int.gcd_dvd_left ..)
    · exact Int.gcd_dvd_left ..
  exact Int.tdiv_mul_cancel h
theorem frDen_mul {n d : Int} : frDen n d * Int.gcd n d = if d < 0 then -d else d := by
  unfold frDen
  have h : (Int.gcd n d : Int) ∣ (if d < 0 then -d else d) := by
    split
    · exact Int.dvd_neg.2 (Int.gcd_dvd_right ..)
    · exact Int.gcd_dvd_right ..
  exact Int.tdiv_mul_cancel h
theorem frDen_pos {n d : Int} (h : d ≠ 0) : 0 < frDen n d := by
  have h1 := frDen_mul (n := n) (d := d)
  have h2 := gcd_pos (n := n) h
  have h3 : 0 < frDen n d * Int.gcd n d := by rw [h1]; split <;> omega
  rcases Int.lt_or_le 0 (frDen n d) with h4 | h4
  · exact h4
  · have := Int.mul_nonneg (a := -(frDen n d)) (b := Int.gcd n d) (by omega) (by omega)
    rw [Int.neg_mul] at this
    omega
/-- The fraction in lowest terms compares equal to what it comes from, if that has a positive denominator. -/
theorem cmp_frac {n d : Int} (h : 0 < d) : cmp n d (frNum n d) (frDen n d) = 0 := by
  rw [cmp_eq_iff]
  have h1 := frDen_mul (n := n) (d := d)
  have h2 := frNum_mul (n := n) (d := d)
  have h3 := frDen_pos (n := n) (d := d) (by omega)
  have h4 := gcd_pos (n := n) (d := d) (by omega)
  rw [if_neg (by omega)] at h1 h2
  unfold nu de
  rw [if_neg (by omega), if_neg (by omega), if_neg (by omega), if_neg (by omega)]
  have h5 : n * frDen n d * Int.gcd n d = frNum n d * d * Int.gcd n d := by
    rw [Int.mul_assoc, h1, Int.mul_right_comm, h2]
  exact Int.eq_of_mul_eq_mul_right (by omega) h5
end Go.Proofs.YtfpmbjobieeidaaGreat.Rk
namespace Go.Proofs.YtfpmbjobieeidaaGreat.Rk

/-- The first k numbers lie from 0 to below the bound, and increase. -/
def IncrTo (bound : Int) (xs : List Int) (k : Nat) : Prop := ∀ i, i < k → 0 ≤ xs.getD i 0 ∧ xs.getD i 0 < bound ∧ (0 < i → xs.getD (i - 1) 0 < xs.getD i 0)
def Incr (bound : Int) (xs : List Int) : Prop := IncrTo bound xs xs.length
instance (bound : Int) (xs : List Int) (k : Nat) : Decidable (IncrTo bound xs k) := by unfold IncrTo; infer_instance
instance (bound : Int) (xs : List Int) : Decidable (Incr bound xs) := by unfold Incr; infer_instance
def incr (bound : Int) (xs : List Int) : Bool := decide (Incr bound xs)

theorem IncrTo.zero (bound : Int) (xs : List Int) : IncrTo bound xs 0 := fun i hi => by omega
theorem IncrTo.succ {bound : Int} {xs : List Int} {k : Nat} (h : IncrTo bound xs k) (h1 : 0 ≤ xs.getD k 0) (h2 : xs.getD k 0 < bound) (h3 : 0 < k → xs.getD (k - 1) 0 < xs.getD k 0) : IncrTo bound xs (k + 1) := by
  intro i hi
  by_cases e : i = k
  · subst e; exact ⟨h1, h2, h3⟩
  · exact h i (by omega)
theorem incr_no {bound : Int} {xs : List Int} {k : Nat} (hk : k < xs.length) (h : ¬ (0 ≤ xs.getD k 0 ∧ xs.getD k 0 < bound ∧ (0 < k → xs.getD (k - 1) 0 < xs.getD k 0))) : incr bound xs = false := by
  unfold incr
  exact decide_eq_false fun hi => h (hi k hk)
theorem incr_yes {bound : Int} {xs : List Int} (h : IncrTo bound xs xs.length) : incr bound xs = true := decide_eq_true h

theorem Incr.mono_ {bound : Int} {xs : List Int} (h : Incr bound xs) : ∀ d i : Nat, i + d < xs.length → xs.getD i 0 + d ≤ xs.getD (i + d) 0 := by
  intro d
  induction d with
  | zero => intro i _; simp
  | succ d ih =>
    intro i hi
    have h1 := ih i (by omega)
    have h2 := (h (i + (d + 1)) hi).2.2 (by omega)
    have e : i + (d + 1) - 1 = i + d := by omega
    rw [e] at h2
    omega
theorem Incr.lt {bound : Int} {xs : List Int} (h : Incr bound xs) {i j : Nat} (hij : i < j) (hj : j < xs.length) : xs.getD i 0 < xs.getD j 0 := by
  have := h.mono_ (j - i) i (by omega)
  rw [show i + (j - i) = j from by omega] at this
  omega
/-- So many numbers as the bound says, at most. -/
theorem Incr.length_le {bound : Int} {xs : List Int} (h : Incr bound xs) : (xs.length : Int) ≤ max bound 0 := by
  by_cases h0 : xs.length = 0
  · omega
  · have h1 := h.mono_ (xs.length - 1) 0 (by omega)
    rw [show 0 + (xs.length - 1) = xs.length - 1 from by omega] at h1
    have h2 := h (xs.length - 1) (by omega)
    have h3 := h 0 (by omega)
    omega
theorem getD_mem {xs : List Int} {i : Nat} (h : i < xs.length) : xs.getD i 0 ∈ xs := by
  rw [List.getD_eq_getElem?_getD, List.getElem?_eq_getElem h]; exact List.getElem_mem h
theorem Incr.mem {bound : Int} {xs : List Int} (h : Incr bound xs) {x : Int} (hx : x ∈ xs) : 0 ≤ x ∧ x < bound := by
  obtain ⟨i, hi, rfl⟩ := List.mem_iff_getElem.1 hx
  have := h i hi
  rw [List.getD_eq_getElem?_getD, List.getElem?_eq_getElem hi] at this
  exact ⟨this.1, this.2.1⟩
theorem Incr.pairwise {bound : Int} {xs : List Int} (h : Incr bound xs) : xs.Pairwise (· < ·) := by
  rw [List.pairwise_iff_getElem]
  intro i j hi hj hij
  have := h.lt hij hj
  rwa [List.getD_eq_getElem?_getD, List.getElem?_eq_getElem hi, List.getD_eq_getElem?_getD, List.getElem?_eq_getElem hj] at this
theorem Incr.of_pairwise {bound : Int} {xs : List Int} (h : xs.Pairwise (· < ·)) (hb : ∀ x ∈ xs, 0 ≤ x ∧ x < bound) : Incr bound xs := by
  rw [List.pairwise_iff_getElem] at h
  intro i hi
  have hm := hb _ (getD_mem hi)
  refine ⟨hm.1, hm.2, fun h0 => ?_⟩
  have := h (i - 1) i (by omega) hi (by omega)
  rwa [List.getD_eq_getElem?_getD, List.getElem?_eq_getElem (show i - 1 < xs.length by omega), List.getD_eq_getElem?_getD, List.getElem?_eq_getElem hi]
end Go.Proofs.YtfpmbjobieeidaaGreat.Rk
namespace Go.Proofs.YtfpmbjobieeidaaGreat.Rk

def cmpInt (x y : Int) : Int := if x < y then -1 else if y < x then 1 else 0
/-- slices.Compare. -/
def lex : List Int → List Int → Int
  | [], [] => 0
  | [], _ :: _ => -1
  | _ :: _, [] => 1
  | x :: xs, y :: ys => if x < y then -1 else if y < x then 1 else lex xs ys
/-- The order of sets: the shorter ones first. -/
def ord (xs ys : List Int) : Int := if xs.length < ys.length then -1 else if ys.length < xs.length then 1 else lex xs ys

theorem drop_cons {xs : List Int} {k : Nat} (h : k < xs.length) : xs.drop k = xs.getD k 0 :: xs.drop (k + 1) := by
  rw [List.drop_eq_getElem_cons h, List.getD_eq_getElem?_getD, List.getElem?_eq_getElem h]; rfl

theorem lex_self : ∀ xs : List Int, lex xs xs = 0
  | [] => rfl
  | x :: xs => by simp [lex, lex_self xs]
theorem lex_swap : ∀ xs ys : List Int, lex ys xs = -lex xs ys
  | [], [] => rfl
  | [], _ :: _ => rfl
  | _ :: _, [] => rfl
  | x :: xs, y :: ys => by
    unfold lex
    by_cases h1 : x < y
    · rw [if_neg (by omega), if_pos h1, if_pos h1]; rfl
    · by_cases h2 : y < x
      · rw [if_pos h2, if_neg h1, if_pos h2]
      · rw [if_neg h2, if_neg h1, if_neg h1, if_neg h2]; exact lex_swap xs ys
theorem lex_eq : ∀ {xs ys : List Int}, lex xs ys = 0 → xs = ys
  | [], [], _ => rfl
  | [], _ :: _, h => by simp [lex] at h
  | _ :: _, [], h => by simp [lex] at h
  | x :: xs, y :: ys, h => by
    unfold lex at h
    by_cases h1 : x < y
    · rw [if_pos h1] at h; cases h
    · by_cases h2 : y < x
      · rw [if_neg h1, if_pos h2] at h; cases h
      · rw [if_neg h1, if_neg h2] at h
        rw [lex_eq h, show x = y by omega]
theorem lex_trans : ∀ {xs ys zs : List Int}, lex xs ys < 0 → lex ys zs < 0 → lex xs zs < 0
  | [], [], _, h, _ => by simp [lex] at h
  | [], _ :: _, [], _, h => by simp [lex] at h
  | [], _ :: _, _ :: _, _, _ => by simp [lex]
  | _ :: _, [], _, h, _ => by simp [lex] at h
  | _ :: _, _ :: _, [], _, h => by simp [lex] at h
  | x :: xs, y :: ys, z :: zs, h, k => by
    unfold lex at h k ⊢
    by_cases h1 : x < y
    · by_cases k1 : y < z
      · rw [if_pos (show x < z by omega)]; omega
      · by_cases k2 : z < y
        · rw [if_neg k1, if_pos k2] at k; omega
        · rw [if_pos (show x < z by omega)]; omega
    · by_cases h2 : y < x
      · rw [if_neg h1, if_pos h2] at h; omega
      · rw [if_neg h1, if_neg h2] at h
        by_cases k1 : y < z
        · rw [if_pos (show x < z by omega)]; omega
        · by_cases k2 : z < y
          · rw [if_neg k1, if_pos k2] at k; omega
          · rw [if_neg k1, if_neg k2] at k
            rw [if_neg (by omega), if_neg (by omega)]
            exact lex_trans h k
theorem ord_swap (xs ys : List Int) : ord ys xs = -ord xs ys := by
  unfold ord
  by_cases h1 : xs.length < ys.length
  · rw [if_neg (by omega), if_pos h1, if_pos h1]; rfl
  · by_cases h2 : ys.length < xs.length
    · rw [if_pos h2, if_neg h1, if_pos h2]
    · rw [if_neg h2, if_neg h1, if_neg h1, if_neg h2]; exact lex_swap xs ys
theorem ord_self (xs : List Int) : ord xs xs = 0 := by unfold ord; rw [if_neg (by omega), if_neg (by omega)]; exact lex_self xs
theorem ord_eq {xs ys : List Int} (h : ord xs ys = 0) : xs = ys := by
  unfold ord at h
  split at h
  · cases h
  · split at h
    · cases h
    · exact lex_eq h
theorem ord_trans {xs ys zs : List Int} (h : ord xs ys < 0) (k : ord ys zs < 0) : ord xs zs < 0 := by
  unfold ord at *
  by_cases h1 : xs.length < ys.length
  · by_cases k1 : ys.length < zs.length
    · rw [if_pos (by omega)]; omega
    · by_cases k2 : zs.length < ys.length
      · rw [if_neg k1, if_pos k2] at k; omega
      · rw [if_pos (by omega)]; omega
  · by_cases h2 : ys.length < xs.length
    · rw [if_neg h1, if_pos h2] at h; omega
    · rw [if_neg h1, if_neg h2] at h
      by_cases k1 : ys.length < zs.length
      · rw [if_pos (by omega)]; omega
      · by_cases k2 : zs.length < ys.length
        · rw [if_neg k1, if_pos k2] at k; omega
        · rw [if_neg k1, if_neg k2] at k
          rw [if_neg (by omega), if_neg (by omega)]
          exact lex_trans h k

/-- The two-finger test of the program. -/
def within : List Int → List Int → Bool
  | [], _ => true
  | x :: a, b => match b.dropWhile (· < x) with
    | [] => false
    | y :: b' => if y = x then within a (y :: b') else false

def wcheck (x : Int) (a : List Int) : List Int → Bool
  | [] => false
  | y :: b => if y = x then within a (y :: b) else false
theorem within_cons (x : Int) (a b : List Int) : within (x :: a) b = wcheck x a (b.dropWhile (· < x)) := by
  rw [within]
  cases b.dropWhile (· < x) <;> rfl

theorem pairwise_dropWhile {b : List Int} (h : b.Pairwise (· < ·)) (x : Int) : (b.dropWhile (· < x)).Pairwise (· < ·) := h.sublist (List.dropWhile_sublist _)
theorem mem_dropWhile {b : List Int} (h : b.Pairwise (· < ·)) {x z : Int} (hz : x ≤ z) : z ∈ b.dropWhile (· < x) ↔ z ∈ b := by
  induction b with
  | nil => simp
  | cons y b ih =>
    rw [List.dropWhile_cons]
    by_cases hy : y < x
    · simp only [hy, decide_true, if_true]
      rw [ih (List.pairwise_cons.1 h).2]
      simp only [List.mem_cons]
      constructor
      · exact Or.inr
      · rintro (rfl | h')
        · omega
        · exact h'
    · simp [hy]
/-- Of increasing lists the test says: each element of the one is in the other. -/
theorem within_iff : ∀ {a b : List Int}, a.Pairwise (· < ·) → b.Pairwise (· < ·) → (within a b = true ↔ ∀ x ∈ a, x ∈ b)
  | [], b, _, _ => by simp [within]
  | x :: a, b, ha, hb => by
    have hp := pairwise_dropWhile hb x
    have hm : ∀ z, x ≤ z → (z ∈ b.dropWhile (· < x) ↔ z ∈ b) := fun z hz => mem_dropWhile hb hz
    have hx := hm x (Int.le_refl _)
    have hh : ∀ y b', b.dropWhile (· < x) = y :: b' → x ≤ y := by
      intro y b' e
      have := List.head?_dropWhile_not (· < x) b
      rw [e] at this
      simpa using this
    unfold within
    obtain ⟨ha1, ha2⟩ := List.pairwise_cons.1 ha
    cases e : b.dropWhile (· < x) with
    | nil =>
      rw [e] at hx
      simp only [List.not_mem_nil, false_iff] at hx
      simp [hx]
    | cons y b' =>
      rw [e] at hp hm hx
      have hxy := hh y b' e
      dsimp only
      by_cases hyx : y = x
      · rw [if_pos hyx, within_iff ha2 hp]
        constructor
        · intro h z hz
          rcases List.mem_cons.1 hz with rfl | hz
          · exact hx.1 (by rw [hyx]; exact List.mem_cons_self)
          · exact (hm z (by have := ha1 z hz; omega)).1 (h z hz)
        · intro h z hz
          exact (hm z (by have := ha1 z hz; omega)).2 (h z (List.mem_cons_of_mem _ hz))
      · rw [if_neg hyx]
        constructor
        · intro h; cases h
        · intro h
          exfalso
          have h1 := hx.2 (h x List.mem_cons_self)
          rcases List.mem_cons.1 h1 with h2 | h2
          · exact hyx h2.symm
          · have := (List.pairwise_cons.1 hp).1 x h2
            omega
end Go.Proofs.YtfpmbjobieeidaaGreat.Rk
namespace Go.Proofs.YtfpmbjobieeidaaGreat.Rk
theorem ord_ntrans {xs ys zs : List Int} (h : 0 ≤ ord xs ys) (k : 0 ≤ ord ys zs) : 0 ≤ ord xs zs := by
  rcases Int.lt_or_le (ord xs zs) 0 with hn | hn
  · exfalso
    have e1 := ord_swap xs ys
    have e2 := ord_swap ys zs
    rcases Int.lt_or_le (ord zs ys) 0 with h1 | h1
    · have h2 := ord_trans hn h1
      omega
    · have : ord ys zs = 0 := by omega
      have := ord_eq this
      subst this
      omega
  · exact hn
/-- The sets in order. -/
def sortSets (l : List (List Int)) : List (List Int) := l.mergeSort fun a b => decide (ord a b ≤ 0)
theorem sortSets_perm (l : List (List Int)) : (sortSets l).Perm l := List.mergeSort_perm _ _
theorem sortSets_pairwise (l : List (List Int)) : (sortSets l).Pairwise fun a b => ord a b ≤ 0 := by
  have h := List.pairwise_mergeSort (le := fun a b => decide (ord a b ≤ 0)) (fun a b c h1 h2 => by
    simp only [decide_eq_true_eq] at *
    have e1 := ord_swap a b
    have e2 := ord_swap b c
    have e3 := ord_swap a c
    have := ord_ntrans (xs := c) (ys := b) (zs := a) (by omega) (by omega)
    omega) (fun a b => by
    have e1 := ord_swap a b
    simp only [Bool.or_eq_true, decide_eq_true_eq]
    omega) l
  exact h.imp fun h => by simpa using h
theorem sortSets_unique {l m : List (List Int)} (hp : m.Perm l) (hs : m.Pairwise fun a b => ord a b ≤ 0) : m = sortSets l :=
  List.Perm.eq_of_pairwise (fun a b _ _ h1 h2 => ord_eq (by have := ord_swap a b; omega)) hs (sortSets_pairwise l) (hp.trans (sortSets_perm l).symm)
end Go.Proofs.YtfpmbjobieeidaaGreat.Rk
namespace Go.Proofs.YtfpmbjobieeidaaGreat.Rk
/-- One step of smallest. -/
def smStep (out : List (List Int)) (s : List Int) : List (List Int) := if out.any (fun x => within x s) then out else out ++ [s]
/-- The smallest ones of some sets. -/
def smallest (l : List (List Int)) : List (List Int) := (sortSets l).foldl smStep []
theorem foldl_take_succ {β : Type} (f : β → List Int → β) (b : β) (l : List (List Int)) (k : Nat) (h : k < l.length) : (l.take (k + 1)).foldl f b = f ((l.take k).foldl f b) (l.getD k []) := by
  rw [List.take_succ_eq_append_getElem h, List.foldl_append, List.getD_eq_getElem?_getD, List.getElem?_eq_getElem h]; rfl
theorem smStep_yes {out : List (List Int)} {s : List Int} {j : Nat} (hj : j < out.length) (h : within (out.getD j []) s = true) : smStep out s = out := by
  unfold smStep
  rw [if_pos]
  rw [List.any_eq_true]
  exact ⟨out.getD j [], by rw [List.getD_eq_getElem?_getD, List.getElem?_eq_getElem hj]; exact List.getElem_mem hj, h⟩
theorem smStep_no {out : List (List Int)} {s : List Int} (h : ∀ j, j < out.length → within (out.getD j []) s = false) : smStep out s = out ++ [s] := by
  unfold smStep
  rw [if_neg]
  rw [List.any_eq_true]
  rintro ⟨x, hx, hw⟩
  obtain ⟨j, hj, rfl⟩ := List.mem_iff_getElem.1 hx
  have := h j hj
  rw [List.getD_eq_getElem?_getD, List.getElem?_eq_getElem hj] at this
  change within out[j] s = false at this
  rw [hw] at this
  cases this
theorem smFold_sub (l : List (List Int)) : ∀ out, (∀ x ∈ l.foldl smStep out, x ∈ out ∨ x ∈ l) ∧ (l.foldl smStep out).length ≤ out.length + l.length := by
  induction l with
  | nil => intro out; exact ⟨fun x hx => .inl hx, by simp⟩
  | cons s l ih =>
    intro out
    obtain ⟨h1, h2⟩ := ih (smStep out s)
    rw [List.foldl_cons]
    have hs : (∀ x ∈ smStep out s, x ∈ out ∨ x = s) ∧ (smStep out s).length ≤ out.length + 1 := by
      unfold smStep
      split
      · exact ⟨fun x hx => .inl hx, by omega⟩
      · exact ⟨fun x hx => by simpa using hx, by simp⟩
    refine ⟨fun x hx => ?_, by have := hs.2; simp only [List.length_cons]; omega⟩
    rcases h1 x hx with h | h
    · rcases hs.1 x h with h | h
      · exact .inl h
      · exact .inr (by rw [h]; exact List.mem_cons_self)
    · exact .inr (List.mem_cons_of_mem _ h)
theorem smFold_take_le (l : List (List Int)) (k : Nat) : ((l.take k).foldl smStep []).length ≤ l.length ∧ ∀ x ∈ (l.take k).foldl smStep [], x ∈ l := by
  obtain ⟨h1, h2⟩ := smFold_sub (l.take k) []
  refine ⟨by have := List.length_take_le k l; have := List.length_take_le' k l; simp at h2; omega, fun x hx => ?_⟩
  rcases h1 x hx with h | h
  · cases h
  · exact List.mem_of_mem_take h
end Go.Proofs.YtfpmbjobieeidaaGreat.Rk
namespace Go.Proofs.YtfpmbjobieeidaaGreat.Rk

/-- The word j of a number. -/
def wd (m j : Nat) : Nat := m / 2 ^ (64 * j) % 2 ^ 64
theorem wd_lt (m j : Nat) : wd m j < 18446744073709551616 := Nat.mod_lt _ (by decide)
theorem wd_testBit (m j b : Nat) : (wd m j).testBit b = (decide (b < 64) && m.testBit (64 * j + b)) := by
  unfold wd
  rw [Nat.testBit_mod_two_pow, Nat.testBit_div_two_pow, Nat.add_comm b]
theorem wd_bit (m k : Nat) : (wd m (k / 64)).testBit (k % 64) = m.testBit k := by
  rw [wd_testBit, decide_eq_true (Nat.mod_lt k (by decide)), Bool.true_and, Nat.div_add_mod]
theorem wd_or (m m' j : Nat) : wd (m ||| m') j = wd m j ||| wd m' j := by
  apply Nat.eq_of_testBit_eq
  intro b
  rw [Nat.testBit_or, wd_testBit, wd_testBit, wd_testBit, Nat.testBit_or]
  cases decide (b < 64) <;> simp
theorem wd_zero (j : Nat) : wd 0 j = 0 := by unfold wd; rw [Nat.zero_div, Nat.zero_mod]
/-- One bit more. -/
theorem wd_add_same (m i : Nat) : wd (m ||| 2 ^ i) (i / 64) = wd m (i / 64) ||| 2 ^ (i % 64) := by
  rw [wd_or]
  congr 1
  apply Nat.eq_of_testBit_eq
  intro b
  rw [wd_testBit, Nat.testBit_two_pow, Nat.testBit_two_pow]
  have := Nat.div_add_mod i 64
  have := Nat.mod_lt i (show 0 < 64 by decide)
  by_cases hb : b < 64
  · rw [decide_eq_true hb, Bool.true_and]
    congr 1
    apply propext
    omega
  · rw [decide_eq_false hb, Bool.false_and]
    symm
    rw [decide_eq_false_iff_not]
    omega
theorem wd_add_other (m i j : Nat) (h : j ≠ i / 64) : wd (m ||| 2 ^ i) j = wd m j := by
  rw [wd_or]
  have : wd (2 ^ i) j = 0 := by
    apply Nat.eq_of_testBit_eq
    intro b
    rw [wd_testBit, Nat.testBit_two_pow, Nat.zero_testBit]
    by_cases hb : b < 64
    · rw [decide_eq_true hb, Bool.true_and, decide_eq_false_iff_not]
      omega
    · rw [decide_eq_false hb, Bool.false_and]
  rw [this, Nat.or_zero]

/-- How the walk asks for one bit. -/
theorem bit_ask (x b : Nat) : (((x : Int) / 2 ^ b).tmod 2 == 0) = !x.testBit b := by
  have e : ((x : Int) / 2 ^ b) = ((x / 2 ^ b : Nat) : Int) := by simp
  rw [e, show (2 : Int) = ((2 : Nat) : Int) from rfl, ← Int.ofNat_tmod, Nat.testBit_eq_decide_div_mod_eq]
  have : x / 2 ^ b % 2 < 2 := Nat.mod_lt _ (by decide)
  generalize x / 2 ^ b % 2 = y at *
  have hy : y = 0 ∨ y = 1 := by omega
  rcases hy with rfl | rfl <;> rfl

/-- The first of n numbers that is not in the set; -1: there is none. -/
def fo (m n : Nat) : Int := match (List.range n).find? (fun k => !m.testBit k) with
  | some k => k
  | none => -1
theorem fo_none {m n : Nat} (h : ∀ k, k < n → m.testBit k = true) : fo m n = -1 := by
  unfold fo
  rw [List.find?_eq_none.2 (fun k hk => by rw [h k (List.mem_range.1 hk)]; simp)]
theorem fo_some {m n k : Nat} (hk : k < n) (h0 : m.testBit k = false) (h : ∀ j, j < k → m.testBit j = true) : fo m n = k := by
  unfold fo
  have e : (List.range n).find? (fun k => !m.testBit k) = some k := by
    rw [List.find?_range_eq_some]
    exact ⟨by simp [h0], List.mem_range.2 hk, fun j hj => by simp [h j hj]⟩
  rw [e]
theorem fo_cases (m n : Nat) : (fo m n = -1 ∧ ∀ k, k < n → m.testBit k = true) ∨ ∃ k, k < n ∧ fo m n = (k : Int) ∧ m.testBit k = false ∧ ∀ j, j < k → m.testBit j = true := by
  cases e : (List.range n).find? (fun k => !m.testBit k) with
  | none =>
    left
    have h := List.find?_eq_none.1 e
    have h' : ∀ k, k < n → m.testBit k = true := fun k hk => by simpa using h k (List.mem_range.2 hk)
    exact ⟨fo_none h', h'⟩
  | some k =>
    right
    rw [List.find?_range_eq_some] at e
    obtain ⟨h1, h2, h3⟩ := e
    have h0 : m.testBit k = false := by simpa using h1
    have h' : ∀ j, j < k → m.testBit j = true := fun j hj => by simpa using h3 j hj
    exact ⟨k, List.mem_range.1 h2, fo_some (List.mem_range.1 h2) h0 h', h0, h'⟩
/-- What the elements of a list but the i-th one hit, of the first k ones. -/
def rest (H : Nat → Nat) (l : List Int) (i : Nat) : Nat → Nat
  | 0 => 0
  | k + 1 => if k = i then rest H l i k else rest H l i k ||| H (l.getD k 0).toNat
/-- Does a hitting set of n sets need each of its elements? -/
def needed (H : Nat → Nat) (n : Nat) (l : List Int) : Bool := decide (∀ i, i < l.length → 0 ≤ fo (rest H l i l.length) n)

end Go.Proofs.YtfpmbjobieeidaaGreat.Rk
namespace Go.Proofs.YtfpmbjobieeidaaGreat.Rk

def sortInts (l : List Int) : List Int := l.mergeSort fun x y => decide (x ≤ y)
/-- The key of a set of at most three numbers. -/
def pad (s : List Int) : Int × Int × Int := (s.getD 0 (-1), s.getD 1 (-1), s.getD 2 (-1))
/-- What is done with a hitting set. -/
def leaf (H : Nat → Nat) (n : Nat) (l : List Int) (found : List (List Int)) : Bool × List (List Int) :=
  if (∃ t ∈ found, pad t = pad (sortInts l)) ∨ needed H n (sortInts l) = false then (true, found)
  else (decide (found.length + 1 ≤ 256), found ++ [sortInts l])
/-- One element after the other, till one says no. -/
def steps (f : Int → List (List Int) → Bool × List (List Int)) : List Int → List (List Int) → Bool × List (List Int)
  | [], found => (true, found)
  | x :: xs, found => if (f x found).1 = true then steps f xs (f x found).2 else (false, (f x found).2)
/-- The search. -/
def grow (H : Nat → Nat) (sets : List (List Int)) : Nat → List Int → Nat → List (List Int) → Bool × List (List Int)
  | 0, l, m, found => if fo m sets.length < 0 then leaf H sets.length l found else (true, found)
  | d + 1, l, m, found => if fo m sets.length < 0 then leaf H sets.length l found
    else steps (fun x found => grow H sets d (l ++ [x]) (m ||| H x.toNat) found) (sets.getD (fo m sets.length).toNat []) found

theorem steps_snoc (f : Int → List (List Int) → Bool × List (List Int)) : ∀ (xs ys : List Int) (found found' : List (List Int)), steps f xs found = (true, found') → steps f (xs ++ ys) found = steps f ys found'
  | [], ys, found, found', h => by cases h; rfl
  | x :: xs, ys, found, found', h => by
    rw [steps] at h
    rw [List.cons_append, steps]
    by_cases hx : (f x found).1 = true
    · rw [if_pos hx] at h ⊢
      exact steps_snoc f xs ys _ _ h
    · rw [if_neg hx] at h
      cases h
theorem steps_take {f : Int → List (List Int) → Bool × List (List Int)} {xs : List Int} {k : Nat} {found found' : List (List Int)} (h : steps f (xs.take k) found = (true, found')) :
    steps f xs found = steps f (xs.drop k) found' := by
  have := steps_snoc f (xs.take k) (xs.drop k) found found' h
  rwa [List.take_append_drop] at this
theorem steps_yes {f : Int → List (List Int) → Bool × List (List Int)} {xs : List Int} {k : Nat} {found found' : List (List Int)} (hk : k < xs.length) (h : steps f (xs.take k) found = (true, found')) (hf : (f (xs.getD k 0) found').1 = true) :
    steps f (xs.take (k + 1)) found = (true, (f (xs.getD k 0) found').2) := by
  have e : xs.take (k + 1) = xs.take k ++ [xs.getD k 0] := by
    rw [List.take_succ_eq_append_getElem hk, List.getD_eq_getElem?_getD, List.getElem?_eq_getElem hk]; rfl
  rw [e, steps_snoc f _ _ _ _ h, steps, if_pos hf, steps]
theorem steps_no {f : Int → List (List Int) → Bool × List (List Int)} {xs : List Int} {k : Nat} {found found' : List (List Int)} (hk : k < xs.length) (h : steps f (xs.take k) found = (true, found')) (hf : (f (xs.getD k 0) found').1 = false) :
    steps f xs found = (false, (f (xs.getD k 0) found').2) := by
  rw [steps_take h, drop_cons hk, steps, if_neg (by rw [hf]; exact Bool.false_ne_true)]

theorem leaf_le {H : Nat → Nat} {n : Nat} {l : List Int} {found : List (List Int)} (h : found.length ≤ 256) : (leaf H n l found).2.length ≤ 257 ∧ ((leaf H n l found).1 = true → (leaf H n l found).2.length ≤ 256) := by
  unfold leaf
  split
  · exact ⟨by simp; omega, fun _ => h⟩
  · exact ⟨by simp; omega, fun h => by simp at h ⊢; omega⟩
theorem steps_le {f : Int → List (List Int) → Bool × List (List Int)} (hf : ∀ x found, found.length ≤ 256 → (f x found).2.length ≤ 257 ∧ ((f x found).1 = true → (f x found).2.length ≤ 256)) :
    ∀ (xs : List Int) (found : List (List Int)), found.length ≤ 256 → (steps f xs found).2.length ≤ 257 ∧ ((steps f xs found).1 = true → (steps f xs found).2.length ≤ 256)
  | [], found, h => ⟨by simp [steps]; omega, fun _ => h⟩
  | x :: xs, found, h => by
    rw [steps]
    by_cases hx : (f x found).1 = true
    · rw [if_pos hx]
      exact steps_le hf xs _ ((hf x found h).2 hx)
    · rw [if_neg hx]
      exact ⟨(hf x found h).1, fun h => by cases h⟩
theorem grow_le (H : Nat → Nat) (sets : List (List Int)) : ∀ (d : Nat) (l : List Int) (m : Nat) (found : List (List Int)), found.length ≤ 256 → (grow H sets d l m found).2.length ≤ 257 ∧ ((grow H sets d l m found).1 = true → (grow H sets d l m found).2.length ≤ 256)
  | 0, l, m, found, h => by
    rw [grow]
    split
    · exact leaf_le h
    · exact ⟨by simp; omega, fun _ => h⟩
  | d + 1, l, m, found, h => by
    rw [grow]
    split
    · exact leaf_le h
    · exact steps_le (fun x found h => grow_le H sets d _ _ found h) _ _ h
end Go.Proofs.YtfpmbjobieeidaaGreat.Rk
namespace Go.Proofs.YtfpmbjobieeidaaGreat.Rk

def hAdd (H : Nat → Nat) (n i : Nat) : Nat → Nat := fun n' => if n' = n then H n' ||| 2 ^ i else H n'
def hSet (H : Nat → Nat) (i : Nat) : List Int → Nat → Nat
  | [] => H
  | x :: s => hSet (hAdd H x.toNat i) i s
def hTo (ss : List (List Int)) : Nat → Nat → Nat
  | 0 => fun _ => 0
  | k + 1 => hSet (hTo ss k) k (ss.getD k [])
theorem hSet_snoc (i : Nat) : ∀ (s : List Int) (H : Nat → Nat) (x : Int), hSet H i (s ++ [x]) = hAdd (hSet H i s) x.toNat i
  | [], H, x => rfl
  | y :: s, H, x => by rw [List.cons_append, hSet, hSet_snoc i s, hSet]
theorem hSet_take (H : Nat → Nat) (i : Nat) (s : List Int) (k : Nat) (h : k < s.length) : hSet H i (s.take (k + 1)) = hAdd (hSet H i (s.take k)) (s.getD k 0).toNat i := by
  rw [List.take_succ_eq_append_getElem h, hSet_snoc, List.getD_eq_getElem?_getD, List.getElem?_eq_getElem h]; rfl

/-- The errors of Hit. -/
def hitErr (err : Int) (ok : Bool) (size : Int) : Int := if err ≠ 0 then err else if size < 0 then 1 else if 3 < size then 3 else if ok = true then 0 else 3
/-- The search at the smallest ones of some sets. -/
def hitRun (ss : List (List Int)) (size : Int) : Bool × List (List Int) := grow (hTo ss ss.length) ss size.toNat [] 0 []
end Go.Proofs.YtfpmbjobieeidaaGreat.Rk
namespace Go.Proofs.YtfpmbjobieeidaaGreat.Rk

/-- A quotient in lowest terms; 0 if the denominator is 0. -/
def ov (n d : Int) : Int × Int := if d = 0 then (0, 1) else (frNum n d, frDen n d)
def pl (a b : Int × Int) : Int × Int := ov (a.1 * b.2 + b.1 * a.2) (a.2 * b.2)
def mi (a b : Int × Int) : Int × Int := ov (a.1 * b.2 - b.1 * a.2) (a.2 * b.2)
def bt (a b : Int × Int) : Int × Int := ov (a.1 * b.2) (a.2 * b.1)

/-- Bounds of a fraction. -/
def Fb (N D : Nat) (a : Int × Int) : Prop := a.1.natAbs ≤ N ∧ 1 ≤ a.2 ∧ a.2 ≤ D
theorem Fb.mono {N D N' D' : Nat} {a : Int × Int} (h : Fb N D a) (h1 : N ≤ N') (h2 : D ≤ D') : Fb N' D' a := ⟨by have := h.1; omega, h.2.1, by have := h.2.2; omega⟩

theorem frNum_abs (n d : Int) : (frNum n d).natAbs ≤ n.natAbs := by
  unfold frNum
  have h := Int.natAbs_tdiv_le_natAbs (if d < 0 then -n else n) (Int.gcd n d)
  split at h <;> split <;> first | omega | simp_all
theorem frDen_abs (n d : Int) : (frDen n d).natAbs ≤ d.natAbs := by
  unfold frDen
  have h := Int.natAbs_tdiv_le_natAbs (if d < 0 then -d else d) (Int.gcd n d)
  split at h <;> split <;> first | omega | simp_all
theorem ov_fb {n d : Int} {N D : Nat} (h1 : n.natAbs ≤ N) (h2 : d.natAbs ≤ D) (h3 : 1 ≤ D) : Fb N D (ov n d) := by
  unfold ov
  split
  · exact ⟨by simp, by simp, by simp; omega⟩
  · rename_i h
    have a1 := frNum_abs n d
    have a2 := frDen_abs n d
    have a3 := frDen_pos (n := n) h
    exact ⟨by simp; omega, by simp; omega, by simp; omega⟩
theorem mul_abs {x y : Int} {X Y : Nat} (hx : x.natAbs ≤ X) (hy : y.natAbs ≤ Y) : (x * y).natAbs ≤ X * Y := by
  rw [Int.natAbs_mul]; exact Nat.mul_le_mul hx hy
theorem den_abs {N D : Nat} {a : Int × Int} (h : Fb N D a) : a.2.natAbs ≤ D := by have := h.2; omega
theorem pl_fb {a b : Int × Int} {N D N' D' : Nat} (ha : Fb N D a) (hb : Fb N' D' b) : Fb (N * D' + N' * D) (D * D') (pl a b) := by
  have h1 := mul_abs ha.1 (den_abs hb)
  have h2 := mul_abs hb.1 (den_abs ha)
  have h3 := mul_abs (den_abs ha) (den_abs hb)
  refine ov_fb ?_ h3 ?_
  · omega
  · exact Nat.mul_pos (by have := ha.2; omega) (by have := hb.2; omega)
theorem mi_fb {a b : Int × Int} {N D N' D' : Nat} (ha : Fb N D a) (hb : Fb N' D' b) : Fb (N * D' + N' * D) (D * D') (mi a b) := by
  have h1 := mul_abs ha.1 (den_abs hb)
  have h2 := mul_abs hb.1 (den_abs ha)
  have h3 := mul_abs (den_abs ha) (den_abs hb)
  refine ov_fb ?_ h3 ?_
  · omega
  · exact Nat.mul_pos (by have := ha.2; omega) (by have := hb.2; omega)
theorem bt_fb {a b : Int × Int} {N D N' D' : Nat} (ha : Fb N D a) (hb : Fb N' D' b) (h : 1 ≤ D * N') : Fb (N * D') (D * N') (bt a b) :=
  ov_fb (mul_abs ha.1 (den_abs hb)) (mul_abs (den_abs ha) hb.1) h

/-- Small enough to be added, subtracted and divided. -/
def Sm (a : Int × Int) : Prop := Fb 1000000000 1000000000 a
theorem Sm.cross {a b : Int × Int} (ha : Sm a) (hb : Sm b) : (a.1 * b.2).natAbs ≤ 1000000000000000000 ∧ (b.1 * a.2).natAbs ≤ 1000000000000000000 ∧ (a.2 * b.2).natAbs ≤ 1000000000000000000 ∧ (a.2 * b.1).natAbs ≤ 1000000000000000000 :=
  ⟨mul_abs ha.1 (den_abs hb), mul_abs hb.1 (den_abs ha), mul_abs (den_abs ha) (den_abs hb), mul_abs (den_abs ha) hb.1⟩
theorem ov_sm {n d : Int} (h1 : n.natAbs ≤ 1000000000) (h2 : d.natAbs ≤ 1000000000) : Sm (ov n d) := ov_fb h1 h2 (by omega)

/-- What passing tests take off, by Wong. -/
def wong (q : Int) : Int × Int := if q ≤ 2 then ov q 1 else if q ≤ 10 then pl (ov 2 1) (ov (q - 2) 10) else pl (ov 28 10) (ov (q - 10) 1000)
/-- The numerator's amount. -/
def pos (a : Int × Int) : Int × Int := (max a.1 (-a.1), a.2)
/-- The score of a tally by a formula. -/
def score (k : Nat) (h q m r : Int) : Int × Int :=
  match k with
  | 1 => bt (ov h (h + m)) (pl (ov h (h + m)) (ov q (q + r)))
  | 2 => ov (h * h) ((h + m) * (h + q))
  | 3 => ov h (h + m + q)
  | 4 => ov (2 * h) (h + m + h + q)
  | 5 => bt (pl (ov h (h + m)) (ov h (h + q))) (ov 2 1)
  | 6 => if q + m = 0 then ov (2 * h * h) 1 else ov (h * h) (q + m)
  | 7 => mi (ov h 1) (ov q (q + r + 1))
  | 8 => ov h (h + q)
  | 9 => pos (mi (ov h (h + m)) (ov q (q + r)))
  | 10 => mi (ov h 1) (wong q)
  | 11 => ov h (h + m + q + r)
  | 12 => ov (h + r) (h + m + q + r)
  | 13 => if h = 0 then ov 0 1 else pl (ov h 1) (ov h (2 * q + h))
  | _ => ov (h * h) (h * (h + m + q) + 10000 * m * q)

/-- The first error of a tally's numbers. -/
def tErr : List Int → Int
  | [] => 0
  | n :: l => if n < 0 then 1 else if 64 < n then 3 else tErr l
def scoreErr (k : Nat) (l : List Int) : Int := if 1 ≤ k ∧ k ≤ 14 then tErr l else 1
def scoreOf (k : Nat) (h q m r : Int) : Int × Int := if scoreErr k [h, q, m, r] = 0 then score k h q m r else (0, 0)
theorem tErr_drop {l : List Int} {j : Nat} (h : j < l.length) : tErr (l.drop j) = if l.getD j 0 < 0 then 1 else if 64 < l.getD j 0 then 3 else tErr (l.drop (j + 1)) := by
  rw [List.drop_eq_getElem_cons h, tErr, List.getD_eq_getElem?_getD, List.getElem?_eq_getElem h]
  rfl
theorem tErr_zero {h q m r : Int} (e : tErr [h, q, m, r] = 0) : (0 ≤ h ∧ h ≤ 64) ∧ (0 ≤ q ∧ q ≤ 64) ∧ (0 ≤ m ∧ m ≤ 64) ∧ (0 ≤ r ∧ r ≤ 64) := by
  unfold tErr at e
  split at e; · cases e
  split at e; · cases e
  unfold tErr at e
  split at e; · cases e
  split at e; · cases e
  unfold tErr at e
  split at e; · cases e
  split at e; · cases e
  unfold tErr at e
  split at e; · cases e
  split at e; · cases e
  omega
end Go.Proofs.YtfpmbjobieeidaaGreat.Rk
namespace Go.Proofs.YtfpmbjobieeidaaGreat.Rk

/-- In how many failing, in how many passing rows a component is; and how many rows fail. -/
def fh (rows : List (List Int × Bool)) (c : Nat) : Nat := rows.countP fun r => r.2 && decide ((c : Int) ∈ r.1)
def ph (rows : List (List Int × Bool)) (c : Nat) : Nat := rows.countP fun r => !r.2 && decide ((c : Int) ∈ r.1)
def fails (rows : List (List Int × Bool)) : Nat := rows.countP fun r => r.2
/-- The numbers of a tally. -/
def tal (rows : List (List Int × Bool)) (c j : Nat) : Int :=
  match j with
  | 0 => fh rows c
  | 1 => ph rows c
  | 2 => fails rows - fh rows c
  | _ => rows.length - fails rows - ph rows c
/-- While the rows are counted: behind some rows, and some hits of one more. -/
def cnt (rows : List (List Int × Bool)) (b : Bool) (hits : List Int) (c j : Nat) : Int :=
  match j with
  | 0 => fh rows c + if b = true ∧ (c : Int) ∈ hits then 1 else 0
  | 1 => ph rows c + if b = false ∧ (c : Int) ∈ hits then 1 else 0
  | _ => 0
/-- While the misses are reckoned. -/
def mid (rows : List (List Int × Bool)) (k : Nat) (c j : Nat) : Int := if c < k ∨ j < 2 then tal rows c j else 0
def upd (T : Nat → Nat → Int) (c j : Nat) (v : Int) : Nat → Nat → Int := fun c' j' => if c' = c ∧ j' = j then v else T c' j'

theorem cnt_nil (rows : List (List Int × Bool)) (b b' : Bool) : cnt rows b [] = cnt rows b' [] := by
  funext c j; unfold cnt; split <;> simp
theorem cnt_zero : cnt [] true [] = fun _ _ => 0 := by
  funext c j; unfold cnt fh ph; split <;> simp
theorem cnt_row (rows : List (List Int × Bool)) (r : List Int × Bool) : cnt rows r.2 r.1 = cnt (rows ++ [r]) true [] := by
  funext c j
  unfold cnt fh ph
  split
  · simp only [List.countP_append, List.countP_cons, List.countP_nil]
    cases r.2 <;> simp
    split <;> rfl
  · simp only [List.countP_append, List.countP_cons, List.countP_nil]
    cases r.2 <;> simp
    split <;> rfl
  · rfl
theorem cnt_hit (rows : List (List Int × Bool)) (b : Bool) (hits : List Int) (x : Nat) (hx : (x : Int) ∉ hits) :
    cnt rows b (hits ++ [(x : Int)]) = upd (cnt rows b hits) x (if b = true then 0 else 1) (cnt rows b hits x (if b = true then 0 else 1) + 1) := by
  funext c j
  unfold upd
  cases b
  · simp only [Bool.false_eq_true, if_false]
    split
    · rename_i h
      obtain ⟨rfl, rfl⟩ := h
      unfold cnt
      simp [hx]
    · rename_i h
      unfold cnt
      split
      · simp
      · have : c ≠ x := fun e => h ⟨e, rfl⟩
        have h2 : ((c : Int) = x) ↔ False := ⟨fun e => this (by omega), False.elim⟩
        simp [h2]
      · rfl
  · simp only [if_true]
    split
    · rename_i h
      obtain ⟨rfl, rfl⟩ := h
      unfold cnt
      simp [hx]
    · rename_i h
      unfold cnt
      split
      · have : c ≠ x := fun e => h ⟨e, rfl⟩
        have h2 : ((c : Int) = x) ↔ False := ⟨fun e => this (by omega), False.elim⟩
        simp [h2]
      · simp
      · rfl
theorem cnt_mid (rows : List (List Int × Bool)) : cnt rows true [] = mid rows 0 := by
  funext c j
  unfold cnt mid tal
  match j with
  | 0 => simp
  | 1 => simp
  | (j + 2) => simp; intro h; omega
theorem mid_step (rows : List (List Int × Bool)) (k c j : Nat) (hj : j < 4) :
    upd (upd (mid rows k) k 2 (fails rows - tal rows k 0)) k 3 (rows.length - fails rows - tal rows k 1) c j = mid rows (k + 1) c j := by
  unfold upd mid
  by_cases h : c = k
  · subst h
    rcases (show j = 0 ∨ j = 1 ∨ j = 2 ∨ j = 3 by omega) with rfl | rfl | rfl | rfl <;> simp [tal]
  · simp only [h, false_and, if_false]
    have e : c < k + 1 ↔ c < k := by omega
    simp only [e]
theorem mid_low (rows : List (List Int × Bool)) (k c j : Nat) (hj : j < 2) : mid rows k c j = tal rows c j := by unfold mid; rw [if_pos (.inr hj)]
theorem mid_done (rows : List (List Int × Bool)) (n c j : Nat) (h : c < n) : mid rows n c j = tal rows c j := by unfold mid; rw [if_pos (.inl h)]
theorem tal_bounds (rows : List (List Int × Bool)) (c j : Nat) : 0 ≤ tal rows c j ∧ tal rows c j ≤ rows.length := by
  have h1 : fh rows c ≤ fails rows := List.countP_mono_left fun r _ h => by simp at h; exact h.1
  have h2 : fails rows ≤ rows.length := List.countP_le_length
  have h3 : ph rows c + fails rows ≤ rows.length := by
    unfold ph fails
    induction rows with
    | nil => simp
    | cons r rows ih =>
      simp only [List.countP_cons, List.length_cons]
      have ih' := ih (List.countP_mono_left fun r _ h => by simp at h; exact h.1) List.countP_le_length
      cases r.2 <;> simp <;> (try split) <;> omega
  unfold tal
  split <;> omega
theorem cnt_bounds (rows : List (List Int × Bool)) (b : Bool) (hits : List Int) (c j : Nat) : 0 ≤ cnt rows b hits c j ∧ cnt rows b hits c j ≤ rows.length + 1 := by
  unfold cnt
  split
  · have : fh rows c ≤ rows.length := List.countP_le_length
    split <;> omega
  · have : ph rows c ≤ rows.length := List.countP_le_length
    split <;> omega
  · omega
end Go.Proofs.YtfpmbjobieeidaaGreat.Rk
namespace Go.Proofs.YtfpmbjobieeidaaGreat.Rk
abbrev Fr := Int × Int
def cmpF (a b : Fr) : Int := cmp a.1 a.2 b.1 b.2
theorem cmpF_self (a : Fr) : cmpF a a = 0 := cmp_self _ _
theorem cmpF_swap (a b : Fr) : cmpF a b = -cmpF b a := cmp_swap _ _ _ _
theorem cmpF_bounds (a b : Fr) : -1 ≤ cmpF a b ∧ cmpF a b ≤ 1 := cmp_bounds _ _ _ _
theorem cmpF_trans {a b c : Fr} (h1 : cmpF a b ≤ 0) (h2 : cmpF b c ≤ 0) : cmpF a c ≤ 0 := (cmp_trans _ _ _ _ _ _ h1 h2).1
theorem cmpF_lt1 {a b c : Fr} (h1 : cmpF a b < 0) (h2 : cmpF b c ≤ 0) : cmpF a c < 0 := (cmp_trans _ _ _ _ _ _ (Int.le_of_lt h1) h2).2 (.inl h1)
theorem cmpF_lt2 {a b c : Fr} (h1 : cmpF a b ≤ 0) (h2 : cmpF b c < 0) : cmpF a c < 0 := (cmp_trans _ _ _ _ _ _ h1 (Int.le_of_lt h2)).2 (.inr h2)
theorem cmpF_zero_trans {a b c : Fr} (h1 : cmpF a b = 0) (h2 : cmpF b c = 0) : cmpF a c = 0 := by
  have s1 := cmpF_swap a b
  have s2 := cmpF_swap b c
  have s3 := cmpF_swap a c
  have t1 := cmpF_trans (a := a) (b := b) (c := c) (by omega) (by omega)
  have t2 := cmpF_trans (a := c) (b := b) (c := a) (by omega) (by omega)
  omega

/-- In lowest terms. -/
def Low (a : Fr) : Prop := 0 < a.2 ∧ Int.gcd a.1 a.2 = 1
theorem low_eq {a b : Fr} (ha : Low a) (hb : Low b) (h : cmpF a b = 0) : a = b := by
  obtain ⟨a1, a2⟩ := a
  obtain ⟨b1, b2⟩ := b
  obtain ⟨pa, ga⟩ := ha
  obtain ⟨pb, gb⟩ := hb
  simp only at pa ga pb gb
  unfold cmpF at h
  rw [cmp_eq_iff] at h
  unfold nu de at h
  simp only [if_neg (show ¬ a2 ≤ 0 by omega), if_neg (show ¬ b2 ≤ 0 by omega)] at h
  have hn := congrArg Int.natAbs h
  rw [Int.natAbs_mul, Int.natAbs_mul] at hn
  have c1 : Nat.Coprime a2.natAbs a1.natAbs := by rw [Nat.coprime_comm]; exact ga
  have c2 : Nat.Coprime b2.natAbs b1.natAbs := by rw [Nat.coprime_comm]; exact gb
  have d1 : a2.natAbs ∣ b2.natAbs := c1.dvd_of_dvd_mul_left ⟨b1.natAbs, by rw [hn, Nat.mul_comm]⟩
  have d2 : b2.natAbs ∣ a2.natAbs := c2.dvd_of_dvd_mul_left ⟨a1.natAbs, by rw [← hn, Nat.mul_comm]⟩
  have e : a2.natAbs = b2.natAbs := Nat.dvd_antisymm d1 d2
  have e2 : a2 = b2 := by omega
  subst e2
  have e1 : a1 = b1 := Int.eq_of_mul_eq_mul_right (by omega) h
  rw [e1]
theorem ov_low (n d : Int) : Low (ov n d) := by
  unfold ov
  split
  · exact ⟨by decide, by decide⟩
  · rename_i h
    refine ⟨frDen_pos h, ?_⟩
    have h1 := frNum_mul (n := n) (d := d)
    have h2 := frDen_mul (n := n) (d := d)
    have h4 := gcd_pos (n := n) h
    have e : Int.gcd (frNum n d * Int.gcd n d) (frDen n d * Int.gcd n d) = Int.gcd n d := by
      rw [h1, h2]
      split
      · rw [Int.neg_gcd, Int.gcd_neg]
      · rfl
    rw [Int.gcd_mul_right] at e
    simp only [Int.natAbs_natCast] at e
    have h5 : Int.gcd (frNum n d) (frDen n d) * Int.gcd n d = 1 * Int.gcd n d := by rw [e, Nat.one_mul]
    exact Nat.eq_of_mul_eq_mul_right (by omega) h5
theorem pos_low {a : Fr} (h : Low a) : Low (pos a) := by
  refine ⟨h.1, ?_⟩
  show Int.gcd (max a.1 (-a.1)) a.2 = 1
  rw [← h.2]
  rcases Int.le_total 0 a.1 with h0 | h0
  · rw [show max a.1 (-a.1) = a.1 by omega]
  · rw [show max a.1 (-a.1) = -a.1 by omega, Int.neg_gcd]
theorem wong_low (q : Int) : Low (wong q) := by
  unfold wong
  split
  · exact ov_low _ _
  · split <;> exact ov_low _ _
theorem score_low (k : Nat) (h q m r : Int) : Low (score k h q m r) := by
  unfold score
  split
  all_goals first | exact ov_low _ _ | exact pos_low (ov_low _ _) | (split <;> exact ov_low _ _)

/-! ### Places -/
section
variable {α : Type}
theorem countP_prefix (l : List α) (f : α → Bool) (i : Nat) (hi : i ≤ l.length) (h : ∀ q (hq : q < l.length), f l[q] = decide (q < i)) : l.countP f = i := by
  conv => lhs; rw [← List.take_append_drop i l]
  rw [List.countP_append]
  have h1 : (l.take i).countP f = (l.take i).length := List.countP_eq_length.2 fun x hx => by
    obtain ⟨q, hq, rfl⟩ := List.getElem_of_mem hx
    rw [List.getElem_take, h]
    simp at hq ⊢
    omega
  have h2 : (l.drop i).countP f = 0 := List.countP_eq_zero.2 fun x hx => by
    obtain ⟨q, hq, rfl⟩ := List.getElem_of_mem hx
    rw [List.getElem_drop, h]
    simp
  rw [h1, h2, List.length_take]
  omega
end

/-- Ahead in the ranking, or the same. -/
def ahead (sc : Nat → Fr) (a b : Nat) : Bool := decide (cmpF (sc b) (sc a) < 0 ∨ cmpF (sc b) (sc a) = 0 ∧ a ≤ b)
def order (sc : Nat → Fr) (n : Nat) : List Nat := (List.range n).mergeSort (ahead sc)
/-- How many are greater, and how many are not less. -/
def gtN (sc : Nat → Fr) (n c : Nat) : Nat := (List.range n).countP fun k => decide (0 < cmpF (sc k) (sc c))
def geN (sc : Nat → Fr) (n c : Nat) : Nat := (List.range n).countP fun k => decide (0 ≤ cmpF (sc k) (sc c))
theorem ahead_trans (sc : Nat → Fr) (a b c : Nat) (h1 : ahead sc a b = true) (h2 : ahead sc b c = true) : ahead sc a c = true := by
  unfold ahead at *
  simp only [decide_eq_true_eq] at *
  rcases h1 with h1 | ⟨h1, i1⟩ <;> rcases h2 with h2 | ⟨h2, i2⟩
  · exact .inl (cmpF_lt1 h2 (by omega))
  · exact .inl (cmpF_lt2 (by omega) h1)
  · exact .inl (cmpF_lt1 h2 (by omega))
  · exact .inr ⟨cmpF_zero_trans h2 h1, by omega⟩
theorem ahead_total (sc : Nat → Fr) (a b : Nat) : (ahead sc a b || ahead sc b a) = true := by
  unfold ahead
  have h := cmpF_swap (sc a) (sc b)
  simp only [Bool.or_eq_true, decide_eq_true_eq]
  omega
theorem ahead_anti (sc : Nat → Fr) (a b : Nat) (h1 : ahead sc a b = true) (h2 : ahead sc b a = true) : a = b := by
  unfold ahead at *
  have h := cmpF_swap (sc a) (sc b)
  simp only [decide_eq_true_eq] at *
  omega
theorem order_perm (sc : Nat → Fr) (n : Nat) : (order sc n).Perm (List.range n) := List.mergeSort_perm _ _
theorem order_sorted (sc : Nat → Fr) (n : Nat) : (order sc n).Pairwise fun a b => ahead sc a b = true := List.pairwise_mergeSort (ahead_trans sc) (ahead_total sc) _
theorem order_unique {sc : Nat → Fr} {n : Nat} {l : List Nat} (hp : l.Perm (List.range n)) (hs : l.Pairwise fun a b => ahead sc a b = true) : l = order sc n :=
  List.Perm.eq_of_pairwise (fun a b _ _ h1 h2 => ahead_anti sc a b h1 h2) hs (order_sorted sc n) (hp.trans (order_perm sc n).symm)
theorem order_length (sc : Nat → Fr) (n : Nat) : (order sc n).length = n := by rw [(order_perm sc n).length_eq, List.length_range]
theorem order_congr {sc sc' : Nat → Fr} {n : Nat} (h : ∀ c, c < n → sc c = sc' c) : order sc n = order sc' n := by
  refine order_unique (order_perm sc n) ((order_sorted sc n).imp_of_mem fun {a b} ha hb hab => ?_)
  have ha' := List.mem_range.1 ((order_perm sc n).mem_iff.1 ha)
  have hb' := List.mem_range.1 ((order_perm sc n).mem_iff.1 hb)
  unfold ahead at *
  rw [← h a ha', ← h b hb']
  exact hab

/-- One standing. -/
abbrev Stn := Nat × Fr × Int × Int
def stnOf (sc : Nat → Fr) (n c : Nat) : Stn := (c, sc c, 1 + gtN sc n c, geN sc n c)
/-- The ranking. -/
def ranking (sc : Nat → Fr) (n : Nat) : List Stn := (order sc n).map (stnOf sc n)
theorem ranking_length (sc : Nat → Fr) (n : Nat) : (ranking sc n).length = n := by unfold ranking; rw [List.length_map, order_length]

section
variable {sc : Nat → Fr} {n : Nat}
theorem order_step {p q : Nat} (hpq : p < q) (hq : q < (order sc n).length) : cmpF (sc (order sc n)[q]) (sc ((order sc n)[p]'(by omega))) ≤ 0 := by
  have h := List.pairwise_iff_getElem.1 (order_sorted sc n) p q (by omega) hq hpq
  unfold ahead at h
  simp only [decide_eq_true_eq] at h
  omega
theorem order_le {p q : Nat} (hpq : p ≤ q) (hq : q < (order sc n).length) : cmpF (sc (order sc n)[q]) (sc ((order sc n)[p]'(by omega))) ≤ 0 := by
  rcases Nat.lt_or_eq_of_le hpq with h | h
  · exact order_step h hq
  · subst h; rw [cmpF_self]; omega
theorem gtN_order (c : Nat) : gtN sc n c = (order sc n).countP fun k => decide (0 < cmpF (sc k) (sc c)) := ((order_perm sc n).countP_eq _).symm
theorem geN_order (c : Nat) : geN sc n c = (order sc n).countP fun k => decide (0 ≤ cmpF (sc k) (sc c)) := ((order_perm sc n).countP_eq _).symm
/-- The group of equals at the places from i to k - 1. -/
theorem group {i k p : Nat} (hl : ∀ c, Low (sc c)) (hi : i ≤ p) (hp : p < k) (hk : k ≤ (order sc n).length)
    (heq : ∀ q (_ : i ≤ q) (_ : q < k), sc ((order sc n)[q]'(by omega)) = sc ((order sc n)[i]'(by omega)))
    (hlo : ∀ (_ : 0 < i), sc ((order sc n)[i - 1]'(by omega)) ≠ sc ((order sc n)[i]'(by omega)))
    (hhi : ∀ (h : k < (order sc n).length), sc ((order sc n)[k]) ≠ sc ((order sc n)[i]'(by omega))) :
    gtN sc n ((order sc n)[p]'(by omega)) = i ∧ geN sc n ((order sc n)[p]'(by omega)) = k := by
  have hpe := heq p hi hp
  rw [gtN_order, geN_order, hpe]
  constructor
  · refine countP_prefix _ _ i (by omega) fun q hq => ?_
    by_cases c : q < i
    · rw [decide_eq_true c]
      have h1 := order_le (sc := sc) (n := n) (show q ≤ i - 1 by omega) (by omega)
      have h2 := order_step (sc := sc) (n := n) (show i - 1 < i by omega) (by omega)
      have h3 : cmpF (sc ((order sc n)[i]'(by omega))) (sc ((order sc n)[i - 1]'(by omega))) ≠ 0 := fun e => hlo (by omega) (low_eq (hl _) (hl _) e).symm
      have h4 := cmpF_lt1 (a := sc ((order sc n)[i]'(by omega))) (by omega) h1
      have h5 := cmpF_swap (sc (order sc n)[q]) (sc ((order sc n)[i]'(by omega)))
      exact decide_eq_true (by omega)
    · rw [decide_eq_false c]
      have h1 := order_le (sc := sc) (n := n) (show i ≤ q by omega) hq
      exact decide_eq_false (by omega)
  · refine countP_prefix _ _ k hk fun q hq => ?_
    by_cases c : q < k
    · rw [decide_eq_true c]
      by_cases c2 : q < i
      · have h1 := order_le (sc := sc) (n := n) (show q ≤ i by omega) (by omega)
        have h5 := cmpF_swap (sc (order sc n)[q]) (sc ((order sc n)[i]'(by omega)))
        exact decide_eq_true (by omega)
      · rw [heq q (by omega) c, cmpF_self]; rfl
    · rw [decide_eq_false c]
      have h1 := order_le (sc := sc) (n := n) (show k ≤ q by omega) hq
      have h2 := order_step (sc := sc) (n := n) (show i < k by omega) (by omega)
      have h3 : cmpF (sc ((order sc n)[k]'(by omega))) (sc ((order sc n)[i]'(by omega))) ≠ 0 := fun e => hhi (by omega) (low_eq (hl _) (hl _) e)
      have h4 := cmpF_lt2 h1 (show cmpF (sc ((order sc n)[k]'(by omega))) (sc ((order sc n)[i]'(by omega))) < 0 by omega)
      exact decide_eq_false (by omega)
end
end Go.Proofs.YtfpmbjobieeidaaGreat.Rk
