/-
  Plain laws on sets of at most 256 numbers, as one number of 256 bits, in four words.
-/
namespace Go.Proofs.Ytfpmbjobieeidaa.Rk

/-- The word j of a number. -/
def wd (m j : Nat) : Nat := m / 2 ^ (64 * j) % 2 ^ 64
theorem wd_lt (m j : Nat) : wd m j < 18446744073709551616 := Nat.mod_lt _ (by decide)
theorem wd_testBit (m j b : Nat) : (wd m j).testBit b = (decide (b < 64) && m.testBit (64 * j + b)) := by
  unfold wd
  rw [Nat.testBit_mod_two_pow, Nat.testBit_div_two_pow, Nat.add_comm b]
theorem wd_bit (m k : Nat) : (wd m (k / 64)).testBit (k % 64) = m.testBit k := by
  rw [wd_testBit, decide_eq_true (Nat.mod_lt k (by decide)), Bool.true_and, Nat.div_add_mod]
theorem wd_or (m m' j : Nat) : wd (m ||| m') j = wd m j ||| wd m' j := by
  apply Nat.eq_of_testBit_eq
  intro b
  rw [Nat.testBit_or, wd_testBit, wd_testBit, wd_testBit, Nat.testBit_or]
  cases decide (b < 64) <;> simp
theorem wd_zero (j : Nat) : wd 0 j = 0 := by unfold wd; rw [Nat.zero_div, Nat.zero_mod]
/-- One bit more. -/
theorem wd_add_same (m i : Nat) : wd (m ||| 2 ^ i) (i / 64) = wd m (i / 64) ||| 2 ^ (i % 64) := by
  rw [wd_or]
  congr 1
  apply Nat.eq_of_testBit_eq
  intro b
  rw [wd_testBit, Nat.testBit_two_pow, Nat.testBit_two_pow]
  have := Nat.div_add_mod i 64
  have := Nat.mod_lt i (show 0 < 64 by decide)
  by_cases hb : b < 64
  · rw [decide_eq_true hb, Bool.true_and]
    congr 1
    apply propext
    omega
  · rw [decide_eq_false hb, Bool.false_and]
    symm
    rw [decide_eq_false_iff_not]
    omega
theorem wd_add_other (m i j : Nat) (h : j ≠ i / 64) : wd (m ||| 2 ^ i) j = wd m j := by
  rw [wd_or]
  have : wd (2 ^ i) j = 0 := by
    apply Nat.eq_of_testBit_eq
    intro b
    rw [wd_testBit, Nat.testBit_two_pow, Nat.zero_testBit]
    by_cases hb : b < 64
    · rw [decide_eq_true hb, Bool.true_and, decide_eq_false_iff_not]
      omega
    · rw [decide_eq_false hb, Bool.false_and]
  rw [this, Nat.or_zero]

/-- How the walk asks for one bit. -/
theorem bit_ask (x b : Nat) : (((x : Int) / 2 ^ b).tmod 2 == 0) = !x.testBit b := by
  have e : ((x : Int) / 2 ^ b) = ((x / 2 ^ b : Nat) : Int) := by simp
  rw [e, show (2 : Int) = ((2 : Nat) : Int) from rfl, ← Int.ofNat_tmod, Nat.testBit_eq_decide_div_mod_eq]
  have : x / 2 ^ b % 2 < 2 := Nat.mod_lt _ (by decide)
  generalize x / 2 ^ b % 2 = y at *
  have hy : y = 0 ∨ y = 1 := by omega
  rcases hy with rfl | rfl <;> rfl

/-- The first of n numbers that is not in the set; -1: there is none. -/
def fo (m n : Nat) : Int := match (List.range n).find? (fun k => !m.testBit k) with
  | some k => k
  | none => -1
theorem fo_none {m n : Nat} (h : ∀ k, k < n → m.testBit k = true) : fo m n = -1 := by
  unfold fo
  rw [List.find?_eq_none.2 (fun k hk => by rw [h k (List.mem_range.1 hk)]; simp)]
theorem fo_some {m n k : Nat} (hk : k < n) (h0 : m.testBit k = false) (h : ∀ j, j < k → m.testBit j = true) : fo m n = k := by
  unfold fo
  have e : (List.range n).find? (fun k => !m.testBit k) = some k := by
    rw [List.find?_range_eq_some]
    exact ⟨by simp [h0], List.mem_range.2 hk, fun j hj => by simp [h j hj]⟩
  rw [e]
theorem fo_cases (m n : Nat) : (fo m n = -1 ∧ ∀ k, k < n → m.testBit k = true) ∨ ∃ k, k < n ∧ fo m n = (k : Int) ∧ m.testBit k = false ∧ ∀ j, j < k → m.testBit j = true := by
  cases e : (List.range n).find? (fun k => !m.testBit k) with
  | none =>
    left
    have h := List.find?_eq_none.1 e
    have h' : ∀ k, k < n → m.testBit k = true := fun k hk => by simpa using h k (List.mem_range.2 hk)
    exact ⟨fo_none h', h'⟩
  | some k =>
    right
    rw [List.find?_range_eq_some] at e
    obtain ⟨h1, h2, h3⟩ := e
    have h0 : m.testBit k = false := by simpa using h1
    have h' : ∀ j, j < k → m.testBit j = true := fun j hj => by simpa using h3 j hj
    exact ⟨k, List.mem_range.1 h2, fo_some (List.mem_range.1 h2) h0 h', h0, h'⟩
/-- What the elements of a list but the i-th one hit, of the first k ones. -/
def rest (H : Nat → Nat) (l : List Int) (i : Nat) : Nat → Nat
  | 0 => 0
  | k + 1 => if k = i then rest H l i k else rest H l i k ||| H (l.getD k 0).toNat
/-- Does a hitting set of n sets need each of its elements? -/
def needed (H : Nat → Nat) (n : Nat) (l : List Int) : Bool := decide (∀ i, i < l.length → 0 ≤ fo (rest H l i l.length) n)

end Go.Proofs.Ytfpmbjobieeidaa.Rk
