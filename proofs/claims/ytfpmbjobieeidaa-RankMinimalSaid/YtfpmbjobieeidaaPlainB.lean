/-
  Plain laws on lists of numbers that increase: no program in sight.
-/
namespace Go.Proofs.Ytfpmbjobieeidaa.Rk

/-- The first k numbers lie from 0 to below the bound, and increase. -/
def IncrTo (bound : Int) (xs : List Int) (k : Nat) : Prop := ∀ i, i < k → 0 ≤ xs.getD i 0 ∧ xs.getD i 0 < bound ∧ (0 < i → xs.getD (i - 1) 0 < xs.getD i 0)
def Incr (bound : Int) (xs : List Int) : Prop := IncrTo bound xs xs.length
instance (bound : Int) (xs : List Int) (k : Nat) : Decidable (IncrTo bound xs k) := by unfold IncrTo; infer_instance
instance (bound : Int) (xs : List Int) : Decidable (Incr bound xs) := by unfold Incr; infer_instance
def incr (bound : Int) (xs : List Int) : Bool := decide (Incr bound xs)

theorem IncrTo.zero (bound : Int) (xs : List Int) : IncrTo bound xs 0 := fun i hi => by omega
theorem IncrTo.succ {bound : Int} {xs : List Int} {k : Nat} (h : IncrTo bound xs k) (h1 : 0 ≤ xs.getD k 0) (h2 : xs.getD k 0 < bound) (h3 : 0 < k → xs.getD (k - 1) 0 < xs.getD k 0) : IncrTo bound xs (k + 1) := by
  intro i hi
  by_cases e : i = k
  · subst e; exact ⟨h1, h2, h3⟩
  · exact h i (by omega)
theorem incr_no {bound : Int} {xs : List Int} {k : Nat} (hk : k < xs.length) (h : ¬ (0 ≤ xs.getD k 0 ∧ xs.getD k 0 < bound ∧ (0 < k → xs.getD (k - 1) 0 < xs.getD k 0))) : incr bound xs = false := by
  unfold incr
  exact decide_eq_false fun hi => h (hi k hk)
theorem incr_yes {bound : Int} {xs : List Int} (h : IncrTo bound xs xs.length) : incr bound xs = true := decide_eq_true h

theorem Incr.mono_ {bound : Int} {xs : List Int} (h : Incr bound xs) : ∀ d i : Nat, i + d < xs.length → xs.getD i 0 + d ≤ xs.getD (i + d) 0 := by
  intro d
  induction d with
  | zero => intro i _; simp
  | succ d ih =>
    intro i hi
    have h1 := ih i (by omega)
    have h2 := (h (i + (d + 1)) hi).2.2 (by omega)
    have e : i + (d + 1) - 1 = i + d := by omega
    rw [e] at h2
    omega
theorem Incr.lt {bound : Int} {xs : List Int} (h : Incr bound xs) {i j : Nat} (hij : i < j) (hj : j < xs.length) : xs.getD i 0 < xs.getD j 0 := by
  have := h.mono_ (j - i) i (by omega)
  rw [show i + (j - i) = j from by omega] at this
  omega
/-- So many numbers as the bound says, at most. -/
theorem Incr.length_le {bound : Int} {xs : List Int} (h : Incr bound xs) : (xs.length : Int) ≤ max bound 0 := by
  by_cases h0 : xs.length = 0
  · omega
  · have h1 := h.mono_ (xs.length - 1) 0 (by omega)
    rw [show 0 + (xs.length - 1) = xs.length - 1 from by omega] at h1
    have h2 := h (xs.length - 1) (by omega)
    have h3 := h 0 (by omega)
    omega
theorem getD_mem {xs : List Int} {i : Nat} (h : i < xs.length) : xs.getD i 0 ∈ xs := by
  rw [List.getD_eq_getElem?_getD, List.getElem?_eq_getElem h]; exact List.getElem_mem h
theorem Incr.mem {bound : Int} {xs : List Int} (h : Incr bound xs) {x : Int} (hx : x ∈ xs) : 0 ≤ x ∧ x < bound := by
  obtain ⟨i, hi, rfl⟩ := List.mem_iff_getElem.1 hx
  have := h i hi
  rw [List.getD_eq_getElem?_getD, List.getElem?_eq_getElem hi] at this
  exact ⟨this.1, this.2.1⟩
theorem Incr.pairwise {bound : Int} {xs : List Int} (h : Incr bound xs) : xs.Pairwise (· < ·) := by
  rw [List.pairwise_iff_getElem]
  intro i j hi hj hij
  have := h.lt hij hj
  rwa [List.getD_eq_getElem?_getD, List.getElem?_eq_getElem hi, List.getD_eq_getElem?_getD, List.getElem?_eq_getElem hj] at this
theorem Incr.of_pairwise {bound : Int} {xs : List Int} (h : xs.Pairwise (· < ·)) (hb : ∀ x ∈ xs, 0 ≤ x ∧ x < bound) : Incr bound xs := by
  rw [List.pairwise_iff_getElem] at h
  intro i hi
  have hm := hb _ (getD_mem hi)
  refine ⟨hm.1, hm.2, fun h0 => ?_⟩
  have := h (i - 1) i (by omega) hi (by omega)
  rwa [List.getD_eq_getElem?_getD, List.getElem?_eq_getElem (show i - 1 < xs.length by omega), List.getD_eq_getElem?_getD, List.getElem?_eq_getElem hi]
end Go.Proofs.Ytfpmbjobieeidaa.Rk
