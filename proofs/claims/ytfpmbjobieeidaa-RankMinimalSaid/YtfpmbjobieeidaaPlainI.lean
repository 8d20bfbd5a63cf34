/-
  Rankings: no program in sight.
-/
import Derived.Test.YtfpmbjobieeidaaPlainG
namespace Go.Proofs.Ytfpmbjobieeidaa.Rk
abbrev Fr := Int × Int
def cmpF (a b : Fr) : Int := cmp a.1 a.2 b.1 b.2
theorem cmpF_self (a : Fr) : cmpF a a = 0 := cmp_self _ _
theorem cmpF_swap (a b : Fr) : cmpF a b = -cmpF b a := cmp_swap _ _ _ _
theorem cmpF_bounds (a b : Fr) : -1 ≤ cmpF a b ∧ cmpF a b ≤ 1 := cmp_bounds _ _ _ _
theorem cmpF_trans {a b c : Fr} (h1 : cmpF a b ≤ 0) (h2 : cmpF b c ≤ 0) : cmpF a c ≤ 0 := (cmp_trans _ _ _ _ _ _ h1 h2).1
theorem cmpF_lt1 {a b c : Fr} (h1 : cmpF a b < 0) (h2 : cmpF b c ≤ 0) : cmpF a c < 0 := (cmp_trans _ _ _ _ _ _ (Int.le_of_lt h1) h2).2 (.inl h1)
theorem cmpF_lt2 {a b c : Fr} (h1 : cmpF a b ≤ 0) (h2 : cmpF b c < 0) : cmpF a c < 0 := (cmp_trans _ _ _ _ _ _ h1 (Int.le_of_lt h2)).2 (.inr h2)
theorem cmpF_zero_trans {a b c : Fr} (h1 : cmpF a b = 0) (h2 : cmpF b c = 0) : cmpF a c = 0 := by
  have s1 := cmpF_swap a b
  have s2 := cmpF_swap b c
  have s3 := cmpF_swap a c
  have t1 := cmpF_trans (a := a) (b := b) (c := c) (by omega) (by omega)
  have t2 := cmpF_trans (a := c) (b := b) (c := a) (by omega) (by omega)
  omega

/-- In lowest terms. -/
def Low (a : Fr) : Prop := 0 < a.2 ∧ Int.gcd a.1 a.2 = 1
theorem low_eq {a b : Fr} (ha : Low a) (hb : Low b) (h : cmpF a b = 0) : a = b := by
  obtain ⟨a1, a2⟩ := a
  obtain ⟨b1, b2⟩ := b
  obtain ⟨pa, ga⟩ := ha
  obtain ⟨pb, gb⟩ := hb
  simp only at pa ga pb gb
  unfold cmpF at h
  rw [cmp_eq_iff] at h
  unfold nu de at h
  simp only [if_neg (show ¬ a2 ≤ 0 by omega), if_neg (show ¬ b2 ≤ 0 by omega)] at h
  have hn := congrArg Int.natAbs h
  rw [Int.natAbs_mul, Int.natAbs_mul] at hn
  have c1 : Nat.Coprime a2.natAbs a1.natAbs := by rw [Nat.coprime_comm]; exact ga
  have c2 : Nat.Coprime b2.natAbs b1.natAbs := by rw [Nat.coprime_comm]; exact gb
  have d1 : a2.natAbs ∣ b2.natAbs := c1.dvd_of_dvd_mul_left ⟨b1.natAbs, by rw [hn, Nat.mul_comm]⟩
  have d2 : b2.natAbs ∣ a2.natAbs := c2.dvd_of_dvd_mul_left ⟨a1.natAbs, by rw [← hn, Nat.mul_comm]⟩
  have e : a2.natAbs = b2.natAbs := Nat.dvd_antisymm d1 d2
  have e2 : a2 = b2 := by omega
  subst e2
  have e1 : a1 = b1 := Int.eq_of_mul_eq_mul_right (by omega) h
  rw [e1]
theorem ov_low (n d : Int) : Low (ov n d) := by
  unfold ov
  split
  · exact ⟨by decide, by decide⟩
  · rename_i h
    refine ⟨frDen_pos h, ?_⟩
    have h1 := frNum_mul (n := n) (d := d)
    have h2 := frDen_mul (n := n) (d := d)
    have h4 := gcd_pos (n := n) h
    have e : Int.gcd (frNum n d * Int.gcd n d) (frDen n d * Int.gcd n d) = Int.gcd n d := by
      rw [h1, h2]
      split
      · rw [Int.neg_gcd, Int.gcd_neg]
      · rfl
    rw [Int.gcd_mul_right] at e
    simp only [Int.natAbs_natCast] at e
    have h5 : Int.gcd (frNum n d) (frDen n d) * Int.gcd n d = 1 * Int.gcd n d := by rw [e, Nat.one_mul]
    exact Nat.eq_of_mul_eq_mul_right (by omega) h5
theorem pos_low {a : Fr} (h : Low a) : Low (pos a) := by
  refine ⟨h.1, ?_⟩
  show Int.gcd (max a.1 (-a.1)) a.2 = 1
  rw [← h.2]
  rcases Int.le_total 0 a.1 with h0 | h0
  · rw [show max a.1 (-a.1) = a.1 by omega]
  · rw [show max a.1 (-a.1) = -a.1 by omega, Int.neg_gcd]
theorem wong_low (q : Int) : Low (wong q) := by
  unfold wong
  split
  · exact ov_low _ _
  · split <;> exact ov_low _ _
theorem score_low (k : Nat) (h q m r : Int) : Low (score k h q m r) := by
  unfold score
  split
  all_goals first | exact ov_low _ _ | exact pos_low (ov_low _ _) | (split <;> exact ov_low _ _)

/-! ### Places -/
section
variable {α : Type}
theorem countP_prefix (l : List α) (f : α → Bool) (i : Nat) (hi : i ≤ l.length) (h : ∀ q (hq : q < l.length), f l[q] = decide (q < i)) : l.countP f = i := by
  conv => lhs; rw [← List.take_append_drop i l]
  rw [List.countP_append]
  have h1 : (l.take i).countP f = (l.take i).length := List.countP_eq_length.2 fun x hx => by
    obtain ⟨q, hq, rfl⟩ := List.getElem_of_mem hx
    rw [List.getElem_take, h]
    simp at hq ⊢
    omega
  have h2 : (l.drop i).countP f = 0 := List.countP_eq_zero.2 fun x hx => by
    obtain ⟨q, hq, rfl⟩ := List.getElem_of_mem hx
    rw [List.getElem_drop, h]
    simp
  rw [h1, h2, List.length_take]
  omega
end

/-- Ahead in the ranking, or the same. -/
def ahead (sc : Nat → Fr) (a b : Nat) : Bool := decide (cmpF (sc b) (sc a) < 0 ∨ cmpF (sc b) (sc a) = 0 ∧ a ≤ b)
def order (sc : Nat → Fr) (n : Nat) : List Nat := (List.range n).mergeSort (ahead sc)
/-- How many are greater, and how many are not less. -/
def gtN (sc : Nat → Fr) (n c : Nat) : Nat := (List.range n).countP fun k => decide (0 < cmpF (sc k) (sc c))
def geN (sc : Nat → Fr) (n c : Nat) : Nat := (List.range n).countP fun k => decide (0 ≤ cmpF (sc k) (sc c))
theorem ahead_trans (sc : Nat → Fr) (a b c : Nat) (h1 : ahead sc a b = true) (h2 : ahead sc b c = true) : ahead sc a c = true := by
  unfold ahead at *
  simp only [decide_eq_true_eq] at *
  rcases h1 with h1 | ⟨h1, i1⟩ <;> rcases h2 with h2 | ⟨h2, i2⟩
  · exact .inl (cmpF_lt1 h2 (by omega))
  · exact .inl (cmpF_lt2 (by omega) h1)
  · exact .inl (cmpF_lt1 h2 (by omega))
  · exact .inr ⟨cmpF_zero_trans h2 h1, by omega⟩
theorem ahead_total (sc : Nat → Fr) (a b : Nat) : (ahead sc a b || ahead sc b a) = true := by
  unfold ahead
  have h := cmpF_swap (sc a) (sc b)
  simp only [Bool.or_eq_true, decide_eq_true_eq]
  omega
theorem ahead_anti (sc : Nat → Fr) (a b : Nat) (h1 : ahead sc a b = true) (h2 : ahead sc b a = true) : a = b := by
  unfold ahead at *
  have h := cmpF_swap (sc a) (sc b)
  simp only [decide_eq_true_eq] at *
  omega
theorem order_perm (sc : Nat → Fr) (n : Nat) : (order sc n).Perm (List.range n) := List.mergeSort_perm _ _
theorem order_sorted (sc : Nat → Fr) (n : Nat) : (order sc n).Pairwise fun a b => ahead sc a b = true := List.pairwise_mergeSort (ahead_trans sc) (ahead_total sc) _
theorem order_unique {sc : Nat → Fr} {n : Nat} {l : List Nat} (hp : l.Perm (List.range n)) (hs : l.Pairwise fun a b => ahead sc a b = true) : l = order sc n :=
  List.Perm.eq_of_pairwise (fun a b _ _ h1 h2 => ahead_anti sc a b h1 h2) hs (order_sorted sc n) (hp.trans (order_perm sc n).symm)
theorem order_length (sc : Nat → Fr) (n : Nat) : (order sc n).length = n := by rw [(order_perm sc n).length_eq, List.length_range]
theorem order_congr {sc sc' : Nat → Fr} {n : Nat} (h : ∀ c, c < n → sc c = sc' c) : order sc n = order sc' n := by
  refine order_unique (order_perm sc n) ((order_sorted sc n).imp_of_mem fun {a b} ha hb hab => ?_)
  have ha' := List.mem_range.1 ((order_perm sc n).mem_iff.1 ha)
  have hb' := List.mem_range.1 ((order_perm sc n).mem_iff.1 hb)
  unfold ahead at *
  rw [← h a ha', ← h b hb']
  exact hab

/-- One standing. -/
abbrev Stn := Nat × Fr × Int × Int
def stnOf (sc : Nat → Fr) (n c : Nat) : Stn := (c, sc c, 1 + gtN sc n c, geN sc n c)
/-- The ranking. -/
def ranking (sc : Nat → Fr) (n : Nat) : List Stn := (order sc n).map (stnOf sc n)
theorem ranking_length (sc : Nat → Fr) (n : Nat) : (ranking sc n).length = n := by unfold ranking; rw [List.length_map, order_length]

section
variable {sc : Nat → Fr} {n : Nat}
theorem order_step {p q : Nat} (hpq : p < q) (hq : q < (order sc n).length) : cmpF (sc (order sc n)[q]) (sc ((order sc n)[p]'(by omega))) ≤ 0 := by
  have h := List.pairwise_iff_getElem.1 (order_sorted sc n) p q (by omega) hq hpq
  unfold ahead at h
  simp only [decide_eq_true_eq] at h
  omega
theorem order_le {p q : Nat} (hpq : p ≤ q) (hq : q < (order sc n).length) : cmpF (sc (order sc n)[q]) (sc ((order sc n)[p]'(by omega))) ≤ 0 := by
  rcases Nat.lt_or_eq_of_le hpq with h | h
  · exact order_step h hq
  · subst h; rw [cmpF_self]; omega
theorem gtN_order (c : Nat) : gtN sc n c = (order sc n).countP fun k => decide (0 < cmpF (sc k) (sc c)) := ((order_perm sc n).countP_eq _).symm
theorem geN_order (c : Nat) : geN sc n c = (order sc n).countP fun k => decide (0 ≤ cmpF (sc k) (sc c)) := ((order_perm sc n).countP_eq _).symm
/-- The group of equals at the places from i to k - 1. -/
theorem group {i k p : Nat} (hl : ∀ c, Low (sc c)) (hi : i ≤ p) (hp : p < k) (hk : k ≤ (order sc n).length)
    (heq : ∀ q (_ : i ≤ q) (_ : q < k), sc ((order sc n)[q]'(by omega)) = sc ((order sc n)[i]'(by omega)))
    (hlo : ∀ (_ : 0 < i), sc ((order sc n)[i - 1]'(by omega)) ≠ sc ((order sc n)[i]'(by omega)))
    (hhi : ∀ (h : k < (order sc n).length), sc ((order sc n)[k]) ≠ sc ((order sc n)[i]'(by omega))) :
    gtN sc n ((order sc n)[p]'(by omega)) = i ∧ geN sc n ((order sc n)[p]'(by omega)) = k := by
  have hpe := heq p hi hp
  rw [gtN_order, geN_order, hpe]
  constructor
  · refine countP_prefix _ _ i (by omega) fun q hq => ?_
    by_cases c : q < i
    · rw [decide_eq_true c]
      have h1 := order_le (sc := sc) (n := n) (show q ≤ i - 1 by omega) (by omega)
      have h2 := order_step (sc := sc) (n := n) (show i - 1 < i by omega) (by omega)
      have h3 : cmpF (sc ((order sc n)[i]'(by omega))) (sc ((order sc n)[i - 1]'(by omega))) ≠ 0 := fun e => hlo (by omega) (low_eq (hl _) (hl _) e).symm
      have h4 := cmpF_lt1 (a := sc ((order sc n)[i]'(by omega))) (by omega) h1
      have h5 := cmpF_swap (sc (order sc n)[q]) (sc ((order sc n)[i]'(by omega)))
      exact decide_eq_true (by omega)
    · rw [decide_eq_false c]
      have h1 := order_le (sc := sc) (n := n) (show i ≤ q by omega) hq
      exact decide_eq_false (by omega)
  · refine countP_prefix _ _ k hk fun q hq => ?_
    by_cases c : q < k
    · rw [decide_eq_true c]
      by_cases c2 : q < i
      · have h1 := order_le (sc := sc) (n := n) (show q ≤ i by omega) (by omega)
        have h5 := cmpF_swap (sc (order sc n)[q]) (sc ((order sc n)[i]'(by omega)))
        exact decide_eq_true (by omega)
      · rw [heq q (by omega) c, cmpF_self]; rfl
    · rw [decide_eq_false c]
      have h1 := order_le (sc := sc) (n := n) (show k ≤ q by omega) hq
      have h2 := order_step (sc := sc) (n := n) (show i < k by omega) (by omega)
      have h3 : cmpF (sc ((order sc n)[k]'(by omega))) (sc ((order sc n)[i]'(by omega))) ≠ 0 := fun e => hhi (by omega) (low_eq (hl _) (hl _) e)
      have h4 := cmpF_lt2 h1 (show cmpF (sc ((order sc n)[k]'(by omega))) (sc ((order sc n)[i]'(by omega))) < 0 by omega)
      exact decide_eq_false (by omega)
end
end Go.Proofs.Ytfpmbjobieeidaa.Rk
