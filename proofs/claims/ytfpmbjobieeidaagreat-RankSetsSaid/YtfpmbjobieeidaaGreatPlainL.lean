/-
  Plain laws on what scores are worth: FoDice ranks as FoJaccard, FoTarantula as FoBarinel; the top. No program in sight.
  Plain laws: rankings by scores that compare alike are alike; who is at the top by every formula. No program in sight.
  Plain laws on the effort: how many components are examined until a faulty one is found. No program in sight.
  Plain laws on rankings of turned rows, on places, on groups of components that are covered alike. No program in sight.
  Plain laws on masks: which rows cover a component, as a number. No program in sight.
  The effort, without the program: its walk's steps and its law.
  The reference's ranking by insertion, without the program.
-/
import Derived.Test.YtfpmbjobieeidaaGreatPlainA
import Derived.Test.YtfpmbjobieeidaaGreatPlainJ
namespace Go.Proofs.YtfpmbjobieeidaaGreat.Rk

/-- The fraction f is worth n by d. -/
def Is (f : Fr) (n d : Int) : Prop := 0 < f.2 ∧ 0 < d ∧ f.1 * d = n * f.2

theorem is_ov {n d : Int} (h : 0 < d) : Is (ov n d) n d := by
  unfold ov
  rw [if_neg (by omega)]
  refine ⟨frDen_pos (by omega), h, ?_⟩
  have h1 := frDen_mul (n := n) (d := d)
  have h2 := frNum_mul (n := n) (d := d)
  have h4 := gcd_pos (n := n) (d := d) (by omega)
  rw [if_neg (by omega)] at h1 h2
  show frNum n d * d = n * frDen n d
  have h5 : frNum n d * d * Int.gcd n d = n * frDen n d * Int.gcd n d := by
    rw [Int.mul_assoc n, h1, Int.mul_right_comm, h2]
  exact Int.eq_of_mul_eq_mul_right (by omega) h5
theorem is_ov0 (n : Int) : Is (ov n 0) 0 1 := by
  unfold ov
  rw [if_pos rfl]
  exact ⟨by decide, by decide, by decide⟩
theorem is_ov0' {n d e : Int} (hd : d = 0) (he : 0 < e) : Is (ov n d) 0 e := by
  subst hd
  unfold ov
  rw [if_pos rfl]
  exact ⟨by decide, he, by simp⟩
theorem Is.same {f : Fr} {n d n' d' : Int} (h : Is f n d) (hd : 0 < d') (he : n * d' = n' * d) : Is f n' d' := by
  obtain ⟨h1, h2, h3⟩ := h
  refine ⟨h1, hd, Int.eq_of_mul_eq_mul_right (a := d) (by omega) ?_⟩
  calc f.1 * d' * d = f.1 * d * d' := by rw [Int.mul_right_comm]
    _ = n * f.2 * d' := by rw [h3]
    _ = n * d' * f.2 := by rw [Int.mul_right_comm]
    _ = n' * d * f.2 := by rw [he]
    _ = n' * f.2 * d := by rw [Int.mul_right_comm]
theorem is_ov_same {n d x y : Int} (hy : 0 < y) (hd : 0 < d) (he : x * d = n * y) : Is (ov x y) n d := (is_ov hy).same hd he
theorem is_pl {a b : Fr} {n d n' d' : Int} (ha : Is a n d) (hb : Is b n' d') : Is (pl a b) (n * d' + n' * d) (d * d') := by
  obtain ⟨a1, a2, a3⟩ := ha
  obtain ⟨b1, b2, b3⟩ := hb
  refine (is_ov (Int.mul_pos a1 b1)).same (Int.mul_pos a2 b2) ?_
  grind
theorem is_mi {a b : Fr} {n d n' d' : Int} (ha : Is a n d) (hb : Is b n' d') : Is (mi a b) (n * d' - n' * d) (d * d') := by
  obtain ⟨a1, a2, a3⟩ := ha
  obtain ⟨b1, b2, b3⟩ := hb
  refine (is_ov (Int.mul_pos a1 b1)).same (Int.mul_pos a2 b2) ?_
  grind
theorem Is.pos_iff {f : Fr} {n d : Int} (h : Is f n d) : 0 < f.1 ↔ 0 < n := by
  obtain ⟨h1, h2, h3⟩ := h
  constructor
  · intro h
    have := Int.mul_pos h h2
    rw [h3] at this
    exact Int.pos_of_mul_pos_left this h1
  · intro h
    have := Int.mul_pos h h1
    rw [← h3] at this
    exact Int.pos_of_mul_pos_left this h2
theorem Is.zero_iff {f : Fr} {n d : Int} (h : Is f n d) : f.1 = 0 ↔ n = 0 := by
  obtain ⟨h1, h2, h3⟩ := h
  constructor
  · intro h
    rw [h, Int.zero_mul] at h3
    rcases Int.mul_eq_zero.1 h3.symm with h | h <;> omega
  · intro h
    rw [h, Int.zero_mul] at h3
    rcases Int.mul_eq_zero.1 h3 with h | h <;> omega
theorem is_bt {a b : Fr} {n d n' d' : Int} (ha : Is a n d) (hb : Is b n' d') (hp : 0 < n') : Is (bt a b) (n * d') (d * n') := by
  have hb1 := hb.pos_iff.2 hp
  obtain ⟨a1, a2, a3⟩ := ha
  obtain ⟨b1, b2, b3⟩ := hb
  refine (is_ov (Int.mul_pos a1 hb1)).same (Int.mul_pos a2 hp) ?_
  grind
theorem is_bt0 {a b : Fr} {n' d' e : Int} (hb : Is b n' d') (hp : n' = 0) (he : 0 < e) : Is (bt a b) 0 e :=
  is_ov0' (by rw [hb.zero_iff.2 hp, Int.mul_zero]) he
theorem is_pos {a : Fr} {n d : Int} (ha : Is a n d) : Is (pos a) (max n (-n)) d := by
  obtain ⟨a1, a2, a3⟩ := ha
  refine ⟨a1, a2, ?_⟩
  show max a.1 (-a.1) * d = max n (-n) * a.2
  rcases Int.le_total 0 n with h | h
  · have h0 : 0 ≤ a.1 := by
      rcases Int.lt_or_le a.1 0 with h' | h'
      · have := Int.mul_neg_of_neg_of_pos h' a2
        have := Int.mul_nonneg h (Int.le_of_lt a1)
        omega
      · exact h'
    rw [show max a.1 (-a.1) = a.1 by omega, show max n (-n) = n by omega, a3]
  · have h0 : a.1 ≤ 0 := by
      rcases Int.lt_or_le 0 a.1 with h' | h'
      · have := Int.mul_pos h' a2
        have := Int.mul_nonneg (a := -n) (b := a.2) (by omega) (Int.le_of_lt a1)
        rw [Int.neg_mul] at this
        omega
      · exact h'
    rw [show max a.1 (-a.1) = -a.1 by omega, show max n (-n) = -n by omega, Int.neg_mul, Int.neg_mul, a3]
/-- How two fractions compare, told by what they are worth. -/
theorem cmpF_is {a b : Fr} {n d n' d' : Int} (ha : Is a n d) (hb : Is b n' d') : cmpF a b = Int.sign (n * d' - n' * d) := by
  obtain ⟨a1, a2, a3⟩ := ha
  obtain ⟨b1, b2, b3⟩ := hb
  unfold cmpF cmp nu de
  rw [if_neg (by omega), if_neg (by omega), if_neg (by omega), if_neg (by omega)]
  have e : (a.1 * b.2 - b.1 * a.2) * (d * d') = (n * d' - n' * d) * (a.2 * b.2) := by grind
  have e2 := congrArg Int.sign e
  rw [Int.sign_mul (_ - _) (d * d'), Int.sign_mul (_ - _) (a.2 * b.2), Int.sign_eq_one_of_pos (Int.mul_pos a2 b2), Int.sign_eq_one_of_pos (Int.mul_pos a1 b1), Int.mul_one, Int.mul_one] at e2
  exact e2
theorem sign_scale {x y z : Int} (hz : 0 < z) (h : x = y * z) : Int.sign x = Int.sign y := by
  rw [h, Int.sign_mul, Int.sign_eq_one_of_pos hz, Int.mul_one]

theorem jac_dice {h q m r : Int} (hh : 0 ≤ h) (hq : 0 ≤ q) (hm : 0 ≤ m) : ∃ D, Is (score 3 h q m r) h D ∧ Is (score 4 h q m r) (2 * h) (D + h) := by
  rcases Int.lt_or_le 0 (h + m + q) with h0 | h0
  · exact ⟨h + m + q, is_ov h0, is_ov_same (by omega) (by omega) (by grind)⟩
  · obtain ⟨rfl, rfl, rfl⟩ : h = 0 ∧ q = 0 ∧ m = 0 := by omega
    exact ⟨1, is_ov0' (by omega) (by omega), is_ov0' (by omega) (by omega)⟩
theorem dice_jac {h q m r h' q' m' r' : Int} (h1 : 0 ≤ h) (h2 : 0 ≤ q) (h3 : 0 ≤ m) (h4 : 0 ≤ h') (h5 : 0 ≤ q') (h6 : 0 ≤ m') :
    cmpF (score 4 h q m r) (score 4 h' q' m' r') = cmpF (score 3 h q m r) (score 3 h' q' m' r') := by
  obtain ⟨D, a1, a2⟩ := jac_dice (r := r) h1 h2 h3
  obtain ⟨D', b1, b2⟩ := jac_dice (r := r') h4 h5 h6
  rw [cmpF_is a1 b1, cmpF_is a2 b2]
  exact sign_scale (z := 2) (by decide) (by grind)
/-- What FoTarantula and FoBarinel are worth: alike but for the scales of hits and of passing hits. -/
theorem tar_bar {h q m r : Int} {F P : Int} (hF : 0 < F) (hP : 0 < P) (hh : 0 ≤ h) (hq : 0 ≤ q) (eF : h + m = F) (eP : q + r = P) :
    ∃ x, 0 < x ∧ Is (score 8 h q m r) h (if h = 0 then x else h + q) ∧ Is (score 1 h q m r) (h * P) (if h = 0 then x else h * P + q * F) := by
  subst eF eP
  by_cases h0 : h = 0
  · subst h0
    refine ⟨1, by decide, ?_, ?_⟩
    · rw [if_pos rfl]
      rcases Int.lt_or_le 0 q with hq0 | hq0
      · exact is_ov_same (by omega) (by decide) (by simp)
      · exact is_ov0' (by omega) (by decide)
    · rw [if_pos rfl, Int.zero_mul]
      have a := is_ov (n := 0) hF
      have b := is_ov (n := q) hP
      have c : Is (pl (ov 0 (0 + m)) (ov q (q + r))) (q * (0 + m)) ((0 + m) * (q + r)) := (is_pl a b).same (Int.mul_pos hF hP) (by grind)
      rcases Int.lt_or_le 0 q with hq0 | hq0
      · have hx : 0 < q * (0 + m) := Int.mul_pos hq0 hF
        exact (is_bt a c hx).same (by decide) (by simp)
      · exact is_bt0 c (by rw [show q = 0 by omega, Int.zero_mul]) (by decide)
  · refine ⟨1, by decide, ?_, ?_⟩
    · rw [if_neg h0]
      exact is_ov (by omega)
    · rw [if_neg h0]
      have a := is_ov (n := h) hF
      have b := is_ov (n := q) hP
      have c := is_pl a b
      have hx : 0 < h * (q + r) := Int.mul_pos (by omega) hP
      have hy : 0 ≤ q * (h + m) := Int.mul_nonneg hq (by omega)
      exact (is_bt a c (by omega)).same (by omega) (by grind)
/-- Where no row fails, or none passes. -/
theorem tar_one {h q m r : Int} (hh : 0 ≤ h) (hq : 0 ≤ q) (hm : 0 ≤ m) (hr : 0 ≤ r) (hz : h + m = 0 ∨ q + r = 0) :
    Is (score 8 h q m r) (if h = 0 then 0 else 1) 1 ∧ Is (score 1 h q m r) (if h = 0 then 0 else 1) 1 := by
  by_cases h0 : h = 0
  · subst h0
    rw [if_pos rfl]
    constructor
    · rcases Int.lt_or_le 0 q with hq0 | hq0
      · exact is_ov_same (by omega) (by decide) (by simp)
      · exact is_ov0' (by omega) (by decide)
    · rcases hz with hz | hz
      · obtain rfl : m = 0 := by omega
        have a := is_ov0' (n := 0) (d := (0 : Int) + 0) (e := 1) rfl (by decide)
        have a' : Is (ov 0 (0 + 0)) 0 1 := a
        rcases Int.lt_or_le 0 (q + r) with hq0 | hq0
        · have c : Is (pl (ov 0 (0 + 0)) (ov q (q + r))) q (q + r) := (is_pl a' (is_ov (n := q) hq0)).same hq0 (by grind)
          rcases Int.lt_or_le 0 q with hq1 | hq1
          · exact (is_bt a' c hq1).same (by decide) (by simp)
          · exact is_bt0 c (by omega) (by decide)
        · have c := is_pl a' (is_ov0' (n := q) (d := q + r) (e := 1) (by omega) (by decide))
          exact is_bt0 c (by decide) (by decide)
      · obtain ⟨rfl, rfl⟩ : q = 0 ∧ r = 0 := by omega
        have b := is_ov0' (n := 0) (d := (0 : Int) + 0) (e := 1) rfl (by decide)
        rcases Int.lt_or_le 0 (0 + m) with hq0 | hq0
        · have a := is_ov (n := 0) hq0
          have c := is_pl a b
          exact is_bt0 c (by simp) (by decide)
        · have a := is_ov0' (n := 0) (d := 0 + m) (e := 1) (by omega) (by decide)
          have c := is_pl a b
          exact is_bt0 c (by simp) (by decide)
  · rw [if_neg h0]
    obtain ⟨rfl, rfl⟩ : q = 0 ∧ r = 0 := by omega
    constructor
    · exact is_ov_same (by omega) (by decide) (by simp)
    · have a := is_ov (n := h) (d := h + m) (by omega)
      have b := is_ov0' (n := 0) (d := (0 : Int) + 0) (e := 1) rfl (by decide)
      have c := is_pl a b
      rw [Int.mul_one, Int.zero_mul, Int.add_zero, Int.mul_one] at c
      exact (is_bt a c (by omega)).same (by decide) (by grind)
theorem tar_as_bar {h q m r h' q' m' r' : Int} (h1 : 0 ≤ h) (h2 : 0 ≤ q) (h3 : 0 ≤ m) (h4 : 0 ≤ r) (h1' : 0 ≤ h') (h2' : 0 ≤ q') (h3' : 0 ≤ m') (h4' : 0 ≤ r')
    (eF : h + m = h' + m') (eP : q + r = q' + r') : cmpF (score 1 h q m r) (score 1 h' q' m' r') = cmpF (score 8 h q m r) (score 8 h' q' m' r') := by
  by_cases hz : h + m = 0 ∨ q + r = 0
  · obtain ⟨a1, a2⟩ := tar_one h1 h2 h3 h4 hz
    obtain ⟨b1, b2⟩ := tar_one h1' h2' h3' h4' (by omega)
    rw [cmpF_is a1 b1, cmpF_is a2 b2]
  · obtain ⟨x, hx, a1, a2⟩ := tar_bar (F := h + m) (P := q + r) (by omega) (by omega) h1 h2 rfl rfl
    obtain ⟨y, hy, b1, b2⟩ := tar_bar (F := h + m) (P := q + r) (by omega) (by omega) h1' h2' eF.symm eP.symm
    rw [cmpF_is a1 b1, cmpF_is a2 b2]
    have hF : 0 < h + m := by omega
    have hP : 0 < q + r := by omega
    generalize h + m = F at *
    generalize q + r = P at *
    by_cases c1 : h = 0
    · subst c1
      by_cases c2 : h' = 0
      · subst c2; simp
      · rw [if_pos rfl, if_pos rfl, if_neg c2, if_neg c2]
        exact sign_scale (z := P) hP (by grind)
    · by_cases c2 : h' = 0
      · subst c2
        rw [if_pos rfl, if_pos rfl, if_neg c1, if_neg c1]
        exact sign_scale (z := P) hP (by grind)
      · rw [if_neg c1, if_neg c1, if_neg c2, if_neg c2]
        exact sign_scale (z := P * F) (Int.mul_pos hP hF) (by grind)
end Go.Proofs.YtfpmbjobieeidaaGreat.Rk
namespace Go.Proofs.YtfpmbjobieeidaaGreat.Rk

theorem order_alike {sc sc' : Nat → Fr} {n : Nat} (h : ∀ a b, a < n → b < n → cmpF (sc a) (sc b) = cmpF (sc' a) (sc' b)) : order sc n = order sc' n := by
  refine order_unique (order_perm sc n) ((order_sorted sc n).imp_of_mem fun {a b} ha hb hab => ?_)
  have ha' := List.mem_range.1 ((order_perm sc n).mem_iff.1 ha)
  have hb' := List.mem_range.1 ((order_perm sc n).mem_iff.1 hb)
  unfold ahead at *
  rw [← h b a hb' ha']
  exact hab
theorem gtN_alike {sc sc' : Nat → Fr} {n c : Nat} (h : ∀ a b, a < n → b < n → cmpF (sc a) (sc b) = cmpF (sc' a) (sc' b)) (hc : c < n) : gtN sc n c = gtN sc' n c := by
  unfold gtN
  exact List.countP_congr fun k hk => by rw [h k c (List.mem_range.1 hk) hc]
theorem geN_alike {sc sc' : Nat → Fr} {n c : Nat} (h : ∀ a b, a < n → b < n → cmpF (sc a) (sc b) = cmpF (sc' a) (sc' b)) (hc : c < n) : geN sc n c = geN sc' n c := by
  unfold geN
  exact List.countP_congr fun k hk => by rw [h k c (List.mem_range.1 hk) hc]
def noStn : Stn := (0, (0, 0), 0, 0)
theorem ranking_getD {sc : Nat → Fr} {n p : Nat} (hp : p < n) : (order sc n).getD p 0 < n ∧ (ranking sc n).getD p noStn = stnOf sc n ((order sc n).getD p 0) := by
  have hl : p < (order sc n).length := by rw [order_length]; exact hp
  constructor
  · rw [List.getD_eq_getElem?_getD, List.getElem?_eq_getElem hl]
    exact List.mem_range.1 ((order_perm sc n).mem_iff.1 (List.getElem_mem hl))
  · unfold ranking
    rw [List.getD_eq_getElem?_getD, List.getElem?_map, List.getElem?_eq_getElem hl, List.getD_eq_getElem?_getD, List.getElem?_eq_getElem hl]
    rfl
/-- Rankings that agree in all but the scores. -/
theorem ranking_alike {sc sc' : Nat → Fr} {n p : Nat} (h : ∀ a b, a < n → b < n → cmpF (sc a) (sc b) = cmpF (sc' a) (sc' b)) (hp : p < n) :
    ((ranking sc n).getD p noStn).1 = ((ranking sc' n).getD p noStn).1 ∧ ((ranking sc n).getD p noStn).2.2 = ((ranking sc' n).getD p noStn).2.2 := by
  obtain ⟨h1, h2⟩ := ranking_getD (sc := sc) hp
  obtain ⟨_, h4⟩ := ranking_getD (sc := sc') hp
  rw [h2, h4, ← order_alike h]
  refine ⟨rfl, ?_⟩
  unfold stnOf
  simp only
  rw [gtN_alike h h1, geN_alike h h1]

/-- No score is above one that is worth most. -/
theorem not_above {a b : Fr} {n d n' d' : Int} (ha : Is a n d) (hb : Is b n' d') (h : n' * d ≤ n * d') : ¬ 0 < cmpF b a := by
  rw [cmpF_is hb ha]
  intro hs
  rcases sign_cases (n' * d - n * d') with ⟨h1, h2⟩ | ⟨h1, h2⟩ | ⟨h1, h2⟩ <;> omega
theorem is_le_one {n d : Int} (h0 : 0 ≤ n) (h : n ≤ d) : ∃ x y, Is (ov n d) x y ∧ 0 ≤ x ∧ x ≤ y ∧ 0 < y ∧ (0 < d → x = n ∧ y = d) ∧ (d = 0 → x = 0) := by
  rcases Int.lt_or_le 0 d with hd | hd
  · exact ⟨n, d, is_ov hd, h0, h, hd, fun _ => ⟨rfl, rfl⟩, fun h => by omega⟩
  · exact ⟨0, 1, is_ov0' (by omega) (by decide), by decide, by decide, by decide, fun h => by omega, fun _ => rfl⟩
theorem is_self {n : Int} (h : 0 < n) : Is (ov n n) 1 1 := is_ov_same h (by decide) (by grind)
theorem is_none {n d : Int} (h : n = 0) : ∃ y, 0 < y ∧ Is (ov n d) 0 y := by
  subst h
  rcases Int.lt_trichotomy d 0 with hd | hd | hd
  · refine ⟨1, by decide, ?_⟩
    unfold ov
    rw [if_neg (by omega)]
    refine ⟨frDen_pos (by omega), by decide, ?_⟩
    show frNum 0 d * 1 = 0 * frDen 0 d
    simp [frNum]
  · exact ⟨1, by decide, is_ov0' hd (by decide)⟩
  · exact ⟨d, hd, is_ov hd⟩
theorem is_one_top {a b : Fr} {x y : Int} (ha : Is a 1 1) (hb : Is b x y) (h : x ≤ y) : ¬ 0 < cmpF b a := not_above ha hb (by omega)

set_option maxHeartbeats 1000000 in
/-- A component that all failing rows cover, and no passing one, is at the top. -/
theorem top {k : Nat} (k1 : 1 ≤ k) (k2 : k ≤ 14) {F P h q m r : Int} (hF : 0 < F) (hP : 0 ≤ P) (hh : 0 ≤ h) (hq : 0 ≤ q) (hm : 0 ≤ m) (hr : 0 ≤ r) (eF : h + m = F) (eP : q + r = P) :
    ¬ 0 < cmpF (score k h q m r) (score k F 0 0 P) := by
  have hFF : 0 < F * F := Int.mul_pos hF hF
  rcases (show k = 1 ∨ k = 2 ∨ k = 3 ∨ k = 4 ∨ k = 5 ∨ k = 6 ∨ k = 7 ∨ k = 8 ∨ k = 9 ∨ k = 10 ∨ k = 11 ∨ k = 12 ∨ k = 13 ∨ k = 14 by omega) with
    rfl | rfl | rfl | rfl | rfl | rfl | rfl | rfl | rfl | rfl | rfl | rfl | rfl | rfl
  · -- Tarantula: as Barinel
    rw [tar_as_bar hh hq hm hr (by omega) (by omega) (by omega) hP (by omega) (by omega)]
    obtain ⟨x, y, a, _, b, _⟩ := is_le_one hh (show h ≤ h + q by omega)
    refine is_one_top ?_ a b
    have := is_self hF
    simpa [score] using this
  · -- Ochiai
    have e : F * F = (F + 0) * (F + 0) := by grind
    have t : Is (score 2 F 0 0 P) 1 1 := by
      show Is (ov (F * F) ((F + 0) * (F + 0))) 1 1
      rw [← e]; exact is_self hFF
    obtain ⟨x, y, a, _, b, _⟩ := is_le_one (n := h * h) (d := (h + m) * (h + q)) (Int.mul_nonneg hh hh) (Int.mul_le_mul (by omega) (by omega) hh (by omega))
    exact is_one_top t a b
  · have t : Is (score 3 F 0 0 P) 1 1 := by
      show Is (ov F (F + 0 + 0)) 1 1
      rw [show F + 0 + 0 = F by omega]; exact is_self hF
    obtain ⟨x, y, a, _, b, _⟩ := is_le_one (n := h) (d := h + m + q) hh (by omega)
    exact is_one_top t a b
  · have t : Is (score 4 F 0 0 P) 1 1 := by
      show Is (ov (2 * F) (F + 0 + F + 0)) 1 1
      rw [show F + 0 + F + 0 = 2 * F by omega]; exact is_self (by omega)
    obtain ⟨x, y, a, _, b, _⟩ := is_le_one (n := 2 * h) (d := h + m + h + q) (by omega) (by omega)
    exact is_one_top t a b
  · -- Kulczynski
    have t : Is (score 5 F 0 0 P) 1 1 := by
      show Is (bt (pl (ov F (F + 0)) (ov F (F + 0))) (ov 2 1)) 1 1
      rw [show F + 0 = F by omega]
      exact (is_bt (is_pl (is_self hF) (is_self hF)) (is_ov (n := 2) (d := 1) (by decide)) (by decide)).same (by decide) (by decide)
    obtain ⟨x, y, a, a0, b, b0, _⟩ := is_le_one (n := h) (d := h + m) hh (by omega)
    obtain ⟨x', y', a', a0', b', b0', _⟩ := is_le_one (n := h) (d := h + q) hh (by omega)
    refine is_one_top t (is_bt (is_pl a a') (is_ov (n := 2) (d := 1) (by decide)) (by decide)) ?_
    have h1 : x * y' ≤ y * y' := Int.mul_le_mul_of_nonneg_right b (by omega)
    have h2 : x' * y ≤ y' * y := Int.mul_le_mul_of_nonneg_right b' (by omega)
    have h3 : y' * y = y * y' := Int.mul_comm _ _
    omega
  · -- DStar
    have t : Is (score 6 F 0 0 P) (2 * F * F) 1 := by
      show Is (if (0 : Int) + 0 = 0 then ov (2 * F * F) 1 else ov (F * F) (0 + 0)) _ _
      rw [if_pos (by decide)]; exact is_ov (by decide)
    have hhF : h * h ≤ F * F := Int.mul_le_mul (by omega) (by omega) hh (by omega)
    have e1 : 2 * F * F = 2 * (F * F) := Int.mul_assoc ..
    have e2 : 2 * h * h = 2 * (h * h) := Int.mul_assoc ..
    show ¬ 0 < cmpF (if q + m = 0 then ov (2 * h * h) 1 else ov (h * h) (q + m)) _
    split
    · exact not_above t (is_ov (by decide)) (by omega)
    · refine not_above t (is_ov (show 0 < q + m by omega)) ?_
      have h0 := Int.mul_nonneg hh hh
      have : 2 * F * F * 1 ≤ 2 * F * F * (q + m) := Int.mul_le_mul_of_nonneg_left (by omega) (by omega)
      omega
  · -- Op
    have t : Is (score 7 F 0 0 P) F 1 := by
      show Is (mi (ov F 1) (ov 0 (0 + P + 1))) _ _
      exact (is_mi (is_ov (by decide)) (is_ov (show 0 < 0 + P + 1 by omega))).same (by decide) (by grind)
    refine not_above t (is_mi (is_ov (by decide)) (is_ov (show 0 < q + r + 1 by omega))) ?_
    have h1 : h * (q + r + 1) ≤ F * (q + r + 1) := Int.mul_le_mul_of_nonneg_right (by omega) (by omega)
    simp only [Int.mul_one, Int.one_mul]
    omega
  · have t : Is (score 8 F 0 0 P) 1 1 := by
      show Is (ov F (F + 0)) 1 1
      rw [show F + 0 = F by omega]; exact is_self hF
    obtain ⟨x, y, a, _, b, _⟩ := is_le_one (n := h) (d := h + q) hh (by omega)
    exact is_one_top t a b
  · -- Ample
    have t : Is (score 9 F 0 0 P) 1 1 := by
      show Is (pos (mi (ov F (F + 0)) (ov 0 (0 + P)))) 1 1
      rw [show F + 0 = F by omega]
      obtain ⟨y, hy, a⟩ := is_none (n := 0) (d := 0 + P) rfl
      refine (is_pos (is_mi (is_self hF) a)).same (by decide) ?_
      simp only [Int.mul_one, Int.one_mul, Int.sub_zero]
      omega
    obtain ⟨x, y, a, a0, b, b0, _⟩ := is_le_one (n := h) (d := h + m) hh (by omega)
    obtain ⟨x', y', a', a0', b', b0', _⟩ := is_le_one (n := q) (d := q + r) hq (by omega)
    refine is_one_top t (is_pos (is_mi a a')) ?_
    have h1 : x * y' ≤ y * y' := Int.mul_le_mul_of_nonneg_right b (by omega)
    have h2 : x' * y ≤ y' * y := Int.mul_le_mul_of_nonneg_right b' (by omega)
    have h3 : y' * y = y * y' := Int.mul_comm _ _
    have h4 : 0 ≤ x * y' := Int.mul_nonneg a0 (by omega)
    have h5 : 0 ≤ x' * y := Int.mul_nonneg a0' (by omega)
    omega
  · -- Wong
    have t : Is (score 10 F 0 0 P) F 1 := by
      show Is (mi (ov F 1) (wong 0)) _ _
      have : Is (wong 0) 0 1 := by unfold wong; rw [if_pos (by decide)]; exact is_ov (by decide)
      exact (is_mi (is_ov (by decide)) this).same (by decide) (by grind)
    obtain ⟨x, y, a, a0⟩ : ∃ x y, Is (wong q) x y ∧ 0 ≤ x := by
      unfold wong
      split
      · exact ⟨_, _, is_ov (by decide), hq⟩
      · split
        · exact ⟨_, _, is_pl (is_ov (by decide)) (is_ov (by decide)), by omega⟩
        · exact ⟨_, _, is_pl (is_ov (by decide)) (is_ov (by decide)), by omega⟩
    refine not_above t (is_mi (is_ov (by decide)) a) ?_
    have hy := a.2.1
    have h1 : h * y ≤ F * y := Int.mul_le_mul_of_nonneg_right (by omega) (by omega)
    simp only [Int.mul_one, Int.one_mul]
    omega
  · have t : Is (score 11 F 0 0 P) F (F + P) := by
      show Is (ov F (F + 0 + 0 + P)) _ _
      rw [show F + 0 + 0 + P = F + P by omega]; exact is_ov (by omega)
    refine not_above t (is_ov (show 0 < h + m + q + r by omega)) ?_
    rw [show h + m + q + r = F + P by omega]
    exact Int.mul_le_mul_of_nonneg_right (by omega) (by omega)
  · have t : Is (score 12 F 0 0 P) 1 1 := by
      show Is (ov (F + P) (F + 0 + 0 + P)) _ _
      rw [show F + 0 + 0 + P = F + P by omega]; exact is_self (by omega)
    obtain ⟨x, y, a, _, b, _⟩ := is_le_one (n := h + r) (d := h + m + q + r) (by omega) (by omega)
    exact is_one_top t a b
  · -- GP
    have t : Is (score 13 F 0 0 P) (F + 1) 1 := by
      show Is (if F = 0 then ov 0 1 else pl (ov F 1) (ov F (2 * 0 + F))) _ _
      rw [if_neg (by omega), show 2 * 0 + F = F by omega]
      exact (is_pl (is_ov (by decide)) (is_self hF)).same (by decide) (by omega)
    show ¬ 0 < cmpF (if h = 0 then ov 0 1 else pl (ov h 1) (ov h (2 * q + h))) _
    split
    · exact not_above t (is_ov (by decide)) (by omega)
    · refine not_above t (is_pl (is_ov (by decide)) (is_ov (show 0 < 2 * q + h by omega))) ?_
      have h1 : h * (2 * q + h) ≤ F * (2 * q + h) := Int.mul_le_mul_of_nonneg_right (by omega) (by omega)
      simp only [Int.mul_one, Int.one_mul, Int.add_mul]
      simp only [Int.mul_add] at h1
      simp only [Int.mul_add]
      omega
  · -- Zoltar
    have t : Is (score 14 F 0 0 P) 1 1 := by
      show Is (ov (F * F) (F * (F + 0 + 0) + 10000 * 0 * 0)) _ _
      rw [show F * (F + 0 + 0) + 10000 * 0 * 0 = F * F by grind]; exact is_self hFF
    have h1 : h * h ≤ h * (h + m + q) := Int.mul_le_mul_of_nonneg_left (by omega) hh
    have h2 : 0 ≤ 10000 * m * q := Int.mul_nonneg (by omega) hq
    obtain ⟨x, y, a, _, b, _⟩ := is_le_one (n := h * h) (d := h * (h + m + q) + 10000 * m * q) (Int.mul_nonneg hh hh) (by omega)
    exact is_one_top t a b

/-- The sums of a tally. -/
theorem tal_sums (rows : List (List Int × Bool)) (c : Nat) : tal rows c 0 + tal rows c 2 = fails rows ∧ tal rows c 1 + tal rows c 3 = rows.length - fails rows := by
  unfold tal
  simp only
  constructor <;> omega
def scoreAt' (k : Nat) (rows : List (List Int × Bool)) (c : Nat) : Fr := score k (tal rows c 0) (tal rows c 1) (tal rows c 2) (tal rows c 3)
theorem agree_jac (rows : List (List Int × Bool)) (a b : Nat) : cmpF (scoreAt' 4 rows a) (scoreAt' 4 rows b) = cmpF (scoreAt' 3 rows a) (scoreAt' 3 rows b) :=
  dice_jac (tal_bounds rows a 0).1 (tal_bounds rows a 1).1 (tal_bounds rows a 2).1 (tal_bounds rows b 0).1 (tal_bounds rows b 1).1 (tal_bounds rows b 2).1
theorem agree_bar (rows : List (List Int × Bool)) (a b : Nat) : cmpF (scoreAt' 1 rows a) (scoreAt' 1 rows b) = cmpF (scoreAt' 8 rows a) (scoreAt' 8 rows b) := by
  have h1 := tal_sums rows a
  have h2 := tal_sums rows b
  exact tar_as_bar (tal_bounds rows a 0).1 (tal_bounds rows a 1).1 (tal_bounds rows a 2).1 (tal_bounds rows a 3).1 (tal_bounds rows b 0).1 (tal_bounds rows b 1).1 (tal_bounds rows b 2).1 (tal_bounds rows b 3).1 (by omega) (by omega)
/-- At the top: the best place is the first one. -/
theorem top_first {k : Nat} (k1 : 1 ≤ k) (k2 : k ≤ 14) (rows : List (List Int × Bool)) (n c : Nat) (h2 : tal rows c 2 = 0) (h1 : tal rows c 1 = 0) (h0 : 0 < tal rows c 0) : gtN (scoreAt' k rows) n c = 0 := by
  unfold gtN
  refine List.countP_eq_zero.2 fun x _ => ?_
  have s1 := tal_sums rows x
  have s2 := tal_sums rows c
  have := top k1 k2 (F := tal rows c 0) (P := tal rows c 3) h0 (tal_bounds rows c 3).1 (tal_bounds rows x 0).1 (tal_bounds rows x 1).1 (tal_bounds rows x 2).1 (tal_bounds rows x 3).1 (by omega) (by omega)
  unfold scoreAt'
  rw [h1, h2]
  simpa using this
end Go.Proofs.YtfpmbjobieeidaaGreat.Rk
namespace Go.Proofs.YtfpmbjobieeidaaGreat.Rk

section
variable {sc : Nat → Fr} {n : Nat}
/-- How many have the score of a component; how many of these are faulty. -/
def eqN (sc : Nat → Fr) (n c : Nat) : Nat := (List.range n).countP fun k => decide (cmpF (sc k) (sc c) = 0)
def eqF (sc : Nat → Fr) (n : Nat) (F : Nat → Bool) (c : Nat) : Nat := (List.range n).countP fun k => decide (cmpF (sc k) (sc c) = 0) && F k
/-- The greatest one of the faulty ones. -/
def Top (sc : Nat → Fr) (n : Nat) (F : Nat → Bool) (c : Nat) : Prop := c < n ∧ F c = true ∧ ∀ k, k < n → F k = true → cmpF (sc k) (sc c) ≤ 0
def mean (b t k : Nat) : Fr := pl (ov b 1) (ov ((t : Int) + 1) ((k : Int) + 1))

theorem is_mean (b t k : Nat) : Is (mean b t k) ((b : Int) * (k + 1) + (t + 1)) (k + 1) :=
  (is_pl (is_ov (by decide)) (is_ov (by omega))).same (by omega) (by grind)
theorem eqF_le (sc : Nat → Fr) (n : Nat) (F : Nat → Bool) (c : Nat) : eqF sc n F c ≤ eqN sc n c := List.countP_mono_left fun x _ h => by
  rw [Bool.and_eq_true] at h; exact h.1
theorem eqF_pos {F : Nat → Bool} {c : Nat} (h : Top sc n F c) : 1 ≤ eqF sc n F c := by
  unfold eqF
  refine List.countP_pos_iff.2 ⟨c, List.mem_range.2 h.1, ?_⟩
  rw [cmpF_self, h.2.1]; rfl
theorem countP_split {α : Type} (l : List α) (f g h : α → Bool) (e : ∀ x, x ∈ l → (f x = true ↔ g x = true ∨ h x = true) ∧ ¬ (g x = true ∧ h x = true)) : l.countP f = l.countP g + l.countP h := by
  induction l with
  | nil => rfl
  | cons x l ih =>
    have ih' := ih fun y hy => e y (List.mem_cons_of_mem _ hy)
    obtain ⟨e1, e2⟩ := e x (List.mem_cons_self ..)
    simp only [List.countP_cons]
    rw [ih']
    cases hf : f x <;> cases hg : g x <;> cases hh : h x <;> simp_all <;> omega
theorem geN_eq (sc : Nat → Fr) (n c : Nat) : geN sc n c = gtN sc n c + eqN sc n c := by
  unfold geN gtN eqN
  refine countP_split _ _ _ _ fun x _ => ?_
  simp only [decide_eq_true_eq]
  constructor <;> omega
theorem geN_le (sc : Nat → Fr) (n c : Nat) : geN sc n c ≤ n := by
  unfold geN
  have := List.countP_le_length (l := List.range n) (p := fun k => decide (0 ≤ cmpF (sc k) (sc c)))
  rwa [List.length_range] at this
theorem top_same {F : Nat → Bool} {c d : Nat} (hc : Top sc n F c) (hd : Top sc n F d) : cmpF (sc c) (sc d) = 0 := by
  have h1 := hc.2.2 d hd.1 hd.2.1
  have h2 := hd.2.2 c hc.1 hc.2.1
  have h3 := cmpF_swap (sc c) (sc d)
  omega
theorem cmp_zero_r {a b x : Fr} (h : cmpF a b = 0) : cmpF x a = cmpF x b := by
  have s := cmpF_swap a b
  have t1 := cmpF_swap x a
  have t2 := cmpF_swap x b
  have b1 := cmpF_bounds x a
  have b2 := cmpF_bounds x b
  rcases (show cmpF x a = -1 ∨ cmpF x a = 0 ∨ cmpF x a = 1 by omega) with h1 | h1 | h1
  · have := cmpF_lt1 (a := x) (b := a) (c := b) (by omega) (by omega)
    omega
  · have := cmpF_zero_trans h1 h
    omega
  · have := cmpF_lt2 (a := b) (b := a) (c := x) (by omega) (by omega)
    omega
theorem gtN_zero {c d : Nat} (h : cmpF (sc c) (sc d) = 0) : gtN sc n c = gtN sc n d := by
  unfold gtN; exact List.countP_congr fun k _ => by rw [cmp_zero_r h]
theorem eqN_zero {c d : Nat} (h : cmpF (sc c) (sc d) = 0) : eqN sc n c = eqN sc n d := by
  unfold eqN; exact List.countP_congr fun k _ => by rw [cmp_zero_r h]
theorem eqF_zero {F : Nat → Bool} {c d : Nat} (h : cmpF (sc c) (sc d) = 0) : eqF sc n F c = eqF sc n F d := by
  unfold eqF; exact List.countP_congr fun k _ => by rw [cmp_zero_r h]
theorem gtN_less {c d : Nat} (h : cmpF (sc c) (sc d) < 0) : geN sc n d ≤ gtN sc n c := by
  unfold geN gtN
  refine List.countP_mono_left fun x _ hx => ?_
  simp only [decide_eq_true_eq] at hx ⊢
  have s := cmpF_swap (sc c) (sc d)
  have s2 := cmpF_swap (sc x) (sc d)
  have s3 := cmpF_swap (sc x) (sc c)
  have := cmpF_lt1 (a := sc c) (b := sc d) (c := sc x) h (by omega)
  omega
theorem gtN_same {c d : Nat} (hd : d < n) (hle : cmpF (sc c) (sc d) ≤ 0) : gtN sc n c = gtN sc n d ↔ cmpF (sc c) (sc d) = 0 := by
  constructor
  · intro e
    rcases Int.lt_or_le (cmpF (sc c) (sc d)) 0 with h | h
    · have h1 := gtN_less (n := n) h
      have h2 := geN_eq sc n d
      have h3 : 0 < eqN sc n d := by
        unfold eqN
        exact List.countP_pos_iff.2 ⟨d, List.mem_range.2 hd, by rw [cmpF_self]; rfl⟩
      omega
    · omega
  · exact gtN_zero

/-- The effort's numbers. -/
theorem effort_range {F : Nat → Bool} {c : Nat} (h : Top sc n F c) : gtN sc n c + eqN sc n c - eqF sc n F c + 1 ≤ n ∧ gtN sc n c + 1 ≤ gtN sc n c + eqN sc n c - eqF sc n F c + 1 := by
  have h1 := eqF_le sc n F c
  have h2 := eqF_pos h
  have h3 := geN_eq sc n c
  have h4 := geN_le sc n c
  omega
theorem mean_low {b t k : Nat} (hk : k ≤ t) : 0 ≤ cmpF (mean b t k) ((b : Int) + 1, 1) := by
  have hi : Is (((b : Int) + 1, 1) : Fr) (b + 1) 1 := ⟨Int.zero_lt_one, by decide, by simp⟩
  rw [cmpF_is (is_mean b t k) hi]
  have e : ((b : Int) * (k + 1) + (t + 1)) * 1 - ((b : Int) + 1) * (k + 1) = t - k := by grind
  rw [e]
  rcases sign_cases ((t : Int) - k) with ⟨h, e⟩ | ⟨h, e⟩ | ⟨h, e⟩ <;> rw [e] <;> omega
theorem mean_high {b t k : Nat} (hk : k ≤ t) : cmpF (mean b t k) (((b + t - k + 1 : Nat) : Int), 1) ≤ 0 := by
  obtain ⟨d, rfl⟩ : ∃ d, t = k + d := ⟨t - k, by omega⟩
  have hi : Is ((((b + (k + d) - k + 1 : Nat) : Int), 1) : Fr) (b + d + 1) 1 := ⟨Int.zero_lt_one, by decide, by simp; omega⟩
  rw [cmpF_is (is_mean b (k + d) k) hi]
  have e : ((b : Int) * (k + 1) + (((k + d : Nat) : Int) + 1)) * 1 - ((b : Int) + d + 1) * (k + 1) = -((k : Int) * d) := by
    rw [show ((k + d : Nat) : Int) = (k : Int) + d by omega]
    grind
  rw [e]
  have : 0 ≤ (k : Int) * d := Int.mul_nonneg (by omega) (by omega)
  rcases sign_cases (-((k : Int) * d)) with ⟨h, e⟩ | ⟨h, e⟩ | ⟨h, e⟩ <;> rw [e] <;> omega
theorem mean_want (b t k : Nat) : mean b t k = (frNum ((b : Int) * (k + 1) + t + 1) ((k : Int) + 1), frDen ((b : Int) * (k + 1) + t + 1) ((k : Int) + 1)) := by
  have e : (frNum ((b : Int) * (k + 1) + t + 1) ((k : Int) + 1), frDen ((b : Int) * (k + 1) + t + 1) ((k : Int) + 1)) = ov ((b : Int) * (k + 1) + t + 1) ((k : Int) + 1) := by
    unfold ov; rw [if_neg (by omega)]
  rw [e]
  refine low_eq (ov_low _ _) (ov_low _ _) ?_
  have h := cmpF_is (is_mean b t k) (is_ov (n := (b : Int) * (k + 1) + t + 1) (d := (k : Int) + 1) (by omega))
  refine h.trans ?_
  rw [show ((b : Int) * (k + 1) + (t + 1)) * ((k : Int) + 1) - ((b : Int) * (k + 1) + t + 1) * (k + 1) = 0 by grind]
  rfl

/-- One more faulty component: the greatest one, or not. -/
theorem more_top {F : Nat → Bool} {c o : Nat} (h : Top sc n F c) (ho : o < n) :
    (Top sc n (fun i => F i || decide (i = o)) c ∧ eqF sc n F c ≤ eqF sc n (fun i => F i || decide (i = o)) c) ∨
      (Top sc n (fun i => F i || decide (i = o)) o ∧ cmpF (sc c) (sc o) < 0 ∧ eqF sc n (fun i => F i || decide (i = o)) o = 1) := by
  rcases Int.lt_or_le 0 (cmpF (sc o) (sc c)) with hlt | hle
  · right
    have s := cmpF_swap (sc o) (sc c)
    refine ⟨⟨ho, by simp, fun k hk hF => ?_⟩, by omega, ?_⟩
    · simp only [Bool.or_eq_true, decide_eq_true_eq] at hF
      rcases hF with hF | rfl
      · have := cmpF_lt2 (a := sc k) (b := sc c) (c := sc o) (h.2.2 k hk hF) (by omega)
        omega
      · rw [cmpF_self]; omega
    · unfold eqF
      have e : (List.range n).countP (fun k => decide (cmpF (sc k) (sc o) = 0) && (F k || decide (k = o))) = (List.range n).countP (fun k => decide (k = o)) := by
        refine List.countP_congr fun k hk => ?_
        simp only [Bool.and_eq_true, Bool.or_eq_true, decide_eq_true_eq]
        constructor
        · rintro ⟨h1, h2 | h2⟩
          · have := cmpF_lt2 (a := sc k) (b := sc c) (c := sc o) (h.2.2 k (List.mem_range.1 hk) h2) (by omega)
            omega
          · exact h2
        · rintro rfl
          exact ⟨cmpF_self _, .inr rfl⟩
      rw [e]
      have := List.Nodup.count (a := o) (l := List.range n) List.nodup_range
      rw [if_pos (List.mem_range.2 ho)] at this
      unfold List.count at this
      rw [← this]
      exact List.countP_congr fun k _ => by simp
  · left
    refine ⟨⟨h.1, by simp [h.2.1], fun k hk hF => ?_⟩, ?_⟩
    · simp only [Bool.or_eq_true, decide_eq_true_eq] at hF
      rcases hF with hF | rfl
      · exact h.2.2 k hk hF
      · exact hle
    · unfold eqF
      refine List.countP_mono_left fun x _ hx => ?_
      simp only [Bool.and_eq_true, Bool.or_eq_true, decide_eq_true_eq] at hx ⊢
      exact ⟨hx.1, .inl hx.2⟩
theorem mean_le {b t k b' t' k' : Nat} (hk : k ≤ t) (hk' : k' ≤ t') (h : b = b' ∧ t = t' ∧ k ≤ k' ∨ b' + t' ≤ b ∧ k' = 1) : cmpF (mean b' t' k') (mean b t k) ≤ 0 := by
  rw [cmpF_is (is_mean b' t' k') (is_mean b t k)]
  suffices hs : ((b' : Int) * (k' + 1) + (t' + 1)) * (k + 1) - ((b : Int) * (k + 1) + (t + 1)) * (k' + 1) ≤ 0 by
    rcases sign_cases (((b' : Int) * (k' + 1) + (t' + 1)) * (k + 1) - ((b : Int) * (k + 1) + (t + 1)) * (k' + 1)) with ⟨h, e⟩ | ⟨h, e⟩ | ⟨h, e⟩ <;> rw [e] <;> omega
  rcases h with ⟨rfl, rfl, h3⟩ | ⟨h1, rfl⟩
  · obtain ⟨d, rfl⟩ : ∃ d, k' = k + d := ⟨k' - k, by omega⟩
    have e : ((b : Int) * (((k + d : Nat) : Int) + 1) + (t + 1)) * (k + 1) - ((b : Int) * (k + 1) + (t + 1)) * (((k + d : Nat) : Int) + 1) = -(((t : Int) + 1) * d) := by
      rw [show ((k + d : Nat) : Int) = (k : Int) + d by omega]
      grind
    rw [e]
    have : 0 ≤ ((t : Int) + 1) * d := Int.mul_nonneg (by omega) (by omega)
    omega
  · obtain ⟨d, rfl⟩ : ∃ d, b = b' + t' + d := ⟨b - (b' + t'), by omega⟩
    obtain ⟨y, rfl⟩ : ∃ y, t = k + y := ⟨t - k, by omega⟩
    obtain ⟨z, rfl⟩ : ∃ z, t' = 1 + z := ⟨t' - 1, by omega⟩
    have e : ((b' : Int) * (((1 : Nat) : Int) + 1) + (((1 + z : Nat) : Int) + 1)) * (k + 1) - (((b' + (1 + z) + d : Nat) : Int) * (k + 1) + (((k + y : Nat) : Int) + 1)) * (((1 : Nat) : Int) + 1) = -(z * (k + 1) + 2 * d * (k + 1) + 2 * (k + y) + 2) + (0 : Int) := by
      rw [show ((b' + (1 + z) + d : Nat) : Int) = (b' : Int) + 1 + z + d by omega, show ((k + y : Nat) : Int) = (k : Int) + y by omega, show ((1 + z : Nat) : Int) = 1 + (z : Int) by omega, show ((1 : Nat) : Int) = 1 from rfl]
      grind
    rw [e]
    have h4 : 0 ≤ (z : Int) * (k + 1) := Int.mul_nonneg (by omega) (by omega)
    have h5 : 0 ≤ 2 * (d : Int) * (k + 1) := Int.mul_nonneg (by omega) (by omega)
    omega

/-- Along the ranking: the first faulty component, and how many of its place there are. -/
def firstF (F : Nat → Bool) (l : List Nat) : List Nat := l.filter F
theorem first_top {F : Nat → Bool} {c : Nat} {r : List Nat} (h : (order sc n).filter F = c :: r) : Top sc n F c := by
  have hs : ((order sc n).filter F).Pairwise fun a b => ahead sc a b = true := (order_sorted sc n).sublist List.filter_sublist
  have hm : ∀ k, k ∈ (order sc n).filter F ↔ k < n ∧ F k = true := fun k => by
    rw [List.mem_filter, (order_perm sc n).mem_iff, List.mem_range]
  rw [h] at hs hm
  have h1 := (hm c).1 (List.mem_cons_self ..)
  refine ⟨h1.1, h1.2, fun k hk hF => ?_⟩
  rcases List.mem_cons.1 ((hm k).2 ⟨hk, hF⟩) with rfl | hr
  · rw [cmpF_self]; omega
  · have := (List.pairwise_cons.1 hs).1 k hr
    unfold ahead at this
    simp only [decide_eq_true_eq] at this
    omega
theorem many_eq {F : Nat → Bool} {c : Nat} (h : Top sc n F c) : ((order sc n).filter F).countP (fun k => decide (gtN sc n k = gtN sc n c)) = eqF sc n F c := by
  rw [List.countP_filter]
  unfold eqF
  rw [(order_perm sc n).countP_eq]
  refine List.countP_congr fun k hk => ?_
  simp only [Bool.and_eq_true, decide_eq_true_eq]
  constructor
  · rintro ⟨h1, h2⟩
    exact ⟨(gtN_same h.1 (h.2.2 k (List.mem_range.1 hk) h2)).1 h1, h2⟩
  · rintro ⟨h1, h2⟩
    exact ⟨gtN_zero h1, h2⟩
end
end Go.Proofs.YtfpmbjobieeidaaGreat.Rk
namespace Go.Proofs.YtfpmbjobieeidaaGreat.Rk

/-- The rows, turned by some. -/
def turned {α : Type} (d : α) (rows : List α) (t : Nat) : List α := (List.range rows.length).map fun i => rows.getD ((i + t) % rows.length) d
theorem turned_length {α : Type} (d : α) (rows : List α) (t : Nat) : (turned d rows t).length = rows.length := by simp [turned]
theorem turned_perm {α : Type} (d : α) (rows : List α) {t : Nat} (ht : t < rows.length) : (turned d rows t).Perm rows := by
  have e : turned d rows t = rows.drop t ++ rows.take t := by
    apply List.ext_getElem
    · simp [turned]; omega
    · intro i h1 h2
      simp only [turned, List.length_map, List.length_range] at h1
      simp only [turned, List.getElem_map, List.getElem_range]
      rw [List.getElem_append]
      split
      · rename_i h
        simp only [List.length_drop] at h
        rw [Nat.mod_eq_of_lt (by omega), List.getElem_drop, List.getD_eq_getElem?_getD, List.getElem?_eq_getElem (by omega)]
        simp [Nat.add_comm]
      · rename_i h
        simp only [List.length_drop] at h
        have : (i + t) % rows.length = i - (rows.length - t) := by
          rw [Nat.mod_eq_sub_mod (by omega), Nat.mod_eq_of_lt (by omega)]; omega
        rw [this, List.getElem_take, List.getD_eq_getElem?_getD, List.getElem?_eq_getElem (by omega)]
        simp
  rw [e]
  refine List.perm_append_comm.trans ?_
  rw [List.take_append_drop]
theorem tal_perm {rows rows' : List (List Int × Bool)} (h : rows.Perm rows') : tal rows = tal rows' := by
  have h1 : fh rows = fh rows' := by funext c; unfold fh; exact h.countP_eq _
  have h2 : ph rows = ph rows' := by funext c; unfold ph; exact h.countP_eq _
  have h3 : fails rows = fails rows' := by unfold fails; exact h.countP_eq _
  funext c j
  unfold tal
  rw [h1, h2, h3, h.length_eq]

/-- Best and worst places fit the order. -/
theorem countP_some {α : Type} (l : List α) (f : α → Bool) : ∀ {k : Nat}, (∀ q (hq : q < l.length), k ≤ q → f l[q] = false) → l.countP f ≤ k := by
  intro k h
  conv => lhs; rw [← List.take_append_drop k l]
  rw [List.countP_append]
  have h1 : (l.take k).countP f ≤ k := Nat.le_trans List.countP_le_length (by simp; omega)
  have h2 : (l.drop k).countP f = 0 := List.countP_eq_zero.2 fun x hx => by
    obtain ⟨q, hq, rfl⟩ := List.getElem_of_mem hx
    rw [List.getElem_drop, h _ _ (by omega)]
    simp
  omega
theorem countP_many {α : Type} (l : List α) (f : α → Bool) {k : Nat} (hk : k ≤ l.length) (h : ∀ q (hq : q < l.length), q < k → f l[q] = true) : k ≤ l.countP f := by
  conv => rhs; rw [← List.take_append_drop k l]
  rw [List.countP_append]
  have h1 : (l.take k).countP f = (l.take k).length := List.countP_eq_length.2 fun x hx => by
    obtain ⟨q, hq, rfl⟩ := List.getElem_of_mem hx
    simp only [List.length_take] at hq
    rw [List.getElem_take, h _ _ (by omega)]
  rw [h1, List.length_take]
  omega
section
variable {sc : Nat → Fr} {n : Nat}
theorem gtN_place {i : Nat} (hi : i < (order sc n).length) : gtN sc n (order sc n)[i] ≤ i := by
  rw [gtN_order]
  refine countP_some _ _ fun q hq hiq => decide_eq_false ?_
  have := order_le (sc := sc) (n := n) hiq hq
  omega
theorem geN_place {i : Nat} (hi : i < (order sc n).length) : i + 1 ≤ geN sc n (order sc n)[i] := by
  rw [geN_order]
  refine countP_many _ _ (by omega) fun q hq hiq => decide_eq_true ?_
  have h1 := order_le (sc := sc) (n := n) (show q ≤ i by omega) hi
  have h2 := cmpF_swap (sc (order sc n)[i]) (sc (order sc n)[q])
  omega
theorem places_ok {i : Nat} (hi : i < n) : 1 ≤ ((ranking sc n).getD i noStn).2.2.1 ∧ ((ranking sc n).getD i noStn).2.2.1 ≤ i + 1 ∧ (i : Int) + 1 ≤ ((ranking sc n).getD i noStn).2.2.2 ∧ ((ranking sc n).getD i noStn).2.2.2 ≤ n := by
  obtain ⟨_, h2⟩ := ranking_getD (sc := sc) hi
  rw [h2]
  have hl : i < (order sc n).length := by rw [order_length]; exact hi
  rw [List.getD_eq_getElem?_getD, List.getElem?_eq_getElem hl]
  have h3 := gtN_place (sc := sc) hl
  have h4 := geN_place (sc := sc) hl
  have h5 := geN_le sc n (order sc n)[i]
  unfold stnOf
  simp only [Option.getD_some]
  omega
end

/-- A component is put to the group that it fits, or makes a new one. -/
def alkPut (p : List Int → Bool) (c : Int) : List (List Int) → List (List Int)
  | [] => [[c]]
  | g :: gs => if p g = true then (g ++ [c]) :: gs else g :: alkPut p c gs
theorem alkPut_new {p : List Int → Bool} {c : Int} : ∀ {out : List (List Int)}, (∀ i, i < out.length → p (out.getD i []) = false) → alkPut p c out = out ++ [[c]]
  | [], _ => rfl
  | g :: gs, h => by
    have h0 := h 0 (by simp)
    simp only [List.getD_cons_zero] at h0
    unfold alkPut
    rw [if_neg (by simp [h0]), alkPut_new fun i hi => by have := h (i + 1) (by simpa using hi); simpa using this]
    rfl
theorem alkPut_at {p : List Int → Bool} {c : Int} : ∀ {out : List (List Int)} {j : Nat}, j < out.length → p (out.getD j []) = true → (∀ i, i < j → p (out.getD i []) = false) → alkPut p c out = out.set j (out.getD j [] ++ [c])
  | [], _, hj, _, _ => by simp at hj
  | g :: gs, 0, _, h, _ => by
    unfold alkPut
    simp only [List.getD_cons_zero] at h
    rw [if_pos h]
    simp
  | g :: gs, j + 1, hj, h, hn => by
    have h0 := hn 0 (by omega)
    simp only [List.getD_cons_zero] at h0
    unfold alkPut
    rw [if_neg (by simp [h0]), alkPut_at (j := j) (by simpa using hj) (by simpa using h) fun i hi => by have := hn (i + 1) (by omega); simpa using this]
    simp
/-- Which rows cover a component. -/
def cov (rows : List (List Int × Bool)) (c : Nat) : List Bool := rows.map fun r => decide ((c : Int) ∈ r.1)
def alkFit (rows : List (List Int × Bool)) (c : Nat) (g : List Int) : Bool := decide (cov rows (g.headD 0).toNat = cov rows c)
def alike (rows : List (List Int × Bool)) : Nat → List (List Int)
  | 0 => []
  | n + 1 => alkPut (alkFit rows n) n (alike rows n)
def total (l : List (List Int)) : Nat := (l.map List.length).sum

theorem mem_alkPut {p : List Int → Bool} {c : Int} : ∀ {out : List (List Int)} {g : List Int}, g ∈ alkPut p c out → g ∈ out ∨ (∃ h ∈ out, p h = true ∧ g = h ++ [c]) ∨ g = [c]
  | [], g, h => by
    unfold alkPut at h
    exact .inr (.inr (by simpa using h))
  | x :: xs, g, h => by
    unfold alkPut at h
    split at h
    · rename_i hp
      rcases List.mem_cons.1 h with rfl | h
      · exact .inr (.inl ⟨x, List.mem_cons_self .., hp, rfl⟩)
      · exact .inl (List.mem_cons_of_mem _ h)
    · rcases List.mem_cons.1 h with rfl | h
      · exact .inl (List.mem_cons_self ..)
      · rcases mem_alkPut h with h | ⟨y, h1, h2⟩ | h
        · exact .inl (List.mem_cons_of_mem _ h)
        · exact .inr (.inl ⟨y, List.mem_cons_of_mem _ h1, h2⟩)
        · exact .inr (.inr h)
theorem total_alkPut {p : List Int → Bool} {c : Int} : ∀ {out : List (List Int)}, total (alkPut p c out) = total out + 1
  | [] => rfl
  | x :: xs => by
    unfold alkPut
    split
    · simp [total]; omega
    · have := total_alkPut (p := p) (c := c) (out := xs)
      simp only [total, List.map_cons, List.sum_cons] at this ⊢
      omega
theorem len_alkPut {p : List Int → Bool} {c : Int} : ∀ {out : List (List Int)}, (alkPut p c out).length ≤ out.length + 1
  | [] => by simp [alkPut]
  | x :: xs => by
    unfold alkPut
    split
    · simp
    · have := len_alkPut (p := p) (c := c) (out := xs)
      simp only [List.length_cons]; omega
theorem alike_ok (rows : List (List Int × Bool)) : ∀ n, total (alike rows n) = n ∧ (alike rows n).length ≤ n ∧ ∀ g ∈ alike rows n, 0 < g.length ∧ g.length ≤ n ∧ ∀ x ∈ g, 0 ≤ x ∧ x < n ∧ cov rows x.toNat = cov rows (g.headD 0).toNat
  | 0 => ⟨rfl, by simp [alike], fun g hg => by simp [alike] at hg⟩
  | n + 1 => by
    obtain ⟨h1, h2, h3⟩ := alike_ok rows n
    refine ⟨by unfold alike; rw [total_alkPut, h1], by unfold alike; exact Nat.le_trans len_alkPut (by omega), fun g hg => ?_⟩
    unfold alike at hg
    rcases mem_alkPut hg with hg | ⟨h, hh, hp, rfl⟩ | rfl
    · obtain ⟨a, b, d⟩ := h3 g hg
      exact ⟨a, by omega, fun x hx => by obtain ⟨e1, e2, e3⟩ := d x hx; exact ⟨e1, by omega, e3⟩⟩
    · obtain ⟨a, b, d⟩ := h3 h hh
      have e : (h ++ [(n : Int)]).headD 0 = h.headD 0 := by
        cases h with
        | nil => simp at a
        | cons y ys => rfl
      refine ⟨by simp, by simp; omega, fun x hx => ?_⟩
      rw [e]
      rcases List.mem_append.1 hx with hx | hx
      · obtain ⟨e1, e2, e3⟩ := d x hx; exact ⟨e1, by omega, e3⟩
      · obtain rfl : x = n := by simpa using hx
        unfold alkFit at hp
        exact ⟨by omega, by omega, by rw [Int.toNat_natCast]; exact (of_decide_eq_true hp).symm⟩
    · exact ⟨by simp, by simp, fun x hx => by
        obtain rfl : x = n := by simpa using hx
        exact ⟨by omega, by omega, rfl⟩⟩
/-- Components that are covered alike have one tally. -/
theorem tal_cov {rows : List (List Int × Bool)} {c d : Nat} (h : cov rows c = cov rows d) : tal rows c = tal rows d := by
  have hr : ∀ r ∈ rows, decide ((c : Int) ∈ r.1) = decide ((d : Int) ∈ r.1) := by
    unfold cov at h
    exact fun r hr => List.map_inj_left.1 h r hr
  have h1 : fh rows c = fh rows d := by unfold fh; exact List.countP_congr fun r hr' => by rw [hr r hr']
  have h2 : ph rows c = ph rows d := by unfold ph; exact List.countP_congr fun r hr' => by rw [hr r hr']
  funext j
  unfold tal
  rw [h1, h2]
end Go.Proofs.YtfpmbjobieeidaaGreat.Rk
namespace Go.Proofs.YtfpmbjobieeidaaGreat.Rk

def rowOf (rows : List (List Int × Bool)) (i : Nat) : List Int := (rows.getD i ([], false)).1
def maskTo (rows : List (List Int × Bool)) : Nat → Nat → Nat
  | 0, _ => 0
  | k + 1, c => maskTo rows k c ||| (if (c : Int) ∈ rowOf rows k then 2 ^ k else 0)
/-- Within row k. -/
def midMask (rows : List (List Int × Bool)) (k : Nat) (hits : List Int) (c : Nat) : Nat := maskTo rows k c ||| (if (c : Int) ∈ hits then 2 ^ k else 0)
theorem midMask_nil (rows : List (List Int × Bool)) (k : Nat) : midMask rows k [] = maskTo rows k := by funext c; simp [midMask]
theorem midMask_row (rows : List (List Int × Bool)) (k : Nat) : midMask rows k (rowOf rows k) = maskTo rows (k + 1) := by funext c; rfl
theorem midMask_snoc (rows : List (List Int × Bool)) (k : Nat) (hits : List Int) (x c : Nat) : midMask rows k (hits ++ [(x : Int)]) c = if c = x then midMask rows k hits c ||| 2 ^ k else midMask rows k hits c := by
  unfold midMask
  by_cases e : c = x
  · subst e
    rw [if_pos rfl]
    by_cases h : (c : Int) ∈ hits
    · simp [h, Nat.or_assoc]
    · simp [h]
  · rw [if_neg e]
    have : ¬ (c : Int) = x := by omega
    simp [this]
theorem maskTo_lt (rows : List (List Int × Bool)) (c : Nat) : ∀ k, maskTo rows k c < 2 ^ k
  | 0 => by simp [maskTo]
  | k + 1 => by
    unfold maskTo
    refine Nat.or_lt_two_pow ?_ ?_
    · exact Nat.lt_of_lt_of_le (maskTo_lt rows c k) (Nat.pow_le_pow_right (by decide) (by omega))
    · split
      · exact Nat.pow_lt_pow_right (by decide) (by omega)
      · exact Nat.two_pow_pos _
theorem midMask_lt (rows : List (List Int × Bool)) (k : Nat) (hits : List Int) (c : Nat) : midMask rows k hits c < 2 ^ (k + 1) := by
  unfold midMask
  refine Nat.or_lt_two_pow (Nat.lt_of_lt_of_le (maskTo_lt rows c k) (Nat.pow_le_pow_right (by decide) (by omega))) ?_
  split
  · exact Nat.pow_lt_pow_right (by decide) (by omega)
  · exact Nat.two_pow_pos _
theorem maskTo_bit (rows : List (List Int × Bool)) (c i : Nat) : ∀ k, (maskTo rows k c).testBit i = decide (i < k ∧ (c : Int) ∈ rowOf rows i)
  | 0 => by simp [maskTo]
  | k + 1 => by
    unfold maskTo
    rw [Nat.testBit_or, maskTo_bit rows c i k]
    by_cases h : (c : Int) ∈ rowOf rows k
    · rw [if_pos h, Nat.testBit_two_pow]
      by_cases e : k = i
      · subst e; simp [h]
      · have e1 : i < k + 1 ↔ i < k := by omega
        simp [e, e1]
    · rw [if_neg h, Nat.zero_testBit]
      by_cases e : k = i
      · subst e; simp [h]
      · have e1 : i < k + 1 ↔ i < k := by omega
        simp [e1]
def mask (rows : List (List Int × Bool)) (c : Nat) : Nat := maskTo rows rows.length c
theorem mask_eq (rows : List (List Int × Bool)) (c d : Nat) : mask rows c = mask rows d ↔ cov rows c = cov rows d := by
  have hc : ∀ c i, i < rows.length → ((mask rows c).testBit i = true ↔ (cov rows c)[i]? = some true) := fun c i hi => by
    unfold mask cov
    rw [maskTo_bit, List.getElem?_map, List.getElem?_eq_getElem hi]
    simp [rowOf, hi]
  have hl : ∀ c, (cov rows c).length = rows.length := fun c => by simp [cov]
  constructor
  · intro h
    apply List.ext_getElem
    · rw [hl, hl]
    · intro i h1 h2
      rw [hl] at h1
      have a := hc c i h1
      have b := hc d i h1
      rw [h] at a
      rw [List.getElem?_eq_getElem (by rw [hl]; exact h1)] at a b
      have := a.symm.trans b
      cases x : (cov rows c)[i] <;> cases y : (cov rows d)[i] <;> simp_all
  · intro h
    apply Nat.eq_of_testBit_eq
    intro i
    by_cases hi : i < rows.length
    · have a := hc c i hi
      have b := hc d i hi
      rw [h] at a
      have := a.trans b.symm
      cases x : (mask rows c).testBit i <;> cases y : (mask rows d).testBit i <;> simp_all
    · unfold mask
      rw [maskTo_bit, maskTo_bit]
      simp [hi]

/-- The masks of the groups' first components. -/
def headMask (rows : List (List Int × Bool)) (g : List Int) : Nat := mask rows (g.headD 0).toNat
def heads (rows : List (List Int × Bool)) (n : Nat) : List Nat := (alike rows n).map (headMask rows)
theorem fit_iff (rows : List (List Int × Bool)) (c : Nat) (g : List Int) : alkFit rows c g = true ↔ headMask rows g = mask rows c := by
  unfold alkFit headMask
  rw [mask_eq]
  simp
theorem heads_at (rows : List (List Int × Bool)) {n j : Nat} (hj : j < (alike rows n).length) : (heads rows n)[j]? = some (headMask rows ((alike rows n).getD j [])) := by
  unfold heads
  rw [List.getElem?_map, List.getD_eq_getElem?_getD, List.getElem?_eq_getElem hj]
  rfl
theorem heads_length (rows : List (List Int × Bool)) (n : Nat) : (heads rows n).length = (alike rows n).length := by simp [heads]
theorem headMask_snoc (rows : List (List Int × Bool)) {g : List Int} (h : 0 < g.length) (c : Int) : headMask rows (g ++ [c]) = headMask rows g := by
  cases g with
  | nil => simp at h
  | cons x xs => rfl
theorem alike_miss {rows : List (List Int × Bool)} {c : Nat} (h : mask rows c ∉ heads rows c) : alike rows (c + 1) = alike rows c ++ [[(c : Int)]] ∧ heads rows (c + 1) = heads rows c ++ [mask rows c] := by
  have e : alike rows (c + 1) = alike rows c ++ [[(c : Int)]] := alkPut_new fun i hi => by
    refine Bool.eq_false_iff.2 fun hf => h ?_
    rw [← (fit_iff rows c _).1 hf]
    exact List.mem_of_getElem? (heads_at rows hi)
  refine ⟨e, ?_⟩
  unfold heads
  rw [e, List.map_append]
  simp [headMask]
theorem alike_hit {rows : List (List Int × Bool)} {c j : Nat} (hn : (heads rows c).Nodup) (hj : j < (alike rows c).length) (h : (heads rows c)[j]? = some (mask rows c)) :
    alike rows (c + 1) = (alike rows c).set j ((alike rows c).getD j [] ++ [(c : Int)]) ∧ heads rows (c + 1) = heads rows c := by
  have hfit : alkFit rows c ((alike rows c).getD j []) = true := by
    rw [fit_iff]
    rw [heads_at rows hj] at h
    injection h
  have e : alike rows (c + 1) = (alike rows c).set j ((alike rows c).getD j [] ++ [(c : Int)]) := alkPut_at hj hfit fun i hi => by
    refine Bool.eq_false_iff.2 fun hf => ?_
    have h1 := heads_at rows (n := c) (j := i) (by omega)
    rw [(fit_iff rows c _).1 hf, ← h] at h1
    have hjl : j < (heads rows c).length := by rw [heads_length]; exact hj
    have := List.pairwise_iff_getElem.1 hn i j (by omega) hjl hi
    rw [List.getElem?_eq_getElem (by omega), List.getElem?_eq_getElem hjl] at h1
    exact this (Option.some.inj h1)
  refine ⟨e, ?_⟩
  unfold heads
  rw [e, List.map_set, headMask_snoc]
  · apply List.ext_getElem?
    intro i
    by_cases hij : j = i
    · subst hij
      rw [List.getElem?_set_self (by simpa using hj), List.getElem?_map, List.getD_eq_getElem?_getD, List.getElem?_eq_getElem hj]
      rfl
    · rw [List.getElem?_set_ne hij]
  · exact ((alike_ok rows c).2.2 _ (by rw [List.getD_eq_getElem?_getD, List.getElem?_eq_getElem hj]; exact List.getElem_mem hj)).1
theorem heads_nodup (rows : List (List Int × Bool)) : ∀ n, (heads rows n).Nodup
  | 0 => by simp [heads, alike]
  | n + 1 => by
    have ih := heads_nodup rows n
    by_cases h : mask rows n ∈ heads rows n
    · obtain ⟨j, hj, e⟩ := List.mem_iff_getElem.1 h
      rw [(alike_hit (j := j) ih (by rw [← heads_length]; exact hj) (by rw [List.getElem?_eq_getElem hj, e])).2]
      exact ih
    · rw [(alike_miss h).2]
      exact List.nodup_append.2 ⟨ih, by simp, fun a ha b hb => by
        obtain rfl := List.mem_singleton.1 hb
        exact fun e => h (e ▸ ha)⟩
end Go.Proofs.YtfpmbjobieeidaaGreat.Rk
namespace Go.Proofs.YtfpmbjobieeidaaGreat.Rk

/-- Is among the faulty. -/
def faultF (xs : List Int) (k : Nat) : Bool := decide ((k : Int) ∈ xs)
/-- The greatest one of the first ones. -/
def TopTo (sc : Nat → Fr) (xs : List Int) (i c : Nat) : Prop := (c : Int) ∈ xs ∧ ∀ j, j < i → cmpF (sc (xs.getD j 0).toNat) (sc c) ≤ 0
theorem nat_mem {xs : List Int} (hp : ∀ x ∈ xs, 0 ≤ x) {i : Nat} (hi : i < xs.length) : (((xs.getD i 0).toNat : Nat) : Int) = xs.getD i 0 := by
  have := hp _ (memD (d := 0) hi); omega
theorem topTo_zero {sc : Nat → Fr} {xs : List Int} (h : 0 < xs.length) (hp : ∀ x ∈ xs, 0 ≤ x) : TopTo sc xs 0 (xs.getD 0 0).toNat :=
  ⟨by rw [nat_mem hp h]; exact memD h, fun j hj => absurd hj (by omega)⟩
theorem topTo_new {sc : Nat → Fr} {xs : List Int} {i c : Nat} (h : TopTo sc xs i c) (hi : i < xs.length) (hp : ∀ x ∈ xs, 0 ≤ x) (hgt : 0 < cmpF (sc (xs.getD i 0).toNat) (sc c)) :
    TopTo sc xs (i + 1) (xs.getD i 0).toNat := by
  refine ⟨by rw [nat_mem hp hi]; exact memD hi, fun j hj => ?_⟩
  by_cases e : j = i
  · rw [e, cmpF_self]; omega
  · have s := cmpF_swap (sc (xs.getD i 0).toNat) (sc c)
    exact cmpF_trans (h.2 j (by omega)) (by omega)
theorem topTo_old {sc : Nat → Fr} {xs : List Int} {i c : Nat} (h : TopTo sc xs i c) (hle : ¬ 0 < cmpF (sc (xs.getD i 0).toNat) (sc c)) : TopTo sc xs (i + 1) c := by
  refine ⟨h.1, fun j hj => ?_⟩
  by_cases e : j = i
  · rw [e]; omega
  · exact h.2 j (by omega)
theorem topTo_end {sc : Nat → Fr} {xs : List Int} {n c : Nat} (h : TopTo sc xs xs.length c) (hx : ∀ x ∈ xs, 0 ≤ x ∧ x < n) : Top sc n (faultF xs) c := by
  have := hx _ h.1
  refine ⟨by omega, decide_eq_true h.1, fun k hk hF => ?_⟩
  obtain ⟨j, hj, e⟩ := mem_getD (d := 0) (of_decide_eq_true hF)
  have h2 := h.2 j hj
  rwa [e, Int.toNat_natCast] at h2

theorem gtN_succ (sc : Nat → Fr) (i c : Nat) : gtN sc (i + 1) c = gtN sc i c + if 0 < cmpF (sc i) (sc c) then 1 else 0 := by
  unfold gtN; rw [List.range_succ, List.countP_append, List.countP_singleton]; simp
theorem eqN_succ (sc : Nat → Fr) (i c : Nat) : eqN sc (i + 1) c = eqN sc i c + if cmpF (sc i) (sc c) = 0 then 1 else 0 := by
  unfold eqN; rw [List.range_succ, List.countP_append, List.countP_singleton]; simp
theorem eqF_succ (sc : Nat → Fr) (i : Nat) (F : Nat → Bool) (c : Nat) : eqF sc (i + 1) F c = eqF sc i F c + if cmpF (sc i) (sc c) = 0 ∧ F i = true then 1 else 0 := by
  unfold eqF; rw [List.range_succ, List.countP_append, List.countP_singleton]
  simp only [Bool.and_eq_true, decide_eq_true_eq]
theorem step_gt {sc : Nat → Fr} {i c : Nat} {F : Nat → Bool} (h : cmpF (sc i) (sc c) = 1) : gtN sc (i + 1) c = gtN sc i c + 1 ∧ eqN sc (i + 1) c = eqN sc i c ∧ eqF sc (i + 1) F c = eqF sc i F c := by
  rw [gtN_succ, eqN_succ, eqF_succ, h]; simp
theorem step_lt {sc : Nat → Fr} {i c : Nat} {F : Nat → Bool} (h : cmpF (sc i) (sc c) ≠ 1) (h0 : cmpF (sc i) (sc c) ≠ 0) : gtN sc (i + 1) c = gtN sc i c ∧ eqN sc (i + 1) c = eqN sc i c ∧ eqF sc (i + 1) F c = eqF sc i F c := by
  have := cmpF_bounds (sc i) (sc c)
  rw [gtN_succ, eqN_succ, eqF_succ, if_neg (by omega), if_neg h0, if_neg (fun e => h0 e.1)]; simp
theorem step_eq {sc : Nat → Fr} {i c : Nat} {F : Nat → Bool} (h : cmpF (sc i) (sc c) = 0) (hF : F i = true) : gtN sc (i + 1) c = gtN sc i c ∧ eqN sc (i + 1) c = eqN sc i c + 1 ∧ eqF sc (i + 1) F c = eqF sc i F c + 1 := by
  rw [gtN_succ, eqN_succ, eqF_succ, h, hF]; simp
theorem step_eq' {sc : Nat → Fr} {i c : Nat} {F : Nat → Bool} (h : cmpF (sc i) (sc c) = 0) (hF : F i = false) : gtN sc (i + 1) c = gtN sc i c ∧ eqN sc (i + 1) c = eqN sc i c + 1 ∧ eqF sc (i + 1) F c = eqF sc i F c := by
  rw [gtN_succ, eqN_succ, eqF_succ, h, hF]; simp
theorem gtN_len (sc : Nat → Fr) (n c : Nat) : gtN sc n c ≤ n := by
  unfold gtN
  have := List.countP_le_length (l := List.range n) (p := fun k => decide (0 < cmpF (sc k) (sc c)))
  rwa [List.length_range] at this
theorem eqN_len (sc : Nat → Fr) (n c : Nat) : eqN sc n c ≤ n := by
  unfold eqN
  have := List.countP_le_length (l := List.range n) (p := fun k => decide (cmpF (sc k) (sc c) = 0))
  rwa [List.length_range] at this

section
variable {sc : Nat → Fr} {n : Nat}
/-- Two greatest ones answer alike. -/
theorem top_alike {F : Nat → Bool} {c d : Nat} (hc : Top sc n F c) (hd : Top sc n F d) : gtN sc n c = gtN sc n d ∧ eqN sc n c = eqN sc n d ∧ eqF sc n F c = eqF sc n F d :=
  have h := top_same hc hd
  ⟨gtN_zero h, eqN_zero h, eqF_zero h⟩
/-- One more faulty component never makes the effort greater. -/
theorem effort_more {F : Nat → Bool} {c o c' : Nat} (h : Top sc n F c) (ho : o < n) (h' : Top sc n (fun i => F i || decide (i = o)) c') :
    gtN sc n c' ≤ gtN sc n c ∧ gtN sc n c' + eqN sc n c' + eqF sc n F c ≤ gtN sc n c + eqN sc n c + eqF sc n (fun i => F i || decide (i = o)) c' ∧
      cmpF (mean (gtN sc n c') (eqN sc n c') (eqF sc n (fun i => F i || decide (i = o)) c')) (mean (gtN sc n c) (eqN sc n c) (eqF sc n F c)) ≤ 0 := by
  have l1 := eqF_le sc n F c
  have l2 := eqF_le sc n (fun i => F i || decide (i = o)) c'
  rcases more_top h ho with ⟨ht, hk⟩ | ⟨ht, hlt, hk⟩
  · obtain ⟨e1, e2, e3⟩ := top_alike h' ht
    refine ⟨by omega, by omega, mean_le l1 l2 (.inl ⟨e1.symm, e2.symm, by omega⟩)⟩
  · obtain ⟨e1, e2, e3⟩ := top_alike h' ht
    have g1 := gtN_less (n := n) hlt
    have g2 := geN_eq sc n o
    refine ⟨by omega, by omega, mean_le l1 l2 (.inr ⟨by omega, by omega⟩)⟩

/-- The law's count along the ranking. -/
def stepC (sc : Nat → Fr) (n : Nat) (s : Int × Int) (c : Nat) : Int × Int :=
  let f := if s.2 = 0 then 1 + (gtN sc n c : Int) else s.1
  (f, if 1 + (gtN sc n c : Int) = f then s.2 + 1 else s.2)
def countC (sc : Nat → Fr) (n : Nat) (l : List Nat) : Int × Int := l.foldl (stepC sc n) (0, 0)
theorem fold_stepC (c : Nat) : ∀ (l : List Nat) (m : Int), 0 < m → l.foldl (stepC sc n) (1 + (gtN sc n c : Int), m) = (1 + (gtN sc n c : Int), m + (l.countP fun k => decide (gtN sc n k = gtN sc n c)))
  | [], m, _ => by simp
  | k :: l, m, hm => by
    rw [List.foldl_cons]
    have e : stepC sc n (1 + (gtN sc n c : Int), m) k = (1 + (gtN sc n c : Int), m + if gtN sc n k = gtN sc n c then 1 else 0) := by
      unfold stepC
      simp only [if_neg (show ¬ m = 0 by omega)]
      by_cases h : gtN sc n k = gtN sc n c
      · rw [if_pos (by omega), if_pos h]
      · rw [if_neg (by omega), if_neg h]; simp
    rw [e]
    by_cases h : gtN sc n k = gtN sc n c
    · rw [if_pos h, fold_stepC c l (m + 1) (by omega), List.countP_cons_of_pos (by simpa using h)]
      simp only [Prod.mk.injEq, true_and]
      omega
    · rw [if_neg h, Int.add_zero, fold_stepC c l m hm, List.countP_cons_of_neg (by simpa using h)]
theorem countC_cons (c : Nat) (l : List Nat) : countC sc n (c :: l) = (1 + (gtN sc n c : Int), (((c :: l).countP fun k => decide (gtN sc n k = gtN sc n c) : Nat) : Int)) := by
  unfold countC
  rw [List.foldl_cons]
  have e : stepC sc n (0, 0) c = (1 + (gtN sc n c : Int), 1) := by simp [stepC]
  rw [e, fold_stepC c l 1 (by omega), List.countP_cons_of_pos (by simp)]
  simp only [Prod.mk.injEq, true_and]
  omega
theorem countC_top {F : Nat → Bool} {c : Nat} (h : Top sc n F c) : countC sc n ((order sc n).filter F) = (1 + (gtN sc n c : Int), (eqF sc n F c : Int)) := by
  cases hl : (order sc n).filter F with
  | nil =>
    have : c ∈ (order sc n).filter F := by
      rw [List.mem_filter, (order_perm sc n).mem_iff, List.mem_range]; exact ⟨h.1, h.2.1⟩
    rw [hl] at this
    simp at this
  | cons d r =>
    have hd := first_top hl
    have hm := many_eq hd
    obtain ⟨e1, -, e3⟩ := top_alike h hd
    rw [hl] at hm
    rw [countC_cons, hm, e1, e3]
/-- After so many standings. -/
def cntAt (sc : Nat → Fr) (n : Nat) (xs : List Int) (i : Nat) : Int × Int := countC sc n (((order sc n).take i).filter (faultF xs))
/-- After so many faulty ones at a standing. -/
def cntIn (sc : Nat → Fr) (n : Nat) (xs : List Int) (i k : Nat) : Int × Int :=
  if (((order sc n).getD i 0 : Nat) : Int) ∈ xs.take k then stepC sc n (cntAt sc n xs i) ((order sc n).getD i 0) else cntAt sc n xs i
theorem cntAt_zero (xs : List Int) : cntAt sc n xs 0 = (0, 0) := by simp [cntAt, countC]
theorem cntIn_zero (xs : List Int) (i : Nat) : cntIn sc n xs i 0 = cntAt sc n xs i := by simp [cntIn]
theorem mem_take_succ {xs : List Int} {k : Nat} (hk : k < xs.length) (x : Int) : x ∈ xs.take (k + 1) ↔ x ∈ xs.take k ∨ x = xs.getD k 0 := by
  rw [← List.take_append_getElem hk, List.mem_append, List.mem_singleton, List.getD_eq_getElem?_getD, List.getElem?_eq_getElem hk]; rfl
theorem cntIn_miss {xs : List Int} {i k : Nat} (hk : k < xs.length) (h : (((order sc n).getD i 0 : Nat) : Int) ≠ xs.getD k 0) : cntIn sc n xs i (k + 1) = cntIn sc n xs i k := by
  have e : (((order sc n).getD i 0 : Nat) : Int) ∈ xs.take (k + 1) ↔ (((order sc n).getD i 0 : Nat) : Int) ∈ xs.take k := by
    rw [mem_take_succ hk]
    exact ⟨fun e => e.resolve_right h, .inl⟩
  unfold cntIn
  simp only [e]
theorem cntIn_hit {xs : List Int} (hx : Incr n xs) {i k : Nat} (hk : k < xs.length) (h : (((order sc n).getD i 0 : Nat) : Int) = xs.getD k 0) : cntIn sc n xs i k = cntAt sc n xs i ∧ cntIn sc n xs i (k + 1) = stepC sc n (cntAt sc n xs i) ((order sc n).getD i 0) := by
  unfold cntIn
  rw [h]
  constructor
  · refine if_neg fun e => ?_
    obtain ⟨j, hj, ej⟩ := List.mem_take_iff_getElem.1 e
    have := hx.lt (i := j) (j := k) (by omega) hk
    rw [← ej, List.getD_eq_getElem?_getD, List.getElem?_eq_getElem (by omega)] at this
    simp at this
  · exact if_pos ((mem_take_succ hk _).2 (.inr rfl))
theorem cntIn_full (xs : List Int) {i : Nat} (hi : i < n) : cntIn sc n xs i xs.length = cntAt sc n xs (i + 1) := by
  have hl : i < (order sc n).length := by rw [order_length]; exact hi
  unfold cntIn cntAt
  rw [List.take_length, ← List.take_append_getElem hl, List.filter_append, List.getD_eq_getElem?_getD, List.getElem?_eq_getElem hl]
  simp only [Option.getD_some]
  by_cases h : (((order sc n)[i] : Nat) : Int) ∈ xs
  · rw [if_pos h, List.filter_cons_of_pos (by simpa [faultF] using h), List.filter_nil]
    unfold countC
    rw [List.foldl_append]
    rfl
  · rw [if_neg h, List.filter_cons_of_neg (by simpa [faultF] using h), List.filter_nil, List.append_nil]
theorem cntAt_full {xs : List Int} {c : Nat} (h : Top sc n (faultF xs) c) : cntAt sc n xs n = (1 + (gtN sc n c : Int), (eqF sc n (faultF xs) c : Int)) := by
  unfold cntAt
  rw [List.take_of_length_le (by rw [order_length]; exact Nat.le_refl _)]
  exact countC_top h
end

/-- The faulty ones with one more. -/
def moreL (xs : List Int) (o : Int) (i : Nat) : List Int := ((List.range i).filter fun k : Nat => decide ((k : Int) = o) || decide ((k : Int) ∈ xs)).map fun k : Nat => (k : Int)
theorem moreL_zero (xs : List Int) (o : Int) : moreL xs o 0 = [] := rfl
theorem moreL_in {xs : List Int} {o : Int} {i : Nat} (h : (i : Int) = o ∨ (i : Int) ∈ xs) : moreL xs o (i + 1) = moreL xs o i ++ [(i : Int)] := by
  unfold moreL
  rw [List.range_succ, List.filter_append, List.map_append, List.filter_cons_of_pos (by simpa using h)]
  rfl
theorem moreL_out {xs : List Int} {o : Int} {i : Nat} (h : ¬ ((i : Int) = o ∨ (i : Int) ∈ xs)) : moreL xs o (i + 1) = moreL xs o i := by
  unfold moreL
  rw [List.range_succ, List.filter_append, List.map_append, List.filter_cons_of_neg (by simpa using h)]
  simp
theorem moreL_len (xs : List Int) (o : Int) (i : Nat) : (moreL xs o i).length ≤ i := by
  unfold moreL
  have := List.length_filter_le (fun k : Nat => decide ((k : Int) = o) || decide ((k : Int) ∈ xs)) (List.range i)
  rw [List.length_range] at this
  rwa [List.length_map]
theorem moreL_mem {xs : List Int} {o : Int} {n : Nat} (x : Int) : x ∈ moreL xs o n ↔ (0 ≤ x ∧ x < n) ∧ (x = o ∨ x ∈ xs) := by
  unfold moreL
  rw [List.mem_map]
  constructor
  · rintro ⟨k, hk, rfl⟩
    rw [List.mem_filter, List.mem_range] at hk
    exact ⟨by omega, by simpa using hk.2⟩
  · rintro ⟨h1, h2⟩
    refine ⟨x.toNat, ?_, by omega⟩
    rw [List.mem_filter, List.mem_range, show ((x.toNat : Nat) : Int) = x by omega]
    exact ⟨by omega, by simpa using h2⟩
theorem moreL_incr (xs : List Int) (o : Int) (n : Nat) : Incr n (moreL xs o n) := by
  refine Incr.of_pairwise ?_ fun x hx => ((moreL_mem x).1 hx).1
  unfold moreL
  rw [List.pairwise_map]
  refine (List.pairwise_lt_range.sublist List.filter_sublist).imp fun h => ?_
  omega
theorem moreL_pos {xs : List Int} {o : Int} {n : Nat} (h0 : 0 ≤ o) (h1 : o < n) : 0 < (moreL xs o n).length :=
  List.length_pos_of_mem ((moreL_mem o).2 ⟨⟨h0, h1⟩, .inl rfl⟩)
theorem moreL_fault {xs : List Int} {o n : Nat} (h1 : o < n) (hx : ∀ x ∈ xs, 0 ≤ x ∧ x < (n : Int)) : faultF (moreL xs o n) = fun i => faultF xs i || decide (i = o) := by
  funext i
  unfold faultF
  rw [Bool.eq_iff_iff]
  simp only [decide_eq_true_eq, Bool.or_eq_true, moreL_mem]
  constructor
  · rintro ⟨_, h | h⟩
    · exact .inr (by omega)
    · exact .inl h
  · rintro (h | h)
    · exact ⟨hx _ h, .inr h⟩
    · exact ⟨by omega, .inl (by omega)⟩
end Go.Proofs.YtfpmbjobieeidaaGreat.Rk
namespace Go.Proofs.YtfpmbjobieeidaaGreat.Rk
section
variable {sc : Nat → Fr} {n : Nat}
theorem stepC_bounds (s : Int × Int) (c : Nat) (h : 0 ≤ s.2) : 0 ≤ (stepC sc n s c).2 ∧ (stepC sc n s c).2 ≤ s.2 + 1 := by
  unfold stepC
  simp only
  split <;> omega
theorem fold_bounds : ∀ (l : List Nat) (s : Int × Int), 0 ≤ s.2 → 0 ≤ (l.foldl (stepC sc n) s).2 ∧ (l.foldl (stepC sc n) s).2 ≤ s.2 + l.length
  | [], s, h => by simp [h]
  | c :: l, s, h => by
    have h1 := stepC_bounds (sc := sc) (n := n) s c h
    have h2 := fold_bounds l (stepC sc n s c) h1.1
    simp only [List.foldl_cons, List.length_cons]
    omega
theorem cntAt_bounds (xs : List Int) (i : Nat) : 0 ≤ (cntAt sc n xs i).2 ∧ (cntAt sc n xs i).2 ≤ i := by
  have h := fold_bounds (sc := sc) (n := n) (((order sc n).take i).filter (faultF xs)) (0, 0) (by decide)
  have h1 := List.length_filter_le (faultF xs) ((order sc n).take i)
  have h2 := List.length_take_le i (order sc n)
  unfold cntAt countC
  simp only at h
  omega
theorem cntIn_bounds (xs : List Int) (i k : Nat) : 0 ≤ (cntIn sc n xs i k).2 ∧ (cntIn sc n xs i k).2 ≤ i + 1 := by
  have h := cntAt_bounds (sc := sc) (n := n) xs i
  unfold cntIn
  split
  · have := stepC_bounds (sc := sc) (n := n) (cntAt sc n xs i) ((order sc n).getD i 0) h.1
    omega
  · omega
/-- A faulty one at a standing: what the law's counters turn into. -/
theorem cntC_hit {xs : List Int} (hx : Incr n xs) {i k : Nat} (hi : i < n) (hk : k < xs.length) (h : ((((ranking sc n).getD i noStn).1 : Nat) : Int) = xs.getD k 0) :
    ∃ f m : Int, cntIn sc n xs i k = (f, m) ∧ 0 ≤ m ∧ m ≤ i ∧ cntIn sc n xs i (k + 1) = (if m = 0 then ((ranking sc n).getD i noStn).2.2.1 else f, if ((ranking sc n).getD i noStn).2.2.1 = (if m = 0 then ((ranking sc n).getD i noStn).2.2.1 else f) then m + 1 else m) := by
  obtain ⟨h1, h2⟩ := ranking_getD (sc := sc) hi
  rw [h2] at h ⊢
  have h : (((order sc n).getD i 0 : Nat) : Int) = xs.getD k 0 := h
  obtain ⟨h3, h4⟩ := cntIn_hit (sc := sc) hx hk h
  have h5 := cntAt_bounds (sc := sc) (n := n) xs i
  exact ⟨_, _, h3, h5.1, h5.2, h4⟩
theorem cntC_miss {xs : List Int} {i k : Nat} (hi : i < n) (hk : k < xs.length) (h : ((((ranking sc n).getD i noStn).1 : Nat) : Int) ≠ xs.getD k 0) : cntIn sc n xs i (k + 1) = cntIn sc n xs i k := by
  rw [(ranking_getD (sc := sc) hi).2] at h
  exact cntIn_miss hk h
end
theorem mean_fb {b t k : Nat} (hb : b ≤ 256) (ht : t ≤ 256) (hk : k ≤ t) : Fb 100000 100000 (mean b t k) := by
  have h1 : Fb 256 1 (ov (b : Int) 1) := ov_fb (by omega) (by decide) (by decide)
  have h2 : Fb 257 257 (ov ((t : Int) + 1) ((k : Int) + 1)) := ov_fb (by omega) (by omega) (by decide)
  exact (pl_fb h1 h2).mono (by decide) (by decide)
end Go.Proofs.YtfpmbjobieeidaaGreat.Rk
namespace Go.Proofs.YtfpmbjobieeidaaGreat.Rk
section
variable {sc : Nat → Fr} {n : Nat}
theorem gtN_lt {c d : Nat} (hd : d < n) (h : cmpF (sc c) (sc d) < 0) : gtN sc n d < gtN sc n c := by
  have h1 := gtN_less (n := n) h
  have h2 := geN_eq sc n d
  have h3 : 0 < eqN sc n d := by
    unfold eqN
    exact List.countP_pos_iff.2 ⟨d, List.mem_range.2 hd, by rw [cmpF_self]; rfl⟩
  omega
theorem cmp_of_gtN {c d : Nat} (hc : c < n) (h : gtN sc n d < gtN sc n c) : cmpF (sc c) (sc d) < 0 := by
  have s := cmpF_swap (sc c) (sc d)
  rcases Int.lt_or_le (cmpF (sc c) (sc d)) 0 with h1 | h1
  · exact h1
  · rcases Int.lt_or_le (cmpF (sc d) (sc c)) 0 with h2 | h2
    · have := gtN_lt (sc := sc) hc h2; omega
    · have := gtN_zero (n := n) (show cmpF (sc d) (sc c) = 0 by omega); omega
theorem cmp_of_le {c d : Nat} (hc : c < n) (h : gtN sc n d ≤ gtN sc n c) : cmpF (sc c) (sc d) ≤ 0 := by
  have s := cmpF_swap (sc c) (sc d)
  rcases Int.lt_or_le 0 (cmpF (sc c) (sc d)) with h1 | h1
  · have := gtN_lt (sc := sc) hc (show cmpF (sc d) (sc c) < 0 by omega); omega
  · exact h1
/-- The order that insertion has laid of the first ones. -/
def RefOrd (sc : Nat → Fr) (k : Nat) (l : List Nat) : Prop := l.Perm (List.range k) ∧ l.Pairwise fun a b => ahead sc a b = true
theorem refOrd_zero : RefOrd sc 0 [] := ⟨List.Perm.refl _, List.Pairwise.nil⟩
theorem RefOrd.length {k : Nat} {l : List Nat} (h : RefOrd sc k l) : l.length = k := by rw [h.1.length_eq, List.length_range]
theorem RefOrd.mem {k : Nat} {l : List Nat} (h : RefOrd sc k l) {a : Nat} (ha : a ∈ l) : a < k := List.mem_range.1 (h.1.mem_iff.1 ha)
theorem RefOrd.ins {k i : Nat} {l : List Nat} (h : RefOrd sc k l) (hk : k < n) (hi : i ≤ l.length) (h1 : ∀ p, i ≤ p → p < l.length → gtN sc n k < gtN sc n (l.getD p 0)) (h2 : i = 0 ∨ gtN sc n (l.getD (i - 1) 0) ≤ gtN sc n k) :
    RefOrd sc (k + 1) (l.take i ++ k :: l.drop i) := by
  refine ⟨?_, ?_⟩
  · rw [List.range_succ]
    refine (List.perm_middle).trans ?_
    rw [List.take_append_drop]
    exact ((h.1.cons k).trans (List.perm_append_comm (l₁ := [k]) (l₂ := List.range k)))
  · have hs := h.2
    have hfront : ∀ a ∈ l.take i, ahead sc a k = true := fun a ha => by
      obtain ⟨p, hp, rfl⟩ := List.mem_take_iff_getElem.1 ha
      have hpl : p < l.length := by omega
      have hmk : l[p] < k := h.mem (List.getElem_mem _)
      have hle : cmpF (sc k) (sc l[p]) ≤ 0 := by
        rcases h2 with h2 | h2
        · omega
        · have hq : i - 1 < l.length := by omega
          rw [List.getD_eq_getElem?_getD, List.getElem?_eq_getElem hq] at h2
          simp only [Option.getD_some] at h2
          have hc := cmp_of_le (sc := sc) hk h2
          by_cases e : p = i - 1
          · subst e; exact hc
          · have ha := (List.pairwise_iff_getElem.1 hs) p (i - 1) hpl hq (by omega)
            unfold ahead at ha
            simp only [decide_eq_true_eq] at ha
            exact cmpF_trans hc (by omega)
      unfold ahead
      simp only [decide_eq_true_eq]
      omega
    have hback : ∀ b ∈ l.drop i, ahead sc k b = true := fun b hb => by
      obtain ⟨p, hp, rfl⟩ := List.mem_drop_iff_getElem.1 hb
      have hpl : i + p < l.length := by omega
      have hg := h1 (i + p) (by omega) hpl
      rw [List.getD_eq_getElem?_getD, List.getElem?_eq_getElem hpl] at hg
      have hmk : l[i + p] < k := h.mem (List.getElem_mem _)
      have hc := cmp_of_gtN (sc := sc) (n := n) (c := l[i + p]) (d := k) (by omega) hg
      unfold ahead
      simp only [decide_eq_true_eq]
      exact .inl hc
    rw [List.pairwise_append, List.pairwise_cons]
    refine ⟨hs.sublist (List.take_sublist _ _), ⟨fun b hb => hback b hb, hs.sublist (List.drop_sublist _ _)⟩, fun a ha b hb => ?_⟩
    rcases List.mem_cons.1 hb with rfl | hb
    · exact hfront a ha
    · exact ahead_trans sc a k b (hfront a ha) (hback b hb)
theorem RefOrd.full {l : List Nat} (h : RefOrd sc n l) : l = order sc n := order_unique h.1 h.2
theorem geN_succ (sc : Nat → Fr) (i c : Nat) : geN sc (i + 1) c = geN sc i c + if 0 ≤ cmpF (sc i) (sc c) then 1 else 0 := by
  unfold geN; rw [List.range_succ, List.countP_append, List.countP_singleton]; simp
theorem gtN_zero_ (sc : Nat → Fr) (c : Nat) : gtN sc 0 c = 0 := rfl
theorem geN_zero_ (sc : Nat → Fr) (c : Nat) : geN sc 0 c = 0 := rfl
theorem geN_len (sc : Nat → Fr) (n c : Nat) : geN sc n c ≤ n := geN_le sc n c
end
end Go.Proofs.YtfpmbjobieeidaaGreat.Rk
