/-
  Stable sorting: no program in sight.
  Stable sorting by blocks: no program in sight.
-/
import Derived.Sort.LotA
namespace Go.Proofs.YtfpmbjobieeidaaGreat.Rk
open Go.Sort
section
variable {α : Type} [Inhabited α] {lt : α → α → Bool} {ix : α → Nat}
/-- Less, or equal and ahead. -/
def ltx (lt : α → α → Bool) (ix : α → Nat) (x y : α) : Bool := lt x y || (!lt y x && decide (ix x < ix y))
omit [Inhabited α] in
theorem ltx_of_lt {x y : α} (h : lt x y = true) : ltx lt ix x y = true := by unfold ltx; rw [h]; rfl
omit [Inhabited α] in
theorem ltx_iff {x y : α} : ltx lt ix x y = true ↔ lt x y = true ∨ lt y x = false ∧ ix x < ix y := by
  unfold ltx; cases lt x y <;> cases lt y x <;> simp
omit [Inhabited α] in
theorem ltx_not {x y : α} : ltx lt ix x y = false ↔ lt x y = false ∧ (lt y x = true ∨ ix y ≤ ix x) := by
  unfold ltx; cases lt x y <;> cases lt y x <;> simp
omit [Inhabited α] in
theorem not_of_lt (hS : SWO lt) {x y : α} (h : lt x y = true) : ltx lt ix y x = false := ltx_not.2 ⟨hS.asymmA h, .inl h⟩
omit [Inhabited α] in
theorem not_of_ahead {x y : α} (h : lt y x = false) (hi : ix x ≤ ix y) : ltx lt ix y x = false := ltx_not.2 ⟨h, .inr hi⟩
omit [Inhabited α] in
theorem ltx_swo (hS : SWO lt) : SWO (ltx lt ix) where
  irrefl x := ltx_not.2 ⟨hS.irrefl x, .inr (Nat.le_refl _)⟩
  trans x y z h1 h2 := by
    rw [ltx_iff] at *
    rcases h1 with h1 | ⟨h1, i1⟩ <;> rcases h2 with h2 | ⟨h2, i2⟩
    · exact .inl (hS.trans _ _ _ h1 h2)
    · cases hxz : lt x z with
      | true => exact .inl rfl
      | false => have := hS.ntrans _ _ _ hxz h2; rw [this] at h1; cases h1
    · cases hxz : lt x z with
      | true => exact .inl rfl
      | false => have := hS.ntrans _ _ _ h1 hxz; rw [this] at h2; cases h2
    · exact .inr ⟨hS.ntrans _ _ _ h2 h1, by omega⟩
  ntrans x y z h1 h2 := by
    rw [ltx_not] at *
    obtain ⟨h1, i1⟩ := h1
    obtain ⟨h2, i2⟩ := h2
    refine ⟨hS.ntrans _ _ _ h1 h2, ?_⟩
    cases hzx : lt z x with
    | true => exact .inl rfl
    | false =>
      rcases i1 with i1 | i1
      · have := hS.ntrans _ _ _ h2 hzx; rw [this] at i1; cases i1
      · rcases i2 with i2 | i2
        · have := hS.ntrans _ _ _ hzx h1; rw [this] at i2; cases i2
        · exact .inr (by omega)

/-! ### The insertion sort is stable -/
theorem insInner_stable (a : Nat) : ∀ (j : Nat) (d : Array α), j < d.size → (∀ q, a ≤ q → q < j → ix d[q]! < ix d[j]!) → insInner lt a j d = insInner (ltx lt ix) a j d
  | 0, d, _, _ => by unfold insInner; rfl
  | j + 1, d, hj, h => by
    unfold insInner
    by_cases hja : j + 1 > a
    · have hix := h j (by omega) (by omega)
      have e : ltx lt ix d[j + 1]! d[j]! = lt d[j + 1]! d[j]! := by
        unfold ltx
        rw [show decide (ix d[j + 1]! < ix d[j]!) = false from decide_eq_false (by omega)]
        simp
      rw [e]
      cases hl : lt d[j + 1]! d[j]!
      · simp
      · simp only [hja, decide_true, Bool.and_self, if_true]
        have g := swp_get d hj (show j < d.size by omega)
        refine insInner_stable a j _ (by rw [swp_size]; omega) (fun q h1 h2 => ?_)
        rw [g, g, if_pos rfl, if_neg (by omega), if_neg (by omega)]
        exact h q h1 (by omega)
    · simp [hja]

theorem outer_go (X : α → α → Bool) (a b i : Nat) (d : Array α) (h : i < b) : insOuter X a b i d = insOuter X a b (i + 1) (insInner X a i d) := by rw [insOuter, if_pos h]
theorem outer_stop (X : α → α → Bool) (a b i : Nat) (d : Array α) (h : ¬ i < b) : insOuter X a b i d = d := by rw [insOuter, if_neg h]
theorem insOuter_stable (hS : SWO lt) (a b : Nat) : ∀ (n i : Nat) (d : Array α), b - i = n → a < i → b ≤ d.size → SortedIn (ltx lt ix) a i d → (∀ p q, a ≤ p → p < q → i ≤ q → q < b → ix d[p]! < ix d[q]!) → insOuter lt a b i d = insOuter (ltx lt ix) a b i d
  | 0, i, d, hn, _, _, _, _ => by rw [outer_stop _ _ _ _ _ (by omega), outer_stop _ _ _ _ _ (by omega)]
  | n + 1, i, d, hn, hai, hb, hs, hx => by
    have hlt : i < b := by omega
    rw [outer_go _ _ _ _ _ hlt, outer_go _ _ _ _ _ hlt, insInner_stable a i d (by omega) (fun q h1 h2 => hx q i h1 h2 (Nat.le_refl _) hlt)]
    obtain ⟨hp, hsorted⟩ := insInner_spec (ltx_swo hS) swp_permIn permIn_refl permIn_trans a (i + 1) i (by omega) i d (by omega) (Nat.le_refl _) (by omega) ⟨fun p q hap hpq hqi _ hq => hs p q hap hpq (by omega), fun q h1 h2 => by omega⟩
    refine insOuter_stable hS a b n (i + 1) _ (by omega) (by omega) (by rw [hp.1]; exact hb) hsorted (fun p q h1 h2 h3 h4 => ?_)
    rw [hp.2.1 q (.inr h3)]
    by_cases hpi : p < i + 1
    · exact permIn_all d _ a (i + 1) (fun x => ix x < ix d[q]!) (by omega) hp (fun k k1 k2 => hx k q k1 (by omega) (by omega) h4) p h1 hpi
    · rw [hp.2.1 p (.inr (by omega))]
      exact hx p q h1 h2 (by omega) h4

theorem insertionSort_stable (hS : SWO lt) (a b : Nat) (d : Array α) (hab : a ≤ b) (hb : b ≤ d.size) (hx : ∀ p q, a ≤ p → p < q → q < b → ix d[p]! < ix d[q]!) :
    PermIn a b d (insertionSort lt d a b) ∧ SortedIn (ltx lt ix) a b (insertionSort lt d a b) := by
  have e : insertionSort lt d a b = insertionSort (ltx lt ix) d a b := by
    unfold insertionSort
    exact insOuter_stable hS a b _ (a + 1) d rfl (by omega) hb (fun i j h1 h2 h3 => by omega) (fun p q h1 h2 h3 h4 => hx p q h1 h2 h4)
  rw [e]
  exact insertionSort_holds (ltx_swo hS) d a b hab hb

/-! ### Rotations -/
/-- d' is d with the parts [x, y) and [y, z) exchanged. -/
def IsRot (x y z : Nat) (d d' : Array α) : Prop :=
  d'.size = d.size ∧ ∀ k, k < d.size → d'[k]! = if x ≤ k ∧ k < x + (z - y) then d[k + (y - x)]! else if x + (z - y) ≤ k ∧ k < z then d[k - (z - y)]! else d[k]!
theorem IsRot.perm {x y z : Nat} {d d' : Array α} (h : IsRot x y z d d') (hxy : x ≤ y) (hyz : y ≤ z) (hz : z ≤ d.size) : PermIn x z d d' := by
  obtain ⟨hs, hg⟩ := h
  refine ⟨hs, fun i hi => ?_, ?_⟩
  · by_cases hk : i < d.size
    · rw [hg i hk, if_neg (by omega), if_neg (by omega)]
    · rw [getElem!_neg _ _ (by omega), getElem!_neg _ _ (by omega)]
  · have e : (d'.extract x z).toList = (d.extract y z).toList ++ (d.extract x y).toList := by
      apply List.ext_getElem
      · simp; omega
      · intro k h1 h2
        simp at h1
        have hk := hg (x + k) (by omega)
        rw [getElem!_pos d' (x + k) (by omega)] at hk
        have e0 : (d'.extract x z).toList[k] = d'[x + k] := by simp
        rw [e0, hk]
        by_cases hlt : k < z - y
        · rw [if_pos (by omega), List.getElem_append_left (by simp; omega), getElem!_pos d _ (by omega)]
          simp
          congr 1; omega
        · rw [if_neg (by omega), if_pos (by omega), List.getElem_append_right (by simp; omega), getElem!_pos d _ (by omega)]
          simp
          congr 1; omega
    have e2 : (d.extract x z).toList = (d.extract x y).toList ++ (d.extract y z).toList := by
      apply List.ext_getElem
      · simp; omega
      · intro k h1 h2
        simp at h1
        by_cases hlt : k < y - x
        · rw [List.getElem_append_left (by simp; omega)]; simp
        · rw [List.getElem_append_right (by simp; omega)]; simp; congr 1; omega
    rw [e, e2]
    exact List.perm_append_comm
theorem IsRot.none {x z : Nat} {d : Array α} (h : x ≤ z) : IsRot x x z d d ∧ IsRot x z z d d := by
  refine ⟨⟨rfl, fun k _ => ?_⟩, ⟨rfl, fun k _ => ?_⟩⟩
  · by_cases c : x ≤ k ∧ k < x + (z - x)
    · rw [if_pos c]; simp
    · rw [if_neg c, if_neg (by omega)]
  · by_cases c : x + (z - z) ≤ k ∧ k < z
    · rw [if_neg (by omega), if_pos c]; simp
    · rw [if_neg (by omega), if_neg c]

theorem sortedJoined {X : α → α → Bool} {p q r : Nat} {d : Array α} (h1 : SortedIn X p q d) (h2 : SortedIn X q r d) (h : ∀ i j, p ≤ i → i < q → q ≤ j → j < r → X d[j]! d[i]! = false) : SortedIn X p r d := by
  intro i j hi hij hj
  by_cases hjq : j < q
  · exact h1 i j hi hij hjq
  · by_cases hiq : i < q
    · exact h i j hi hiq (by omega) hj
    · exact h2 i j (by omega) hij hj

/-- Before two sorted parts are merged. -/
structure Pre (lt : α → α → Bool) (ix : α → Nat) (a m b : Nat) (d : Array α) : Prop where
  left : SortedIn (ltx lt ix) a m d
  right : SortedIn (ltx lt ix) m b d
  ahead : ∀ i j, a ≤ i → i < m → m ≤ j → j < b → ix d[i]! < ix d[j]!
/-- Behind it. -/
def Post (lt : α → α → Bool) (ix : α → Nat) (a b : Nat) (d d' : Array α) : Prop := PermIn a b d d' ∧ SortedIn (ltx lt ix) a b d'

section
variable {a m b x z : Nat} {d d1 : Array α}
/-- Behind the exchange of the middle parts: two merges are left, and all of the first is ahead of all of the second. -/
theorem Pre.rotated (hS : SWO lt) (h : Pre lt ix a m b d) (hr : IsRot x m z d d1) (hb : b ≤ d.size) (h1 : a ≤ x) (h2 : x ≤ m) (h3 : m ≤ z) (h4 : z ≤ b)
    (B1 : x = a ∨ z = b ∨ ltx lt ix d[z]! d[x - 1]! = false) (B2 : x = m ∨ z = m ∨ ltx lt ix d[x]! d[z - 1]! = false) :
    Pre lt ix a x (x + (z - m)) d1 ∧ Pre lt ix (x + (z - m)) z b d1 ∧ (∀ i j, a ≤ i → i < x + (z - m) → x + (z - m) ≤ j → j < b → ltx lt ix d1[j]! d1[i]! = false) := by
  have X := ltx_swo (ix := ix) hS
  have g1 : ∀ k, k < x → d1[k]! = d[k]! := fun k hk => by rw [hr.2 k (by omega), if_neg (by omega), if_neg (by omega)]
  have g2 : ∀ k, x ≤ k → k < x + (z - m) → d1[k]! = d[k + (m - x)]! := fun k k1 k2 => by rw [hr.2 k (by omega), if_pos ⟨k1, k2⟩]
  have g3 : ∀ k, x + (z - m) ≤ k → k < z → d1[k]! = d[k - (z - m)]! := fun k k1 k2 => by rw [hr.2 k (by omega), if_neg (by omega), if_pos ⟨k1, k2⟩]
  have g4 : ∀ k, z ≤ k → k < b → d1[k]! = d[k]! := fun k k1 k2 => by rw [hr.2 k (by omega), if_neg (by omega), if_neg (by omega)]
  have le : ∀ {p q r : α}, ltx lt ix q p = false → ltx lt ix r q = false → ltx lt ix r p = false := fun h1 h2 => X.ntrans _ _ _ h2 h1
  have l12 : ∀ i j, a ≤ i → i < x → z ≤ j → j < b → ltx lt ix d[j]! d[i]! = false := fun i j i1 i2 j1 j2 => by
    rcases B1 with e | e | B
    · omega
    · omega
    · have s1 : ltx lt ix d[x - 1]! d[i]! = false := by
        by_cases e : i = x - 1
        · rw [e]; exact X.irrefl _
        · exact h.left i (x - 1) i1 (by omega) (by omega)
      have s2 : ltx lt ix d[j]! d[z]! = false := by
        by_cases e : z = j
        · rw [e]; exact X.irrefl _
        · exact h.right z j h3 (by omega) j2
      exact le (le s1 B) s2
  have r12 : ∀ i j, m ≤ i → i < z → x ≤ j → j < m → ltx lt ix d[j]! d[i]! = false := fun i j i1 i2 j1 j2 => by
    rcases B2 with e | e | B
    · omega
    · omega
    · have s1 : ltx lt ix d[z - 1]! d[i]! = false := by
        by_cases e : i = z - 1
        · rw [e]; exact X.irrefl _
        · exact h.right i (z - 1) i1 (by omega) (by omega)
      have s2 : ltx lt ix d[j]! d[x]! = false := by
        by_cases e : x = j
        · rw [e]; exact X.irrefl _
        · exact h.left x j h1 (by omega) j2
      exact le (le s1 B) s2
  refine ⟨⟨fun i j i1 i2 i3 => ?_, fun i j i1 i2 i3 => ?_, fun i j i1 i2 i3 i4 => ?_⟩, ⟨fun i j i1 i2 i3 => ?_, fun i j i1 i2 i3 => ?_, fun i j i1 i2 i3 i4 => ?_⟩, fun i j i1 i2 i3 i4 => ?_⟩
  · rw [g1 i (by omega), g1 j i3]; exact h.left i j i1 i2 (by omega)
  · rw [g2 i i1 (by omega), g2 j (by omega) i3]; exact h.right _ _ (by omega) (by omega) (by omega)
  · rw [g1 i i2, g2 j i3 i4]; exact h.ahead _ _ i1 (by omega) (by omega) (by omega)
  · rw [g3 i i1 (by omega), g3 j (by omega) i3]; exact h.left _ _ (by omega) (by omega) (by omega)
  · rw [g4 i i1 (by omega), g4 j (by omega) i3]; exact h.right _ _ (by omega) (by omega) (by omega)
  · rw [g3 i i1 i2, g4 j i3 i4]; exact h.ahead _ _ (by omega) (by omega) (by omega) (by omega)
  · by_cases c1 : i < x
    · rw [g1 i c1]
      by_cases c2 : j < z
      · rw [g3 j i3 c2]; exact h.left _ _ i1 (by omega) (by omega)
      · rw [g4 j (by omega) i4]; exact l12 i j i1 c1 (by omega) i4
    · rw [g2 i (by omega) i2]
      by_cases c2 : j < z
      · rw [g3 j i3 c2]; exact r12 _ _ (by omega) (by omega) (by omega) (by omega)
      · rw [g4 j (by omega) i4]; exact h.right _ _ (by omega) (by omega) i4
end

theorem permShift {a b a' b' : Nat} {d d' : Array α} (h : PermIn a b d d') (h1 : a' ≤ a) (h2 : b ≤ b') (hb : b' ≤ d.size) : PermIn a' b' d d' := permIn_mono d d' a b a' b' h1 h2 hb h

/-- Two merges of parts: a merge of the whole. -/
theorem Post.both {a m b : Nat} {d d1 d2 d3 : Array α} (hb : b ≤ d.size) (h1 : a ≤ m) (h2 : m ≤ b) (hp : PermIn a b d d1)
    (hcross : ∀ i j, a ≤ i → i < m → m ≤ j → j < b → ltx lt ix d1[j]! d1[i]! = false) (P1 : Post lt ix a m d1 d2) (P2 : Post lt ix m b d2 d3) : Post lt ix a b d d3 := by
  have s1 : d1.size = d.size := hp.1
  have s2 : d2.size = d.size := P1.1.1.trans s1
  have s3 : d3.size = d.size := P2.1.1.trans s2
  refine ⟨permIn_trans _ _ _ a b hp (permIn_trans _ _ _ a b (permShift P1.1 (Nat.le_refl _) h2 (by omega)) (permShift P2.1 h1 (Nat.le_refl _) (by omega))), sortedJoined (q := m) (fun i j i1 i2 i3 => ?_) P2.2 (fun i j i1 i2 i3 i4 => ?_)⟩
  · rw [P2.1.2.1 i (.inl (by omega)), P2.1.2.1 j (.inl i3)]
    exact P1.2 i j i1 i2 i3
  · rw [P2.1.2.1 i (.inl i2)]
    refine permIn_all d2 d3 m b (fun y => ltx lt ix y d2[i]! = false) (by omega) P2.1 (fun k k1 k2 => ?_) j i3 i4
    rw [P1.1.2.1 k (.inr k1)]
    exact permIn_all d1 d2 a m (fun y => ltx lt ix d1[k]! y = false) (by omega) P1.1 (fun l l1 l2 => hcross l k l1 l2 k1 k2) i i1 i2
theorem Post.same {a b : Nat} {d : Array α} (h : SortedIn (ltx lt ix) a b d) : Post lt ix a b d d := ⟨permIn_refl d a b, h⟩
theorem Pre.keep {a m b x y : Nat} {d d' : Array α} (h : Pre lt ix a m b d) (hp : PermIn x y d d') (hf : y ≤ a ∨ b ≤ x) (h1 : a ≤ m) (h2 : m ≤ b) : Pre lt ix a m b d' := by
  have e : ∀ k, a ≤ k → k < b → d'[k]! = d[k]! := fun k h1 h2 => hp.2.1 k (by omega)
  exact ⟨fun i j i1 i2 i3 => by rw [e i i1 (by omega), e j (by omega) (by omega)]; exact h.left i j i1 i2 i3,
      fun i j i1 i2 i3 => by rw [e i (by omega) (by omega), e j (by omega) i3]; exact h.right i j i1 i2 i3,
      fun i j i1 i2 i3 i4 => by rw [e i i1 (by omega), e j (by omega) i4]; exact h.ahead i j i1 i2 i3 i4⟩

/-! ### What the loops do -/
/-- d' is d with [a, a + n) and [b, b + n) exchanged. -/
def SwR (a b n : Nat) (d d' : Array α) : Prop :=
  d'.size = d.size ∧ ∀ k, k < d.size → d'[k]! = if a ≤ k ∧ k < a + n then d[k + (b - a)]! else if b ≤ k ∧ k < b + n then d[k - (b - a)]! else d[k]!
theorem SwR.zero (a b : Nat) (d : Array α) : SwR a b 0 d d := ⟨rfl, fun k _ => by rw [if_neg (by omega), if_neg (by omega)]⟩
theorem SwR.step {a b n : Nat} {d d' : Array α} (h : SwR a b n d d') (hab : a + n < b) (hb : b + n < d.size) : SwR a b (n + 1) d (swp d' (a + n) (b + n)) := by
  have hs := h.1
  refine ⟨by rw [swp_size]; exact hs, fun k hk => ?_⟩
  rw [swp_get d' (by omega) (by omega), h.2 _ (by omega), h.2 _ (by omega), h.2 k hk]
  rw [if_neg (show ¬ (a ≤ a + n ∧ a + n < a + n) by omega), if_neg (show ¬ (b ≤ a + n ∧ a + n < b + n) by omega), if_neg (show ¬ (a ≤ b + n ∧ b + n < a + n) by omega), if_neg (show ¬ (b ≤ b + n ∧ b + n < b + n) by omega)]
  by_cases c1 : k = b + n
  · rw [if_pos c1, if_neg (by omega), if_pos (by omega)]; congr 1; omega
  · rw [if_neg c1]
    by_cases c2 : k = a + n
    · rw [if_pos c2, if_pos (by omega)]; congr 1; omega
    · rw [if_neg c2]
      by_cases c3 : a ≤ k ∧ k < a + n
      · rw [if_pos c3, if_pos (by omega)]
      · rw [if_neg c3]
        by_cases c4 : b ≤ k ∧ k < b + n
        · rw [if_pos c4, if_neg (by omega), if_pos (by omega)]
        · rw [if_neg c4, if_neg (by omega), if_neg (by omega)]

/-- The first part is the longer one. -/
theorem rot_long {m i j : Nat} {d d1 d2 : Array α} (h1 : SwR (m - i) m j d d1) (h2 : IsRot (m - (i - j)) m (m + j) d1 d2) (hi : i ≤ m) (hij : j < i) (hb : m + j ≤ d.size) : IsRot (m - i) m (m + j) d d2 := by
  have hs := h1.1
  refine ⟨h2.1.trans hs, fun k hk => ?_⟩
  rw [h2.2 k (by omega)]
  by_cases c1 : m - i ≤ k ∧ k < m - i + (m + j - m)
  · rw [if_pos c1, if_neg (by omega), if_neg (by omega), h1.2 k hk, if_pos (by omega)]
  · rw [if_neg c1]
    by_cases c2 : m - i + (m + j - m) ≤ k ∧ k < m + j
    · rw [if_pos c2]
      by_cases c3 : m - (i - j) ≤ k ∧ k < m - (i - j) + (m + j - m)
      · rw [if_pos c3, h1.2 _ (by omega)]
        by_cases c4 : m ≤ k + (m - (m - (i - j))) ∧ k + (m - (m - (i - j))) < m + j
        · rw [if_neg (by omega), if_pos c4]; congr 1; omega
        · exfalso; omega
      · rw [if_neg c3, if_pos (by omega), h1.2 _ (by omega), if_neg (by omega), if_neg (by omega)]
    · rw [if_neg c2, if_neg (by omega), if_neg (by omega), h1.2 k hk, if_neg (by omega), if_neg (by omega)]
/-- The second part is the longer one. -/
theorem rot_short {m i j : Nat} {d d1 d2 : Array α} (h1 : SwR (m - i) (m + j - i) i d d1) (h2 : IsRot (m - i) m (m + (j - i)) d1 d2) (hi : i ≤ m) (hij : i < j) (hb : m + j ≤ d.size) : IsRot (m - i) m (m + j) d d2 := by
  have hs := h1.1
  refine ⟨h2.1.trans hs, fun k hk => ?_⟩
  rw [h2.2 k (by omega)]
  by_cases c1 : m - i ≤ k ∧ k < m - i + (m + j - m)
  · rw [if_pos c1]
    by_cases c2 : m - i ≤ k ∧ k < m - i + (m + (j - i) - m)
    · rw [if_pos c2, h1.2 _ (by omega), if_neg (by omega), if_neg (by omega)]
    · rw [if_neg c2]
      by_cases c3 : m - i + (m + (j - i) - m) ≤ k ∧ k < m + (j - i)
      · rw [if_pos c3, h1.2 _ (by omega), if_pos (by omega)]; congr 1; omega
      · exfalso; omega
  · rw [if_neg c1]
    by_cases c2 : m - i + (m + j - m) ≤ k ∧ k < m + j
    · rw [if_pos c2, if_neg (by omega), if_neg (by omega), h1.2 k hk, if_neg (by omega), if_pos (by omega)]; congr 1; omega
    · rw [if_neg c2, if_neg (by omega), if_neg (by omega), h1.2 k hk, if_neg (by omega), if_neg (by omega)]
theorem rot_even {m i : Nat} {d d1 : Array α} (h1 : SwR (m - i) m i d d1) (hi : i ≤ m) : IsRot (m - i) m (m + i) d d1 := by
  refine ⟨h1.1, fun k hk => ?_⟩
  rw [h1.2 k hk]
  by_cases c1 : m - i ≤ k ∧ k < m - i + i
  · rw [if_pos c1, if_pos (by omega)]
  · rw [if_neg c1]
    by_cases c2 : m ≤ k ∧ k < m + i
    · rw [if_pos c2, if_neg (by omega), if_pos (by omega)]; congr 1; omega
    · rw [if_neg c2, if_neg (by omega), if_neg (by omega)]

/-- One element to the right, one to the left. -/
theorem rot_right {a k : Nat} {d d' : Array α} (h : IsRot a (a + 1) (k + 1) d d') (hak : a ≤ k) (hb : k + 1 < d.size) : IsRot a (a + 1) (k + 1 + 1) d (swp d' k (k + 1)) := by
  have hs := h.1
  refine ⟨by rw [swp_size]; exact hs, fun q hq => ?_⟩
  rw [swp_get d' (by omega) (by omega), h.2 _ (by omega), h.2 _ (by omega), h.2 q hq]
  rw [if_neg (show ¬ (a ≤ k ∧ k < a + (k + 1 - (a + 1))) by omega), if_pos (show a + (k + 1 - (a + 1)) ≤ k ∧ k < k + 1 by omega), if_neg (show ¬ (a ≤ k + 1 ∧ k + 1 < a + (k + 1 - (a + 1))) by omega), if_neg (show ¬ (a + (k + 1 - (a + 1)) ≤ k + 1 ∧ k + 1 < k + 1) by omega)]
  by_cases c1 : q = k + 1
  · rw [if_pos c1, if_neg (by omega), if_pos (by omega)]; congr 1; omega
  · rw [if_neg c1]
    by_cases c2 : q = k
    · rw [if_pos c2, if_pos (by omega)]; congr 1; omega
    · rw [if_neg c2]
      by_cases c3 : a ≤ q ∧ q < a + (k + 1 - (a + 1))
      · rw [if_pos c3, if_pos (by omega)]
      · rw [if_neg c3, if_neg (by omega), if_neg (by omega), if_neg (by omega)]
theorem rot_left {k m : Nat} {d d' : Array α} (h : IsRot (k + 1) m (m + 1) d d') (hak : k + 1 ≤ m) (hb : m < d.size) : IsRot k m (m + 1) d (swp d' (k + 1) k) := by
  have hs := h.1
  refine ⟨by rw [swp_size]; exact hs, fun q hq => ?_⟩
  rw [swp_get d' (by omega) (by omega), h.2 _ (by omega), h.2 _ (by omega), h.2 q hq]
  rw [if_neg (show ¬ (k + 1 ≤ k ∧ k < k + 1 + (m + 1 - m)) by omega), if_neg (show ¬ (k + 1 + (m + 1 - m) ≤ k ∧ k < m + 1) by omega), if_pos (show k + 1 ≤ k + 1 ∧ k + 1 < k + 1 + (m + 1 - m) by omega)]
  by_cases c1 : q = k
  · rw [if_pos c1, if_pos (by omega)]; congr 1; omega
  · rw [if_neg c1]
    by_cases c2 : q = k + 1
    · rw [if_pos c2, if_neg (by omega), if_pos (by omega)]; congr 1; omega
    · rw [if_neg c2, if_neg (by omega)]
      by_cases c3 : k + 1 + (m + 1 - m) ≤ q ∧ q < m + 1
      · rw [if_pos c3, if_neg (by omega), if_pos (by omega)]
      · rw [if_neg c3, if_neg (by omega), if_neg (by omega)]

/-- A merge whose first part is one element, which goes ahead of place i. -/
theorem Post.one_left (hS : SWO lt) {a b i : Nat} {d d1 : Array α} (h : Pre lt ix a (a + 1) b d) (hr : IsRot a (a + 1) i d d1) (hb : b ≤ d.size) (h3 : a + 1 ≤ i) (h4 : i ≤ b)
    (c1 : i = a + 1 ∨ lt d[i - 1]! d[a]! = true) (c2 : i = b ∨ lt d[i]! d[a]! = false) : Post lt ix a b d d1 := by
  obtain ⟨_, q2, q3⟩ := h.rotated hS hr hb (Nat.le_refl _) (by omega) h3 h4 (.inl rfl) (c1.elim (fun e => .inr (.inl e)) (fun e => .inr (.inr (not_of_lt hS e))))
  obtain ⟨q1, _, _⟩ := h.rotated hS hr hb (Nat.le_refl _) (by omega) h3 h4 (.inl rfl) (c1.elim (fun e => .inr (.inl e)) (fun e => .inr (.inr (not_of_lt hS e))))
  refine ⟨permShift (hr.perm (by omega) h3 (by omega)) (Nat.le_refl _) h4 hb, sortedJoined q1.right (sortedJoined q2.left q2.right (fun x y x1 x2 y1 y2 => ?_)) q3⟩
  rcases c2 with c2 | c2
  · omega
  · have X := ltx_swo (ix := ix) hS
    have e1 : d1[x]! = d[a]! := by rw [hr.2 x (by omega), if_neg (by omega), if_pos (by omega)]; congr 1; omega
    have e2 : d1[y]! = d[y]! := by rw [hr.2 y (by omega), if_neg (by omega), if_neg (by omega)]
    rw [e1, e2]
    have s1 : ltx lt ix d[i]! d[a]! = false := not_of_ahead c2 (by have := h.ahead a i (Nat.le_refl _) (by omega) h3 (by omega); omega)
    by_cases e : i = y
    · rw [← e]; exact s1
    · exact X.ntrans _ _ _ (h.right i y h3 (by omega) y2) s1
/-- A merge whose second part is one element, which goes to place i. -/
theorem Post.one_right (hS : SWO lt) {a m i : Nat} {d d1 : Array α} (h : Pre lt ix a m (m + 1) d) (hr : IsRot i m (m + 1) d d1) (hb : m + 1 ≤ d.size) (h3 : a ≤ i) (h4 : i ≤ m)
    (c1 : i = a ∨ lt d[m]! d[i - 1]! = false) (c2 : i = m ∨ lt d[m]! d[i]! = true) : Post lt ix a (m + 1) d d1 := by
  have X := ltx_swo (ix := ix) hS
  obtain ⟨q1, q2, q3⟩ := h.rotated hS hr hb h3 h4 (by omega) (Nat.le_refl _) (.inr (.inl rfl)) (c2.elim (fun e => .inl e) (fun e => .inr (.inr (not_of_lt hS e))))
  refine ⟨permShift (hr.perm h4 (by omega) hb) h3 (Nat.le_refl _) hb, sortedJoined (sortedJoined q1.left q1.right (fun x y x1 x2 y1 y2 => ?_)) q2.left q3⟩
  rcases c1 with c1 | c1
  · omega
  · have e1 : d1[y]! = d[m]! := by rw [hr.2 y (by omega), if_pos (by omega)]; congr 1; omega
    have e2 : d1[x]! = d[x]! := by rw [hr.2 x (by omega), if_neg (by omega), if_neg (by omega)]
    rw [e1, e2]
    have s1 : ltx lt ix d[m]! d[i - 1]! = false := not_of_ahead c1 (by have := h.ahead (i - 1) m (by omega) (by omega) (Nat.le_refl _) (by omega); omega)
    by_cases e : x = i - 1
    · rw [e]; exact s1
    · exact X.ntrans _ _ _ s1 (h.left x (i - 1) x1 (by omega) (by omega))
end
end Go.Proofs.YtfpmbjobieeidaaGreat.Rk
namespace Go.Proofs.YtfpmbjobieeidaaGreat.Rk
open Go.Sort
section
variable {α : Type} [Inhabited α] {lt : α → α → Bool} {ix : α → Nat}
/-- What lies left of a multiple of B comes from ahead of what lies right of it. -/
def Ord (ix : α → Nat) (B n : Nat) (d : Array α) : Prop := ∀ s i j, i < s * B → s * B ≤ j → j < n → ix d[i]! < ix d[j]!
theorem Ord.perm {B n x y : Nat} {d d' : Array α} (h : Ord ix B n d) (hp : PermIn x y d d') (hy : y ≤ n) (hn : n ≤ d.size) (hb : ∀ s, s * B ≤ x ∨ y ≤ s * B) : Ord ix B n d' := by
  intro s i j hi hj hjn
  rcases hb s with hs | hs
  · rw [hp.2.1 i (.inl (by omega))]
    by_cases hjy : x ≤ j ∧ j < y
    · exact permIn_all d d' x y (fun e => ix d[i]! < ix e) (by omega) hp (fun k k1 k2 => h s i k hi (by omega) (by omega)) j hjy.1 hjy.2
    · rw [hp.2.1 j (by omega)]
      exact h s i j hi hj hjn
  · rw [hp.2.1 j (.inr (by omega))]
    by_cases hiy : x ≤ i ∧ i < y
    · exact permIn_all d d' x y (fun e => ix e < ix d[j]!) (by omega) hp (fun k k1 k2 => h s k j (by omega) hj hjn) i hiy.1 hiy.2
    · rw [hp.2.1 i (by omega)]
      exact h s i j hi hj hjn
theorem mul_apart (s c B : Nat) : s * B ≤ c * B ∨ c * B + B ≤ s * B := by
  rcases Nat.lt_or_ge c s with h | h
  · right
    have := Nat.mul_le_mul_right B (show c + 1 ≤ s from h)
    rwa [Nat.add_mul, Nat.one_mul] at this
  · exact .inl (Nat.mul_le_mul_right B h)
theorem sorted_keep {X : α → α → Bool} {p q x y : Nat} {d d' : Array α} (h : SortedIn X p q d) (hp : PermIn x y d d') (hf : q ≤ x ∨ y ≤ p) : SortedIn X p q d' := by
  intro i j h1 h2 h3
  rw [hp.2.1 i (by omega), hp.2.1 j (by omega)]
  exact h i j h1 h2 h3
theorem sorted_none {X : α → α → Bool} {p q : Nat} {d : Array α} (h : q ≤ p + 1) : SortedIn X p q d := fun i j h1 h2 h3 => by omega

/-- While the blocks of B are sorted one by one: c of them. -/
structure Ph1 (lt : α → α → Bool) (ix : α → Nat) (B n c : Nat) (d dk : Array α) : Prop where
  perm : PermIn 0 n d dk
  ord : Ord ix B n dk
  done : ∀ s, s < c → SortedIn (ltx lt ix) (s * B) (s * B + B) dk
  rest : ∀ k, c * B ≤ k → dk[k]! = d[k]!
/-- All blocks of B are sorted. -/
structure Ph2 (lt : α → α → Bool) (ix : α → Nat) (B n : Nat) (d dk : Array α) : Prop where
  perm : PermIn 0 n d dk
  ord : Ord ix B n dk
  done : ∀ s, SortedIn (ltx lt ix) (s * B) (min (s * B + B) n) dk
/-- While pairs of blocks are merged: c pairs. -/
structure Ph3 (lt : α → α → Bool) (ix : α → Nat) (B n c : Nat) (d dq dk : Array α) : Prop where
  perm : PermIn 0 n d dk
  ord : Ord ix (2 * B) n dk
  done : ∀ s, s < c → SortedIn (ltx lt ix) (s * (2 * B)) (s * (2 * B) + 2 * B) dk
  rest : ∀ k, c * (2 * B) ≤ k → dk[k]! = dq[k]!

section
variable {B n c : Nat} {d dq dk dk' : Array α}
theorem Ph1.start (B : Nat) (hix : ∀ p q, p < q → q < n → ix d[p]! < ix d[q]!) : Ph1 lt ix B n 0 d d :=
  ⟨permIn_refl d 0 n, fun s i j h1 h2 h3 => hix i j (by omega) h3, fun s h => by omega, fun k _ => rfl⟩
theorem Ph1.incr (h : Ph1 lt ix B n c d dk) (hix : ∀ p q, p < q → q < n → ix d[p]! < ix d[q]!) : ∀ p q, c * B ≤ p → p < q → q < n → ix dk[p]! < ix dk[q]! := fun p q h1 h2 h3 => by
  rw [h.rest p h1, h.rest q (by omega)]; exact hix p q h2 h3
theorem Ph1.step (h : Ph1 lt ix B n c d dk) (hn : n ≤ d.size) (hb : c * B + B ≤ n) (hp : PermIn (c * B) (c * B + B) dk dk') (hs : SortedIn (ltx lt ix) (c * B) (c * B + B) dk') : Ph1 lt ix B n (c + 1) d dk' := by
  have hsz : dk.size = d.size := h.perm.1
  refine ⟨permIn_trans _ _ _ 0 n h.perm (permShift hp (Nat.zero_le _) hb (by omega)), h.ord.perm hp hb (by omega) (fun s => mul_apart s c B), fun s hsc => ?_, fun k hk => ?_⟩
  · by_cases e : s = c
    · rw [e]; exact hs
    · refine sorted_keep (h.done s (by omega)) hp ?_
      rcases mul_apart c s B with q | q
      · have := Nat.mul_le_mul_right B (show s + 1 ≤ c by omega)
        rw [Nat.add_mul, Nat.one_mul] at this
        omega
      · omega
  · rw [Nat.add_mul, Nat.one_mul] at hk
    rw [hp.2.1 k (by omega)]
    exact h.rest k (by omega)
theorem Ph1.last (h : Ph1 lt ix B n c d dk) (hn : n ≤ d.size) (h1 : c * B ≤ n) (h2 : n < c * B + B) (hp : PermIn (c * B) n dk dk') (hs : SortedIn (ltx lt ix) (c * B) n dk') : Ph2 lt ix B n d dk' := by
  have hsz : dk.size = d.size := h.perm.1
  refine ⟨permIn_trans _ _ _ 0 n h.perm (permShift hp (Nat.zero_le _) (Nat.le_refl _) (by omega)), h.ord.perm hp (Nat.le_refl _) (by omega) (fun s => (mul_apart s c B).imp id (fun h => by omega)), fun s => ?_⟩
  rcases Nat.lt_trichotomy s c with q | q | q
  · have := Nat.mul_le_mul_right B (show s + 1 ≤ c by omega)
    rw [Nat.add_mul, Nat.one_mul] at this
    rw [show min (s * B + B) n = s * B + B by omega]
    exact sorted_keep (h.done s q) hp (by omega)
  · rw [q, show min (c * B + B) n = n by omega]; exact hs
  · have := Nat.mul_le_mul_right B (show c + 1 ≤ s by omega)
    rw [Nat.add_mul, Nat.one_mul] at this
    exact sorted_none (by omega)
theorem Ph2.whole (h : Ph2 lt ix B n d dk) (hB : n ≤ B) : Post lt ix 0 n d dk := by
  have := h.done 0
  rw [Nat.zero_mul, Nat.zero_add, show min B n = n by omega] at this
  exact ⟨h.perm, this⟩
theorem Ph3.start (h : Ph2 lt ix B n d dq) : Ph3 lt ix B n 0 d dq dq :=
  ⟨h.perm, fun s i j h1 h2 h3 => h.ord (s * 2) i j (by rw [Nat.mul_assoc]; exact h1) (by rw [Nat.mul_assoc]; exact h2) h3, fun s h => by omega, fun k _ => rfl⟩
/-- The next pair may be merged; e: its end. -/
theorem Ph3.pre {e : Nat} (h : Ph3 lt ix B n c d dq dk) (h2 : Ph2 lt ix B n d dq) (he : c * (2 * B) + B ≤ e) (he2 : e ≤ c * (2 * B) + 2 * B) (hen : e ≤ n) : Pre lt ix (c * (2 * B)) (c * (2 * B) + B) e dk := by
  have m0 : c * 2 * B = c * (2 * B) := Nat.mul_assoc _ _ _
  have m1 : (c * 2 + 1) * B = c * (2 * B) + B := by rw [Nat.add_mul, Nat.one_mul, m0]
  refine ⟨fun i j h1 h3 h4 => ?_, fun i j h1 h3 h4 => ?_, fun i j h1 h3 h4 h5 => ?_⟩
  · rw [h.rest i h1, h.rest j (by omega)]
    have := h2.done (c * 2)
    rw [m0] at this
    exact this i j h1 h3 (by omega)
  · rw [h.rest i (by omega), h.rest j (by omega)]
    have := h2.done (c * 2 + 1)
    rw [m1] at this
    exact this i j h1 h3 (by omega)
  · rw [h.rest i h1, h.rest j (by omega)]
    exact h2.ord (c * 2 + 1) i j (by omega) (by omega) (by omega)
theorem Ph3.step (h : Ph3 lt ix B n c d dq dk) (hn : n ≤ d.size) (hb : c * (2 * B) + 2 * B ≤ n) (hp : Post lt ix (c * (2 * B)) (c * (2 * B) + 2 * B) dk dk') : Ph3 lt ix B n (c + 1) d dq dk' := by
  have hsz : dk.size = d.size := h.perm.1
  refine ⟨permIn_trans _ _ _ 0 n h.perm (permShift hp.1 (Nat.zero_le _) hb (by omega)), h.ord.perm hp.1 hb (by omega) (fun s => mul_apart s c (2 * B)), fun s hsc => ?_, fun k hk => ?_⟩
  · by_cases e : s = c
    · rw [e]; exact hp.2
    · refine sorted_keep (h.done s (by omega)) hp.1 ?_
      have := Nat.mul_le_mul_right (2 * B) (show s + 1 ≤ c by omega)
      rw [Nat.add_mul, Nat.one_mul] at this
      omega
  · rw [Nat.add_mul, Nat.one_mul] at hk
    rw [hp.1.2.1 k (by omega)]
    exact h.rest k (by omega)
theorem Ph3.last (h : Ph3 lt ix B n c d dq dk) (hn : n ≤ d.size) (h1 : c * (2 * B) ≤ n) (h2 : n < c * (2 * B) + 2 * B) (hp : Post lt ix (c * (2 * B)) n dk dk') : Ph2 lt ix (2 * B) n d dk' := by
  have hsz : dk.size = d.size := h.perm.1
  refine ⟨permIn_trans _ _ _ 0 n h.perm (permShift hp.1 (Nat.zero_le _) (Nat.le_refl _) (by omega)), h.ord.perm hp.1 (Nat.le_refl _) (by omega) (fun s => (mul_apart s c (2 * B)).imp id (fun h => by omega)), fun s => ?_⟩
  rcases Nat.lt_trichotomy s c with q | q | q
  · have := Nat.mul_le_mul_right (2 * B) (show s + 1 ≤ c by omega)
    rw [Nat.add_mul, Nat.one_mul] at this
    rw [show min (s * (2 * B) + 2 * B) n = s * (2 * B) + 2 * B by omega]
    exact sorted_keep (h.done s q) hp.1 (by omega)
  · rw [q, show min (c * (2 * B) + 2 * B) n = n by omega]; exact hp.2
  · have := Nat.mul_le_mul_right (2 * B) (show c + 1 ≤ s by omega)
    rw [Nat.add_mul, Nat.one_mul] at this
    exact sorted_none (by omega)
/-- A last block without a fellow is sorted as it is. -/
theorem Ph3.alone (h : Ph3 lt ix B n c d dq dk) (h2 : Ph2 lt ix B n d dq) (hl : n ≤ c * (2 * B) + B) : Post lt ix (c * (2 * B)) n dk dk := by
  have m0 : c * 2 * B = c * (2 * B) := Nat.mul_assoc _ _ _
  refine Post.same (fun i j h1 h3 h4 => ?_)
  rw [h.rest i h1, h.rest j (by omega)]
  have := h2.done (c * 2)
  rw [m0] at this
  exact this i j h1 h3 (by omega)
end
end
end Go.Proofs.YtfpmbjobieeidaaGreat.Rk
