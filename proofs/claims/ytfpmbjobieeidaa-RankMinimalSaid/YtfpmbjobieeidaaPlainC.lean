/-
  Plain laws on the order of sets, and on sets within sets: no program in sight.
-/
import Derived.Test.YtfpmbjobieeidaaPlainB
namespace Go.Proofs.Ytfpmbjobieeidaa.Rk

def cmpInt (x y : Int) : Int := if x < y then -1 else if y < x then 1 else 0
/-- slices.Compare. -/
def lex : List Int → List Int → Int
  | [], [] => 0
  | [], _ :: _ => -1
  | _ :: _, [] => 1
  | x :: xs, y :: ys => if x < y then -1 else if y < x then 1 else lex xs ys
/-- The order of sets: the shorter ones first. -/
def ord (xs ys : List Int) : Int := if xs.length < ys.length then -1 else if ys.length < xs.length then 1 else lex xs ys

theorem drop_cons {xs : List Int} {k : Nat} (h : k < xs.length) : xs.drop k = xs.getD k 0 :: xs.drop (k + 1) := by
  rw [List.drop_eq_getElem_cons h, List.getD_eq_getElem?_getD, List.getElem?_eq_getElem h]; rfl

theorem lex_self : ∀ xs : List Int, lex xs xs = 0
  | [] => rfl
  | x :: xs => by simp [lex, lex_self xs]
theorem lex_swap : ∀ xs ys : List Int, lex ys xs = -lex xs ys
  | [], [] => rfl
  | [], _ :: _ => rfl
  | _ :: _, [] => rfl
  | x :: xs, y :: ys => by
    unfold lex
    by_cases h1 : x < y
    · rw [if_neg (by omega), if_pos h1, if_pos h1]; rfl
    · by_cases h2 : y < x
      · rw [if_pos h2, if_neg h1, if_pos h2]
      · rw [if_neg h2, if_neg h1, if_neg h1, if_neg h2]; exact lex_swap xs ys
theorem lex_eq : ∀ {xs ys : List Int}, lex xs ys = 0 → xs = ys
  | [], [], _ => rfl
  | [], _ :: _, h => by simp [lex] at h
  | _ :: _, [], h => by simp [lex] at h
  | x :: xs, y :: ys, h => by
    unfold lex at h
    by_cases h1 : x < y
    · rw [if_pos h1] at h; cases h
    · by_cases h2 : y < x
      · rw [if_neg h1, if_pos h2] at h; cases h
      · rw [if_neg h1, if_neg h2] at h
        rw [lex_eq h, show x = y by omega]
theorem lex_trans : ∀ {xs ys zs : List Int}, lex xs ys < 0 → lex ys zs < 0 → lex xs zs < 0
  | [], [], _, h, _ => by simp [lex] at h
  | [], _ :: _, [], _, h => by simp [lex] at h
  | [], _ :: _, _ :: _, _, _ => by simp [lex]
  | _ :: _, [], _, h, _ => by simp [lex] at h
  | _ :: _, _ :: _, [], _, h => by simp [lex] at h
  | x :: xs, y :: ys, z :: zs, h, k => by
    unfold lex at h k ⊢
    by_cases h1 : x < y
    · by_cases k1 : y < z
      · rw [if_pos (show x < z by omega)]; omega
      · by_cases k2 : z < y
        · rw [if_neg k1, if_pos k2] at k; omega
        · rw [if_pos (show x < z by omega)]; omega
    · by_cases h2 : y < x
      · rw [if_neg h1, if_pos h2] at h; omega
      · rw [if_neg h1, if_neg h2] at h
        by_cases k1 : y < z
        · rw [if_pos (show x < z by omega)]; omega
        · by_cases k2 : z < y
          · rw [if_neg k1, if_pos k2] at k; omega
          · rw [if_neg k1, if_neg k2] at k
            rw [if_neg (by omega), if_neg (by omega)]
            exact lex_trans h k
theorem ord_swap (xs ys : List Int) : ord ys xs = -ord xs ys := by
  unfold ord
  by_cases h1 : xs.length < ys.length
  · rw [if_neg (by omega), if_pos h1, if_pos h1]; rfl
  · by_cases h2 : ys.length < xs.length
    · rw [if_pos h2, if_neg h1, if_pos h2]
    · rw [if_neg h2, if_neg h1, if_neg h1, if_neg h2]; exact lex_swap xs ys
theorem ord_self (xs : List Int) : ord xs xs = 0 := by unfold ord; rw [if_neg (by omega), if_neg (by omega)]; exact lex_self xs
theorem ord_eq {xs ys : List Int} (h : ord xs ys = 0) : xs = ys := by
  unfold ord at h
  split at h
  · cases h
  · split at h
    · cases h
    · exact lex_eq h
theorem ord_trans {xs ys zs : List Int} (h : ord xs ys < 0) (k : ord ys zs < 0) : ord xs zs < 0 := by
  unfold ord at *
  by_cases h1 : xs.length < ys.length
  · by_cases k1 : ys.length < zs.length
    · rw [if_pos (by omega)]; omega
    · by_cases k2 : zs.length < ys.length
      · rw [if_neg k1, if_pos k2] at k; omega
      · rw [if_pos (by omega)]; omega
  · by_cases h2 : ys.length < xs.length
    · rw [if_neg h1, if_pos h2] at h; omega
    · rw [if_neg h1, if_neg h2] at h
      by_cases k1 : ys.length < zs.length
      · rw [if_pos (by omega)]; omega
      · by_cases k2 : zs.length < ys.length
        · rw [if_neg k1, if_pos k2] at k; omega
        · rw [if_neg k1, if_neg k2] at k
          rw [if_neg (by omega), if_neg (by omega)]
          exact lex_trans h k

/-- The two-finger test of the program. -/
def within : List Int → List Int → Bool
  | [], _ => true
  | x :: a, b => match b.dropWhile (· < x) with
    | [] => false
    | y :: b' => if y = x then within a (y :: b') else false

def wcheck (x : Int) (a : List Int) : List Int → Bool
  | [] => false
  | y :: b => if y = x then within a (y :: b) else false
theorem within_cons (x : Int) (a b : List Int) : within (x :: a) b = wcheck x a (b.dropWhile (· < x)) := by
  rw [within]
  cases b.dropWhile (· < x) <;> rfl

theorem pairwise_dropWhile {b : List Int} (h : b.Pairwise (· < ·)) (x : Int) : (b.dropWhile (· < x)).Pairwise (· < ·) := h.sublist (List.dropWhile_sublist _)
theorem mem_dropWhile {b : List Int} (h : b.Pairwise (· < ·)) {x z : Int} (hz : x ≤ z) : z ∈ b.dropWhile (· < x) ↔ z ∈ b := by
  induction b with
  | nil => simp
  | cons y b ih =>
    rw [List.dropWhile_cons]
    by_cases hy : y < x
    · simp only [hy, decide_true, if_true]
      rw [ih (List.pairwise_cons.1 h).2]
      simp only [List.mem_cons]
      constructor
      · exact Or.inr
      · rintro (rfl | h')
        · omega
        · exact h'
    · simp [hy]
/-- Of increasing lists the test says: each element of the one is in the other. -/
theorem within_iff : ∀ {a b : List Int}, a.Pairwise (· < ·) → b.Pairwise (· < ·) → (within a b = true ↔ ∀ x ∈ a, x ∈ b)
  | [], b, _, _ => by simp [within]
  | x :: a, b, ha, hb => by
    have hp := pairwise_dropWhile hb x
    have hm : ∀ z, x ≤ z → (z ∈ b.dropWhile (· < x) ↔ z ∈ b) := fun z hz => mem_dropWhile hb hz
    have hx := hm x (Int.le_refl _)
    have hh : ∀ y b', b.dropWhile (· < x) = y :: b' → x ≤ y := by
      intro y b' e
      have := List.head?_dropWhile_not (· < x) b
      rw [e] at this
      simpa using this
    unfold within
    obtain ⟨ha1, ha2⟩ := List.pairwise_cons.1 ha
    cases e : b.dropWhile (· < x) with
    | nil =>
      rw [e] at hx
      simp only [List.not_mem_nil, false_iff] at hx
      simp [hx]
    | cons y b' =>
      rw [e] at hp hm hx
      have hxy := hh y b' e
      dsimp only
      by_cases hyx : y = x
      · rw [if_pos hyx, within_iff ha2 hp]
        constructor
        · intro h z hz
          rcases List.mem_cons.1 hz with rfl | hz
          · exact hx.1 (by rw [hyx]; exact List.mem_cons_self)
          · exact (hm z (by have := ha1 z hz; omega)).1 (h z hz)
        · intro h z hz
          exact (hm z (by have := ha1 z hz; omega)).2 (h z (List.mem_cons_of_mem _ hz))
      · rw [if_neg hyx]
        constructor
        · intro h; cases h
        · intro h
          exfalso
          have h1 := hx.2 (h x List.mem_cons_self)
          rcases List.mem_cons.1 h1 with h2 | h2
          · exact hyx h2.symm
          · have := (List.pairwise_cons.1 hp).1 x h2
            omega
end Go.Proofs.Ytfpmbjobieeidaa.Rk
namespace Go.Proofs.Ytfpmbjobieeidaa.Rk
theorem ord_ntrans {xs ys zs : List Int} (h : 0 ≤ ord xs ys) (k : 0 ≤ ord ys zs) : 0 ≤ ord xs zs := by
  rcases Int.lt_or_le (ord xs zs) 0 with hn | hn
  · exfalso
    have e1 := ord_swap xs ys
    have e2 := ord_swap ys zs
    rcases Int.lt_or_le (ord zs ys) 0 with h1 | h1
    · have h2 := ord_trans hn h1
      omega
    · have : ord ys zs = 0 := by omega
      have := ord_eq this
      subst this
      omega
  · exact hn
/-- The sets in order. -/
def sortSets (l : List (List Int)) : List (List Int) := l.mergeSort fun a b => decide (ord a b ≤ 0)
theorem sortSets_perm (l : List (List Int)) : (sortSets l).Perm l := List.mergeSort_perm _ _
theorem sortSets_pairwise (l : List (List Int)) : (sortSets l).Pairwise fun a b => ord a b ≤ 0 := by
  have h := List.pairwise_mergeSort (le := fun a b => decide (ord a b ≤ 0)) (fun a b c h1 h2 => by
    simp only [decide_eq_true_eq] at *
    have e1 := ord_swap a b
    have e2 := ord_swap b c
    have e3 := ord_swap a c
    have := ord_ntrans (xs := c) (ys := b) (zs := a) (by omega) (by omega)
    omega) (fun a b => by
    have e1 := ord_swap a b
    simp only [Bool.or_eq_true, decide_eq_true_eq]
    omega) l
  exact h.imp fun h => by simpa using h
theorem sortSets_unique {l m : List (List Int)} (hp : m.Perm l) (hs : m.Pairwise fun a b => ord a b ≤ 0) : m = sortSets l :=
  List.Perm.eq_of_pairwise (fun a b _ _ h1 h2 => ord_eq (by have := ord_swap a b; omega)) hs (sortSets_pairwise l) (hp.trans (sortSets_perm l).symm)
end Go.Proofs.Ytfpmbjobieeidaa.Rk
namespace Go.Proofs.Ytfpmbjobieeidaa.Rk
/-- One step of smallest. -/
def smStep (out : List (List Int)) (s : List Int) : List (List Int) := if out.any (fun x => within x s) then out else out ++ [s]
/-- The smallest ones of some sets. -/
def smallest (l : List (List Int)) : List (List Int) := (sortSets l).foldl smStep []
theorem foldl_take_succ {β : Type} (f : β → List Int → β) (b : β) (l : List (List Int)) (k : Nat) (h : k < l.length) : (l.take (k + 1)).foldl f b = f ((l.take k).foldl f b) (l.getD k []) := by
  rw [List.take_succ_eq_append_getElem h, List.foldl_append, List.getD_eq_getElem?_getD, List.getElem?_eq_getElem h]; rfl
theorem smStep_yes {out : List (List Int)} {s : List Int} {j : Nat} (hj : j < out.length) (h : within (out.getD j []) s = true) : smStep out s = out := by
  unfold smStep
  rw [if_pos]
  rw [List.any_eq_true]
  exact ⟨out.getD j [], by rw [List.getD_eq_getElem?_getD, List.getElem?_eq_getElem hj]; exact List.getElem_mem hj, h⟩
theorem smStep_no {out : List (List Int)} {s : List Int} (h : ∀ j, j < out.length → within (out.getD j []) s = false) : smStep out s = out ++ [s] := by
  unfold smStep
  rw [if_neg]
  rw [List.any_eq_true]
  rintro ⟨x, hx, hw⟩
  obtain ⟨j, hj, rfl⟩ := List.mem_iff_getElem.1 hx
  have := h j hj
  rw [List.getD_eq_getElem?_getD, List.getElem?_eq_getElem hj] at this
  change within out[j] s = false at this
  rw [hw] at this
  cases this
theorem smFold_sub (l : List (List Int)) : ∀ out, (∀ x ∈ l.foldl smStep out, x ∈ out ∨ x ∈ l) ∧ (l.foldl smStep out).length ≤ out.length + l.length := by
  induction l with
  | nil => intro out; exact ⟨fun x hx => .inl hx, by simp⟩
  | cons s l ih =>
    intro out
    obtain ⟨h1, h2⟩ := ih (smStep out s)
    rw [List.foldl_cons]
    have hs : (∀ x ∈ smStep out s, x ∈ out ∨ x = s) ∧ (smStep out s).length ≤ out.length + 1 := by
      unfold smStep
      split
      · exact ⟨fun x hx => .inl hx, by omega⟩
      · exact ⟨fun x hx => by simpa using hx, by simp⟩
    refine ⟨fun x hx => ?_, by have := hs.2; simp only [List.length_cons]; omega⟩
    rcases h1 x hx with h | h
    · rcases hs.1 x h with h | h
      · exact .inl h
      · exact .inr (by rw [h]; exact List.mem_cons_self)
    · exact .inr (List.mem_cons_of_mem _ h)
theorem smFold_take_le (l : List (List Int)) (k : Nat) : ((l.take k).foldl smStep []).length ≤ l.length ∧ ∀ x ∈ (l.take k).foldl smStep [], x ∈ l := by
  obtain ⟨h1, h2⟩ := smFold_sub (l.take k) []
  refine ⟨by have := List.length_take_le k l; have := List.length_take_le' k l; simp at h2; omega, fun x hx => ?_⟩
  rcases h1 x hx with h | h
  · cases h
  · exact List.mem_of_mem_take h
end Go.Proofs.Ytfpmbjobieeidaa.Rk
