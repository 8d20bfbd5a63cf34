/-
  Stable sorting by blocks: no program in sight.
-/
import Derived.Test.YtfpmbjobieeidaaPlainS
namespace Go.Proofs.Ytfpmbjobieeidaa.Rk
open Go.Sort
section
variable {α : Type} [Inhabited α] {lt : α → α → Bool} {ix : α → Nat}
/-- What lies left of a multiple of B comes from ahead of what lies right of it. -/
def Ord (ix : α → Nat) (B n : Nat) (d : Array α) : Prop := ∀ s i j, i < s * B → s * B ≤ j → j < n → ix d[i]! < ix d[j]!
theorem Ord.perm {B n x y : Nat} {d d' : Array α} (h : Ord ix B n d) (hp : PermIn x y d d') (hy : y ≤ n) (hn : n ≤ d.size) (hb : ∀ s, s * B ≤ x ∨ y ≤ s * B) : Ord ix B n d' := by
  intro s i j hi hj hjn
  rcases hb s with hs | hs
  · rw [hp.2.1 i (.inl (by omega))]
    by_cases hjy : x ≤ j ∧ j < y
    · exact permIn_all d d' x y (fun e => ix d[i]! < ix e) (by omega) hp (fun k k1 k2 => h s i k hi (by omega) (by omega)) j hjy.1 hjy.2
    · rw [hp.2.1 j (by omega)]
      exact h s i j hi hj hjn
  · rw [hp.2.1 j (.inr (by omega))]
    by_cases hiy : x ≤ i ∧ i < y
    · exact permIn_all d d' x y (fun e => ix e < ix d[j]!) (by omega) hp (fun k k1 k2 => h s k j (by omega) hj hjn) i hiy.1 hiy.2
    · rw [hp.2.1 i (by omega)]
      exact h s i j hi hj hjn
theorem mul_apart (s c B : Nat) : s * B ≤ c * B ∨ c * B + B ≤ s * B := by
  rcases Nat.lt_or_ge c s with h | h
  · right
    have := Nat.mul_le_mul_right B (show c + 1 ≤ s from h)
    rwa [Nat.add_mul, Nat.one_mul] at this
  · exact .inl (Nat.mul_le_mul_right B h)
theorem sorted_keep {X : α → α → Bool} {p q x y : Nat} {d d' : Array α} (h : SortedIn X p q d) (hp : PermIn x y d d') (hf : q ≤ x ∨ y ≤ p) : SortedIn X p q d' := by
  intro i j h1 h2 h3
  rw [hp.2.1 i (by omega), hp.2.1 j (by omega)]
  exact h i j h1 h2 h3
theorem sorted_none {X : α → α → Bool} {p q : Nat} {d : Array α} (h : q ≤ p + 1) : SortedIn X p q d := fun i j h1 h2 h3 => by omega

/-- While the blocks of B are sorted one by one: c of them. -/
structure Ph1 (lt : α → α → Bool) (ix : α → Nat) (B n c : Nat) (d dk : Array α) : Prop where
  perm : PermIn 0 n d dk
  ord : Ord ix B n dk
  done : ∀ s, s < c → SortedIn (ltx lt ix) (s * B) (s * B + B) dk
  rest : ∀ k, c * B ≤ k → dk[k]! = d[k]!
/-- All blocks of B are sorted. -/
structure Ph2 (lt : α → α → Bool) (ix : α → Nat) (B n : Nat) (d dk : Array α) : Prop where
  perm : PermIn 0 n d dk
  ord : Ord ix B n dk
  done : ∀ s, SortedIn (ltx lt ix) (s * B) (min (s * B + B) n) dk
/-- While pairs of blocks are merged: c pairs. -/
structure Ph3 (lt : α → α → Bool) (ix : α → Nat) (B n c : Nat) (d dq dk : Array α) : Prop where
  perm : PermIn 0 n d dk
  ord : Ord ix (2 * B) n dk
  done : ∀ s, s < c → SortedIn (ltx lt ix) (s * (2 * B)) (s * (2 * B) + 2 * B) dk
  rest : ∀ k, c * (2 * B) ≤ k → dk[k]! = dq[k]!

section
variable {B n c : Nat} {d dq dk dk' : Array α}
theorem Ph1.start (B : Nat) (hix : ∀ p q, p < q → q < n → ix d[p]! < ix d[q]!) : Ph1 lt ix B n 0 d d :=
  ⟨permIn_refl d 0 n, fun s i j h1 h2 h3 => hix i j (by omega) h3, fun s h => by omega, fun k _ => rfl⟩
theorem Ph1.incr (h : Ph1 lt ix B n c d dk) (hix : ∀ p q, p < q → q < n → ix d[p]! < ix d[q]!) : ∀ p q, c * B ≤ p → p < q → q < n → ix dk[p]! < ix dk[q]! := fun p q h1 h2 h3 => by
  rw [h.rest p h1, h.rest q (by omega)]; exact hix p q h2 h3
theorem Ph1.step (h : Ph1 lt ix B n c d dk) (hn : n ≤ d.size) (hb : c * B + B ≤ n) (hp : PermIn (c * B) (c * B + B) dk dk') (hs : SortedIn (ltx lt ix) (c * B) (c * B + B) dk') : Ph1 lt ix B n (c + 1) d dk' := by
  have hsz : dk.size = d.size := h.perm.1
  refine ⟨permIn_trans _ _ _ 0 n h.perm (permShift hp (Nat.zero_le _) hb (by omega)), h.ord.perm hp hb (by omega) (fun s => mul_apart s c B), fun s hsc => ?_, fun k hk => ?_⟩
  · by_cases e : s = c
    · rw [e]; exact hs
    · refine sorted_keep (h.done s (by omega)) hp ?_
      rcases mul_apart c s B with q | q
      · have := Nat.mul_le_mul_right B (show s + 1 ≤ c by omega)
        rw [Nat.add_mul, Nat.one_mul] at this
        omega
      · omega
  · rw [Nat.add_mul, Nat.one_mul] at hk
    rw [hp.2.1 k (by omega)]
    exact h.rest k (by omega)
theorem Ph1.last (h : Ph1 lt ix B n c d dk) (hn : n ≤ d.size) (h1 : c * B ≤ n) (h2 : n < c * B + B) (hp : PermIn (c * B) n dk dk') (hs : SortedIn (ltx lt ix) (c * B) n dk') : Ph2 lt ix B n d dk' := by
  have hsz : dk.size = d.size := h.perm.1
  refine ⟨permIn_trans _ _ _ 0 n h.perm (permShift hp (Nat.zero_le _) (Nat.le_refl _) (by omega)), h.ord.perm hp (Nat.le_refl _) (by omega) (fun s => (mul_apart s c B).imp id (fun h => by omega)), fun s => ?_⟩
  rcases Nat.lt_trichotomy s c with q | q | q
  · have := Nat.mul_le_mul_right B (show s + 1 ≤ c by omega)
    rw [Nat.add_mul, Nat.one_mul] at this
    rw [show min (s * B + B) n = s * B + B by omega]
    exact sorted_keep (h.done s q) hp (by omega)
  · rw [q, show min (c * B + B) n = n by omega]; exact hs
  · have := Nat.mul_le_mul_right B (show c + 1 ≤ s by omega)
    rw [Nat.add_mul, Nat.one_mul] at this
    exact sorted_none (by omega)
theorem Ph2.whole (h : Ph2 lt ix B n d dk) (hB : n ≤ B) : Post lt ix 0 n d dk := by
  have := h.done 0
  rw [Nat.zero_mul, Nat.zero_add, show min B n = n by omega] at this
  exact ⟨h.perm, this⟩
theorem Ph3.start (h : Ph2 lt ix B n d dq) : Ph3 lt ix B n 0 d dq dq :=
  ⟨h.perm, fun s i j h1 h2 h3 => h.ord (s * 2) i j (by rw [Nat.mul_assoc]; exact h1) (by rw [Nat.mul_assoc]; exact h2) h3, fun s h => by omega, fun k _ => rfl⟩
/-- The next pair may be merged; e: its end. -/
theorem Ph3.pre {e : Nat} (h : Ph3 lt ix B n c d dq dk) (h2 : Ph2 lt ix B n d dq) (he : c * (2 * B) + B ≤ e) (he2 : e ≤ c * (2 * B) + 2 * B) (hen : e ≤ n) : Pre lt ix (c * (2 * B)) (c * (2 * B) + B) e dk := by
  have m0 : c * 2 * B = c * (2 * B) := Nat.mul_assoc _ _ _
  have m1 : (c * 2 + 1) * B = c * (2 * B) + B := by rw [Nat.add_mul, Nat.one_mul, m0]
  refine ⟨fun i j h1 h3 h4 => ?_, fun i j h1 h3 h4 => ?_, fun i j h1 h3 h4 h5 => ?_⟩
  · rw [h.rest i h1, h.rest j (by omega)]
    have := h2.done (c * 2)
    rw [m0] at this
    exact this i j h1 h3 (by omega)
  · rw [h.rest i (by omega), h.rest j (by omega)]
    have := h2.done (c * 2 + 1)
    rw [m1] at this
    exact this i j h1 h3 (by omega)
  · rw [h.rest i h1, h.rest j (by omega)]
    exact h2.ord (c * 2 + 1) i j (by omega) (by omega) (by omega)
theorem Ph3.step (h : Ph3 lt ix B n c d dq dk) (hn : n ≤ d.size) (hb : c * (2 * B) + 2 * B ≤ n) (hp : Post lt ix (c * (2 * B)) (c * (2 * B) + 2 * B) dk dk') : Ph3 lt ix B n (c + 1) d dq dk' := by
  have hsz : dk.size = d.size := h.perm.1
  refine ⟨permIn_trans _ _ _ 0 n h.perm (permShift hp.1 (Nat.zero_le _) hb (by omega)), h.ord.perm hp.1 hb (by omega) (fun s => mul_apart s c (2 * B)), fun s hsc => ?_, fun k hk => ?_⟩
  · by_cases e : s = c
    · rw [e]; exact hp.2
    · refine sorted_keep (h.done s (by omega)) hp.1 ?_
      have := Nat.mul_le_mul_right (2 * B) (show s + 1 ≤ c by omega)
      rw [Nat.add_mul, Nat.one_mul] at this
      omega
  · rw [Nat.add_mul, Nat.one_mul] at hk
    rw [hp.1.2.1 k (by omega)]
    exact h.rest k (by omega)
theorem Ph3.last (h : Ph3 lt ix B n c d dq dk) (hn : n ≤ d.size) (h1 : c * (2 * B) ≤ n) (h2 : n < c * (2 * B) + 2 * B) (hp : Post lt ix (c * (2 * B)) n dk dk') : Ph2 lt ix (2 * B) n d dk' := by
  have hsz : dk.size = d.size := h.perm.1
  refine ⟨permIn_trans _ _ _ 0 n h.perm (permShift hp.1 (Nat.zero_le _) (Nat.le_refl _) (by omega)), h.ord.perm hp.1 (Nat.le_refl _) (by omega) (fun s => (mul_apart s c (2 * B)).imp id (fun h => by omega)), fun s => ?_⟩
  rcases Nat.lt_trichotomy s c with q | q | q
  · have := Nat.mul_le_mul_right (2 * B) (show s + 1 ≤ c by omega)
    rw [Nat.add_mul, Nat.one_mul] at this
    rw [show min (s * (2 * B) + 2 * B) n = s * (2 * B) + 2 * B by omega]
    exact sorted_keep (h.done s q) hp.1 (by omega)
  · rw [q, show min (c * (2 * B) + 2 * B) n = n by omega]; exact hp.2
  · have := Nat.mul_le_mul_right (2 * B) (show c + 1 ≤ s by omega)
    rw [Nat.add_mul, Nat.one_mul] at this
    exact sorted_none (by omega)
/-- A last block without a fellow is sorted as it is. -/
theorem Ph3.alone (h : Ph3 lt ix B n c d dq dk) (h2 : Ph2 lt ix B n d dq) (hl : n ≤ c * (2 * B) + B) : Post lt ix (c * (2 * B)) n dk dk := by
  have m0 : c * 2 * B = c * (2 * B) := Nat.mul_assoc _ _ _
  refine Post.same (fun i j h1 h3 h4 => ?_)
  rw [h.rest i h1, h.rest j (by omega)]
  have := h2.done (c * 2)
  rw [m0] at this
  exact this i j h1 h3 (by omega)
end
end
end Go.Proofs.Ytfpmbjobieeidaa.Rk
