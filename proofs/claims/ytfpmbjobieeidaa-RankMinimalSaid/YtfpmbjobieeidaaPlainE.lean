/-
  What the search for hitting sets computes: no program in sight.
-/
import Derived.Test.YtfpmbjobieeidaaPlainC
import Derived.Test.YtfpmbjobieeidaaPlainD
namespace Go.Proofs.Ytfpmbjobieeidaa.Rk

def sortInts (l : List Int) : List Int := l.mergeSort fun x y => decide (x ≤ y)
/-- The key of a set of at most three numbers. -/
def pad (s : List Int) : Int × Int × Int := (s.getD 0 (-1), s.getD 1 (-1), s.getD 2 (-1))
/-- What is done with a hitting set. -/
def leaf (H : Nat → Nat) (n : Nat) (l : List Int) (found : List (List Int)) : Bool × List (List Int) :=
  if (∃ t ∈ found, pad t = pad (sortInts l)) ∨ needed H n (sortInts l) = false then (true, found)
  else (decide (found.length + 1 ≤ 256), found ++ [sortInts l])
/-- One element after the other, till one says no. -/
def steps (f : Int → List (List Int) → Bool × List (List Int)) : List Int → List (List Int) → Bool × List (List Int)
  | [], found => (true, found)
  | x :: xs, found => if (f x found).1 = true then steps f xs (f x found).2 else (false, (f x found).2)
/-- The search. -/
def grow (H : Nat → Nat) (sets : List (List Int)) : Nat → List Int → Nat → List (List Int) → Bool × List (List Int)
  | 0, l, m, found => if fo m sets.length < 0 then leaf H sets.length l found else (true, found)
  | d + 1, l, m, found => if fo m sets.length < 0 then leaf H sets.length l found
    else steps (fun x found => grow H sets d (l ++ [x]) (m ||| H x.toNat) found) (sets.getD (fo m sets.length).toNat []) found

theorem steps_snoc (f : Int → List (List Int) → Bool × List (List Int)) : ∀ (xs ys : List Int) (found found' : List (List Int)), steps f xs found = (true, found') → steps f (xs ++ ys) found = steps f ys found'
  | [], ys, found, found', h => by cases h; rfl
  | x :: xs, ys, found, found', h => by
    rw [steps] at h
    rw [List.cons_append, steps]
    by_cases hx : (f x found).1 = true
    · rw [if_pos hx] at h ⊢
      exact steps_snoc f xs ys _ _ h
    · rw [if_neg hx] at h
      cases h
theorem steps_take {f : Int → List (List Int) → Bool × List (List Int)} {xs : List Int} {k : Nat} {found found' : List (List Int)} (h : steps f (xs.take k) found = (true, found')) :
    steps f xs found = steps f (xs.drop k) found' := by
  have := steps_snoc f (xs.take k) (xs.drop k) found found' h
  rwa [List.take_append_drop] at this
theorem steps_yes {f : Int → List (List Int) → Bool × List (List Int)} {xs : List Int} {k : Nat} {found found' : List (List Int)} (hk : k < xs.length) (h : steps f (xs.take k) found = (true, found')) (hf : (f (xs.getD k 0) found').1 = true) :
    steps f (xs.take (k + 1)) found = (true, (f (xs.getD k 0) found').2) := by
  have e : xs.take (k + 1) = xs.take k ++ [xs.getD k 0] := by
    rw [List.take_succ_eq_append_getElem hk, List.getD_eq_getElem?_getD, List.getElem?_eq_getElem hk]; rfl
  rw [e, steps_snoc f _ _ _ _ h, steps, if_pos hf, steps]
theorem steps_no {f : Int → List (List Int) → Bool × List (List Int)} {xs : List Int} {k : Nat} {found found' : List (List Int)} (hk : k < xs.length) (h : steps f (xs.take k) found = (true, found')) (hf : (f (xs.getD k 0) found').1 = false) :
    steps f xs found = (false, (f (xs.getD k 0) found').2) := by
  rw [steps_take h, drop_cons hk, steps, if_neg (by rw [hf]; exact Bool.false_ne_true)]

theorem leaf_le {H : Nat → Nat} {n : Nat} {l : List Int} {found : List (List Int)} (h : found.length ≤ 256) : (leaf H n l found).2.length ≤ 257 ∧ ((leaf H n l found).1 = true → (leaf H n l found).2.length ≤ 256) := by
  unfold leaf
  split
  · exact ⟨by simp; omega, fun _ => h⟩
  · exact ⟨by simp; omega, fun h => by simp at h ⊢; omega⟩
theorem steps_le {f : Int → List (List Int) → Bool × List (List Int)} (hf : ∀ x found, found.length ≤ 256 → (f x found).2.length ≤ 257 ∧ ((f x found).1 = true → (f x found).2.length ≤ 256)) :
    ∀ (xs : List Int) (found : List (List Int)), found.length ≤ 256 → (steps f xs found).2.length ≤ 257 ∧ ((steps f xs found).1 = true → (steps f xs found).2.length ≤ 256)
  | [], found, h => ⟨by simp [steps]; omega, fun _ => h⟩
  | x :: xs, found, h => by
    rw [steps]
    by_cases hx : (f x found).1 = true
    · rw [if_pos hx]
      exact steps_le hf xs _ ((hf x found h).2 hx)
    · rw [if_neg hx]
      exact ⟨(hf x found h).1, fun h => by cases h⟩
theorem grow_le (H : Nat → Nat) (sets : List (List Int)) : ∀ (d : Nat) (l : List Int) (m : Nat) (found : List (List Int)), found.length ≤ 256 → (grow H sets d l m found).2.length ≤ 257 ∧ ((grow H sets d l m found).1 = true → (grow H sets d l m found).2.length ≤ 256)
  | 0, l, m, found, h => by
    rw [grow]
    split
    · exact leaf_le h
    · exact ⟨by simp; omega, fun _ => h⟩
  | d + 1, l, m, found, h => by
    rw [grow]
    split
    · exact leaf_le h
    · exact steps_le (fun x found h => grow_le H sets d _ _ found h) _ _ h
end Go.Proofs.Ytfpmbjobieeidaa.Rk
