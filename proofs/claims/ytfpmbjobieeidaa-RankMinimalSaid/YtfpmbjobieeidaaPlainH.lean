/-
  Tallies: no program in sight.
-/
namespace Go.Proofs.Ytfpmbjobieeidaa.Rk

/-- In how many failing, in how many passing rows a component is; and how many rows fail. -/
def fh (rows : List (List Int × Bool)) (c : Nat) : Nat := rows.countP fun r => r.2 && decide ((c : Int) ∈ r.1)
def ph (rows : List (List Int × Bool)) (c : Nat) : Nat := rows.countP fun r => !r.2 && decide ((c : Int) ∈ r.1)
def fails (rows : List (List Int × Bool)) : Nat := rows.countP fun r => r.2
/-- The numbers of a tally. -/
def tal (rows : List (List Int × Bool)) (c j : Nat) : Int :=
  match j with
  | 0 => fh rows c
  | 1 => ph rows c
  | 2 => fails rows - fh rows c
  | _ => rows.length - fails rows - ph rows c
/-- While the rows are counted: behind some rows, and some hits of one more. -/
def cnt (rows : List (List Int × Bool)) (b : Bool) (hits : List Int) (c j : Nat) : Int :=
  match j with
  | 0 => fh rows c + if b = true ∧ (c : Int) ∈ hits then 1 else 0
  | 1 => ph rows c + if b = false ∧ (c : Int) ∈ hits then 1 else 0
  | _ => 0
/-- While the misses are reckoned. -/
def mid (rows : List (List Int × Bool)) (k : Nat) (c j : Nat) : Int := if c < k ∨ j < 2 then tal rows c j else 0
def upd (T : Nat → Nat → Int) (c j : Nat) (v : Int) : Nat → Nat → Int := fun c' j' => if c' = c ∧ j' = j then v else T c' j'

theorem cnt_nil (rows : List (List Int × Bool)) (b b' : Bool) : cnt rows b [] = cnt rows b' [] := by
  funext c j; unfold cnt; split <;> simp
theorem cnt_zero : cnt [] true [] = fun _ _ => 0 := by
  funext c j; unfold cnt fh ph; split <;> simp
theorem cnt_row (rows : List (List Int × Bool)) (r : List Int × Bool) : cnt rows r.2 r.1 = cnt (rows ++ [r]) true [] := by
  funext c j
  unfold cnt fh ph
  split
  · simp only [List.countP_append, List.countP_cons, List.countP_nil]
    cases r.2 <;> simp
    split <;> rfl
  · simp only [List.countP_append, List.countP_cons, List.countP_nil]
    cases r.2 <;> simp
    split <;> rfl
  · rfl
theorem cnt_hit (rows : List (List Int × Bool)) (b : Bool) (hits : List Int) (x : Nat) (hx : (x : Int) ∉ hits) :
    cnt rows b (hits ++ [(x : Int)]) = upd (cnt rows b hits) x (if b = true then 0 else 1) (cnt rows b hits x (if b = true then 0 else 1) + 1) := by
  funext c j
  unfold upd
  cases b
  · simp only [Bool.false_eq_true, if_false]
    split
    · rename_i h
      obtain ⟨rfl, rfl⟩ := h
      unfold cnt
      simp [hx]
    · rename_i h
      unfold cnt
      split
      · simp
      · have : c ≠ x := fun e => h ⟨e, rfl⟩
        have h2 : ((c : Int) = x) ↔ False := ⟨fun e => this (by omega), False.elim⟩
        simp [h2]
      · rfl
  · simp only [if_true]
    split
    · rename_i h
      obtain ⟨rfl, rfl⟩ := h
      unfold cnt
      simp [hx]
    · rename_i h
      unfold cnt
      split
      · have : c ≠ x := fun e => h ⟨e, rfl⟩
        have h2 : ((c : Int) = x) ↔ False := ⟨fun e => this (by omega), False.elim⟩
        simp [h2]
      · simp
      · rfl
theorem cnt_mid (rows : List (List Int × Bool)) : cnt rows true [] = mid rows 0 := by
  funext c j
  unfold cnt mid tal
  match j with
  | 0 => simp
  | 1 => simp
  | (j + 2) => simp; intro h; omega
theorem mid_step (rows : List (List Int × Bool)) (k c j : Nat) (hj : j < 4) :
    upd (upd (mid rows k) k 2 (fails rows - tal rows k 0)) k 3 (rows.length - fails rows - tal rows k 1) c j = mid rows (k + 1) c j := by
  unfold upd mid
  by_cases h : c = k
  · subst h
    rcases (show j = 0 ∨ j = 1 ∨ j = 2 ∨ j = 3 by omega) with rfl | rfl | rfl | rfl <;> simp [tal]
  · simp only [h, false_and, if_false]
    have e : c < k + 1 ↔ c < k := by omega
    simp only [e]
theorem mid_low (rows : List (List Int × Bool)) (k c j : Nat) (hj : j < 2) : mid rows k c j = tal rows c j := by unfold mid; rw [if_pos (.inr hj)]
theorem mid_done (rows : List (List Int × Bool)) (n c j : Nat) (h : c < n) : mid rows n c j = tal rows c j := by unfold mid; rw [if_pos (.inl h)]
theorem tal_bounds (rows : List (List Int × Bool)) (c j : Nat) : 0 ≤ tal rows c j ∧ tal rows c j ≤ rows.length := by
  have h1 : fh rows c ≤ fails rows := List.countP_mono_left fun r _ h => by simp at h; exact h.1
  have h2 : fails rows ≤ rows.length := List.countP_le_length
  have h3 : ph rows c + fails rows ≤ rows.length := by
    unfold ph fails
    induction rows with
    | nil => simp
    | cons r rows ih =>
      simp only [List.countP_cons, List.length_cons]
      have ih' := ih (List.countP_mono_left fun r _ h => by simp at h; exact h.1) List.countP_le_length
      cases r.2 <;> simp <;> (try split) <;> omega
  unfold tal
  split <;> omega
theorem cnt_bounds (rows : List (List Int × Bool)) (b : Bool) (hits : List Int) (c j : Nat) : 0 ≤ cnt rows b hits c j ∧ cnt rows b hits c j ≤ rows.length + 1 := by
  unfold cnt
  split
  · have : fh rows c ≤ rows.length := List.countP_le_length
    split <;> omega
  · have : ph rows c ≤ rows.length := List.countP_le_length
    split <;> omega
  · omega
end Go.Proofs.Ytfpmbjobieeidaa.Rk
