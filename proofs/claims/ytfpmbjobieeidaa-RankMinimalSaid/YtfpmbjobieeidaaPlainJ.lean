/-
  Sets within sets, sets that hit sets, the smallest ones: no program in sight.
-/
import Derived.Test.YtfpmbjobieeidaaPlainC
namespace Go.Proofs.Ytfpmbjobieeidaa.Rk

theorem memD {α : Type} {xs : List α} {k : Nat} {d : α} (h : k < xs.length) : xs.getD k d ∈ xs := by
  rw [List.getD_eq_getElem?_getD, List.getElem?_eq_getElem h]; exact List.getElem_mem h
theorem mem_getD {α : Type} {xs : List α} {d x : α} (h : x ∈ xs) : ∃ k, k < xs.length ∧ xs.getD k d = x := by
  obtain ⟨k, hk, e⟩ := List.mem_iff_getElem.1 h
  exact ⟨k, hk, by rw [List.getD_eq_getElem?_getD, List.getElem?_eq_getElem hk]; exact e⟩
/-- Each element of the one is in the other. -/
def sub (xs ys : List Int) : Bool := decide (∀ x ∈ xs, x ∈ ys)
/-- A set and one more have an element in common. -/
def meets (set s : List Int) : Bool := s.any fun x => decide (x ∈ set)
def hits (set : List Int) (xss : List (List Int)) : Bool := xss.all fun s => meets set s
theorem meets_take (set s : List Int) (k : Nat) (h : k < s.length) : meets set (s.take (k + 1)) = (meets set (s.take k) || decide (s.getD k 0 ∈ set)) := by
  unfold meets
  rw [List.take_succ_eq_append_getElem h, List.any_append, List.getD_eq_getElem?_getD, List.getElem?_eq_getElem h]
  simp
theorem meets_iff {set s : List Int} : meets set s = true ↔ ∃ x ∈ s, x ∈ set := by
  unfold meets
  simp
theorem hits_iff {set : List Int} {xss : List (List Int)} : hits set xss = true ↔ ∀ s ∈ xss, ∃ x ∈ s, x ∈ set := by
  unfold hits meets
  simp
theorem sub_iff {xs ys : List Int} : sub xs ys = true ↔ ∀ x ∈ xs, x ∈ ys := by unfold sub; simp

/-- Of increasing lists, the one within the other, and of one length: they are the same. -/
theorem pw_sub_len : ∀ {a b : List Int}, a.Pairwise (· < ·) → b.Pairwise (· < ·) → (∀ x ∈ a, x ∈ b) → a.length ≤ b.length ∧ (b.length ≤ a.length → a = b)
  | [], b, _, _, _ => ⟨Nat.zero_le _, fun h => (List.eq_nil_of_length_eq_zero (by simpa using h)).symm⟩
  | x :: a, [], _, _, h => by have := h x List.mem_cons_self; simp at this
  | x :: a, y :: b, ha, hb, h => by
    obtain ⟨ha1, ha2⟩ := List.pairwise_cons.1 ha
    obtain ⟨hb1, hb2⟩ := List.pairwise_cons.1 hb
    have hxy : y ≤ x := by
      rcases List.mem_cons.1 (h x List.mem_cons_self) with e | e
      · omega
      · have := hb1 x e; omega
    have h2 : ∀ z ∈ a, z ∈ b := fun z hz => by
      rcases List.mem_cons.1 (h z (List.mem_cons_of_mem _ hz)) with e | e
      · have := ha1 z hz; omega
      · exact e
    obtain ⟨r1, r2⟩ := pw_sub_len ha2 hb2 h2
    refine ⟨by simpa using r1, fun hl => ?_⟩
    have e := r2 (by simpa using hl)
    subst e
    rcases List.mem_cons.1 (h x List.mem_cons_self) with e | e
    · rw [e]
    · have := ha1 x e; omega

/-- No set of the list is within a later one. -/
def Apart (l : List (List Int)) : Prop := l.Pairwise fun a b => within a b = false
theorem smFold_inv (l : List (List Int)) : ∀ out, (∀ s ∈ l, s.Pairwise (· < ·)) → Apart out → Apart (l.foldl smStep out) ∧ (∀ s ∈ l, ∃ x ∈ l.foldl smStep out, within x s = true) ∧ (∀ x ∈ out, x ∈ l.foldl smStep out) ∧ (l.foldl smStep out).Sublist (out ++ l) := by
  induction l with
  | nil => intro out _ h; exact ⟨h, by simp, fun x hx => hx, by simp⟩
  | cons s l ih =>
    intro out hpw h
    have hpw' : ∀ t ∈ l, t.Pairwise (· < ·) := fun t ht => hpw t (List.mem_cons_of_mem _ ht)
    rw [List.foldl_cons]
    by_cases ha : out.any (fun x => within x s) = true
    · have e : smStep out s = out := by unfold smStep; rw [if_pos ha]
      rw [e]
      obtain ⟨i1, i2, i3, i4⟩ := ih out hpw' h
      refine ⟨i1, fun t ht => ?_, i3, i4.trans ?_⟩
      · rcases List.mem_cons.1 ht with rfl | ht
        · obtain ⟨x, hx, hw⟩ := List.any_eq_true.1 ha
          exact ⟨x, i3 x hx, hw⟩
        · exact i2 t ht
      · exact List.Sublist.append_left (List.sublist_cons_self _ _) _
    · have e : smStep out s = out ++ [s] := by unfold smStep; rw [if_neg ha]
      rw [e]
      have hap : Apart (out ++ [s]) := by
        unfold Apart
        rw [List.pairwise_append]
        refine ⟨h, by simp, fun a ha' b hb => ?_⟩
        obtain rfl := List.mem_singleton.1 hb
        simp only [Bool.not_eq_true, List.any_eq_false] at ha
        simpa using ha a ha'
      obtain ⟨i1, i2, i3, i4⟩ := ih (out ++ [s]) hpw' hap
      refine ⟨i1, fun t ht => ?_, fun x hx => i3 x (List.mem_append.2 (.inl hx)), by simpa using i4⟩
      rcases List.mem_cons.1 ht with rfl | ht
      · exact ⟨t, i3 t (by simp), (within_iff (hpw t List.mem_cons_self) (hpw t List.mem_cons_self)).2 fun _ h => h⟩
      · exact i2 t ht

theorem smFold_keep (l : List (List Int)) : ∀ out, Apart (out ++ l) → l.foldl smStep out = out ++ l := by
  induction l with
  | nil => intro out _; simp
  | cons s l ih =>
    intro out h
    rw [List.foldl_cons]
    have e : smStep out s = out ++ [s] := by
      unfold smStep
      rw [if_neg]
      rw [List.any_eq_true]
      rintro ⟨x, hx, hw⟩
      unfold Apart at h
      rw [List.pairwise_append] at h
      have := h.2.2 x hx s List.mem_cons_self
      rw [hw] at this
      cases this
    rw [e, ih (out ++ [s]) (by simpa using h)]
    simp

section
variable {xss : List (List Int)}
theorem pw_sorted (h : ∀ s ∈ xss, s.Pairwise (· < ·)) : ∀ s ∈ sortSets xss, s.Pairwise (· < ·) := fun s hs => h s ((sortSets_perm xss).mem_iff.1 hs)
theorem smallest_inv (h : ∀ s ∈ xss, s.Pairwise (· < ·)) : Apart (smallest xss) ∧ (∀ s ∈ xss, ∃ x ∈ smallest xss, ∀ z ∈ x, z ∈ s) ∧ (smallest xss).Pairwise (fun a b => ord a b ≤ 0) ∧ (∀ s ∈ smallest xss, s ∈ xss) ∧ (smallest xss).length ≤ xss.length := by
  obtain ⟨i1, i2, _, i4⟩ := smFold_inv (sortSets xss) [] (pw_sorted h) List.Pairwise.nil
  rw [List.nil_append] at i4
  have hm : ∀ s ∈ smallest xss, s ∈ xss := fun s hs => (sortSets_perm xss).mem_iff.1 (i4.mem hs)
  refine ⟨i1, fun s hs => ?_, (sortSets_pairwise xss).sublist i4, hm, ?_⟩
  · obtain ⟨x, hx, hw⟩ := i2 s ((sortSets_perm xss).mem_iff.2 hs)
    exact ⟨x, hx, (within_iff (h x (hm x hx)) (h s hs)).1 hw⟩
  · have := i4.length_le
    rw [(sortSets_perm xss).length_eq] at this
    exact this
/-- The smallest ones of the smallest ones are these. -/
theorem smallest_twice (h : ∀ s ∈ xss, s.Pairwise (· < ·)) : smallest (smallest xss) = smallest xss := by
  obtain ⟨i1, _, i3, _⟩ := smallest_inv h
  have e : sortSets (smallest xss) = smallest xss := (sortSets_unique (List.Perm.refl _) i3).symm
  show (sortSets (smallest xss)).foldl smStep [] = _
  rw [e, smFold_keep _ [] (by simpa using i1), List.nil_append]
theorem smallest_hits (h : ∀ s ∈ xss, s.Pairwise (· < ·)) (set : List Int) : hits set (smallest xss) = hits set xss := by
  obtain ⟨_, i2, _, i4, _⟩ := smallest_inv h
  rw [Bool.eq_iff_iff, hits_iff, hits_iff]
  constructor
  · intro hh s hs
    obtain ⟨x, hx, hsub⟩ := i2 s hs
    obtain ⟨z, hz, hz'⟩ := hh x hx
    exact ⟨z, hsub z hz, hz'⟩
  · exact fun hh s hs => hh s (i4 s hs)
/-- Of the smallest ones none is within another one. -/
theorem smallest_apart (h : ∀ s ∈ xss, s.Pairwise (· < ·)) {i k : Nat} (hi : i < (smallest xss).length) (hk : k < (smallest xss).length) (hne : i ≠ k) : sub ((smallest xss).getD i []) ((smallest xss).getD k []) = false := by
  obtain ⟨i1, _, i3, i4, _⟩ := smallest_inv h
  have pi := h _ (i4 _ (memD (d := []) hi))
  have pk := h _ (i4 _ (memD (d := []) hk))
  rw [← Bool.not_eq_true, sub_iff]
  intro hs
  unfold Apart at i1
  rw [List.pairwise_iff_getElem] at i1 i3
  have ei : (smallest xss).getD i [] = (smallest xss)[i] := by rw [List.getD_eq_getElem?_getD, List.getElem?_eq_getElem hi]; rfl
  have ek : (smallest xss).getD k [] = (smallest xss)[k] := by rw [List.getD_eq_getElem?_getD, List.getElem?_eq_getElem hk]; rfl
  rw [ei] at pi hs
  rw [ek] at pk hs
  rcases Nat.lt_or_gt_of_ne hne with hlt | hlt
  · have := i1 i k hi hk hlt
    rw [(within_iff pi pk).2 hs] at this
    cases this
  · have h1 := i1 k i hk hi hlt
    have h2 := i3 k i hk hi hlt
    obtain ⟨r1, r2⟩ := pw_sub_len pi pk hs
    have hl : (smallest xss)[k].length ≤ (smallest xss)[i].length := by
      rcases Nat.lt_or_ge (smallest xss)[i].length (smallest xss)[k].length with hlt2 | hge
      · unfold ord at h2
        rw [if_neg (by omega), if_pos hlt2] at h2
        omega
      · exact hge
    have e := r2 hl
    rw [(within_iff pk pi).2 (by rw [e]; exact fun _ h => h)] at h1
    cases h1
end
end Go.Proofs.Ytfpmbjobieeidaa.Rk
