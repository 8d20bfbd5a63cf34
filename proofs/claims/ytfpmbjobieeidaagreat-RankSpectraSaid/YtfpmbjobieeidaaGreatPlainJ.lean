/-
  Sets within sets, sets that hit sets, the smallest ones: no program in sight.
  The search finds the minimal hitting sets, all of them, and no others: no program in sight.
-/
import Derived.Test.YtfpmbjobieeidaaGreatPlainA
namespace Go.Proofs.YtfpmbjobieeidaaGreat.Rk

theorem memD {α : Type} {xs : List α} {k : Nat} {d : α} (h : k < xs.length) : xs.getD k d ∈ xs := by
  rw [List.getD_eq_getElem?_getD, List.getElem?_eq_getElem h]; exact List.getElem_mem h
theorem mem_getD {α : Type} {xs : List α} {d x : α} (h : x ∈ xs) : ∃ k, k < xs.length ∧ xs.getD k d = x := by
  obtain ⟨k, hk, e⟩ := List.mem_iff_getElem.1 h
  exact ⟨k, hk, by rw [List.getD_eq_getElem?_getD, List.getElem?_eq_getElem hk]; exact e⟩
/-- Each element of the one is in the other. -/
def sub (xs ys : List Int) : Bool := decide (∀ x ∈ xs, x ∈ ys)
/-- A set and one more have an element in common. -/
def meets (set s : List Int) : Bool := s.any fun x => decide (x ∈ set)
def hits (set : List Int) (xss : List (List Int)) : Bool := xss.all fun s => meets set s
theorem meets_take (set s : List Int) (k : Nat) (h : k < s.length) : meets set (s.take (k + 1)) = (meets set (s.take k) || decide (s.getD k 0 ∈ set)) := by
  unfold meets
  rw [List.take_succ_eq_append_getElem h, List.any_append, List.getD_eq_getElem?_getD, List.getElem?_eq_getElem h]
  simp
theorem meets_iff {set s : List Int} : meets set s = true ↔ ∃ x ∈ s, x ∈ set := by
  unfold meets
  simp
theorem hits_iff {set : List Int} {xss : List (List Int)} : hits set xss = true ↔ ∀ s ∈ xss, ∃ x ∈ s, x ∈ set := by
  unfold hits meets
  simp
theorem sub_iff {xs ys : List Int} : sub xs ys = true ↔ ∀ x ∈ xs, x ∈ ys := by unfold sub; simp

/-- Of increasing lists, the one within the other, and of one length: they are the same. -/
theorem pw_sub_len : ∀ {a b : List Int}, a.Pairwise (· < ·) → b.Pairwise (· < ·) → (∀ x ∈ a, x ∈ b) → a.length ≤ b.length ∧ (b.length ≤ a.length → a = b)
  | [], b, _, _, _ => ⟨Nat.zero_le _, fun h => (List.eq_nil_of_length_eq_zero (by simpa using h)).symm⟩
  | x :: a, [], _, _, h => by have := h x List.mem_cons_self; simp at this
  | x :: a, y :: b, ha, hb, h => by
    obtain ⟨ha1, ha2⟩ := List.pairwise_cons.1 ha
    obtain ⟨hb1, hb2⟩ := List.pairwise_cons.1 hb
    have hxy : y ≤ x := by
      rcases List.mem_cons.1 (h x List.mem_cons_self) with e | e
      · omega
      · have := hb1 x e; omega
    have h2 : ∀ z ∈ a, z ∈ b := fun z hz => by
      rcases List.mem_cons.1 (h z (List.mem_cons_of_mem _ hz)) with e | e
      · have := ha1 z hz; omega
      · exact e
    obtain ⟨r1, r2⟩ := pw_sub_len ha2 hb2 h2
    refine ⟨by simpa using r1, fun hl => ?_⟩
    have e := r2 (by simpa using hl)
    subst e
    rcases List.mem_cons.1 (h x List.mem_cons_self) with e | e
    · rw [e]
    · have := ha1 x e; omega

/-- No set of the list is within a later one. -/
def Apart (l : List (List Int)) : Prop := l.Pairwise fun a b => within a b = false
theorem smFold_inv (l : List (List Int)) : ∀ out, (∀ s ∈ l, s.Pairwise (· < ·)) → Apart out → Apart (l.foldl smStep out) ∧ (∀ s ∈ l, ∃ x ∈ l.foldl smStep out, within x s = true) ∧ (∀ x ∈ out, x ∈ l.foldl smStep out) ∧ (l.foldl smStep out).Sublist (out ++ l) := by
  induction l with
  | nil => intro out _ h; exact ⟨h, by simp, fun x hx => hx, by simp⟩
  | cons s l ih =>
    intro out hpw h
    have hpw' : ∀ t ∈ l, t.Pairwise (· < ·) := fun t ht => hpw t (List.mem_cons_of_mem _ ht)
    rw [List.foldl_cons]
    by_cases ha : out.any (fun x => within x s) = true
    · have e : smStep out s = out := by unfold smStep; rw [if_pos ha]
      rw [e]
      obtain ⟨i1, i2, i3, i4⟩ := ih out hpw' h
      refine ⟨i1, fun t ht => ?_, i3, i4.trans ?_⟩
      · rcases List.mem_cons.1 ht with rfl | ht
        · obtain ⟨x, hx, hw⟩ := List.any_eq_true.1 ha
          exact ⟨x, i3 x hx, hw⟩
        · exact i2 t ht
      · exact List.Sublist.append_left (List.sublist_cons_self _ _) _
    · have e : smStep out s = out ++ [s] := by unfold smStep; rw [if_neg ha]
      rw [e]
      have hap : Apart (out ++ [s]) := by
        unfold Apart
        rw [List.pairwise_append]
        refine ⟨h, by simp, fun a ha' b hb => ?_⟩
        obtain rfl := List.mem_singleton.1 hb
        simp only [Bool.not_eq_true, List.any_eq_false] at ha
        simpa using ha a ha'
      obtain ⟨i1, i2, i3, i4⟩ := ih (out ++ [s]) hpw' hap
      refine ⟨i1, fun t ht => ?_, fun x hx => i3 x (List.mem_append.2 (.inl hx)), by simpa using i4⟩
      rcases List.mem_cons.1 ht with rfl | ht
      · exact ⟨t, i3 t (by simp), (within_iff (hpw t List.mem_cons_self) (hpw t List.mem_cons_self)).2 fun _ h => h⟩
      · exact i2 t ht

theorem smFold_keep (l : List (List Int)) : ∀ out, Apart (out ++ l) → l.foldl smStep out = out ++ l := by
  induction l with
  | nil => intro out _; simp
  | cons s l ih =>
    intro out h
    rw [List.foldl_cons]
    have e : smStep out s = out ++ [s] := by
      unfold smStep
      rw [if_neg]
      rw [List.any_eq_true]
      rintro ⟨x, hx, hw⟩
      unfold Apart at h
      rw [List.pairwise_append] at h
      have := h.2.2 x hx s List.mem_cons_self
      rw [hw] at this
      cases this
    rw [e, ih (out ++ [s]) (by simpa using h)]
    simp

section
variable {xss : List (List Int)}
theorem pw_sorted (h : ∀ s ∈ xss, s.Pairwise (· < ·)) : ∀ s ∈ sortSets xss, s.Pairwise (· < ·) := fun s hs => h s ((sortSets_perm xss).mem_iff.1 hs)
theorem smallest_inv (h : ∀ s ∈ xss, s.Pairwise (· < ·)) : Apart (smallest xss) ∧ (∀ s ∈ xss, ∃ x ∈ smallest xss, ∀ z ∈ x, z ∈ s) ∧ (smallest xss).Pairwise (fun a b => ord a b ≤ 0) ∧ (∀ s ∈ smallest xss, s ∈ xss) ∧ (smallest xss).length ≤ xss.length := by
  obtain ⟨i1, i2, _, i4⟩ := smFold_inv (sortSets xss) [] (pw_sorted h) List.Pairwise.nil
  rw [List.nil_append] at i4
  have hm : ∀ s ∈ smallest xss, s ∈ xss := fun s hs => (sortSets_perm xss).mem_iff.1 (i4.mem hs)
  refine ⟨i1, fun s hs => ?_, (sortSets_pairwise xss).sublist i4, hm, ?_⟩
  · obtain ⟨x, hx, hw⟩ := i2 s ((sortSets_perm xss).mem_iff.2 hs)
    exact ⟨x, hx, (within_iff (h x (hm x hx)) (h s hs)).1 hw⟩
  · have := i4.length_le
    rw [(sortSets_perm xss).length_eq] at this
    exact this
/-- The smallest ones of the smallest ones are these. -/
theorem smallest_twice (h : ∀ s ∈ xss, s.Pairwise (· < ·)) : smallest (smallest xss) = smallest xss := by
  obtain ⟨i1, _, i3, _⟩ := smallest_inv h
  have e : sortSets (smallest xss) = smallest xss := (sortSets_unique (List.Perm.refl _) i3).symm
  show (sortSets (smallest xss)).foldl smStep [] = _
  rw [e, smFold_keep _ [] (by simpa using i1), List.nil_append]
theorem smallest_hits (h : ∀ s ∈ xss, s.Pairwise (· < ·)) (set : List Int) : hits set (smallest xss) = hits set xss := by
  obtain ⟨_, i2, _, i4, _⟩ := smallest_inv h
  rw [Bool.eq_iff_iff, hits_iff, hits_iff]
  constructor
  · intro hh s hs
    obtain ⟨x, hx, hsub⟩ := i2 s hs
    obtain ⟨z, hz, hz'⟩ := hh x hx
    exact ⟨z, hsub z hz, hz'⟩
  · exact fun hh s hs => hh s (i4 s hs)
/-- Of the smallest ones none is within another one. -/
theorem smallest_apart (h : ∀ s ∈ xss, s.Pairwise (· < ·)) {i k : Nat} (hi : i < (smallest xss).length) (hk : k < (smallest xss).length) (hne : i ≠ k) : sub ((smallest xss).getD i []) ((smallest xss).getD k []) = false := by
  obtain ⟨i1, _, i3, i4, _⟩ := smallest_inv h
  have pi := h _ (i4 _ (memD (d := []) hi))
  have pk := h _ (i4 _ (memD (d := []) hk))
  rw [← Bool.not_eq_true, sub_iff]
  intro hs
  unfold Apart at i1
  rw [List.pairwise_iff_getElem] at i1 i3
  have ei : (smallest xss).getD i [] = (smallest xss)[i] := by rw [List.getD_eq_getElem?_getD, List.getElem?_eq_getElem hi]; rfl
  have ek : (smallest xss).getD k [] = (smallest xss)[k] := by rw [List.getD_eq_getElem?_getD, List.getElem?_eq_getElem hk]; rfl
  rw [ei] at pi hs
  rw [ek] at pk hs
  rcases Nat.lt_or_gt_of_ne hne with hlt | hlt
  · have := i1 i k hi hk hlt
    rw [(within_iff pi pk).2 hs] at this
    cases this
  · have h1 := i1 k i hk hi hlt
    have h2 := i3 k i hk hi hlt
    obtain ⟨r1, r2⟩ := pw_sub_len pi pk hs
    have hl : (smallest xss)[k].length ≤ (smallest xss)[i].length := by
      rcases Nat.lt_or_ge (smallest xss)[i].length (smallest xss)[k].length with hlt2 | hge
      · unfold ord at h2
        rw [if_neg (by omega), if_pos hlt2] at h2
        omega
      · exact hge
    have e := r2 hl
    rw [(within_iff pk pi).2 (by rw [e]; exact fun _ h => h)] at h1
    cases h1
end
end Go.Proofs.YtfpmbjobieeidaaGreat.Rk
namespace Go.Proofs.YtfpmbjobieeidaaGreat.Rk

theorem hAdd_bit (H : Nat → Nat) (n i n' j : Nat) : (hAdd H n i n').testBit j = ((H n').testBit j || decide (n' = n ∧ j = i)) := by
  unfold hAdd
  by_cases h : n' = n
  · subst h
    rw [if_pos rfl, Nat.testBit_or, Nat.testBit_two_pow]
    by_cases hj : j = i
    · subst hj; simp
    · have : ¬ i = j := fun e => hj e.symm
      simp [hj, this]
  · rw [if_neg h]; simp [h]
theorem hSet_bit (i n j : Nat) : ∀ (s : List Int) (H : Nat → Nat), (∀ x ∈ s, 0 ≤ x) → (hSet H i s n).testBit j = ((H n).testBit j || decide (j = i ∧ (n : Int) ∈ s))
  | [], H, _ => by simp [hSet]
  | x :: s, H, h => by
    rw [hSet, hSet_bit i n j s _ (fun y hy => h y (List.mem_cons_of_mem _ hy)), hAdd_bit, Bool.or_assoc]
    congr 1
    have hx := h x List.mem_cons_self
    have e : (n = x.toNat) ↔ ((n : Int) = x) := by omega
    simp only [List.mem_cons, e]
    by_cases h1 : j = i <;> by_cases h2 : (n : Int) = x <;> simp [h1, h2]
theorem hTo_bit {ss : List (List Int)} (hn : ∀ i, ∀ x ∈ ss.getD i [], 0 ≤ x) (n j : Nat) : ∀ k, (hTo ss k n).testBit j = decide (j < k ∧ (n : Int) ∈ ss.getD j [])
  | 0 => by simp [hTo]
  | k + 1 => by
    rw [hTo, hSet_bit k n j _ _ (hn k), hTo_bit hn n j k]
    by_cases h1 : j = k
    · subst h1; simp
    · have e : j < k + 1 ↔ j < k := by omega
      simp [h1, e]

theorem fo_neg {m n : Nat} : fo m n < 0 ↔ ∀ k, k < n → m.testBit k = true := by
  rcases fo_cases m n with ⟨e, h⟩ | ⟨k, hk, e, h0, _⟩
  · rw [e]; exact ⟨fun _ => h, fun _ => by decide⟩
  · rw [e]
    refine ⟨fun h => by omega, fun h => ?_⟩
    have := h k hk
    rw [h0] at this
    cases this

/-- A list without its i-th number. -/
def drop1 (l : List Int) (i : Nat) : List Int := l.take i ++ l.drop (i + 1)
theorem mem_drop1 {l : List Int} {i : Nat} {x : Int} : x ∈ drop1 l i ↔ ∃ k, k < l.length ∧ k ≠ i ∧ l.getD k 0 = x := by
  unfold drop1
  rw [List.mem_append]
  constructor
  · rintro (h | h)
    · obtain ⟨k, hk, rfl⟩ := List.mem_iff_getElem.1 h
      have hk' : k < i ∧ k < l.length := by simp at hk; omega
      exact ⟨k, hk'.2, by omega, by rw [List.getElem_take, List.getD_eq_getElem?_getD, List.getElem?_eq_getElem hk'.2]; rfl⟩
    · obtain ⟨k, hk, rfl⟩ := List.mem_iff_getElem.1 h
      have hk' : i + 1 + k < l.length := by simp at hk; omega
      exact ⟨i + 1 + k, hk', by omega, by rw [List.getElem_drop, List.getD_eq_getElem?_getD, List.getElem?_eq_getElem hk']; rfl⟩
  · rintro ⟨k, hk, hne, rfl⟩
    have e : l.getD k 0 = l[k] := by rw [List.getD_eq_getElem?_getD, List.getElem?_eq_getElem hk]; rfl
    rw [e]
    by_cases h : k < i
    · exact .inl (List.mem_take_iff_getElem.2 ⟨k, by omega, rfl⟩)
    · refine .inr (List.mem_drop_iff_getElem.2 ⟨k - (i + 1), by omega, ?_⟩)
      congr 1
      omega

section
variable {ss : List (List Int)} (hn : ∀ i, ∀ x ∈ ss.getD i [], (0 : Int) ≤ x ∧ x < 256)

/-- What a number says of the sets that a list hits. -/
def Cov (ss : List (List Int)) (l : List Int) (m : Nat) : Prop := ∀ j, m.testBit j = decide (j < ss.length ∧ ∃ x ∈ l, x ∈ ss.getD j [])
theorem cov_nil (ss : List (List Int)) : Cov ss [] 0 := fun j => by simp
include hn in
theorem cov_snoc {l : List Int} {m : Nat} {x : Int} (h : Cov ss l m) (hx : 0 ≤ x) : Cov ss (l ++ [x]) (m ||| hTo ss ss.length x.toNat) := fun j => by
  rw [Nat.testBit_or, h j, hTo_bit (fun i x h => (hn i x h).1), show ((x.toNat : Nat) : Int) = x by omega]
  by_cases hj : j < ss.length
  · simp [hj, or_and_right, exists_or]
  · simp [hj]
theorem cov_hits {l : List Int} {m : Nat} (h : Cov ss l m) : fo m ss.length < 0 ↔ hits l ss = true := by
  rw [fo_neg, hits_iff]
  constructor
  · intro hh s hs
    obtain ⟨k, hk, rfl⟩ := mem_getD (d := []) hs
    have := hh k hk
    rw [h k] at this
    obtain ⟨_, x, h1, h2⟩ := of_decide_eq_true this
    exact ⟨x, h2, h1⟩
  · intro hh k hk
    rw [h k]
    obtain ⟨x, h1, h2⟩ := hh _ (memD (d := []) hk)
    exact decide_eq_true ⟨hk, x, h2, h1⟩
include hn in
theorem rest_cov {l : List Int} (hl : ∀ x ∈ l, 0 ≤ x) (i : Nat) : ∀ k, k ≤ l.length → ∀ j, (rest (hTo ss ss.length) l i k).testBit j = decide (j < ss.length ∧ ∃ k', k' < k ∧ k' ≠ i ∧ l.getD k' 0 ∈ ss.getD j [])
  | 0, _, j => by simp [rest]
  | k + 1, hk, j => by
    have ih := rest_cov hl i k (by omega) j
    rw [rest]
    by_cases h : k = i
    · rw [if_pos h, ih]
      congr 1
      apply propext
      constructor
      · rintro ⟨h1, k', h2, h3⟩; exact ⟨h1, k', by omega, h3⟩
      · rintro ⟨h1, k', h2, h3, h4⟩; exact ⟨h1, k', by omega, h3, h4⟩
    · have hx := hl _ (memD (d := 0) (show k < l.length by omega))
      rw [if_neg h, Nat.testBit_or, ih, hTo_bit (fun i x h => (hn i x h).1), show (((l.getD k 0).toNat : Nat) : Int) = l.getD k 0 by omega, Bool.eq_iff_iff]
      simp only [Bool.or_eq_true, decide_eq_true_eq]
      constructor
      · rintro (⟨h1, k', h2, h3⟩ | ⟨h1, h2⟩)
        · exact ⟨h1, k', by omega, h3⟩
        · exact ⟨h1, k, by omega, h, h2⟩
      · rintro ⟨h1, k', h2, h3, h4⟩
        by_cases e : k' = k
        · subst e; exact .inr ⟨h1, h4⟩
        · exact .inl ⟨h1, k', by omega, h3, h4⟩
include hn in
theorem needed_iff {l : List Int} (hl : ∀ x ∈ l, 0 ≤ x) : needed (hTo ss ss.length) ss.length l = true ↔ ∀ i, i < l.length → hits (drop1 l i) ss = false := by
  unfold needed
  rw [decide_eq_true_eq]
  have e : ∀ i, (0 ≤ fo (rest (hTo ss ss.length) l i l.length) ss.length) ↔ hits (drop1 l i) ss = false := fun i => by
    have h : Cov ss (drop1 l i) (rest (hTo ss ss.length) l i l.length) := fun j => by
      rw [rest_cov hn hl i l.length (Nat.le_refl _) j]
      congr 1
      apply propext
      constructor
      · rintro ⟨h1, k, h2, h3, h4⟩; exact ⟨h1, _, mem_drop1.2 ⟨k, h2, h3, rfl⟩, h4⟩
      · rintro ⟨h1, x, h2, h3⟩
        obtain ⟨k, hk, hne, rfl⟩ := mem_drop1.1 h2
        exact ⟨h1, k, hk, hne, h3⟩
    have := cov_hits h
    rw [← Bool.not_eq_true, ← this]
    omega
  exact ⟨fun h i hi => (e i).1 (h i hi), fun h i hi => (e i).2 (h i hi)⟩

/-- A minimal hitting set. -/
structure Min (ss : List (List Int)) (S : List Int) : Prop where
  pw : S.Pairwise (· < ·)
  low : ∀ x ∈ S, 0 ≤ x ∧ x < 256
  hits : Rk.hits S ss = true
  min : ∀ i, i < S.length → Rk.hits (drop1 S i) ss = false

theorem sortInts_perm (l : List Int) : (sortInts l).Perm l := List.mergeSort_perm _ _
theorem sortInts_lt {l : List Int} (h : l.Nodup) : (sortInts l).Pairwise (· < ·) := by
  have h1 := List.pairwise_mergeSort (le := fun x y : Int => decide (x ≤ y)) (fun a b c h1 h2 => by simp only [decide_eq_true_eq] at *; omega) (fun a b => by simp only [Bool.or_eq_true, decide_eq_true_eq]; omega) l
  have h2 : (sortInts l).Nodup := (sortInts_perm l).nodup_iff.2 h
  refine (List.pairwise_and_iff.2 ⟨h1, h2⟩).imp fun {a b} h => ?_
  have := h.1
  simp only [decide_eq_true_eq] at this
  have := h.2
  omega
theorem hits_mem {l l' : List Int} (h : ∀ x ∈ l, x ∈ l') (hh : hits l ss = true) : hits l' ss = true := by
  rw [hits_iff] at *
  intro s hs
  obtain ⟨x, h1, h2⟩ := hh s hs
  exact ⟨x, h1, h x h2⟩
theorem pad_inj {s t : List Int} (hs : s.length ≤ 3) (ht : t.length ≤ 3) (hs0 : ∀ x ∈ s, 0 ≤ x) (ht0 : ∀ x ∈ t, 0 ≤ x) (h : pad s = pad t) : s = t := by
  unfold pad at h
  simp only [Prod.mk.injEq] at h
  obtain ⟨h0, h1, h2⟩ := h
  match s, t with
  | [], [] => rfl
  | [], y :: _ => have := ht0 y List.mem_cons_self; simp at h0; omega
  | x :: _, [] => have := hs0 x List.mem_cons_self; simp at h0; omega
  | [x], [y] => simp at h0; rw [h0]
  | [x], y :: y' :: _ => have := ht0 y' (by simp); simp at h1; omega
  | x :: x' :: _, [y] => have := hs0 x' (by simp); simp at h1; omega
  | [x, x'], [y, y'] => simp at h0 h1; rw [h0, h1]
  | [x, x'], y :: y' :: y'' :: _ => have := ht0 y'' (by simp); simp at h2; omega
  | x :: x' :: x'' :: _, [y, y'] => have := hs0 x'' (by simp); simp at h2; omega
  | [x, x', x''], [y, y', y''] => simp at h0 h1 h2; rw [h0, h1, h2]
  | x :: x' :: x'' :: x''' :: _, _ => simp at hs
  | _, y :: y' :: y'' :: y''' :: _ => simp at ht

def Inv (ss : List (List Int)) (size : Nat) (found : List (List Int)) : Prop := (∀ S ∈ found, Min ss S ∧ S.length ≤ size) ∧ found.Pairwise fun a b => pad a ≠ pad b
structure Node (l : List Int) : Prop where
  nodup : l.Nodup
  low : ∀ x ∈ l, 0 ≤ x ∧ x < 256

include hn in
theorem leaf_inv {size : Nat} {l : List Int} {found : List (List Int)} (hN : Node l) (hl : l.length ≤ size) (hh : hits l ss = true) (hI : Inv ss size found) : Inv ss size (leaf (hTo ss ss.length) ss.length l found).2 := by
  unfold leaf
  have hp := sortInts_perm l
  split
  · exact hI
  · rename_i h
    have h1 : ¬ ∃ t ∈ found, pad t = pad (sortInts l) := fun e => h (.inl e)
    have h2 : needed (hTo ss ss.length) ss.length (sortInts l) = true := by
      cases e : needed (hTo ss ss.length) ss.length (sortInts l) with
      | true => rfl
      | false => exact absurd (.inr e) h
    have hlow : ∀ x ∈ sortInts l, 0 ≤ x ∧ x < 256 := fun x hx => hN.low x (hp.mem_iff.1 hx)
    refine ⟨fun S hS => ?_, ?_⟩
    · rcases List.mem_append.1 hS with hS | hS
      · exact hI.1 S hS
      · obtain rfl := List.mem_singleton.1 hS
        exact ⟨⟨sortInts_lt hN.nodup, hlow, hits_mem (fun x hx => hp.mem_iff.2 hx) hh, (needed_iff hn fun x hx => (hlow x hx).1).1 h2⟩, by rw [hp.length_eq]; exact hl⟩
    · rw [List.pairwise_append]
      refine ⟨hI.2, by simp, fun a ha b hb => ?_⟩
      obtain rfl := List.mem_singleton.1 hb
      exact fun e => h1 ⟨a, ha, e⟩
theorem leaf_mem {H : Nat → Nat} {n : Nat} {l : List Int} {found : List (List Int)} : ∀ S ∈ found, S ∈ (leaf H n l found).2 := fun S hS => by
  unfold leaf
  split
  · exact hS
  · exact List.mem_append.2 (.inl hS)
theorem steps_ind {f : Int → List (List Int) → Bool × List (List Int)} {I : List (List Int) → Prop} : ∀ {xs : List Int} {found : List (List Int)}, (∀ x ∈ xs, ∀ found, I found → I (f x found).2) → I found → I (steps f xs found).2
  | [], found, _, h => h
  | x :: xs, found, hf, h => by
    have h1 := hf x List.mem_cons_self found h
    rw [steps]
    split
    · exact steps_ind (fun y hy => hf y (List.mem_cons_of_mem _ hy)) h1
    · exact h1
theorem grow_mem (H : Nat → Nat) : ∀ (d : Nat) (l : List Int) (m : Nat) (found : List (List Int)), ∀ S ∈ found, S ∈ (grow H ss d l m found).2
  | 0, l, m, found, S, hS => by
    rw [grow]; split
    · exact leaf_mem S hS
    · exact hS
  | d + 1, l, m, found, S, hS => by
    rw [grow]; split
    · exact leaf_mem S hS
    · exact steps_ind (I := fun fd => S ∈ fd) (fun x _ fd h => grow_mem H d _ _ fd S h) hS
theorem node_snoc {l : List Int} {m : Nat} {x : Int} (hN : Node l) (hC : Cov ss l m) {k : Nat} (hk : k < ss.length) (h0 : m.testBit k = false) (hx : x ∈ ss.getD k []) (hlow : 0 ≤ x ∧ x < 256) : Node (l ++ [x]) := by
  refine ⟨?_, fun y hy => ?_⟩
  · rw [List.nodup_append]
    refine ⟨hN.nodup, by simp, fun a ha b hb e => ?_⟩
    obtain rfl := List.mem_singleton.1 hb
    subst e
    rw [hC k] at h0
    exact of_decide_eq_false h0 ⟨hk, a, ha, hx⟩
  · rcases List.mem_append.1 hy with h | h
    · exact hN.low y h
    · obtain rfl := List.mem_singleton.1 h; exact hlow
include hn in
theorem grow_inv {size : Nat} : ∀ (d : Nat) (l : List Int) (m : Nat) (found : List (List Int)), Cov ss l m → Node l → l.length + d ≤ size → Inv ss size found → Inv ss size (grow (hTo ss ss.length) ss d l m found).2
  | 0, l, m, found, hC, hN, hl, hI => by
    rw [grow]; split
    · rename_i h
      exact leaf_inv hn hN (by omega) ((cov_hits hC).1 h) hI
    · exact hI
  | d + 1, l, m, found, hC, hN, hl, hI => by
    rw [grow]; split
    · rename_i h
      exact leaf_inv hn hN (by omega) ((cov_hits hC).1 h) hI
    · rename_i h
      rcases fo_cases m ss.length with ⟨e, _⟩ | ⟨k, hk, e, h0, _⟩
      · rw [e] at h; omega
      · rw [e]
        refine steps_ind (I := Inv ss size) (fun x hx fd hI => ?_) hI
        have hlow := hn k x hx
        exact grow_inv d _ _ fd (cov_snoc hn hC hlow.1) (node_snoc hN hC hk h0 hx hlow) (by simp; omega) hI

theorem steps_finds {f : Int → List (List Int) → Bool × List (List Int)} {F : List (List Int) → Prop} (hm : ∀ x found, F found → F (f x found).2) {x : Int} : ∀ {xs : List Int} {found : List (List Int)}, x ∈ xs → (∀ found, (f x found).1 = true → F (f x found).2) → (steps f xs found).1 = true → F (steps f xs found).2
  | [], _, h, _, _ => by cases h
  | y :: xs, found, h, hf, ht => by
    rw [steps] at ht ⊢
    by_cases hy : (f y found).1 = true
    · rw [if_pos hy] at ht ⊢
      rcases List.mem_cons.1 h with rfl | h
      · exact steps_ind (I := F) (fun z _ fd => hm z fd) (hf found hy)
      · exact steps_finds hm h hf ht
    · rw [if_neg hy] at ht
      cases ht
include hn in
theorem leaf_finds {l T : List Int} {found : List (List Int)} (hN : Node l) (hT : Min ss T) (hsub : ∀ x ∈ l, x ∈ T) (hh : hits l ss = true) : ∃ t ∈ (leaf (hTo ss ss.length) ss.length l found).2, pad t = pad T := by
  have hback : ∀ x ∈ T, x ∈ l := fun x hx => by
    obtain ⟨i, hi, rfl⟩ := mem_getD (d := 0) hx
    rcases Classical.em (T.getD i 0 ∈ l) with h | h
    · exact h
    · exfalso
      have := hT.min i hi
      rw [hits_mem (fun y hy => ?_) hh] at this
      · cases this
      · obtain ⟨k, hk, rfl⟩ := mem_getD (d := 0) (hsub y hy)
        refine mem_drop1.2 ⟨k, hk, fun e => ?_, rfl⟩
        subst e
        exact h hy
  have hp := sortInts_perm l
  have e : sortInts l = T := by
    have h1 := pw_sub_len (sortInts_lt hN.nodup) hT.pw (fun x hx => hsub x (hp.mem_iff.1 hx))
    have h2 := pw_sub_len hT.pw (sortInts_lt hN.nodup) (fun x hx => hp.mem_iff.2 (hback x hx))
    exact h1.2 h2.1
  have hnd : needed (hTo ss ss.length) ss.length T = true := (needed_iff hn fun x hx => (hT.low x hx).1).2 hT.min
  unfold leaf
  rw [e]
  split
  · rename_i h
    rcases h with ⟨t, ht, h⟩ | h
    · exact ⟨t, ht, h⟩
    · rw [hnd] at h; cases h
  · exact ⟨T, by simp, rfl⟩
include hn in
theorem grow_finds {T : List Int} (hT : Min ss T) : ∀ (d : Nat) (l : List Int) (m : Nat) (found : List (List Int)), Cov ss l m → Node l → (∀ x ∈ l, x ∈ T) → T.length ≤ l.length + d → (grow (hTo ss ss.length) ss d l m found).1 = true → ∃ t ∈ (grow (hTo ss ss.length) ss d l m found).2, pad t = pad T
  | 0, l, m, found, hC, hN, hsub, hl, ht => by
    rw [grow] at ht ⊢
    have hh : hits l ss = true := by
      have hp := sortInts_perm l
      have h1 := pw_sub_len (sortInts_lt hN.nodup) hT.pw (fun x hx => hsub x (hp.mem_iff.1 hx))
      have e := h1.2 (by rw [hp.length_eq]; omega)
      exact hits_mem (fun x hx => hp.mem_iff.1 (by rw [e]; exact hx)) hT.hits
    rw [if_pos ((cov_hits hC).2 hh)]
    exact leaf_finds hn hN hT hsub hh
  | d + 1, l, m, found, hC, hN, hsub, hl, ht => by
    rw [grow] at ht ⊢
    by_cases h : fo m ss.length < 0
    · rw [if_pos h]
      exact leaf_finds hn hN hT hsub ((cov_hits hC).1 h)
    · rw [if_neg h] at ht ⊢
      rcases fo_cases m ss.length with ⟨e, _⟩ | ⟨k, hk, e, h0, _⟩
      · rw [e] at h; omega
      · rw [e] at ht ⊢
        obtain ⟨x, hx, hxT⟩ := hits_iff.1 hT.hits _ (memD (d := []) hk)
        have hlow := hn k x hx
        refine steps_finds (F := fun fd => ∃ t ∈ fd, pad t = pad T) (fun y fd ⟨t, h1, h2⟩ => ⟨t, grow_mem _ d _ _ fd t h1, h2⟩) hx (fun fd h => ?_) ht
        refine grow_finds hT d _ _ fd (cov_snoc hn hC hlow.1) (node_snoc hN hC hk h0 hx hlow) (fun y hy => ?_) (by simp; omega) h
        rcases List.mem_append.1 hy with h | h
        · exact hsub y h
        · obtain rfl := List.mem_singleton.1 h; exact hxT

/-- Each hitting set contains a minimal one. -/
theorem min_exists : ∀ (n : Nat) (T : List Int), T.length = n → T.Pairwise (· < ·) → (∀ x ∈ T, 0 ≤ x ∧ x < 256) → hits T ss = true → ∃ S, Min ss S ∧ (∀ x ∈ S, x ∈ T) ∧ S.length ≤ T.length
  | n, T, hl, hpw, hlow, hh => by
    rcases Classical.em (∀ i, i < T.length → hits (drop1 T i) ss = false) with h | h
    · exact ⟨T, ⟨hpw, hlow, hh, h⟩, fun _ h => h, Nat.le_refl _⟩
    · rw [Classical.not_forall] at h
      obtain ⟨i, h⟩ := h
      rw [Classical.not_imp] at h
      obtain ⟨hi, h⟩ := h
      have hsub : ∀ x ∈ drop1 T i, x ∈ T := fun x hx => by
        obtain ⟨k, hk, _, rfl⟩ := mem_drop1.1 hx
        exact memD hk
      have hlen : (drop1 T i).length = n - 1 := by unfold drop1; simp; omega
      have hsl : (drop1 T i).Sublist T := by
        unfold drop1
        conv => rhs; rw [← List.take_append_drop i T]
        exact List.Sublist.append_left (List.drop_sublist_drop_left T (by omega)) _
      obtain ⟨S, h1, h2, h3⟩ := min_exists (n - 1) (drop1 T i) hlen (hpw.sublist hsl) (fun x hx => hlow x (hsub x hx)) (by simpa using h)
      exact ⟨S, h1, fun x hx => hsub x (h2 x hx), by omega⟩
  termination_by n => n
  decreasing_by omega
end

/-- What Hit finds. -/
theorem hitRun_min {ss : List (List Int)} (hn : ∀ s ∈ ss, ∀ x ∈ s, (0 : Int) ≤ x ∧ x < 256) (size : Nat) : Inv ss size (hitRun ss size).2 := by
  have hn' : ∀ i, ∀ x ∈ ss.getD i [], (0 : Int) ≤ x ∧ x < 256 := fun i x hx => by
    rcases Nat.lt_or_ge i ss.length with h | h
    · exact hn _ (memD h) x hx
    · rw [List.getD_eq_getElem?_getD, List.getElem?_eq_none h] at hx; cases hx
  exact grow_inv hn' size [] 0 [] (cov_nil ss) ⟨List.nodup_nil, fun x hx => by cases hx⟩ (by simp) ⟨fun S hS => (by cases hS), List.Pairwise.nil⟩
theorem hitRun_finds {ss : List (List Int)} (hn : ∀ s ∈ ss, ∀ x ∈ s, (0 : Int) ≤ x ∧ x < 256) {size : Nat} (hs : size ≤ 3) (hok : (hitRun ss size).1 = true) {T : List Int} (hl : T.length ≤ size) (hpw : T.Pairwise (· < ·)) (hlow : ∀ x ∈ T, 0 ≤ x ∧ x < 256) (hh : hits T ss = true) :
    ∃ S ∈ (hitRun ss size).2, ∀ x ∈ S, x ∈ T := by
  have hn' : ∀ i, ∀ x ∈ ss.getD i [], (0 : Int) ≤ x ∧ x < 256 := fun i x hx => by
    rcases Nat.lt_or_ge i ss.length with h | h
    · exact hn _ (memD h) x hx
    · rw [List.getD_eq_getElem?_getD, List.getElem?_eq_none h] at hx; cases hx
  obtain ⟨S, h1, h2, h3⟩ := min_exists T.length T rfl hpw hlow hh
  obtain ⟨t, ht, e⟩ := grow_finds hn' h1 size [] 0 [] (cov_nil ss) ⟨List.nodup_nil, fun x hx => by cases hx⟩ (fun x hx => by cases hx) (by simp; omega) hok
  have hI := hitRun_min hn size
  have ht' := hI.1 t ht
  have e' : t = S := pad_inj (by have := ht'.2; omega) (by omega) (fun x hx => (ht'.1.low x hx).1) (fun x hx => (h1.low x hx).1) e
  subst e'
  exact ⟨t, ht, h2⟩
end Go.Proofs.YtfpmbjobieeidaaGreat.Rk
namespace Go.Proofs.YtfpmbjobieeidaaGreat.Rk

theorem hit_facts {xss : List (List Int)} (hi : ∀ s ∈ xss, Incr 256 s) {size : Int} (h0 : 0 ≤ size) {l : List (List Int)} (hl : l = sortSets (hitRun (smallest xss) size).2) :
    ∀ k, k < l.length → ((l.getD k []).length : Int) ≤ size ∧ Incr 256 (l.getD k []) ∧ hits (l.getD k []) xss = true ∧ (∀ i, i < (l.getD k []).length → hits (drop1 (l.getD k []) i) xss = false) ∧ (0 < k → ord (l.getD (k - 1) []) (l.getD k []) < 0) := by
  obtain ⟨n, rfl⟩ : ∃ n : Nat, size = n := ⟨size.toNat, by omega⟩
  have hpw : ∀ s ∈ xss, s.Pairwise (· < ·) := fun s hs => (hi s hs).pairwise
  have hs := smallest_inv hpw
  have hI := hitRun_min (ss := smallest xss) (fun s h x hx => (hi s (hs.2.2.2.1 s h)).mem hx) n
  have hp := sortSets_perm (hitRun (smallest xss) n).2
  rw [← hl] at hp
  have hnd : l.Nodup := hp.nodup_iff.2 (hI.2.imp fun h e => h (by rw [e]))
  have hle : l.Pairwise fun a b => ord a b ≤ 0 := by rw [hl]; exact sortSets_pairwise _
  intro k hk
  have hm := hI.1 _ (hp.mem_iff.1 (memD (d := []) hk))
  refine ⟨by have := hm.2; omega, Incr.of_pairwise hm.1.pw hm.1.low, by rw [← smallest_hits hpw]; exact hm.1.hits, fun i h => by rw [← smallest_hits hpw]; exact hm.1.min i h, fun hk0 => ?_⟩
  unfold List.Nodup at hnd
  rw [List.pairwise_iff_getElem] at hnd hle
  have a := hnd (k - 1) k (by omega) hk (by omega)
  have b := hle (k - 1) k (by omega) hk (by omega)
  have e1 : l.getD (k - 1) [] = l[k - 1] := by rw [List.getD_eq_getElem?_getD, List.getElem?_eq_getElem (show k - 1 < l.length by omega)]; rfl
  have e2 : l.getD k [] = l[k] := by rw [List.getD_eq_getElem?_getD, List.getElem?_eq_getElem hk]; rfl
  rw [e1, e2]
  rcases Int.lt_or_eq_of_le b with h | h
  · exact h
  · exact absurd (ord_eq h) a
theorem hit_all {xss : List (List Int)} (hi : ∀ s ∈ xss, Incr 256 s) {size : Int} (h0 : 0 ≤ size) (h3 : size ≤ 3) {l : List (List Int)} (hl : l = sortSets (hitRun (smallest xss) size).2) (hok : (hitRun (smallest xss) size).1 = true)
    {other : List Int} (hlen : (other.length : Int) ≤ size) (ho : Incr 256 other) (hh : hits other xss = true) : ∃ k, k < l.length ∧ sub (l.getD k []) other = true := by
  obtain ⟨n, rfl⟩ : ∃ n : Nat, size = n := ⟨size.toNat, by omega⟩
  have hpw : ∀ s ∈ xss, s.Pairwise (· < ·) := fun s hs => (hi s hs).pairwise
  have hs := smallest_inv hpw
  obtain ⟨S, hS, hsub⟩ := hitRun_finds (ss := smallest xss) (fun s h x hx => (hi s (hs.2.2.2.1 s h)).mem hx) (size := n) (by omega) hok (by omega) ho.pairwise (fun x hx => ho.mem hx) (by rw [smallest_hits hpw]; exact hh)
  have hp := sortSets_perm (hitRun (smallest xss) n).2
  rw [← hl] at hp
  obtain ⟨k, hk, e⟩ := mem_getD (d := []) (hp.mem_iff.2 hS)
  exact ⟨k, hk, by rw [e, sub_iff]; exact hsub⟩
end Go.Proofs.YtfpmbjobieeidaaGreat.Rk
