/-
  Sets within sets, sets that hit sets, the smallest ones: no program in sight.
  The search finds the minimal hitting sets, all of them, and no others: no program in sight.
  Sets in order, each once: the reference's put and smallest, without the program.
  The reference's Hit, without the program: layers of sets, and the minimal hitting ones among them.
-/
import Derived.Test.YtfpmbjobieeidaaGreatPlainA
namespace Go.Proofs.YtfpmbjobieeidaaGreat.Rk

theorem memD {α : Type} {xs : List α} {k : Nat} {d : α} (h : k < xs.length) : xs.getD k d ∈ xs := by
  rw [List.getD_eq_getElem?_getD, List.getElem?_eq_getElem h]; exact List.getElem_mem h
theorem mem_getD {α : Type} {xs : List α} {d x : α} (h : x ∈ xs) : ∃ k, k < xs.length ∧ xs.getD k d = x := by
  obtain ⟨k, hk, e⟩ := List.mem_iff_getElem.1 h
  exact ⟨k, hk, by rw [List.getD_eq_getElem?_getD, List.getElem?_eq_getElem hk]; exact e⟩
/-- Each element of the one is in the other. -/
def sub (xs ys : List Int) : Bool := decide (∀ x ∈ xs, x ∈ ys)
/-- A set and one more have an element in common. -/
def meets (set s : List Int) : Bool := s.any fun x => decide (x ∈ set)
def hits (set : List Int) (xss : List (List Int)) : Bool := xss.all fun s => meets set s
theorem meets_take (set s : List Int) (k : Nat) (h : k < s.length) : meets set (s.take (k + 1)) = (meets set (s.take k) || decide (s.getD k 0 ∈ set)) := by
  unfold meets
  rw [List.take_succ_eq_append_getElem h, List.any_append, List.getD_eq_getElem?_getD, List.getElem?_eq_getElem h]
  simp
theorem meets_iff {set s : List Int} : meets set s = true ↔ ∃ x ∈ s, x ∈ set := by
  unfold meets
  simp
theorem hits_iff {set : List Int} {xss : List (List Int)} : hits set xss = true ↔ ∀ s ∈ xss, ∃ x ∈ s, x ∈ set := by
  unfold hits meets
  simp
theorem sub_iff {xs ys : List Int} : sub xs ys = true ↔ ∀ x ∈ xs, x ∈ ys := by unfold sub; simp

/-- Of increasing lists, the one within the other, and of one length: they are the same. -/
theorem pw_sub_len : ∀ {a b : List Int}, a.Pairwise (· < ·) → b.Pairwise (· < ·) → (∀ x ∈ a, x ∈ b) → a.length ≤ b.length ∧ (b.length ≤ a.length → a = b)
  | [], b, _, _, _ => ⟨Nat.zero_le _, fun h => (List.eq_nil_of_length_eq_zero (by simpa using h)).symm⟩
  | x :: a, [], _, _, h => by have := h x List.mem_cons_self; simp at this
  | x :: a, y :: b, ha, hb, h => by
    obtain ⟨ha1, ha2⟩ := List.pairwise_cons.1 ha
    obtain ⟨hb1, hb2⟩ := List.pairwise_cons.1 hb
    have hxy : y ≤ x := by
      rcases List.mem_cons.1 (h x List.mem_cons_self) with e | e
      · omega
      · have := hb1 x e; omega
    have h2 : ∀ z ∈ a, z ∈ b := fun z hz => by
      rcases List.mem_cons.1 (h z (List.mem_cons_of_mem _ hz)) with e | e
      · have := ha1 z hz; omega
      · exact e
    obtain ⟨r1, r2⟩ := pw_sub_len ha2 hb2 h2
    refine ⟨by simpa using r1, fun hl => ?_⟩
    have e := r2 (by simpa using hl)
    subst e
    rcases List.mem_cons.1 (h x List.mem_cons_self) with e | e
    · rw [e]
    · have := ha1 x e; omega

/-- No set of the list is within a later one. -/
def Apart (l : List (List Int)) : Prop := l.Pairwise fun a b => within a b = false
theorem smFold_inv (l : List (List Int)) : ∀ out, (∀ s ∈ l, s.Pairwise (· < ·)) → Apart out → Apart (l.foldl smStep out) ∧ (∀ s ∈ l, ∃ x ∈ l.foldl smStep out, within x s = true) ∧ (∀ x ∈ out, x ∈ l.foldl smStep out) ∧ (l.foldl smStep out).Sublist (out ++ l) := by
  induction l with
  | nil => intro out _ h; exact ⟨h, by simp, fun x hx => hx, by simp⟩
  | cons s l ih =>
    intro out hpw h
    have hpw' : ∀ t ∈ l, t.Pairwise (· < ·) := fun t ht => hpw t (List.mem_cons_of_mem _ ht)
    rw [List.foldl_cons]
    by_cases ha : out.any (fun x => within x s) = true
    · have e : smStep out s = out := by unfold smStep; rw [if_pos ha]
      rw [e]
      obtain ⟨i1, i2, i3, i4⟩ := ih out hpw' h
      refine ⟨i1, fun t ht => ?_, i3, i4.trans ?_⟩
      · rcases List.mem_cons.1 ht with rfl | ht
        · obtain ⟨x, hx, hw⟩ := List.any_eq_true.1 ha
          exact ⟨x, i3 x hx, hw⟩
        · exact i2 t ht
      · exact List.Sublist.append_left (List.sublist_cons_self _ _) _
    · have e : smStep out s = out ++ [s] := by unfold smStep; rw [if_neg ha]
      rw [e]
      have hap : Apart (out ++ [s]) := by
        unfold Apart
        rw [List.pairwise_append]
        refine ⟨h, by simp, fun a ha' b hb => ?_⟩
        obtain rfl := List.mem_singleton.1 hb
        simp only [Bool.not_eq_true, List.any_eq_false] at ha
        simpa using ha a ha'
      obtain ⟨i1, i2, i3, i4⟩ := ih (out ++ [s]) hpw' hap
      refine ⟨i1, fun t ht => ?_, fun x hx => i3 x (List.mem_append.2 (.inl hx)), by simpa using i4⟩
      rcases List.mem_cons.1 ht with rfl | ht
      · exact ⟨t, i3 t (by simp), (within_iff (hpw t List.mem_cons_self) (hpw t List.mem_cons_self)).2 fun _ h => h⟩
      · exact i2 t ht

theorem smFold_keep (l : List (List Int)) : ∀ out, Apart (out ++ l) → l.foldl smStep out = out ++ l := by
  induction l with
  | nil => intro out _; simp
  | cons s l ih =>
    intro out h
    rw [List.foldl_cons]
    have e : smStep out s = out ++ [s] := by
      unfold smStep
      rw [if_neg]
      rw [List.any_eq_true]
      rintro ⟨x, hx, hw⟩
      unfold Apart at h
      rw [List.pairwise_append] at h
      have := h.2.2 x hx s List.mem_cons_self
      rw [hw] at this
      cases this
    rw [e, ih (out ++ [s]) (by simpa using h)]
    simp

section
variable {xss : List (List Int)}
theorem pw_sorted (h : ∀ s ∈ xss, s.Pairwise (· < ·)) : ∀ s ∈ sortSets xss, s.Pairwise (· < ·) := fun s hs => h s ((sortSets_perm xss).mem_iff.1 hs)
theorem smallest_inv (h : ∀ s ∈ xss, s.Pairwise (· < ·)) : Apart (smallest xss) ∧ (∀ s ∈ xss, ∃ x ∈ smallest xss, ∀ z ∈ x, z ∈ s) ∧ (smallest xss).Pairwise (fun a b => ord a b ≤ 0) ∧ (∀ s ∈ smallest xss, s ∈ xss) ∧ (smallest xss).length ≤ xss.length := by
  obtain ⟨i1, i2, _, i4⟩ := smFold_inv (sortSets xss) [] (pw_sorted h) List.Pairwise.nil
  rw [List.nil_append] at i4
  have hm : ∀ s ∈ smallest xss, s ∈ xss := fun s hs => (sortSets_perm xss).mem_iff.1 (i4.mem hs)
  refine ⟨i1, fun s hs => ?_, (sortSets_pairwise xss).sublist i4, hm, ?_⟩
  · obtain ⟨x, hx, hw⟩ := i2 s ((sortSets_perm xss).mem_iff.2 hs)
    exact ⟨x, hx, (within_iff (h x (hm x hx)) (h s hs)).1 hw⟩
  · have := i4.length_le
    rw [(sortSets_perm xss).length_eq] at this
    exact this
/-- The smallest ones of the smallest ones are these. -/
theorem smallest_twice (h : ∀ s ∈ xss, s.Pairwise (· < ·)) : smallest (smallest xss) = smallest xss := by
  obtain ⟨i1, _, i3, _⟩ := smallest_inv h
  have e : sortSets (smallest xss) = smallest xss := (sortSets_unique (List.Perm.refl _) i3).symm
  show (sortSets (smallest xss)).foldl smStep [] = _
  rw [e, smFold_keep _ [] (by simpa using i1), List.nil_append]
theorem smallest_hits (h : ∀ s ∈ xss, s.Pairwise (· < ·)) (set : List Int) : hits set (smallest xss) = hits set xss := by
  obtain ⟨_, i2, _, i4, _⟩ := smallest_inv h
  rw [Bool.eq_iff_iff, hits_iff, hits_iff]
  constructor
  · intro hh s hs
    obtain ⟨x, hx, hsub⟩ := i2 s hs
    obtain ⟨z, hz, hz'⟩ := hh x hx
    exact ⟨z, hsub z hz, hz'⟩
  · exact fun hh s hs => hh s (i4 s hs)
/-- Of the smallest ones none is within another one. -/
theorem smallest_apart (h : ∀ s ∈ xss, s.Pairwise (· < ·)) {i k : Nat} (hi : i < (smallest xss).length) (hk : k < (smallest xss).length) (hne : i ≠ k) : sub ((smallest xss).getD i []) ((smallest xss).getD k []) = false := by
  obtain ⟨i1, _, i3, i4, _⟩ := smallest_inv h
  have pi := h _ (i4 _ (memD (d := []) hi))
  have pk := h _ (i4 _ (memD (d := []) hk))
  rw [← Bool.not_eq_true, sub_iff]
  intro hs
  unfold Apart at i1
  rw [List.pairwise_iff_getElem] at i1 i3
  have ei : (smallest xss).getD i [] = (smallest xss)[i] := by rw [List.getD_eq_getElem?_getD, List.getElem?_eq_getElem hi]; rfl
  have ek : (smallest xss).getD k [] = (smallest xss)[k] := by rw [List.getD_eq_getElem?_getD, List.getElem?_eq_getElem hk]; rfl
  rw [ei] at pi hs
  rw [ek] at pk hs
  rcases Nat.lt_or_gt_of_ne hne with hlt | hlt
  · have := i1 i k hi hk hlt
    rw [(within_iff pi pk).2 hs] at this
    cases this
  · have h1 := i1 k i hk hi hlt
    have h2 := i3 k i hk hi hlt
    obtain ⟨r1, r2⟩ := pw_sub_len pi pk hs
    have hl : (smallest xss)[k].length ≤ (smallest xss)[i].length := by
      rcases Nat.lt_or_ge (smallest xss)[i].length (smallest xss)[k].length with hlt2 | hge
      · unfold ord at h2
        rw [if_neg (by omega), if_pos hlt2] at h2
        omega
      · exact hge
    have e := r2 hl
    rw [(within_iff pk pi).2 (by rw [e]; exact fun _ h => h)] at h1
    cases h1
end
end Go.Proofs.YtfpmbjobieeidaaGreat.Rk
namespace Go.Proofs.YtfpmbjobieeidaaGreat.Rk

theorem hAdd_bit (H : Nat → Nat) (n i n' j : Nat) : (hAdd H n i n').testBit j = ((H n').testBit j || decide (n' = n ∧ j = i)) := by
  unfold hAdd
  by_cases h : n' = n
  · subst h
    rw [if_pos rfl, Nat.testBit_or, Nat.testBit_two_pow]
    by_cases hj : j = i
    · subst hj; simp
    · have : ¬ i = j := fun e => hj e.symm
      simp [hj, this]
  · rw [if_neg h]; simp [h]
theorem hSet_bit (i n j : Nat) : ∀ (s : List Int) (H : Nat → Nat), (∀ x ∈ s, 0 ≤ x) → (hSet H i s n).testBit j = ((H n).testBit j || decide (j = i ∧ (n : Int) ∈ s))
  | [], H, _ => by simp [hSet]
  | x :: s, H, h => by
    rw [hSet, hSet_bit i n j s _ (fun y hy => h y (List.mem_cons_of_mem _ hy)), hAdd_bit, Bool.or_assoc]
    congr 1
    have hx := h x List.mem_cons_self
    have e : (n = x.toNat) ↔ ((n : Int) = x) := by omega
    simp only [List.mem_cons, e]
    by_cases h1 : j = i <;> by_cases h2 : (n : Int) = x <;> simp [h1, h2]
theorem hTo_bit {ss : List (List Int)} (hn : ∀ i, ∀ x ∈ ss.getD i [], 0 ≤ x) (n j : Nat) : ∀ k, (hTo ss k n).testBit j = decide (j < k ∧ (n : Int) ∈ ss.getD j [])
  | 0 => by simp [hTo]
  | k + 1 => by
    rw [hTo, hSet_bit k n j _ _ (hn k), hTo_bit hn n j k]
    by_cases h1 : j = k
    · subst h1; simp
    · have e : j < k + 1 ↔ j < k := by omega
      simp [h1, e]

theorem fo_neg {m n : Nat} : fo m n < 0 ↔ ∀ k, k < n → m.testBit k = true := by
  rcases fo_cases m n with ⟨e, h⟩ | ⟨k, hk, e, h0, _⟩
  · rw [e]; exact ⟨fun _ => h, fun _ => by decide⟩
  · rw [e]
    refine ⟨fun h => by omega, fun h => ?_⟩
    have := h k hk
    rw [h0] at this
    cases this

/-- A list without its i-th number. -/
def drop1 (l : List Int) (i : Nat) : List Int := l.take i ++ l.drop (i + 1)
theorem mem_drop1 {l : List Int} {i : Nat} {x : Int} : x ∈ drop1 l i ↔ ∃ k, k < l.length ∧ k ≠ i ∧ l.getD k 0 = x := by
  unfold drop1
  rw [List.mem_append]
  constructor
  · rintro (h | h)
    · obtain ⟨k, hk, rfl⟩ := List.mem_iff_getElem.1 h
      have hk' : k < i ∧ k < l.length := by simp at hk; omega
      exact ⟨k, hk'.2, by omega, by rw [List.getElem_take, List.getD_eq_getElem?_getD, List.getElem?_eq_getElem hk'.2]; rfl⟩
    · obtain ⟨k, hk, rfl⟩ := List.mem_iff_getElem.1 h
      have hk' : i + 1 + k < l.length := by simp at hk; omega
      exact ⟨i + 1 + k, hk', by omega, by rw [List.getElem_drop, List.getD_eq_getElem?_getD, List.getElem?_eq_getElem hk']; rfl⟩
  · rintro ⟨k, hk, hne, rfl⟩
    have e : l.getD k 0 = l[k] := by rw [List.getD_eq_getElem?_getD, List.getElem?_eq_getElem hk]; rfl
    rw [e]
    by_cases h : k < i
    · exact .inl (List.mem_take_iff_getElem.2 ⟨k, by omega, rfl⟩)
    · refine .inr (List.mem_drop_iff_getElem.2 ⟨k - (i + 1), by omega, ?_⟩)
      congr 1
      omega

section
variable {ss : List (List Int)} (hn : ∀ i, ∀ x ∈ ss.getD i [], (0 : Int) ≤ x ∧ x < 256)

/-- What a number says of the sets that a list hits. -/
def Cov (ss : List (List Int)) (l : List Int) (m : Nat) : Prop := ∀ j, m.testBit j = decide (j < ss.length ∧ ∃ x ∈ l, x ∈ ss.getD j [])
theorem cov_nil (ss : List (List Int)) : Cov ss [] 0 := fun j => by simp
include hn in
theorem cov_snoc {l : List Int} {m : Nat} {x : Int} (h : Cov ss l m) (hx : 0 ≤ x) : Cov ss (l ++ [x]) (m ||| hTo ss ss.length x.toNat) := fun j => by
  rw [Nat.testBit_or, h j, hTo_bit (fun i x h => (hn i x h).1), show ((x.toNat : Nat) : Int) = x by omega]
  by_cases hj : j < ss.length
  · simp [hj, or_and_right, exists_or]
  · simp [hj]
theorem cov_hits {l : List Int} {m : Nat} (h : Cov ss l m) : fo m ss.length < 0 ↔ hits l ss = true := by
  rw [fo_neg, hits_iff]
  constructor
  · intro hh s hs
    obtain ⟨k, hk, rfl⟩ := mem_getD (d := []) hs
    have := hh k hk
    rw [h k] at this
    obtain ⟨_, x, h1, h2⟩ := of_decide_eq_true this
    exact ⟨x, h2, h1⟩
  · intro hh k hk
    rw [h k]
    obtain ⟨x, h1, h2⟩ := hh _ (memD (d := []) hk)
    exact decide_eq_true ⟨hk, x, h2, h1⟩
include hn in
theorem rest_cov {l : List Int} (hl : ∀ x ∈ l, 0 ≤ x) (i : Nat) : ∀ k, k ≤ l.length → ∀ j, (rest (hTo ss ss.length) l i k).testBit j = decide (j < ss.length ∧ ∃ k', k' < k ∧ k' ≠ i ∧ l.getD k' 0 ∈ ss.getD j [])
  | 0, _, j => by simp [rest]
  | k + 1, hk, j => by
    have ih := rest_cov hl i k (by omega) j
    rw [rest]
    by_cases h : k = i
    · rw [if_pos h, ih]
      congr 1
      apply propext
      constructor
      · rintro ⟨h1, k', h2, h3⟩; exact ⟨h1, k', by omega, h3⟩
      · rintro ⟨h1, k', h2, h3, h4⟩; exact ⟨h1, k', by omega, h3, h4⟩
    · have hx := hl _ (memD (d := 0) (show k < l.length by omega))
      rw [if_neg h, Nat.testBit_or, ih, hTo_bit (fun i x h => (hn i x h).1), show (((l.getD k 0).toNat : Nat) : Int) = l.getD k 0 by omega, Bool.eq_iff_iff]
      simp only [Bool.or_eq_true, decide_eq_true_eq]
      constructor
      · rintro (⟨h1, k', h2, h3⟩ | ⟨h1, h2⟩)
        · exact ⟨h1, k', by omega, h3⟩
        · exact ⟨h1, k, by omega, h, h2⟩
      · rintro ⟨h1, k', h2, h3, h4⟩
        by_cases e : k' = k
        · subst e; exact .inr ⟨h1, h4⟩
        · exact .inl ⟨h1, k', by omega, h3, h4⟩
include hn in
theorem needed_iff {l : List Int} (hl : ∀ x ∈ l, 0 ≤ x) : needed (hTo ss ss.length) ss.length l = true ↔ ∀ i, i < l.length → hits (drop1 l i) ss = false := by
  unfold needed
  rw [decide_eq_true_eq]
  have e : ∀ i, (0 ≤ fo (rest (hTo ss ss.length) l i l.length) ss.length) ↔ hits (drop1 l i) ss = false := fun i => by
    have h : Cov ss (drop1 l i) (rest (hTo ss ss.length) l i l.length) := fun j => by
      rw [rest_cov hn hl i l.length (Nat.le_refl _) j]
      congr 1
      apply propext
      constructor
      · rintro ⟨h1, k, h2, h3, h4⟩; exact ⟨h1, _, mem_drop1.2 ⟨k, h2, h3, rfl⟩, h4⟩
      · rintro ⟨h1, x, h2, h3⟩
        obtain ⟨k, hk, hne, rfl⟩ := mem_drop1.1 h2
        exact ⟨h1, k, hk, hne, h3⟩
    have := cov_hits h
    rw [← Bool.not_eq_true, ← this]
    omega
  exact ⟨fun h i hi => (e i).1 (h i hi), fun h i hi => (e i).2 (h i hi)⟩

/-- A minimal hitting set. -/
structure Min (ss : List (List Int)) (S : List Int) : Prop where
  pw : S.Pairwise (· < ·)
  low : ∀ x ∈ S, 0 ≤ x ∧ x < 256
  hits : Rk.hits S ss = true
  min : ∀ i, i < S.length → Rk.hits (drop1 S i) ss = false

theorem sortInts_perm (l : List Int) : (sortInts l).Perm l := List.mergeSort_perm _ _
theorem sortInts_lt {l : List Int} (h : l.Nodup) : (sortInts l).Pairwise (· < ·) := by
  have h1 := List.pairwise_mergeSort (le := fun x y : Int => decide (x ≤ y)) (fun a b c h1 h2 => by simp only [decide_eq_true_eq] at *; omega) (fun a b => by simp only [Bool.or_eq_true, decide_eq_true_eq]; omega) l
  have h2 : (sortInts l).Nodup := (sortInts_perm l).nodup_iff.2 h
  refine (List.pairwise_and_iff.2 ⟨h1, h2⟩).imp fun {a b} h => ?_
  have := h.1
  simp only [decide_eq_true_eq] at this
  have := h.2
  omega
theorem hits_mem {l l' : List Int} (h : ∀ x ∈ l, x ∈ l') (hh : hits l ss = true) : hits l' ss = true := by
  rw [hits_iff] at *
  intro s hs
  obtain ⟨x, h1, h2⟩ := hh s hs
  exact ⟨x, h1, h x h2⟩
theorem pad_inj {s t : List Int} (hs : s.length ≤ 3) (ht : t.length ≤ 3) (hs0 : ∀ x ∈ s, 0 ≤ x) (ht0 : ∀ x ∈ t, 0 ≤ x) (h : pad s = pad t) : s = t := by
  unfold pad at h
  simp only [Prod.mk.injEq] at h
  obtain ⟨h0, h1, h2⟩ := h
  match s, t with
  | [], [] => rfl
  | [], y :: _ => have := ht0 y List.mem_cons_self; simp at h0; omega
  | x :: _, [] => have := hs0 x List.mem_cons_self; simp at h0; omega
  | [x], [y] => simp at h0; rw [h0]
  | [x], y :: y' :: _ => have := ht0 y' (by simp); simp at h1; omega
  | x :: x' :: _, [y] => have := hs0 x' (by simp); simp at h1; omega
  | [x, x'], [y, y'] => simp at h0 h1; rw [h0, h1]
  | [x, x'], y :: y' :: y'' :: _ => have := ht0 y'' (by simp); simp at h2; omega
  | x :: x' :: x'' :: _, [y, y'] => have := hs0 x'' (by simp); simp at h2; omega
  | [x, x', x''], [y, y', y''] => simp at h0 h1 h2; rw [h0, h1, h2]
  | x :: x' :: x'' :: x''' :: _, _ => simp at hs
  | _, y :: y' :: y'' :: y''' :: _ => simp at ht

def Inv (ss : List (List Int)) (size : Nat) (found : List (List Int)) : Prop := (∀ S ∈ found, Min ss S ∧ S.length ≤ size) ∧ found.Pairwise fun a b => pad a ≠ pad b
structure Node (l : List Int) : Prop where
  nodup : l.Nodup
  low : ∀ x ∈ l, 0 ≤ x ∧ x < 256

include hn in
theorem leaf_inv {size : Nat} {l : List Int} {found : List (List Int)} (hN : Node l) (hl : l.length ≤ size) (hh : hits l ss = true) (hI : Inv ss size found) : Inv ss size (leaf (hTo ss ss.length) ss.length l found).2 := by
  unfold leaf
  have hp := sortInts_perm l
  split
  · exact hI
  · rename_i h
    have h1 : ¬ ∃ t ∈ found, pad t = pad (sortInts l) := fun e => h (.inl e)
    have h2 : needed (hTo ss ss.length) ss.length (sortInts l) = true := by
      cases e : needed (hTo ss ss.length) ss.length (sortInts l) with
      | true => rfl
      | false => exact absurd (.inr e) h
    have hlow : ∀ x ∈ sortInts l, 0 ≤ x ∧ x < 256 := fun x hx => hN.low x (hp.mem_iff.1 hx)
    refine ⟨fun S hS => ?_, ?_⟩
    · rcases List.mem_append.1 hS with hS | hS
      · exact hI.1 S hS
      · obtain rfl := List.mem_singleton.1 hS
        exact ⟨⟨sortInts_lt hN.nodup, hlow, hits_mem (fun x hx => hp.mem_iff.2 hx) hh, (needed_iff hn fun x hx => (hlow x hx).1).1 h2⟩, by rw [hp.length_eq]; exact hl⟩
    · rw [List.pairwise_append]
      refine ⟨hI.2, by simp, fun a ha b hb => ?_⟩
      obtain rfl := List.mem_singleton.1 hb
      exact fun e => h1 ⟨a, ha, e⟩
theorem leaf_mem {H : Nat → Nat} {n : Nat} {l : List Int} {found : List (List Int)} : ∀ S ∈ found, S ∈ (leaf H n l found).2 := fun S hS => by
  unfold leaf
  split
  · exact hS
  · exact List.mem_append.2 (.inl hS)
theorem steps_ind {f : Int → List (List Int) → Bool × List (List Int)} {I : List (List Int) → Prop} : ∀ {xs : List Int} {found : List (List Int)}, (∀ x ∈ xs, ∀ found, I found → I (f x found).2) → I found → I (steps f xs found).2
  | [], found, _, h => h
  | x :: xs, found, hf, h => by
    have h1 := hf x List.mem_cons_self found h
    rw [steps]
    split
    · exact steps_ind (fun y hy => hf y (List.mem_cons_of_mem _ hy)) h1
    · exact h1
theorem grow_mem (H : Nat → Nat) : ∀ (d : Nat) (l : List Int) (m : Nat) (found : List (List Int)), ∀ S ∈ found, S ∈ (grow H ss d l m found).2
  | 0, l, m, found, S, hS => by
    rw [grow]; split
    · exact leaf_mem S hS
    · exact hS
  | d + 1, l, m, found, S, hS => by
    rw [grow]; split
    · exact leaf_mem S hS
    · exact steps_ind (I := fun fd => S ∈ fd) (fun x _ fd h => grow_mem H d _ _ fd S h) hS
theorem node_snoc {l : List Int} {m : Nat} {x : Int} (hN : Node l) (hC : Cov ss l m) {k : Nat} (hk : k < ss.length) (h0 : m.testBit k = false) (hx : x ∈ ss.getD k []) (hlow : 0 ≤ x ∧ x < 256) : Node (l ++ [x]) := by
  refine ⟨?_, fun y hy => ?_⟩
  · rw [List.nodup_append]
    refine ⟨hN.nodup, by simp, fun a ha b hb e => ?_⟩
    obtain rfl := List.mem_singleton.1 hb
    subst e
    rw [hC k] at h0
    exact of_decide_eq_false h0 ⟨hk, a, ha, hx⟩
  · rcases List.mem_append.1 hy with h | h
    · exact hN.low y h
    · obtain rfl := List.mem_singleton.1 h; exact hlow
include hn in
theorem grow_inv {size : Nat} : ∀ (d : Nat) (l : List Int) (m : Nat) (found : List (List Int)), Cov ss l m → Node l → l.length + d ≤ size → Inv ss size found → Inv ss size (grow (hTo ss ss.length) ss d l m found).2
  | 0, l, m, found, hC, hN, hl, hI => by
    rw [grow]; split
    · rename_i h
      exact leaf_inv hn hN (by omega) ((cov_hits hC).1 h) hI
    · exact hI
  | d + 1, l, m, found, hC, hN, hl, hI => by
    rw [grow]; split
    · rename_i h
      exact leaf_inv hn hN (by omega) ((cov_hits hC).1 h) hI
    · rename_i h
      rcases fo_cases m ss.length with ⟨e, _⟩ | ⟨k, hk, e, h0, _⟩
      · rw [e] at h; omega
      · rw [e]
        refine steps_ind (I := Inv ss size) (fun x hx fd hI => ?_) hI
        have hlow := hn k x hx
        exact grow_inv d _ _ fd (cov_snoc hn hC hlow.1) (node_snoc hN hC hk h0 hx hlow) (by simp; omega) hI

theorem steps_finds {f : Int → List (List Int) → Bool × List (List Int)} {F : List (List Int) → Prop} (hm : ∀ x found, F found → F (f x found).2) {x : Int} : ∀ {xs : List Int} {found : List (List Int)}, x ∈ xs → (∀ found, (f x found).1 = true → F (f x found).2) → (steps f xs found).1 = true → F (steps f xs found).2
  | [], _, h, _, _ => by cases h
  | y :: xs, found, h, hf, ht => by
    rw [steps] at ht ⊢
    by_cases hy : (f y found).1 = true
    · rw [if_pos hy] at ht ⊢
      rcases List.mem_cons.1 h with rfl | h
      · exact steps_ind (I := F) (fun z _ fd => hm z fd) (hf found hy)
      · exact steps_finds hm h hf ht
    · rw [if_neg hy] at ht
      cases ht
include hn in
theorem leaf_finds {l T : List Int} {found : List (List Int)} (hN : Node l) (hT : Min ss T) (hsub : ∀ x ∈ l, x ∈ T) (hh : hits l ss = true) : ∃ t ∈ (leaf (hTo ss ss.length) ss.length l found).2, pad t = pad T := by
  have hback : ∀ x ∈ T, x ∈ l := fun x hx => by
    obtain ⟨i, hi, rfl⟩ := mem_getD (d := 0) hx
    rcases Classical.em (T.getD i 0 ∈ l) with h | h
    · exact h
    · exfalso
      have := hT.min i hi
      rw [hits_mem (fun y hy => ?_) hh] at this
      · cases this
      · obtain ⟨k, hk, rfl⟩ := mem_getD (d := 0) (hsub y hy)
        refine mem_drop1.2 ⟨k, hk, fun e => ?_, rfl⟩
        subst e
        exact h hy
  have hp := sortInts_perm l
  have e : sortInts l = T := by
    have h1 := pw_sub_len (sortInts_lt hN.nodup) hT.pw (fun x hx => hsub x (hp.mem_iff.1 hx))
    have h2 := pw_sub_len hT.pw (sortInts_lt hN.nodup) (fun x hx => hp.mem_iff.2 (hback x hx))
    exact h1.2 h2.1
  have hnd : needed (hTo ss ss.length) ss.length T = true := (needed_iff hn fun x hx => (hT.low x hx).1).2 hT.min
  unfold leaf
  rw [e]
  split
  · rename_i h
    rcases h with ⟨t, ht, h⟩ | h
    · exact ⟨t, ht, h⟩
    · rw [hnd] at h; cases h
  · exact ⟨T, by simp, rfl⟩
include hn in
theorem grow_finds {T : List Int} (hT : Min ss T) : ∀ (d : Nat) (l : List Int) (m : Nat) (found : List (List Int)), Cov ss l m → Node l → (∀ x ∈ l, x ∈ T) → T.length ≤ l.length + d → (grow (hTo ss ss.length) ss d l m found).1 = true → ∃ t ∈ (grow (hTo ss ss.length) ss d l m found).2, pad t = pad T
  | 0, l, m, found, hC, hN, hsub, hl, ht => by
    rw [grow] at ht ⊢
    have hh : hits l ss = true := by
      have hp := sortInts_perm l
      have h1 := pw_sub_len (sortInts_lt hN.nodup) hT.pw (fun x hx => hsub x (hp.mem_iff.1 hx))
      have e := h1.2 (by rw [hp.length_eq]; omega)
      exact hits_mem (fun x hx => hp.mem_iff.1 (by rw [e]; exact hx)) hT.hits
    rw [if_pos ((cov_hits hC).2 hh)]
    exact leaf_finds hn hN hT hsub hh
  | d + 1, l, m, found, hC, hN, hsub, hl, ht => by
    rw [grow] at ht ⊢
    by_cases h : fo m ss.length < 0
    · rw [if_pos h]
      exact leaf_finds hn hN hT hsub ((cov_hits hC).1 h)
    · rw [if_neg h] at ht ⊢
      rcases fo_cases m ss.length with ⟨e, _⟩ | ⟨k, hk, e, h0, _⟩
      · rw [e] at h; omega
      · rw [e] at ht ⊢
        obtain ⟨x, hx, hxT⟩ := hits_iff.1 hT.hits _ (memD (d := []) hk)
        have hlow := hn k x hx
        refine steps_finds (F := fun fd => ∃ t ∈ fd, pad t = pad T) (fun y fd ⟨t, h1, h2⟩ => ⟨t, grow_mem _ d _ _ fd t h1, h2⟩) hx (fun fd h => ?_) ht
        refine grow_finds hT d _ _ fd (cov_snoc hn hC hlow.1) (node_snoc hN hC hk h0 hx hlow) (fun y hy => ?_) (by simp; omega) h
        rcases List.mem_append.1 hy with h | h
        · exact hsub y h
        · obtain rfl := List.mem_singleton.1 h; exact hxT

/-- Each hitting set contains a minimal one. -/
theorem min_exists : ∀ (n : Nat) (T : List Int), T.length = n → T.Pairwise (· < ·) → (∀ x ∈ T, 0 ≤ x ∧ x < 256) → hits T ss = true → ∃ S, Min ss S ∧ (∀ x ∈ S, x ∈ T) ∧ S.length ≤ T.length
  | n, T, hl, hpw, hlow, hh => by
    rcases Classical.em (∀ i, i < T.length → hits (drop1 T i) ss = false) with h | h
    · exact ⟨T, ⟨hpw, hlow, hh, h⟩, fun _ h => h, Nat.le_refl _⟩
    · rw [Classical.not_forall] at h
      obtain ⟨i, h⟩ := h
      rw [Classical.not_imp] at h
      obtain ⟨hi, h⟩ := h
      have hsub : ∀ x ∈ drop1 T i, x ∈ T := fun x hx => by
        obtain ⟨k, hk, _, rfl⟩ := mem_drop1.1 hx
        exact memD hk
      have hlen : (drop1 T i).length = n - 1 := by unfold drop1; simp; omega
      have hsl : (drop1 T i).Sublist T := by
        unfold drop1
        conv => rhs; rw [← List.take_append_drop i T]
        exact List.Sublist.append_left (List.drop_sublist_drop_left T (by omega)) _
      obtain ⟨S, h1, h2, h3⟩ := min_exists (n - 1) (drop1 T i) hlen (hpw.sublist hsl) (fun x hx => hlow x (hsub x hx)) (by simpa using h)
      exact ⟨S, h1, fun x hx => hsub x (h2 x hx), by omega⟩
  termination_by n => n
  decreasing_by omega
end

/-- What Hit finds. -/
theorem hitRun_min {ss : List (List Int)} (hn : ∀ s ∈ ss, ∀ x ∈ s, (0 : Int) ≤ x ∧ x < 256) (size : Nat) : Inv ss size (hitRun ss size).2 := by
  have hn' : ∀ i, ∀ x ∈ ss.getD i [], (0 : Int) ≤ x ∧ x < 256 := fun i x hx => by
    rcases Nat.lt_or_ge i ss.length with h | h
    · exact hn _ (memD h) x hx
    · rw [List.getD_eq_getElem?_getD, List.getElem?_eq_none h] at hx; cases hx
  exact grow_inv hn' size [] 0 [] (cov_nil ss) ⟨List.nodup_nil, fun x hx => by cases hx⟩ (by simp) ⟨fun S hS => (by cases hS), List.Pairwise.nil⟩
theorem hitRun_finds {ss : List (List Int)} (hn : ∀ s ∈ ss, ∀ x ∈ s, (0 : Int) ≤ x ∧ x < 256) {size : Nat} (hs : size ≤ 3) (hok : (hitRun ss size).1 = true) {T : List Int} (hl : T.length ≤ size) (hpw : T.Pairwise (· < ·)) (hlow : ∀ x ∈ T, 0 ≤ x ∧ x < 256) (hh : hits T ss = true) :
    ∃ S ∈ (hitRun ss size).2, ∀ x ∈ S, x ∈ T := by
  have hn' : ∀ i, ∀ x ∈ ss.getD i [], (0 : Int) ≤ x ∧ x < 256 := fun i x hx => by
    rcases Nat.lt_or_ge i ss.length with h | h
    · exact hn _ (memD h) x hx
    · rw [List.getD_eq_getElem?_getD, List.getElem?_eq_none h] at hx; cases hx
  obtain ⟨S, h1, h2, h3⟩ := min_exists T.length T rfl hpw hlow hh
  obtain ⟨t, ht, e⟩ := grow_finds hn' h1 size [] 0 [] (cov_nil ss) ⟨List.nodup_nil, fun x hx => by cases hx⟩ (fun x hx => by cases hx) (by simp; omega) hok
  have hI := hitRun_min hn size
  have ht' := hI.1 t ht
  have e' : t = S := pad_inj (by have := ht'.2; omega) (by omega) (fun x hx => (ht'.1.low x hx).1) (fun x hx => (h1.low x hx).1) e
  subst e'
  exact ⟨t, ht, h2⟩
end Go.Proofs.YtfpmbjobieeidaaGreat.Rk
namespace Go.Proofs.YtfpmbjobieeidaaGreat.Rk

theorem hit_facts {xss : List (List Int)} (hi : ∀ s ∈ xss, Incr 256 s) {size : Int} (h0 : 0 ≤ size) {l : List (List Int)} (hl : l = sortSets (hitRun (smallest xss) size).2) :
    ∀ k, k < l.length → ((l.getD k []).length : Int) ≤ size ∧ Incr 256 (l.getD k []) ∧ hits (l.getD k []) xss = true ∧ (∀ i, i < (l.getD k []).length → hits (drop1 (l.getD k []) i) xss = false) ∧ (0 < k → ord (l.getD (k - 1) []) (l.getD k []) < 0) := by
  obtain ⟨n, rfl⟩ : ∃ n : Nat, size = n := ⟨size.toNat, by omega⟩
  have hpw : ∀ s ∈ xss, s.Pairwise (· < ·) := fun s hs => (hi s hs).pairwise
  have hs := smallest_inv hpw
  have hI := hitRun_min (ss := smallest xss) (fun s h x hx => (hi s (hs.2.2.2.1 s h)).mem hx) n
  have hp := sortSets_perm (hitRun (smallest xss) n).2
  rw [← hl] at hp
  have hnd : l.Nodup := hp.nodup_iff.2 (hI.2.imp fun h e => h (by rw [e]))
  have hle : l.Pairwise fun a b => ord a b ≤ 0 := by rw [hl]; exact sortSets_pairwise _
  intro k hk
  have hm := hI.1 _ (hp.mem_iff.1 (memD (d := []) hk))
  refine ⟨by have := hm.2; omega, Incr.of_pairwise hm.1.pw hm.1.low, by rw [← smallest_hits hpw]; exact hm.1.hits, fun i h => by rw [← smallest_hits hpw]; exact hm.1.min i h, fun hk0 => ?_⟩
  unfold List.Nodup at hnd
  rw [List.pairwise_iff_getElem] at hnd hle
  have a := hnd (k - 1) k (by omega) hk (by omega)
  have b := hle (k - 1) k (by omega) hk (by omega)
  have e1 : l.getD (k - 1) [] = l[k - 1] := by rw [List.getD_eq_getElem?_getD, List.getElem?_eq_getElem (show k - 1 < l.length by omega)]; rfl
  have e2 : l.getD k [] = l[k] := by rw [List.getD_eq_getElem?_getD, List.getElem?_eq_getElem hk]; rfl
  rw [e1, e2]
  rcases Int.lt_or_eq_of_le b with h | h
  · exact h
  · exact absurd (ord_eq h) a
theorem hit_all {xss : List (List Int)} (hi : ∀ s ∈ xss, Incr 256 s) {size : Int} (h0 : 0 ≤ size) (h3 : size ≤ 3) {l : List (List Int)} (hl : l = sortSets (hitRun (smallest xss) size).2) (hok : (hitRun (smallest xss) size).1 = true)
    {other : List Int} (hlen : (other.length : Int) ≤ size) (ho : Incr 256 other) (hh : hits other xss = true) : ∃ k, k < l.length ∧ sub (l.getD k []) other = true := by
  obtain ⟨n, rfl⟩ : ∃ n : Nat, size = n := ⟨size.toNat, by omega⟩
  have hpw : ∀ s ∈ xss, s.Pairwise (· < ·) := fun s hs => (hi s hs).pairwise
  have hs := smallest_inv hpw
  obtain ⟨S, hS, hsub⟩ := hitRun_finds (ss := smallest xss) (fun s h x hx => (hi s (hs.2.2.2.1 s h)).mem hx) (size := n) (by omega) hok (by omega) ho.pairwise (fun x hx => ho.mem hx) (by rw [smallest_hits hpw]; exact hh)
  have hp := sortSets_perm (hitRun (smallest xss) n).2
  rw [← hl] at hp
  obtain ⟨k, hk, e⟩ := mem_getD (d := []) (hp.mem_iff.2 hS)
  exact ⟨k, hk, by rw [e, sub_iff]; exact hsub⟩
end Go.Proofs.YtfpmbjobieeidaaGreat.Rk
namespace Go.Proofs.YtfpmbjobieeidaaGreat.Rk

def Strict (l : List (List Int)) : Prop := l.Pairwise fun a b => ord a b < 0
theorem ord_self_ (x : List Int) : ord x x = 0 := by have := ord_swap x x; omega
theorem ord_len {a b : List Int} (h : ord a b < 0) : a.length ≤ b.length := by
  unfold ord at h
  split at h
  · omega
  · split at h
    · omega
    · omega
theorem strict_nil : Strict [] := List.Pairwise.nil
theorem Strict.le {l : List (List Int)} (h : Strict l) : l.Pairwise fun a b => ord a b ≤ 0 := List.Pairwise.imp (fun h => Int.le_of_lt h) h
theorem Strict.ins {l : List (List Int)} {x : List Int} {i : Nat} (h : Strict l) (h1 : ∀ p, i ≤ p → p < l.length → ord x (l.getD p []) < 0) (h2 : i = 0 ∨ ord (l.getD (i - 1) []) x < 0) (hi : i ≤ l.length) : Strict (l.take i ++ x :: l.drop i) := by
  have hfront : ∀ a ∈ l.take i, ord a x < 0 := fun a ha => by
    obtain ⟨p, hp, rfl⟩ := List.mem_take_iff_getElem.1 ha
    have hpl : p < l.length := by omega
    rcases h2 with h2 | h2
    · omega
    · have hq : i - 1 < l.length := by omega
      rw [List.getD_eq_getElem?_getD, List.getElem?_eq_getElem hq] at h2
      simp only [Option.getD_some] at h2
      by_cases e : p = i - 1
      · subst e; exact h2
      · exact ord_trans ((List.pairwise_iff_getElem.1 h) p (i - 1) hpl hq (by omega)) h2
  have hback : ∀ b ∈ l.drop i, ord x b < 0 := fun b hb => by
    obtain ⟨p, hp, rfl⟩ := List.mem_drop_iff_getElem.1 hb
    have hpl : i + p < l.length := by omega
    have := h1 (i + p) (by omega) hpl
    rwa [List.getD_eq_getElem?_getD, List.getElem?_eq_getElem hpl] at this
  unfold Strict
  rw [List.pairwise_append, List.pairwise_cons]
  refine ⟨h.sublist (List.take_sublist _ _), ⟨fun b hb => hback b hb, h.sublist (List.drop_sublist _ _)⟩, fun a ha b hb => ?_⟩
  rcases List.mem_cons.1 hb with rfl | hb
  · exact hfront a ha
  · exact ord_trans (hfront a ha) (hback b hb)
theorem ins_mem {l : List (List Int)} {x z : List Int} {i : Nat} : z ∈ l.take i ++ x :: l.drop i ↔ z ∈ l ∨ z = x := by
  rw [List.mem_append, List.mem_cons]
  have h : z ∈ l ↔ z ∈ l.take i ∨ z ∈ l.drop i := by rw [← List.mem_append, List.take_append_drop]
  rw [h]
  constructor
  · rintro (h | h | h)
    · exact .inl (.inl h)
    · exact .inr h
    · exact .inl (.inr h)
  · rintro ((h | h) | h)
    · exact .inl h
    · exact .inr (.inr h)
    · exact .inr (.inl h)
theorem Strict.nodup {l : List (List Int)} (h : Strict l) : l.Nodup := List.Pairwise.imp (fun {a b} h e => by subst e; have := ord_self_ a; omega) h
theorem Strict.ext {l m : List (List Int)} (hl : Strict l) (hm : Strict m) (h : ∀ z, z ∈ l ↔ z ∈ m) : l = m := by
  have hp : l.Perm m := (List.perm_ext_iff_of_nodup hl.nodup hm.nodup).2 h
  exact List.Perm.eq_of_pairwise (fun a b _ _ h1 h2 => ord_eq (by have := ord_swap a b; omega)) hl.le hm.le hp
/-- No shorter one is in it. -/
def least (xss : List (List Int)) (s : List Int) : Bool := xss.all fun t => decide (s.length ≤ t.length) || !sub t s
theorem smallest_strict {xss : List (List Int)} (h : ∀ s ∈ xss, s.Pairwise (· < ·)) : Strict (smallest xss) := by
  obtain ⟨h1, _, h3, h4, _⟩ := smallest_inv h
  unfold Strict Apart at *
  refine (h1.and h3).imp_of_mem fun {a b} ha hb ⟨h5, h6⟩ => ?_
  rcases Int.lt_or_le (ord a b) 0 with h7 | h7
  · exact h7
  · exfalso
    have e := ord_eq (show ord a b = 0 by omega)
    subst e
    have := (within_iff (h a (h4 a ha)) (h a (h4 a ha))).2 (fun x hx => hx)
    rw [this] at h5
    cases h5
theorem smallest_mem {xss : List (List Int)} (h : ∀ s ∈ xss, s.Pairwise (· < ·)) (z : List Int) : z ∈ smallest xss ↔ z ∈ xss ∧ least xss z = true := by
  obtain ⟨h1, h2, _, h4, _⟩ := smallest_inv h
  constructor
  · intro hz
    refine ⟨h4 z hz, ?_⟩
    unfold least
    rw [List.all_eq_true]
    intro t ht
    simp only [Bool.or_eq_true, decide_eq_true_eq, Bool.not_eq_true', Bool.eq_false_iff]
    rcases Nat.lt_or_ge t.length z.length with hlt | hge
    · refine .inr fun hs => ?_
      have hs := sub_iff.1 hs
      obtain ⟨x, hx, hxt⟩ := h2 t ht
      have hxz : ∀ y ∈ x, y ∈ z := fun y hy => hs y (hxt y hy)
      have hxs := h x (h4 x hx)
      have hlen : x.length ≤ t.length := (pw_sub_len hxs (h t ht) hxt).1
      have hne : x ≠ z := fun e => by rw [e] at hlen; omega
      have hw := (within_iff hxs (h z (h4 z hz))).2 hxz
      have hap : ∀ a ∈ smallest xss, ∀ b ∈ smallest xss, a ≠ b → within a b = true → within b a = true := fun a ha b hb hne hw => by
        obtain ⟨i, hi, rfl⟩ := List.mem_iff_getElem.1 ha
        obtain ⟨j, hj, rfl⟩ := List.mem_iff_getElem.1 hb
        rcases Nat.lt_trichotomy i j with hij | hij | hij
        · have := (List.pairwise_iff_getElem.1 h1) i j hi hj hij
          rw [hw] at this; cases this
        · subst hij; exact absurd rfl hne
        · rcases Bool.eq_false_or_eq_true (within (smallest xss)[j] (smallest xss)[i]) with h5 | h5
          · exact h5
          · exfalso
            have e1 : (smallest xss)[j] ∈ xss := h4 _ (List.getElem_mem hj)
            have e2 : (smallest xss)[i] ∈ xss := h4 _ (List.getElem_mem hi)
            have hs := (within_iff (h _ e2) (h _ e1)).1 hw
            have hl := pw_sub_len (h _ e2) (h _ e1) hs
            have ho := (List.pairwise_iff_getElem.1 (smallest_strict h)) j i hj hi hij
            have hl2 := ord_len ho
            exact hne (hl.2 hl2)
      have := hap x hx z hz hne hw
      have hs2 := (within_iff (h z (h4 z hz)) hxs).1 this
      have := (pw_sub_len (h z (h4 z hz)) hxs hs2).1
      omega
    · exact .inl hge
  · rintro ⟨hz, hl⟩
    obtain ⟨x, hx, hxz⟩ := h2 z hz
    have hxs := h x (h4 x hx)
    have hlen := pw_sub_len hxs (h z hz) hxz
    unfold least at hl
    rw [List.all_eq_true] at hl
    have := hl x (h4 x hx)
    simp only [Bool.or_eq_true, decide_eq_true_eq, Bool.not_eq_true', Bool.eq_false_iff] at this
    rcases this with h5 | h5
    · rw [← hlen.2 h5]; exact hx
    · exact absurd (sub_iff.2 hxz) h5
end Go.Proofs.YtfpmbjobieeidaaGreat.Rk
namespace Go.Proofs.YtfpmbjobieeidaaGreat.Rk

/-- Is a hitting set, and none without any one element? -/
def minB (xss : List (List Int)) (S : List Int) : Bool := hits S xss && (List.range S.length).all fun i => !hits (drop1 S i) xss
theorem minB_iff {xss : List (List Int)} {S : List Int} : minB xss S = true ↔ hits S xss = true ∧ ∀ i, i < S.length → hits (drop1 S i) xss = false := by
  unfold minB
  simp [List.all_eq_true]
/-- All elements of some sets. -/
def bareTo (xss : List (List Int)) (n : Nat) : List Int := ((List.range n).filter fun i : Nat => xss.any fun s => decide ((i : Int) ∈ s)).map fun i : Nat => (i : Int)
theorem bareTo_yes {xss : List (List Int)} {n : Nat} (h : (xss.any fun s => decide ((n : Int) ∈ s)) = true) : bareTo xss (n + 1) = bareTo xss n ++ [(n : Int)] := by
  unfold bareTo
  rw [List.range_succ, List.filter_append, List.map_append, List.filter_cons_of_pos (p := fun i : Nat => xss.any fun s => decide ((i : Int) ∈ s)) h]
  rfl
theorem bareTo_no {xss : List (List Int)} {n : Nat} (h : (xss.any fun s => decide ((n : Int) ∈ s)) = false) : bareTo xss (n + 1) = bareTo xss n := by
  unfold bareTo
  rw [List.range_succ, List.filter_append, List.map_append, List.filter_cons_of_neg (by simpa using h)]
  simp
theorem bareTo_len (xss : List (List Int)) (n : Nat) : (bareTo xss n).length ≤ n := by
  unfold bareTo
  have := List.length_filter_le (fun i : Nat => xss.any fun s => decide ((i : Int) ∈ s)) (List.range n)
  rw [List.length_range] at this
  rwa [List.length_map]
theorem bareTo_mem {xss : List (List Int)} {n : Nat} (x : Int) : x ∈ bareTo xss n ↔ (0 ≤ x ∧ x < n) ∧ ∃ s ∈ xss, x ∈ s := by
  unfold bareTo
  rw [List.mem_map]
  constructor
  · rintro ⟨k, hk, rfl⟩
    rw [List.mem_filter, List.mem_range, List.any_eq_true] at hk
    obtain ⟨s, hs, h⟩ := hk.2
    exact ⟨by omega, s, hs, of_decide_eq_true h⟩
  · rintro ⟨h1, s, hs, h2⟩
    refine ⟨x.toNat, ?_, by omega⟩
    rw [List.mem_filter, List.mem_range, List.any_eq_true, show ((x.toNat : Nat) : Int) = x by omega]
    exact ⟨by omega, s, hs, decide_eq_true h2⟩
theorem bareTo_pw (xss : List (List Int)) (n : Nat) : (bareTo xss n).Pairwise (· < ·) := by
  unfold bareTo
  rw [List.pairwise_map]
  exact (List.pairwise_lt_range.sublist List.filter_sublist).imp fun h => by omega

/-- May a set be lengthened by an element? -/
def fits (s : List Int) (x : Int) : Bool := decide (s.length = 0) || decide (s.getD (s.length - 1) 0 < x)
def ext (all s : List Int) : List (List Int) := (all.filter (fits s)).map fun x => s ++ [x]
def layer (all : List Int) : Nat → List (List Int)
  | 0 => [[]]
  | n + 1 => (layer all n).flatMap (ext all)
theorem fits_pw {s : List Int} {x : Int} (hs : s.Pairwise (· < ·)) : fits s x = true ↔ ∀ y ∈ s, y < x := by
  unfold fits
  simp only [Bool.or_eq_true, decide_eq_true_eq]
  constructor
  · rintro (h | h) y hy
    · rw [List.eq_nil_of_length_eq_zero h] at hy; cases hy
    · obtain ⟨i, hi, rfl⟩ := List.mem_iff_getElem.1 hy
      have hl : s.length - 1 < s.length := by omega
      rw [List.getD_eq_getElem?_getD, List.getElem?_eq_getElem hl] at h
      simp only [Option.getD_some] at h
      by_cases e : i = s.length - 1
      · subst e; exact h
      · have := (List.pairwise_iff_getElem.1 hs) i (s.length - 1) hi hl (by omega)
        omega
  · intro h
    by_cases h0 : s.length = 0
    · exact .inl h0
    · exact .inr (h _ (memD (by omega)))
theorem layer_mem (all : List Int) : ∀ (n : Nat) (s : List Int), s ∈ layer all n ↔ s.length = n ∧ s.Pairwise (· < ·) ∧ ∀ x ∈ s, x ∈ all
  | 0, s => by
    unfold layer
    rw [List.mem_singleton]
    constructor
    · rintro rfl; exact ⟨rfl, List.Pairwise.nil, fun x hx => by cases hx⟩
    · rintro ⟨h, _⟩; exact List.eq_nil_of_length_eq_zero h
  | n + 1, s => by
    unfold layer
    rw [List.mem_flatMap]
    constructor
    · rintro ⟨t, ht, hs⟩
      obtain ⟨h1, h2, h3⟩ := (layer_mem all n t).1 ht
      unfold ext at hs
      obtain ⟨x, hx, rfl⟩ := List.mem_map.1 hs
      rw [List.mem_filter, fits_pw h2] at hx
      refine ⟨by simp [h1], ?_, fun y hy => ?_⟩
      · rw [List.pairwise_append]
        exact ⟨h2, List.pairwise_singleton _ _, fun a ha b hb => by rw [List.mem_singleton.1 hb]; exact hx.2 a ha⟩
      · rcases List.mem_append.1 hy with h | h
        · exact h3 y h
        · rw [List.mem_singleton.1 h]; exact hx.1
    · rintro ⟨h1, h2, h3⟩
      have hne : s ≠ [] := fun e => by rw [e] at h1; simp at h1
      have e : s = s.dropLast ++ [s.getLast hne] := (List.dropLast_concat_getLast hne).symm
      rw [e] at h2 h3
      rw [List.pairwise_append] at h2
      refine ⟨s.dropLast, (layer_mem all n _).2 ⟨by rw [List.length_dropLast]; omega, h2.1, fun x hx => h3 x (List.mem_append.2 (.inl hx))⟩, ?_⟩
      unfold ext
      refine List.mem_map.2 ⟨s.getLast hne, ?_, e.symm⟩
      rw [List.mem_filter, fits_pw h2.1]
      exact ⟨h3 _ (List.mem_append.2 (.inr (List.mem_singleton.2 rfl))), fun y hy => h2.2.2 y hy _ (List.mem_singleton.2 rfl)⟩
theorem lex_more : ∀ (a b : List Int) (x y : Int), a.length = b.length → lex a b < 0 → lex (a ++ [x]) (b ++ [y]) < 0
  | [], [], x, y, _, h => by simp [lex] at h
  | [], _ :: _, _, _, h, _ => by simp at h
  | _ :: _, [], _, _, h, _ => by simp at h
  | u :: a, v :: b, x, y, hl, h => by
    simp only [List.cons_append, lex] at h ⊢
    by_cases h1 : u < v
    · rw [if_pos h1]; omega
    · rw [if_neg h1] at h ⊢
      by_cases h2 : v < u
      · rw [if_pos h2] at h; omega
      · rw [if_neg h2] at h ⊢
        exact lex_more a b x y (by simpa using hl) h
theorem lex_last : ∀ (a : List Int) (x y : Int), x < y → lex (a ++ [x]) (a ++ [y]) < 0
  | [], x, y, h => by simp [lex, h]
  | u :: a, x, y, h => by
    simp only [List.cons_append, lex]
    rw [if_neg (by omega), if_neg (by omega)]
    exact lex_last a x y h
theorem ord_same {a b : List Int} (h : a.length = b.length) : ord a b = lex a b := by unfold ord; rw [if_neg (by omega), if_neg (by omega)]
theorem layer_strict {all : List Int} (ha : all.Pairwise (· < ·)) : ∀ n, Strict (layer all n)
  | 0 => List.pairwise_singleton _ _
  | n + 1 => by
    unfold Strict layer
    rw [List.pairwise_flatMap]
    refine ⟨fun s _ => ?_, (layer_strict ha n).imp_of_mem fun {s t} hs ht hst => fun a haa b hbb => ?_⟩
    · unfold ext
      rw [List.pairwise_map]
      refine (ha.sublist List.filter_sublist).imp fun {x y} h => ?_
      rw [ord_same (by simp)]
      exact lex_last s x y h
    · unfold ext at haa hbb
      obtain ⟨x, _, rfl⟩ := List.mem_map.1 haa
      obtain ⟨y, _, rfl⟩ := List.mem_map.1 hbb
      have h1 := ((layer_mem all n s).1 hs).1
      have h2 := ((layer_mem all n t).1 ht).1
      rw [ord_same (by omega)] at hst
      rw [ord_same (by simp; omega)]
      exact lex_more s t x y (by omega) hst
theorem flat_len {α β : Type} (f : α → List β) (k : Nat) : ∀ (l : List α), (∀ a ∈ l, (f a).length ≤ k) → (l.flatMap f).length ≤ l.length * k
  | [], _ => by simp
  | a :: l, h => by
    have ih := flat_len f k l fun b hb => h b (List.mem_cons_of_mem _ hb)
    have := h a (List.mem_cons_self ..)
    rw [List.flatMap_cons, List.length_append, List.length_cons, Nat.succ_mul]
    omega
theorem ext_len (all s : List Int) : (ext all s).length ≤ all.length := by
  unfold ext
  rw [List.length_map]
  exact List.length_filter_le _ _
theorem layer_len {all : List Int} (h : all.length ≤ 256) : ∀ n, (layer all n).length ≤ 256 ^ n
  | 0 => by simp [layer]
  | n + 1 => by
    unfold layer
    have h1 := flat_len (ext all) 256 (layer all n) fun s _ => Nat.le_trans (ext_len all s) h
    have h2 := layer_len h n
    have h3 := Nat.mul_le_mul_right 256 h2
    rw [Nat.pow_succ]
    exact Nat.le_trans h1 h3
/-- What the reference's Hit collects of the first layers. -/
def outTo (p : List Int → Bool) (all : List Int) : Nat → List (List Int)
  | 0 => []
  | n + 1 => outTo p all n ++ (layer all n).filter p
theorem outTo_mem (p : List Int → Bool) (all : List Int) : ∀ (n : Nat) (s : List Int), s ∈ outTo p all n ↔ s.length < n ∧ s.Pairwise (· < ·) ∧ (∀ x ∈ s, x ∈ all) ∧ p s = true
  | 0, s => by simp [outTo]
  | n + 1, s => by
    unfold outTo
    rw [List.mem_append, outTo_mem p all n, List.mem_filter, layer_mem]
    constructor
    · rintro (⟨h1, h2, h3, h4⟩ | ⟨⟨h1, h2, h3⟩, h4⟩)
      · exact ⟨by omega, h2, h3, h4⟩
      · exact ⟨by omega, h2, h3, h4⟩
    · rintro ⟨h1, h2, h3, h4⟩
      by_cases e : s.length = n
      · exact .inr ⟨⟨e, h2, h3⟩, h4⟩
      · exact .inl ⟨by omega, h2, h3, h4⟩
theorem outTo_strict (p : List Int → Bool) {all : List Int} (ha : all.Pairwise (· < ·)) : ∀ n, Strict (outTo p all n)
  | 0 => strict_nil
  | n + 1 => by
    unfold Strict outTo
    rw [List.pairwise_append]
    refine ⟨outTo_strict p ha n, (layer_strict ha n).sublist List.filter_sublist, fun a h1 b h2 => ?_⟩
    have h3 := ((outTo_mem p all n a).1 h1).1
    have h4 := ((layer_mem all n b).1 (List.mem_filter.1 h2).1).1
    unfold ord
    rw [if_pos (by omega)]
    omega
theorem outTo_len (p : List Int → Bool) {all : List Int} (h : all.length ≤ 256) : ∀ n, (outTo p all n).length ≤ n * 256 ^ n
  | 0 => by simp [outTo]
  | n + 1 => by
    unfold outTo
    rw [List.length_append]
    have h1 := outTo_len p h n
    have h2 := Nat.le_trans (List.length_filter_le p (layer all n)) (layer_len h n)
    have h3 : (n + 1) * 256 ^ (n + 1) = n * 256 ^ (n + 1) + 256 ^ (n + 1) := by rw [Nat.succ_mul]
    have h4 : 256 ^ n ≤ 256 ^ (n + 1) := Nat.pow_le_pow_right (by decide) (Nat.le_succ n)
    have h5 := Nat.mul_le_mul_left n h4
    omega

theorem leaf_no {H : Nat → Nat} {n : Nat} {l : List Int} {found : List (List Int)} (h : (leaf H n l found).1 = false) : 256 < (leaf H n l found).2.length := by
  unfold leaf at h ⊢
  split at h
  · cases h
  · rename_i h2
    rw [if_neg h2]
    simp at h ⊢
    omega
theorem steps_noL {f : Int → List (List Int) → Bool × List (List Int)} (hf : ∀ x found, (f x found).1 = false → 256 < (f x found).2.length) : ∀ (xs : List Int) (found : List (List Int)), (steps f xs found).1 = false → 256 < (steps f xs found).2.length
  | [], found, h => by simp [steps] at h
  | x :: xs, found, h => by
    rw [steps] at h ⊢
    by_cases hx : (f x found).1 = true
    · rw [if_pos hx] at h ⊢
      exact steps_noL hf xs _ h
    · rw [if_neg hx]
      exact hf x found (by simpa using hx)
theorem grow_no (H : Nat → Nat) (sets : List (List Int)) : ∀ (d : Nat) (l : List Int) (m : Nat) (found : List (List Int)), (grow H sets d l m found).1 = false → 256 < (grow H sets d l m found).2.length
  | 0, l, m, found, h => by
    rw [grow] at h ⊢
    split at h
    · rename_i h2
      rw [if_pos h2]
      exact leaf_no h
    · cases h
  | d + 1, l, m, found, h => by
    rw [grow] at h ⊢
    split at h
    · rename_i h2
      rw [if_pos h2]
      exact leaf_no h
    · rename_i h2
      rw [if_neg h2]
      exact steps_noL (fun x found h => grow_no H sets d _ _ found h) _ _ h

/-- The reference finds what the search finds. -/
theorem hit_same {xss : List (List Int)} (hi : ∀ s ∈ xss, Incr 256 s) {size : Nat} (h3 : size ≤ 3) :
    ((hitRun (smallest xss) size).1 = true → outTo (minB xss) (bareTo xss 256) (size + 1) = sortSets (hitRun (smallest xss) size).2 ∧ (outTo (minB xss) (bareTo xss 256) (size + 1)).length ≤ 256) ∧
      ((hitRun (smallest xss) size).1 = false → 256 < (outTo (minB xss) (bareTo xss 256) (size + 1)).length) := by
  have hpw : ∀ s ∈ xss, s.Pairwise (· < ·) := fun s hs => (hi s hs).pairwise
  have hs := smallest_inv hpw
  have hn : ∀ s ∈ smallest xss, ∀ x ∈ s, (0 : Int) ≤ x ∧ x < 256 := fun s h x hx => (hi s (hs.2.2.2.1 s h)).mem hx
  have hI := hitRun_min hn size
  have hnd : (hitRun (smallest xss) size).2.Nodup := hI.2.imp fun h e => h (by rw [e])
  have hsub : ∀ S ∈ (hitRun (smallest xss) size).2, S ∈ outTo (minB xss) (bareTo xss 256) (size + 1) := fun S hS => by
    obtain ⟨hm, hl⟩ := hI.1 S hS
    have hmin : minB xss S = true := minB_iff.2 ⟨by rw [← smallest_hits hpw]; exact hm.hits, fun i h => by rw [← smallest_hits hpw]; exact hm.min i h⟩
    refine (outTo_mem _ _ _ _).2 ⟨by omega, hm.pw, fun x hx => ?_, hmin⟩
    rw [bareTo_mem]
    refine ⟨hm.low x hx, ?_⟩
    obtain ⟨i, hi', rfl⟩ := List.mem_iff_getElem.1 hx
    have h1 := (minB_iff.1 hmin).1
    have h2 := (minB_iff.1 hmin).2 i hi'
    rw [hits_iff] at h1
    have h3 : ¬ ∀ s ∈ xss, ∃ x ∈ s, x ∈ drop1 S i := fun h => by rw [hits_iff.2 h] at h2; cases h2
    have h4 : ∃ s, s ∈ xss ∧ ¬ ∃ x ∈ s, x ∈ drop1 S i := Classical.byContradiction fun hc => h3 fun s hs => Classical.byContradiction fun h => hc ⟨s, hs, h⟩
    obtain ⟨s, hs', h5⟩ := h4
    obtain ⟨y, hy, hyS⟩ := h1 s hs'
    obtain ⟨j, hj, e⟩ := mem_getD (d := 0) hyS
    by_cases eji : j = i
    · subst eji
      rw [List.getD_eq_getElem?_getD, List.getElem?_eq_getElem hj] at e
      exact ⟨s, hs', by rw [show S[j] = y from e]; exact hy⟩
    · exact absurd ⟨y, hy, mem_drop1.2 ⟨j, hj, eji, e⟩⟩ h5
  constructor
  · intro hok
    have hst := outTo_strict (minB xss) (bareTo_pw xss 256) (size + 1)
    have hback : ∀ S ∈ outTo (minB xss) (bareTo xss 256) (size + 1), S ∈ (hitRun (smallest xss) size).2 := fun S hS => by
      obtain ⟨h1, h2, h4, h5⟩ := (outTo_mem _ _ _ _).1 hS
      obtain ⟨h6, h7⟩ := minB_iff.1 h5
      have hlow : ∀ x ∈ S, 0 ≤ x ∧ x < 256 := fun x hx => ((bareTo_mem x).1 (h4 x hx)).1
      obtain ⟨T, hT, hTS⟩ := hitRun_finds hn h3 hok (T := S) (by omega) h2 hlow (by rw [smallest_hits hpw]; exact h6)
      obtain ⟨hm, _⟩ := hI.1 T hT
      have hle := pw_sub_len hm.pw h2 hTS
      rcases Nat.lt_or_ge T.length S.length with hlt | hge
      · exfalso
        have hex : ∃ i, i < S.length ∧ S.getD i 0 ∉ T := Classical.byContradiction fun hc => by
          have hST : ∀ x ∈ S, x ∈ T := fun x hx => by
            obtain ⟨i, hi, e⟩ := mem_getD (d := 0) hx
            exact Classical.byContradiction fun h => hc ⟨i, hi, by rw [e]; exact h⟩
          have := (pw_sub_len h2 hm.pw hST).1
          omega
        obtain ⟨i, hi', hni⟩ := hex
        have h8 := h7 i hi'
        have h9 : hits (drop1 S i) xss = true := by
          rw [← smallest_hits hpw]
          refine hits_mem (fun x hx => ?_) hm.hits
          obtain ⟨j, hj, e⟩ := mem_getD (d := 0) (hTS x hx)
          exact mem_drop1.2 ⟨j, hj, fun e2 => hni (by rw [← e2, e]; exact hx), e⟩
        rw [h9] at h8
        cases h8
      · rw [← hle.2 hge]; exact hT
    have hlen : (hitRun (smallest xss) size).2.length ≤ 256 := (grow_le _ _ _ _ _ _ (by simp)).2 hok
    have hp : (outTo (minB xss) (bareTo xss 256) (size + 1)).Perm (hitRun (smallest xss) size).2 := (List.perm_ext_iff_of_nodup hst.nodup hnd).2 fun S => ⟨hback S, hsub S⟩
    exact ⟨sortSets_unique hp hst.le, by rw [hp.length_eq]; exact hlen⟩
  · intro hno
    have h1 : 256 < (hitRun (smallest xss) size).2.length := grow_no _ _ _ _ _ _ hno
    have : ∀ {l m : List (List Int)}, l.Nodup → (∀ z ∈ l, z ∈ m) → l.length ≤ m.length := by
      intro l
      induction l with
      | nil => intro m _ _; exact Nat.zero_le _
      | cons a l ih =>
        intro m h hs
        have ha : a ∈ m := hs a (List.mem_cons_self ..)
        obtain ⟨h1, h2⟩ := List.nodup_cons.1 h
        have ih' := ih (m := m.erase a) h2 (fun z hz => (List.mem_erase_of_ne (fun e => h1 (by rw [← e]; exact hz))).2 (hs z (List.mem_cons_of_mem _ hz)))
        rw [List.length_erase_of_mem ha] at ih'
        have : 0 < m.length := List.length_pos_of_mem ha
        simp only [List.length_cons]
        omega
    have := this hnd hsub
    omega
end Go.Proofs.YtfpmbjobieeidaaGreat.Rk
