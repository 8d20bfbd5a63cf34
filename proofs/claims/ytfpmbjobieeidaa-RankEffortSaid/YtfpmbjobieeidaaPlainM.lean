/-
  The effort, without the program: its walk's steps and its law.
-/
import Derived.Test.YtfpmbjobieeidaaPlainL
import Derived.Test.YtfpmbjobieeidaaPlainJ
namespace Go.Proofs.Ytfpmbjobieeidaa.Rk

/-- Is among the faulty. -/
def faultF (xs : List Int) (k : Nat) : Bool := decide ((k : Int) ∈ xs)
/-- The greatest one of the first ones. -/
def TopTo (sc : Nat → Fr) (xs : List Int) (i c : Nat) : Prop := (c : Int) ∈ xs ∧ ∀ j, j < i → cmpF (sc (xs.getD j 0).toNat) (sc c) ≤ 0
theorem nat_mem {xs : List Int} (hp : ∀ x ∈ xs, 0 ≤ x) {i : Nat} (hi : i < xs.length) : (((xs.getD i 0).toNat : Nat) : Int) = xs.getD i 0 := by
  have := hp _ (memD (d := 0) hi); omega
theorem topTo_zero {sc : Nat → Fr} {xs : List Int} (h : 0 < xs.length) (hp : ∀ x ∈ xs, 0 ≤ x) : TopTo sc xs 0 (xs.getD 0 0).toNat :=
  ⟨by rw [nat_mem hp h]; exact memD h, fun j hj => absurd hj (by omega)⟩
theorem topTo_new {sc : Nat → Fr} {xs : List Int} {i c : Nat} (h : TopTo sc xs i c) (hi : i < xs.length) (hp : ∀ x ∈ xs, 0 ≤ x) (hgt : 0 < cmpF (sc (xs.getD i 0).toNat) (sc c)) :
    TopTo sc xs (i + 1) (xs.getD i 0).toNat := by
  refine ⟨by rw [nat_mem hp hi]; exact memD hi, fun j hj => ?_⟩
  by_cases e : j = i
  · rw [e, cmpF_self]; omega
  · have s := cmpF_swap (sc (xs.getD i 0).toNat) (sc c)
    exact cmpF_trans (h.2 j (by omega)) (by omega)
theorem topTo_old {sc : Nat → Fr} {xs : List Int} {i c : Nat} (h : TopTo sc xs i c) (hle : ¬ 0 < cmpF (sc (xs.getD i 0).toNat) (sc c)) : TopTo sc xs (i + 1) c := by
  refine ⟨h.1, fun j hj => ?_⟩
  by_cases e : j = i
  · rw [e]; omega
  · exact h.2 j (by omega)
theorem topTo_end {sc : Nat → Fr} {xs : List Int} {n c : Nat} (h : TopTo sc xs xs.length c) (hx : ∀ x ∈ xs, 0 ≤ x ∧ x < n) : Top sc n (faultF xs) c := by
  have := hx _ h.1
  refine ⟨by omega, decide_eq_true h.1, fun k hk hF => ?_⟩
  obtain ⟨j, hj, e⟩ := mem_getD (d := 0) (of_decide_eq_true hF)
  have h2 := h.2 j hj
  rwa [e, Int.toNat_natCast] at h2

theorem gtN_succ (sc : Nat → Fr) (i c : Nat) : gtN sc (i + 1) c = gtN sc i c + if 0 < cmpF (sc i) (sc c) then 1 else 0 := by
  unfold gtN; rw [List.range_succ, List.countP_append, List.countP_singleton]; simp
theorem eqN_succ (sc : Nat → Fr) (i c : Nat) : eqN sc (i + 1) c = eqN sc i c + if cmpF (sc i) (sc c) = 0 then 1 else 0 := by
  unfold eqN; rw [List.range_succ, List.countP_append, List.countP_singleton]; simp
theorem eqF_succ (sc : Nat → Fr) (i : Nat) (F : Nat → Bool) (c : Nat) : eqF sc (i + 1) F c = eqF sc i F c + if cmpF (sc i) (sc c) = 0 ∧ F i = true then 1 else 0 := by
  unfold eqF; rw [List.range_succ, List.countP_append, List.countP_singleton]
  simp only [Bool.and_eq_true, decide_eq_true_eq]
theorem step_gt {sc : Nat → Fr} {i c : Nat} {F : Nat → Bool} (h : cmpF (sc i) (sc c) = 1) : gtN sc (i + 1) c = gtN sc i c + 1 ∧ eqN sc (i + 1) c = eqN sc i c ∧ eqF sc (i + 1) F c = eqF sc i F c := by
  rw [gtN_succ, eqN_succ, eqF_succ, h]; simp
theorem step_lt {sc : Nat → Fr} {i c : Nat} {F : Nat → Bool} (h : cmpF (sc i) (sc c) ≠ 1) (h0 : cmpF (sc i) (sc c) ≠ 0) : gtN sc (i + 1) c = gtN sc i c ∧ eqN sc (i + 1) c = eqN sc i c ∧ eqF sc (i + 1) F c = eqF sc i F c := by
  have := cmpF_bounds (sc i) (sc c)
  rw [gtN_succ, eqN_succ, eqF_succ, if_neg (by omega), if_neg h0, if_neg (fun e => h0 e.1)]; simp
theorem step_eq {sc : Nat → Fr} {i c : Nat} {F : Nat → Bool} (h : cmpF (sc i) (sc c) = 0) (hF : F i = true) : gtN sc (i + 1) c = gtN sc i c ∧ eqN sc (i + 1) c = eqN sc i c + 1 ∧ eqF sc (i + 1) F c = eqF sc i F c + 1 := by
  rw [gtN_succ, eqN_succ, eqF_succ, h, hF]; simp
theorem step_eq' {sc : Nat → Fr} {i c : Nat} {F : Nat → Bool} (h : cmpF (sc i) (sc c) = 0) (hF : F i = false) : gtN sc (i + 1) c = gtN sc i c ∧ eqN sc (i + 1) c = eqN sc i c + 1 ∧ eqF sc (i + 1) F c = eqF sc i F c := by
  rw [gtN_succ, eqN_succ, eqF_succ, h, hF]; simp
theorem gtN_len (sc : Nat → Fr) (n c : Nat) : gtN sc n c ≤ n := by
  unfold gtN
  have := List.countP_le_length (l := List.range n) (p := fun k => decide (0 < cmpF (sc k) (sc c)))
  rwa [List.length_range] at this
theorem eqN_len (sc : Nat → Fr) (n c : Nat) : eqN sc n c ≤ n := by
  unfold eqN
  have := List.countP_le_length (l := List.range n) (p := fun k => decide (cmpF (sc k) (sc c) = 0))
  rwa [List.length_range] at this

section
variable {sc : Nat → Fr} {n : Nat}
/-- Two greatest ones answer alike. -/
theorem top_alike {F : Nat → Bool} {c d : Nat} (hc : Top sc n F c) (hd : Top sc n F d) : gtN sc n c = gtN sc n d ∧ eqN sc n c = eqN sc n d ∧ eqF sc n F c = eqF sc n F d :=
  have h := top_same hc hd
  ⟨gtN_zero h, eqN_zero h, eqF_zero h⟩
/-- One more faulty component never makes the effort greater. -/
theorem effort_more {F : Nat → Bool} {c o c' : Nat} (h : Top sc n F c) (ho : o < n) (h' : Top sc n (fun i => F i || decide (i = o)) c') :
    gtN sc n c' ≤ gtN sc n c ∧ gtN sc n c' + eqN sc n c' + eqF sc n F c ≤ gtN sc n c + eqN sc n c + eqF sc n (fun i => F i || decide (i = o)) c' ∧
      cmpF (mean (gtN sc n c') (eqN sc n c') (eqF sc n (fun i => F i || decide (i = o)) c')) (mean (gtN sc n c) (eqN sc n c) (eqF sc n F c)) ≤ 0 := by
  have l1 := eqF_le sc n F c
  have l2 := eqF_le sc n (fun i => F i || decide (i = o)) c'
  rcases more_top h ho with ⟨ht, hk⟩ | ⟨ht, hlt, hk⟩
  · obtain ⟨e1, e2, e3⟩ := top_alike h' ht
    refine ⟨by omega, by omega, mean_le l1 l2 (.inl ⟨e1.symm, e2.symm, by omega⟩)⟩
  · obtain ⟨e1, e2, e3⟩ := top_alike h' ht
    have g1 := gtN_less (n := n) hlt
    have g2 := geN_eq sc n o
    refine ⟨by omega, by omega, mean_le l1 l2 (.inr ⟨by omega, by omega⟩)⟩

/-- The law's count along the ranking. -/
def stepC (sc : Nat → Fr) (n : Nat) (s : Int × Int) (c : Nat) : Int × Int :=
  let f := if s.2 = 0 then 1 + (gtN sc n c : Int) else s.1
  (f, if 1 + (gtN sc n c : Int) = f then s.2 + 1 else s.2)
def countC (sc : Nat → Fr) (n : Nat) (l : List Nat) : Int × Int := l.foldl (stepC sc n) (0, 0)
theorem fold_stepC (c : Nat) : ∀ (l : List Nat) (m : Int), 0 < m → l.foldl (stepC sc n) (1 + (gtN sc n c : Int), m) = (1 + (gtN sc n c : Int), m + (l.countP fun k => decide (gtN sc n k = gtN sc n c)))
  | [], m, _ => by simp
  | k :: l, m, hm => by
    rw [List.foldl_cons]
    have e : stepC sc n (1 + (gtN sc n c : Int), m) k = (1 + (gtN sc n c : Int), m + if gtN sc n k = gtN sc n c then 1 else 0) := by
      unfold stepC
      simp only [if_neg (show ¬ m = 0 by omega)]
      by_cases h : gtN sc n k = gtN sc n c
      · rw [if_pos (by omega), if_pos h]
      · rw [if_neg (by omega), if_neg h]; simp
    rw [e]
    by_cases h : gtN sc n k = gtN sc n c
    · rw [if_pos h, fold_stepC c l (m + 1) (by omega), List.countP_cons_of_pos (by simpa using h)]
      simp only [Prod.mk.injEq, true_and]
      omega
    · rw [if_neg h, Int.add_zero, fold_stepC c l m hm, List.countP_cons_of_neg (by simpa using h)]
theorem countC_cons (c : Nat) (l : List Nat) : countC sc n (c :: l) = (1 + (gtN sc n c : Int), (((c :: l).countP fun k => decide (gtN sc n k = gtN sc n c) : Nat) : Int)) := by
  unfold countC
  rw [List.foldl_cons]
  have e : stepC sc n (0, 0) c = (1 + (gtN sc n c : Int), 1) := by simp [stepC]
  rw [e, fold_stepC c l 1 (by omega), List.countP_cons_of_pos (by simp)]
  simp only [Prod.mk.injEq, true_and]
  omega
theorem countC_top {F : Nat → Bool} {c : Nat} (h : Top sc n F c) : countC sc n ((order sc n).filter F) = (1 + (gtN sc n c : Int), (eqF sc n F c : Int)) := by
  cases hl : (order sc n).filter F with
  | nil =>
    have : c ∈ (order sc n).filter F := by
      rw [List.mem_filter, (order_perm sc n).mem_iff, List.mem_range]; exact ⟨h.1, h.2.1⟩
    rw [hl] at this
    simp at this
  | cons d r =>
    have hd := first_top hl
    have hm := many_eq hd
    obtain ⟨e1, -, e3⟩ := top_alike h hd
    rw [hl] at hm
    rw [countC_cons, hm, e1, e3]
/-- After so many standings. -/
def cntAt (sc : Nat → Fr) (n : Nat) (xs : List Int) (i : Nat) : Int × Int := countC sc n (((order sc n).take i).filter (faultF xs))
/-- After so many faulty ones at a standing. -/
def cntIn (sc : Nat → Fr) (n : Nat) (xs : List Int) (i k : Nat) : Int × Int :=
  if (((order sc n).getD i 0 : Nat) : Int) ∈ xs.take k then stepC sc n (cntAt sc n xs i) ((order sc n).getD i 0) else cntAt sc n xs i
theorem cntAt_zero (xs : List Int) : cntAt sc n xs 0 = (0, 0) := by simp [cntAt, countC]
theorem cntIn_zero (xs : List Int) (i : Nat) : cntIn sc n xs i 0 = cntAt sc n xs i := by simp [cntIn]
theorem mem_take_succ {xs : List Int} {k : Nat} (hk : k < xs.length) (x : Int) : x ∈ xs.take (k + 1) ↔ x ∈ xs.take k ∨ x = xs.getD k 0 := by
  rw [← List.take_append_getElem hk, List.mem_append, List.mem_singleton, List.getD_eq_getElem?_getD, List.getElem?_eq_getElem hk]; rfl
theorem cntIn_miss {xs : List Int} {i k : Nat} (hk : k < xs.length) (h : (((order sc n).getD i 0 : Nat) : Int) ≠ xs.getD k 0) : cntIn sc n xs i (k + 1) = cntIn sc n xs i k := by
  have e : (((order sc n).getD i 0 : Nat) : Int) ∈ xs.take (k + 1) ↔ (((order sc n).getD i 0 : Nat) : Int) ∈ xs.take k := by
    rw [mem_take_succ hk]
    exact ⟨fun e => e.resolve_right h, .inl⟩
  unfold cntIn
  simp only [e]
theorem cntIn_hit {xs : List Int} (hx : Incr n xs) {i k : Nat} (hk : k < xs.length) (h : (((order sc n).getD i 0 : Nat) : Int) = xs.getD k 0) : cntIn sc n xs i k = cntAt sc n xs i ∧ cntIn sc n xs i (k + 1) = stepC sc n (cntAt sc n xs i) ((order sc n).getD i 0) := by
  unfold cntIn
  rw [h]
  constructor
  · refine if_neg fun e => ?_
    obtain ⟨j, hj, ej⟩ := List.mem_take_iff_getElem.1 e
    have := hx.lt (i := j) (j := k) (by omega) hk
    rw [← ej, List.getD_eq_getElem?_getD, List.getElem?_eq_getElem (by omega)] at this
    simp at this
  · exact if_pos ((mem_take_succ hk _).2 (.inr rfl))
theorem cntIn_full (xs : List Int) {i : Nat} (hi : i < n) : cntIn sc n xs i xs.length = cntAt sc n xs (i + 1) := by
  have hl : i < (order sc n).length := by rw [order_length]; exact hi
  unfold cntIn cntAt
  rw [List.take_length, ← List.take_append_getElem hl, List.filter_append, List.getD_eq_getElem?_getD, List.getElem?_eq_getElem hl]
  simp only [Option.getD_some]
  by_cases h : (((order sc n)[i] : Nat) : Int) ∈ xs
  · rw [if_pos h, List.filter_cons_of_pos (by simpa [faultF] using h), List.filter_nil]
    unfold countC
    rw [List.foldl_append]
    rfl
  · rw [if_neg h, List.filter_cons_of_neg (by simpa [faultF] using h), List.filter_nil, List.append_nil]
theorem cntAt_full {xs : List Int} {c : Nat} (h : Top sc n (faultF xs) c) : cntAt sc n xs n = (1 + (gtN sc n c : Int), (eqF sc n (faultF xs) c : Int)) := by
  unfold cntAt
  rw [List.take_of_length_le (by rw [order_length]; exact Nat.le_refl _)]
  exact countC_top h
end

/-- The faulty ones with one more. -/
def moreL (xs : List Int) (o : Int) (i : Nat) : List Int := ((List.range i).filter fun k : Nat => decide ((k : Int) = o) || decide ((k : Int) ∈ xs)).map fun k : Nat => (k : Int)
theorem moreL_zero (xs : List Int) (o : Int) : moreL xs o 0 = [] := rfl
theorem moreL_in {xs : List Int} {o : Int} {i : Nat} (h : (i : Int) = o ∨ (i : Int) ∈ xs) : moreL xs o (i + 1) = moreL xs o i ++ [(i : Int)] := by
  unfold moreL
  rw [List.range_succ, List.filter_append, List.map_append, List.filter_cons_of_pos (by simpa using h)]
  rfl
theorem moreL_out {xs : List Int} {o : Int} {i : Nat} (h : ¬ ((i : Int) = o ∨ (i : Int) ∈ xs)) : moreL xs o (i + 1) = moreL xs o i := by
  unfold moreL
  rw [List.range_succ, List.filter_append, List.map_append, List.filter_cons_of_neg (by simpa using h)]
  simp
theorem moreL_len (xs : List Int) (o : Int) (i : Nat) : (moreL xs o i).length ≤ i := by
  unfold moreL
  have := List.length_filter_le (fun k : Nat => decide ((k : Int) = o) || decide ((k : Int) ∈ xs)) (List.range i)
  rw [List.length_range] at this
  rwa [List.length_map]
theorem moreL_mem {xs : List Int} {o : Int} {n : Nat} (x : Int) : x ∈ moreL xs o n ↔ (0 ≤ x ∧ x < n) ∧ (x = o ∨ x ∈ xs) := by
  unfold moreL
  rw [List.mem_map]
  constructor
  · rintro ⟨k, hk, rfl⟩
    rw [List.mem_filter, List.mem_range] at hk
    exact ⟨by omega, by simpa using hk.2⟩
  · rintro ⟨h1, h2⟩
    refine ⟨x.toNat, ?_, by omega⟩
    rw [List.mem_filter, List.mem_range, show ((x.toNat : Nat) : Int) = x by omega]
    exact ⟨by omega, by simpa using h2⟩
theorem moreL_incr (xs : List Int) (o : Int) (n : Nat) : Incr n (moreL xs o n) := by
  refine Incr.of_pairwise ?_ fun x hx => ((moreL_mem x).1 hx).1
  unfold moreL
  rw [List.pairwise_map]
  refine (List.pairwise_lt_range.sublist List.filter_sublist).imp fun h => ?_
  omega
theorem moreL_pos {xs : List Int} {o : Int} {n : Nat} (h0 : 0 ≤ o) (h1 : o < n) : 0 < (moreL xs o n).length :=
  List.length_pos_of_mem ((moreL_mem o).2 ⟨⟨h0, h1⟩, .inl rfl⟩)
theorem moreL_fault {xs : List Int} {o n : Nat} (h1 : o < n) (hx : ∀ x ∈ xs, 0 ≤ x ∧ x < (n : Int)) : faultF (moreL xs o n) = fun i => faultF xs i || decide (i = o) := by
  funext i
  unfold faultF
  rw [Bool.eq_iff_iff]
  simp only [decide_eq_true_eq, Bool.or_eq_true, moreL_mem]
  constructor
  · rintro ⟨_, h | h⟩
    · exact .inr (by omega)
    · exact .inl h
  · rintro (h | h)
    · exact ⟨hx _ h, .inr h⟩
    · exact ⟨by omega, .inl (by omega)⟩
end Go.Proofs.Ytfpmbjobieeidaa.Rk
namespace Go.Proofs.Ytfpmbjobieeidaa.Rk
section
variable {sc : Nat → Fr} {n : Nat}
theorem stepC_bounds (s : Int × Int) (c : Nat) (h : 0 ≤ s.2) : 0 ≤ (stepC sc n s c).2 ∧ (stepC sc n s c).2 ≤ s.2 + 1 := by
  unfold stepC
  simp only
  split <;> omega
theorem fold_bounds : ∀ (l : List Nat) (s : Int × Int), 0 ≤ s.2 → 0 ≤ (l.foldl (stepC sc n) s).2 ∧ (l.foldl (stepC sc n) s).2 ≤ s.2 + l.length
  | [], s, h => by simp [h]
  | c :: l, s, h => by
    have h1 := stepC_bounds (sc := sc) (n := n) s c h
    have h2 := fold_bounds l (stepC sc n s c) h1.1
    simp only [List.foldl_cons, List.length_cons]
    omega
theorem cntAt_bounds (xs : List Int) (i : Nat) : 0 ≤ (cntAt sc n xs i).2 ∧ (cntAt sc n xs i).2 ≤ i := by
  have h := fold_bounds (sc := sc) (n := n) (((order sc n).take i).filter (faultF xs)) (0, 0) (by decide)
  have h1 := List.length_filter_le (faultF xs) ((order sc n).take i)
  have h2 := List.length_take_le i (order sc n)
  unfold cntAt countC
  simp only at h
  omega
theorem cntIn_bounds (xs : List Int) (i k : Nat) : 0 ≤ (cntIn sc n xs i k).2 ∧ (cntIn sc n xs i k).2 ≤ i + 1 := by
  have h := cntAt_bounds (sc := sc) (n := n) xs i
  unfold cntIn
  split
  · have := stepC_bounds (sc := sc) (n := n) (cntAt sc n xs i) ((order sc n).getD i 0) h.1
    omega
  · omega
/-- A faulty one at a standing: what the law's counters turn into. -/
theorem cntC_hit {xs : List Int} (hx : Incr n xs) {i k : Nat} (hi : i < n) (hk : k < xs.length) (h : ((((ranking sc n).getD i noStn).1 : Nat) : Int) = xs.getD k 0) :
    ∃ f m : Int, cntIn sc n xs i k = (f, m) ∧ 0 ≤ m ∧ m ≤ i ∧ cntIn sc n xs i (k + 1) = (if m = 0 then ((ranking sc n).getD i noStn).2.2.1 else f, if ((ranking sc n).getD i noStn).2.2.1 = (if m = 0 then ((ranking sc n).getD i noStn).2.2.1 else f) then m + 1 else m) := by
  obtain ⟨h1, h2⟩ := ranking_getD (sc := sc) hi
  rw [h2] at h ⊢
  have h : (((order sc n).getD i 0 : Nat) : Int) = xs.getD k 0 := h
  obtain ⟨h3, h4⟩ := cntIn_hit (sc := sc) hx hk h
  have h5 := cntAt_bounds (sc := sc) (n := n) xs i
  exact ⟨_, _, h3, h5.1, h5.2, h4⟩
theorem cntC_miss {xs : List Int} {i k : Nat} (hi : i < n) (hk : k < xs.length) (h : ((((ranking sc n).getD i noStn).1 : Nat) : Int) ≠ xs.getD k 0) : cntIn sc n xs i (k + 1) = cntIn sc n xs i k := by
  rw [(ranking_getD (sc := sc) hi).2] at h
  exact cntIn_miss hk h
end
theorem mean_fb {b t k : Nat} (hb : b ≤ 256) (ht : t ≤ 256) (hk : k ≤ t) : Fb 100000 100000 (mean b t k) := by
  have h1 : Fb 256 1 (ov (b : Int) 1) := ov_fb (by omega) (by decide) (by decide)
  have h2 : Fb 257 257 (ov ((t : Int) + 1) ((k : Int) + 1)) := ov_fb (by omega) (by omega) (by decide)
  exact (pl_fb h1 h2).mono (by decide) (by decide)
end Go.Proofs.Ytfpmbjobieeidaa.Rk
