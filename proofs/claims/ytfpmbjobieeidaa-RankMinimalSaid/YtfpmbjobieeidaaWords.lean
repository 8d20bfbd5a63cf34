/-
  Words for memory: a value that reads as a list of numbers, as a list of such lists.
-/
import Derived.Test.YtfpmbjobieeidaaBase
namespace Go.Proofs.Ytfpmbjobieeidaa
open Go.RowKit

/-- The value reads as a list of numbers. -/
def Ints (w : World) (B : Nat) (v : Value) (xs : List Int) : Prop :=
  ∃ A c, v = .slice A xs.length c ∧ xs.length ≤ c ∧ xs.length ≤ 17592186043904 ∧ Reads w B 1 A xs.length (xs.map (.int .i64))

section
variable {w w' : World} {B B' : Nat} {v : Value} {xs : List Int}
theorem Ints.keep (h : Ints w B v xs) (hk : ∀ p : Addr, p.block < B → w'.cell? p = w.cell? p) : Ints w' B v xs := by
  obtain ⟨A, c, e, hn, hm, hr⟩ := h
  exact ⟨A, c, e, hn, hm, hr.keep hk⟩
theorem Ints.below (h : Ints w B v xs) (hb : Below B w w') : Ints w' B v xs := h.keep fun _ hp => hb.cell hp
theorem Ints.more (h : Ints w B v xs) (hB : B ≤ B') : Ints w B' v xs := by
  obtain ⟨A, c, e, hn, hm, hr⟩ := h
  exact ⟨A, c, e, hn, hm, hr.more hB⟩
theorem ints_at {A : Option Addr} (h : Reads w B 1 A xs.length (xs.map (.int .i64))) {k : Nat} (hk : k < xs.length) :
    ∃ ad, A = some ad ∧ ad.block < B ∧ w.cell? (ad.add k) = some (.int .i64 (xs.getD k 0)) := by
  obtain ⟨ad, u, e, hb, hx, hc⟩ := h.at_ hk
  refine ⟨ad, e, hb, ?_⟩
  rw [hc]
  rw [List.getElem?_map, List.getElem?_eq_getElem hk] at hx
  simp at hx
  rw [← hx, List.getD_eq_getElem?_getD, List.getElem?_eq_getElem hk]
  rfl
end

/-- The value reads as a list of lists of numbers. -/
def Sets (w : World) (B : Nat) (v : Value) (xss : List (List Int)) : Prop :=
  ∃ A c vs, v = .slice A xss.length c ∧ xss.length ≤ c ∧ xss.length ≤ 5864062014634 ∧ Reads w B 1 A xss.length vs ∧ ∀ i, i < xss.length → ∃ u, vs[i]? = some u ∧ Ints w B u (xss.getD i [])
section
variable {w w' : World} {B B' : Nat} {v : Value} {xss : List (List Int)}
theorem Sets.keep (h : Sets w B v xss) (hk : ∀ p : Addr, p.block < B → w'.cell? p = w.cell? p) : Sets w' B v xss := by
  obtain ⟨A, c, vs, e, hn, hm, hr, hi⟩ := h
  exact ⟨A, c, vs, e, hn, hm, hr.keep hk, fun i h => by obtain ⟨u, h1, h2⟩ := hi i h; exact ⟨u, h1, h2.keep hk⟩⟩
theorem Sets.below (h : Sets w B v xss) (hb : Below B w w') : Sets w' B v xss := h.keep fun _ hp => hb.cell hp
theorem Sets.more (h : Sets w B v xss) (hB : B ≤ B') : Sets w B' v xss := by
  obtain ⟨A, c, vs, e, hn, hm, hr, hi⟩ := h
  exact ⟨A, c, vs, e, hn, hm, hr.more hB, fun i h => by obtain ⟨u, h1, h2⟩ := hi i h; exact ⟨u, h1, h2.more hB⟩⟩
/-- The element k: where it lies, and the list that it reads as. -/
theorem sets_at {A : Option Addr} {vs : List Value} (hr : Reads w B 1 A xss.length vs) (hi : ∀ i, i < xss.length → ∃ u, vs[i]? = some u ∧ Ints w B u (xss.getD i [])) {k : Nat} (hk : k < xss.length) :
    ∃ ad u, A = some ad ∧ ad.block < B ∧ w.cell? (ad.add k) = some u ∧ Ints w B u (xss.getD k []) := by
  obtain ⟨ad, u, e, hb, hx, hc⟩ := hr.at_ hk
  obtain ⟨u', h1, h2⟩ := hi k hk
  rw [h1] at hx
  injection hx with hx
  subst hx
  exact ⟨ad, u', e, hb, hc, h2⟩
end
/-- Two rows whose element types differ lie in different blocks. -/
theorem own_own_ne {w : World} {base base' : Nat} {e e' : TypeId} {n n' s s' : Nat} {v v' : Value} {xs xs' : List Value} (h : w.ownsRow base e s v n xs) (h' : w.ownsRow base' e' s' v' n' xs') (hne : e ≠ e') {g : Nat} (hg : v.ownBlock = some g) : v'.ownBlock ≠ some g := by
  rcases h'.2 with ⟨rfl, _⟩ | ⟨g', cap, cur, rfl, _, hh, _⟩
  · simp [Value.ownBlock]
  · intro he
    have e1 : g' = g := by simpa [Value.ownBlock] using he
    subst e1
    exact own_blk_ne h (g := g') (t := e') (cs := cur) hh hne hg
/-- A row stays what it is while other rows are written and new blocks are made. -/
theorem own_kept {w w' : World} {base : Nat} {e : TypeId} {n s : Nat} {v : Value} {xs : List Value} {row : Option Nat} (h : w.ownsRow base e s v n xs) (hg : w.grownBy w' row) (hr : ∀ g, row = some g → v.ownBlock ≠ some g) : w'.ownsRow base e s v n xs := by
  refine ⟨h.1, ?_⟩
  rcases h.2 with h2 | ⟨g, cap, cur, rfl, hb, hh, h3⟩
  · exact .inl h2
  · refine .inr ⟨g, cap, cur, rfl, hb, ?_, h3⟩
    rw [hg.block g (Array.getElem?_eq_some_iff.1 hh).1 (fun e1 => hr g e1.symm (by simp [Value.ownBlock])), hh]
theorem own_below {w w' : World} {base : Nat} {e : TypeId} {n s : Nat} {v : Value} {xs : List Value} {B : Nat} (h : w.ownsRow base e s v n xs) (hb : Below B w w') (hB : w.heap.size ≤ B) : w'.ownsRow base e s v n xs :=
  own_kept h (row := none) ⟨hb.os, hb.tape, hb.output, hb.size, fun i hi _ => hb.block i (by omega)⟩ (fun g e => by cases e)
theorem own_more {w : World} {base base' : Nat} {e : TypeId} {n s : Nat} {v : Value} {xs : List Value} (h : w.ownsRow base e s v n xs) (hb : base' ≤ base) : w.ownsRow base' e s v n xs := by
  refine ⟨h.1, ?_⟩
  rcases h.2 with h2 | ⟨g, cap, cur, hv, hg, h3⟩
  · exact .inl h2
  · exact .inr ⟨g, cap, cur, hv, by omega, h3⟩

theorem own_form {w : World} {base : Nat} {e : TypeId} {n s : Nat} {v : Value} {xs : List Value} (h : w.ownsRow base e s v n xs) : ∃ A c, v = .slice A n c ∧ n ≤ c ∧ Reads w w.heap.size s A n xs ∧ (∀ ad, A = some ad → base ≤ ad.block) := by
  rcases h.2 with ⟨rfl, rfl⟩ | ⟨g, cap, cur, rfl, hb, hh, hnc, hrest⟩
  · have : xs = [] := List.eq_nil_of_length_eq_zero (by simpa using h.1)
    subst this
    exact ⟨none, 0, rfl, Nat.le_refl _, Reads.none_, fun ad e => by cases e⟩
  · exact ⟨_, cap, rfl, hnc, Reads.of_own h, fun ad e => by cases e; exact hb⟩

/-- A row of numbers of the call's own. -/
def OwnInts (w : World) (base : Nat) (v : Value) (xs : List Int) : Prop := w.ownsRow base 3 1 v xs.length (xs.map (.int .i64))
theorem OwnInts.reads {w : World} {base : Nat} {v : Value} {xs : List Int} (h : OwnInts w base v xs) (hl : xs.length ≤ 17592186043904) : Ints w w.heap.size v xs := by
  unfold OwnInts at h
  rcases h.2 with ⟨rfl, h0⟩ | ⟨g, cap, cur, rfl, hb, hh, hnc, hrest⟩
  · have : xs = [] := List.eq_nil_of_length_eq_zero h0
    subst this
    exact ⟨none, 0, rfl, Nat.le_refl _, Nat.zero_le _, Reads.none_⟩
  · exact ⟨_, cap, rfl, hnc, hl, Reads.of_own h⟩

/-- A row of rows of numbers of the call's own. -/
def OwnSets (w : World) (base : Nat) (v : Value) (xss : List (List Int)) : Prop :=
  ∃ us, w.ownsRow base 37 1 v xss.length us ∧ ∀ i, i < xss.length → ∃ u, us[i]? = some u ∧ OwnInts w base u (xss.getD i [])
theorem OwnSets.nil (w : World) (base : Nat) : OwnSets w base (.slice none 0 0) [] := ⟨[], ⟨by simp, .inl ⟨rfl, rfl⟩⟩, fun i hi => by simp at hi⟩
theorem OwnSets.reads {w : World} {base : Nat} {v : Value} {xss : List (List Int)} (h : OwnSets w base v xss) (hl : xss.length ≤ 5864062014634) (hls : ∀ xs ∈ xss, xs.length ≤ 17592186043904) : Sets w w.heap.size v xss := by
  obtain ⟨us, h, hi⟩ := h
  have he : ∀ i, i < xss.length → ∃ u, us[i]? = some u ∧ Ints w w.heap.size u (xss.getD i []) := fun i hlt => by
    obtain ⟨u, h1, h2⟩ := hi i hlt
    exact ⟨u, h1, h2.reads (hls _ (by rw [List.getD_eq_getElem?_getD, List.getElem?_eq_getElem hlt]; exact List.getElem_mem hlt))⟩
  rcases h.2 with ⟨rfl, h0⟩ | ⟨g, cap, cur, rfl, hb, hh, hnc, hrest⟩
  · have : xss = [] := List.eq_nil_of_length_eq_zero h0
    subst this
    exact ⟨none, 0, [], rfl, Nat.le_refl _, Nat.zero_le _, Reads.none_, fun i hi => by simp at hi⟩
  · exact ⟨_, cap, us, rfl, hnc, hl, Reads.of_own h, he⟩
theorem OwnSets.below {w w' : World} {base B : Nat} {v : Value} {xss : List (List Int)} (h : OwnSets w base v xss) (hb : Below B w w') (hB : w.heap.size ≤ B) : OwnSets w' base v xss := by
  obtain ⟨us, h, hi⟩ := h
  exact ⟨us, own_below h hb hB, fun i hlt => by obtain ⟨u, h1, h2⟩ := hi i hlt; exact ⟨u, h1, own_below h2 hb hB⟩⟩
theorem OwnSets.more {w : World} {base base' : Nat} {v : Value} {xss : List (List Int)} (h : OwnSets w base v xss) (hb : base' ≤ base) : OwnSets w base' v xss := by
  obtain ⟨us, h, hi⟩ := h
  exact ⟨us, own_more h hb, fun i hlt => by obtain ⟨u, h1, h2⟩ := hi i hlt; exact ⟨u, h1, own_more h2 hb⟩⟩
/-- Behind an append of one row more. -/
theorem OwnSets.snoc {w w' : World} {base : Nat} {v v' u : Value} {xss : List (List Int)} {xs : List Int} {us : List Value} (hr : w.ownsRow base 37 1 v xss.length us) (hi : ∀ i, i < xss.length → ∃ u, us[i]? = some u ∧ OwnInts w base u (xss.getD i [])) (hu : OwnInts w base u xs)
    (hown : w'.ownsRow base 37 1 v' (xss.length + 1) (us ++ [u])) (hg : w.grownBy w' v.ownBlock) : OwnSets w' base v' (xss ++ [xs]) := by
  have hl : us.length = xss.length := by simpa using hr.1
  have keep : ∀ {u' : Value} {ys : List Int}, OwnInts w base u' ys → OwnInts w' base u' ys := fun h => own_kept h hg (fun g e => own_own_ne hr h (by decide) e)
  refine ⟨us ++ [u], by simpa using hown, fun i hlt => ?_⟩
  by_cases h : i < xss.length
  · obtain ⟨u', h1, h2⟩ := hi i h
    refine ⟨u', by rw [List.getElem?_append_left (by omega)]; exact h1, ?_⟩
    rw [List.getD_eq_getElem?_getD, List.getElem?_append_left h, ← List.getD_eq_getElem?_getD]
    exact keep h2
  · have e : i = xss.length := by simp at hlt; omega
    subst e
    refine ⟨u, by rw [List.getElem?_append_right (by omega), hl, Nat.sub_self]; rfl, ?_⟩
    rw [List.getD_eq_getElem?_getD, List.getElem?_append_right (Nat.le_refl _), Nat.sub_self]
    exact keep hu
end Go.Proofs.Ytfpmbjobieeidaa
