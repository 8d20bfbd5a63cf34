/-
  Words for memory: a block of words; a row of rows of the call's own, of which one is lengthened in place.
-/
import Derived.Test.YtfpmbjobieeidaaGreatBase
namespace Go.Proofs.YtfpmbjobieeidaaGreat
open Go.RowKit

/-- Block g holds n cells, told by a function. -/
def CelAt (w : World) (t : TypeId) (g n : Nat) (f : Nat → Value) : Prop := ∃ cs, Blk w g t cs ∧ cs.size = n ∧ ∀ m, m < n → cs[m]? = some (f m)
section
variable {w w' : World} {t : TypeId} {g n : Nat} {f : Nat → Value}
theorem CelAt.lt (h : CelAt w t g n f) : g < w.heap.size := let ⟨_, h, _⟩ := h; h.lt
theorem CelAt.cell (h : CelAt w t g n f) {m : Nat} (hm : m < n) : w.cell? ⟨g, m, none⟩ = some (f m) := by
  obtain ⟨cs, hb, _, hk⟩ := h
  rw [hb.cell]
  exact hk m hm
theorem CelAt.frozen (h : CelAt w t g n f) (i : Nat) : w.frozen? ⟨g, i, none⟩ = false := let ⟨_, hb, _⟩ := h; hb.frozen i
theorem CelAt.kept (h : CelAt w t g n f) (hk : w'.heap[g]? = w.heap[g]?) : CelAt w' t g n f := by
  obtain ⟨cs, hb, hs, hc⟩ := h
  exact ⟨cs, hk.trans hb, hs, hc⟩
theorem CelAt.below {B : Nat} (h : CelAt w t g n f) (hb : Below B w w') (hg : g < B) : CelAt w' t g n f := h.kept (hb.block g hg)
theorem CelAt.alloc (h : CelAt w t g n f) (o : Obj) : CelAt (w.alloc o) t g n f := let ⟨cs, hb, h⟩ := h; ⟨cs, hb.alloc o, h⟩
theorem CelAt.drewN (h : CelAt w t g n f) (k : Nat) : CelAt (w.drewN k) t g n f := h
theorem CelAt.grown {row : Option Nat} (h : CelAt w t g n f) (hg : w.grownBy w' row) (hr : some g ≠ row) : CelAt w' t g n f := h.kept (hg.block g h.lt hr)
theorem CelAt.congr (h : CelAt w t g n f) {f' : Nat → Value} (e : ∀ m, m < n → f m = f' m) : CelAt w t g n f' := by
  obtain ⟨cs, hb, hs, hc⟩ := h
  exact ⟨cs, hb, hs, fun m hm => by rw [← e m hm]; exact hc m hm⟩
theorem CelAt.set_ (h : CelAt w t g n f) (m : Nat) (u : Value) : CelAt (w.setCell ⟨g, m, none⟩ u) t g n (fun x => if x = m then u else f x) := by
  obtain ⟨cs, hb, hs, hk⟩ := h
  refine ⟨_, hb.set_ _ _, by simpa using hs, fun x hx => ?_⟩
  rw [Array.getElem?_setIfInBounds]
  by_cases e : m = x
  · subst e
    simp [hs, hx]
  · rw [if_neg e, hk x hx]
    have : ¬ x = m := fun h => e h.symm
    simp [this]
theorem CelAt.made (w : World) (t : TypeId) (z : Value) (n : Nat) : CelAt (w.alloc (.cells (madeCells #[z] n) t)) t w.heap.size n (fun _ => z) :=
  ⟨_, Blk.new w _ _, by simpa using size_madeCells #[z] n, fun m hm => by
    unfold madeCells
    rw [Array.getElem?_map, Array.getElem?_range, if_pos hm]
    simp [Nat.mod_one]⟩
end

theorem at0 (g j : Nat) : (⟨g, 0, none⟩ : Addr).add j = ⟨g, j, none⟩ := by
  unfold Addr.add
  split
  · rename_i h0; simp_all
  · simp
theorem cellNew (w : World) (t : TypeId) (u : Value) : (w.alloc (.cells #[u] t)).cell? ⟨w.heap.size, 0, none⟩ = some u := (Blk.new w t #[u]).cell 0
theorem read1 {w : World} {g B : Nat} {u : Value} (hb : g < B) (h : w.cell? ⟨g, 0, none⟩ = some u) : Reads w B 1 (some ⟨g, 0, none⟩) 1 [u] :=
  ⟨rfl, fun _ => ⟨_, rfl, hb, fun j v hj => by
    cases j with
    | zero => simp at hj; subst hj; rw [add_zero_]; exact h
    | succ j => simp at hj⟩⟩
theorem ownSnoc {w : World} {base : Nat} {v : Value} {l : List Int} {x : Int} (h : w.ownsRow base 3 1 v (l.length + 1) (l.map (Value.int .i64) ++ [.int .i64 x])) : OwnInts w base v (l ++ [x]) := by
  unfold OwnInts
  simpa using h
theorem own_cell {w : World} {base n cap g i : Nat} {e : TypeId} {xs : List Value} {u : Value} (h : w.ownsRow base e 1 (.slice (some ⟨g, 0, none⟩) n cap) n xs) (hi : xs[i]? = some u) : w.cell? ⟨g, i, none⟩ = some u := by
  have := h.cells (g := g) rfl i u hi
  rwa [at0] at this
theorem own_frozen {w : World} {base n cap g : Nat} {e : TypeId} {xs : List Value} {s : Nat} (h : w.ownsRow base e s (.slice (some ⟨g, 0, none⟩) n cap) n xs) (i : Nat) : w.frozen? ⟨g, i, none⟩ = false := by
  rcases h.2 with ⟨h, _⟩ | ⟨g', cap', cur, hv, _, hh, _⟩
  · cases h
  · have e1 : g = g' := by
      injection hv with h1 _ h2
      injection h1 with h1
      injection h1
    subst e1
    exact (show Blk w g e cur from hh).frozen i
theorem own_row_lt {w : World} {base : Nat} {e : TypeId} {n s : Nat} {v : Value} {xs : List Value} (h : w.ownsRow base e s v n xs) : ∀ g, v.ownBlock = some g → base ≤ g ∧ g < w.heap.size := by
  rcases h.2 with ⟨rfl, _⟩ | ⟨g', cap, cur, rfl, hb, hh, _⟩
  · intro g e; simp [Value.ownBlock] at e
  · intro g e
    have : g' = g := by simpa [Value.ownBlock] using e
    subst this
    exact ⟨hb, (Array.getElem?_eq_some_iff.1 hh).1⟩
/-- A store into a row of the call's own. -/
theorem own_row_set {w : World} {base : Nat} {e : TypeId} {n cap g i : Nat} {xs : List Value} (h : w.ownsRow base e 1 (.slice (some ⟨g, 0, none⟩) n cap) n xs) (u : Value) :
    (w.setCell ⟨g, i, none⟩ u).ownsRow base e 1 (.slice (some ⟨g, 0, none⟩) n cap) n (xs.set i u) := by
  obtain ⟨hl, h⟩ := h
  refine ⟨by simpa using hl, .inr ?_⟩
  rcases h with ⟨h, _⟩ | ⟨g', cap', cur, hv, hb, hh, hnc, hcm, hcs, ht⟩
  · cases h
  · have e1 : g = g' := by
      injection hv with h1 _ h2
      injection h1 with h1
      injection h1
    have e2 : cap = cap' := by injection hv
    subst e1 e2
    refine ⟨g, cap, cur.setIfInBounds i u, rfl, hb, ?_, hnc, hcm, by simpa using hcs, ?_⟩
    · have := (show Blk w g e cur from hh).set_ i u
      exact this
    · rw [← ht, Array.toList_setIfInBounds, List.take_set]

def ApartV (us : List Value) : Prop := ∀ (i j : Nat) (u u' : Value), us[i]? = some u → us[j]? = some u' → i ≠ j → ∀ g, u.ownBlock = some g → u'.ownBlock ≠ some g
/-- A row of rows of numbers of the call's own, of which no two lie in one block. -/
def OwnApart (w : World) (base : Nat) (v : Value) (xss : List (List Int)) : Prop :=
  ∃ us, w.ownsRow base 26 1 v xss.length us ∧ (∀ i, i < xss.length → ∃ u, us[i]? = some u ∧ OwnInts w base u (xss.getD i [])) ∧ ApartV us
theorem OwnApart.nil (w : World) (base : Nat) : OwnApart w base (.slice none 0 0) [] := ⟨[], ⟨by simp, .inl ⟨rfl, rfl⟩⟩, fun i hi => by simp at hi, fun i j u u' h => by simp at h⟩
theorem OwnApart.own {w : World} {base : Nat} {v : Value} {xss : List (List Int)} (h : OwnApart w base v xss) : OwnSets w base v xss := let ⟨us, a, b, _⟩ := h; ⟨us, a, b⟩
theorem OwnApart.kept {w w' : World} {base : Nat} {v : Value} {xss : List (List Int)} {row : Option Nat} (h : OwnApart w base v xss) (hg : w.grownBy w' row) (hr : ∀ g, row = some g → g < base) : OwnApart w' base v xss := by
  obtain ⟨us, h, hi, hd⟩ := h
  have hne : ∀ {e : TypeId} {n s : Nat} {u : Value} {xs : List Value}, w.ownsRow base e s u n xs → ∀ g', row = some g' → u.ownBlock ≠ some g' := fun h g' e1 e2 => by
    have := (own_row_lt h g' e2).1
    have := hr g' e1
    omega
  exact ⟨us, own_kept h hg (hne h), fun i hlt => by obtain ⟨u, h1, h2⟩ := hi i hlt; exact ⟨u, h1, own_kept h2 hg (hne h2)⟩, hd⟩
theorem OwnApart.drewN {w : World} {base : Nat} {v : Value} {xss : List (List Int)} (h : OwnApart w base v xss) (k : Nat) : OwnApart (w.drewN k) base v xss := h
/-- Behind an append of one empty row more. -/
theorem OwnApart.snoc_nil {w w' : World} {base : Nat} {v v' : Value} {xss : List (List Int)} {us : List Value} (hr : w.ownsRow base 26 1 v xss.length us)
    (hi : ∀ i, i < xss.length → ∃ u, us[i]? = some u ∧ OwnInts w base u (xss.getD i [])) (hd : ApartV us)
    (hown : w'.ownsRow base 26 1 v' (xss.length + 1) (us ++ [.slice none 0 0])) (hg : w.grownBy w' v.ownBlock) : OwnApart w' base v' (xss ++ [[]]) := by
  have hl : us.length = xss.length := by simpa using hr.1
  have keep : ∀ {u' : Value} {ys : List Int}, OwnInts w base u' ys → OwnInts w' base u' ys := fun h => own_kept h hg (fun g e => own_own_ne hr h (by decide) e)
  refine ⟨us ++ [.slice none 0 0], by simpa using hown, fun i hlt => ?_, fun i j u u' e1 e2 hij g e3 e4 => ?_⟩
  · by_cases h : i < xss.length
    · obtain ⟨u', h1, h2⟩ := hi i h
      refine ⟨u', by rw [List.getElem?_append_left (by omega)]; exact h1, ?_⟩
      rw [List.getD_eq_getElem?_getD, List.getElem?_append_left h, ← List.getD_eq_getElem?_getD]
      exact keep h2
    · have e : i = xss.length := by simp at hlt; omega
      subst e
      refine ⟨.slice none 0 0, by rw [List.getElem?_append_right (by omega), hl, Nat.sub_self]; rfl, ?_⟩
      rw [List.getD_eq_getElem?_getD, List.getElem?_append_right (Nat.le_refl _), Nat.sub_self]
      exact ⟨by simp, .inl ⟨rfl, rfl⟩⟩
  · rw [List.getElem?_append] at e1 e2
    split at e1
    · split at e2
      · exact hd i j u u' e1 e2 hij g e3 e4
      · rename_i h
        rcases (show j - us.length = 0 ∨ 0 < j - us.length by omega) with h0 | h0
        · rw [h0] at e2
          injection e2 with e2
          subst e2
          simp [Value.ownBlock] at e4
        · rw [List.getElem?_eq_none (by simp; omega)] at e2; cases e2
    · rename_i h
      rcases (show i - us.length = 0 ∨ 0 < i - us.length by omega) with h0 | h0
      · rw [h0] at e1
        injection e1 with e1
        subst e1
        simp [Value.ownBlock] at e3
      · rw [List.getElem?_eq_none (by simp; omega)] at e1; cases e1
/-- One row is lengthened: the append's outcome is stored in its place. -/
theorem OwnApart.longer {w w' : World} {base n cap g k : Nat} {xss : List (List Int)} {us : List Value} {u v' : Value} {x : Int} (hn : n = xss.length) (hr : w.ownsRow base 26 1 (.slice (some ⟨g, 0, none⟩) n cap) n us)
    (hi : ∀ i, i < xss.length → ∃ u, us[i]? = some u ∧ OwnInts w base u (xss.getD i [])) (hd : ApartV us)
    (hk : k < n) (hu : us[k]? = some u) (hown : OwnInts w' base v' (xss.getD k [] ++ [x])) (hg : w.grownBy w' u.ownBlock) (hat : v'.ownBlock = u.ownBlock ∨ ∃ g, v'.ownBlock = some g ∧ w.heap.size ≤ g) :
    OwnApart (w'.setCell ⟨g, k, none⟩ v') base (.slice (some ⟨g, 0, none⟩) n cap) (xss.set k (xss.getD k [] ++ [x])) := by
  subst hn
  have hl : us.length = xss.length := by simpa using hr.1
  obtain ⟨u0, hu0, huo⟩ := hi k hk
  obtain rfl : u0 = u := by rw [hu] at hu0; exact (Option.some.inj hu0).symm
  have hgr := own_row_lt hr g rfl
  have hug : u0.ownBlock ≠ some g := fun e => own_own_ne huo hr (by decide) e rfl
  have hvg : v'.ownBlock ≠ some g := fun e => by
    rcases hat with h | ⟨g', h, hge⟩
    · rw [h] at e; exact hug e
    · rw [h] at e; injection e with e; omega
  have hr' : w'.ownsRow base 26 1 (.slice (some ⟨g, 0, none⟩) xss.length cap) xss.length us := own_kept hr hg (fun g' e => by
    intro e2
    simp [Value.ownBlock] at e2
    subst e2
    exact hug e)
  have hset := own_row_set (i := k) hr' v'
  have hgs : w'.grownBy (w'.setCell ⟨g, k, none⟩ v') (some g) := ⟨rfl, rfl, rfl, by simp [World.setCell], fun i _ hne => Below.heap_setCell w' ⟨g, k, none⟩ v' i (fun e => hne (by rw [e]))⟩
  refine ⟨us.set k v', by simpa using hset, fun i hlt => ?_, fun i j a b e1 e2 hij g' e3 e4 => ?_⟩
  · rw [List.length_set] at hlt
    by_cases e : i = k
    · subst e
      refine ⟨v', by rw [List.getElem?_set_self (by omega)], ?_⟩
      rw [List.getD_eq_getElem?_getD, List.getElem?_set_self (by omega)]
      exact own_kept hown hgs (fun g2 e => by injection e with e; subst e; exact hvg)
    · obtain ⟨ui, h1, h2⟩ := hi i hlt
      refine ⟨ui, by rw [List.getElem?_set_ne (fun e' => e e'.symm)]; exact h1, ?_⟩
      rw [List.getD_eq_getElem?_getD, List.getElem?_set_ne (fun e' => e e'.symm), ← List.getD_eq_getElem?_getD]
      have h3 : OwnInts w' base ui (xss.getD i []) := own_kept h2 hg (fun g2 e2 => hd k i u0 ui hu h1 (fun e' => e e'.symm) g2 e2)
      exact own_kept h3 hgs (fun g2 e2 e3 => by
        injection e2 with e2
        subst e2
        exact own_own_ne h2 hr (by decide) e3 rfl)
  · have hfar : ∀ {i : Nat} {a : Value}, us[i]? = some a → i ≠ k → ∀ g2, v'.ownBlock = some g2 → a.ownBlock ≠ some g2 := fun {i a} h1 hne g2 h2 h3 => by
      rcases hat with h | ⟨g3, h, hge⟩
      · rw [h] at h2
        exact hd k i u0 a hu h1 (fun e => hne e.symm) g2 h2 h3
      · rw [h] at h2
        injection h2 with h2
        have hlt : i < us.length := by
          rcases Nat.lt_or_ge i us.length with h' | h'
          · exact h'
          · rw [List.getElem?_eq_none h'] at h1; cases h1
        obtain ⟨ui, h4, h5⟩ := hi i (by omega)
        obtain rfl : a = ui := by rw [h1] at h4; exact Option.some.inj h4
        have := own_row_lt h5 g2 h3
        omega
    by_cases ei : i = k
    · subst ei
      rw [List.getElem?_set_self (by omega)] at e1
      injection e1 with e1
      subst e1
      rw [List.getElem?_set_ne hij] at e2
      exact hfar e2 (fun e => hij e.symm) g' e3 e4
    · rw [List.getElem?_set_ne (fun e => ei e.symm)] at e1
      by_cases ej : j = k
      · subst ej
        rw [List.getElem?_set_self (by omega)] at e2
        injection e2 with e2
        subst e2
        exact hfar e1 ei g' e4 e3
      · rw [List.getElem?_set_ne (fun e => ej e.symm)] at e2
        exact hd i j a b e1 e2 hij g' e3 e4
end Go.Proofs.YtfpmbjobieeidaaGreat
