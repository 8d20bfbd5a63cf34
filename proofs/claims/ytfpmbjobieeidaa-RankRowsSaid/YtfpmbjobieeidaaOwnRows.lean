/-
  Rows of a spectrum of the call's own; what Lift and Join answer.
-/
import Derived.Test.YtfpmbjobieeidaaSpec
import Derived.Test.YtfpmbjobieeidaaChosen
namespace Go.Proofs.Ytfpmbjobieeidaa
open Go.RowKit

theorem info_row : (Try.prog.info? 65).map (fun i => (i.zero, i.size, i.bytes)) = some (some (.agg #[.slice none 0 0, .bool false]), 2, 32) := by kernel_rfl

/-- Rows of the call's own. -/
def OwnRows (w : World) (base : Nat) (v : Value) (rows : List RowL) : Prop :=
  ∃ us, w.ownsRow base 65 2 v rows.length us ∧ ∀ i, i < rows.length → ∃ u, us[i * 2]? = some u ∧ us[i * 2 + 1]? = some (.bool (Rk.rowAt rows i).2) ∧ OwnInts w base u (Rk.rowAt rows i).1
theorem OwnRows.nil (w : World) (base : Nat) : OwnRows w base (.slice none 0 0) [] := ⟨[], ⟨by simp, .inl ⟨rfl, rfl⟩⟩, fun i hi => by simp at hi⟩
theorem OwnRows.reads {w : World} {base : Nat} {v : Value} {rows : List RowL} (h : OwnRows w base v rows) (hl : rows.length ≤ 4398046510976) (hls : ∀ r ∈ rows, r.1.length ≤ 17592186043904) : Rows w w.heap.size v rows := by
  obtain ⟨us, h, hi⟩ := h
  have he : ∀ i, i < rows.length → ∃ u, us[i * 2]? = some u ∧ us[i * 2 + 1]? = some (.bool (Rk.rowAt rows i).2) ∧ Ints w w.heap.size u (Rk.rowAt rows i).1 := fun i hlt => by
    obtain ⟨u, h1, h2, h3⟩ := hi i hlt
    refine ⟨u, h1, h2, h3.reads (hls _ ?_)⟩
    unfold Rk.rowAt
    rw [List.getD_eq_getElem?_getD, List.getElem?_eq_getElem hlt]
    exact List.getElem_mem hlt
  rcases h.2 with ⟨rfl, h0⟩ | ⟨g, cap, cur, rfl, hb, hh, hnc, hrest⟩
  · have : rows = [] := List.eq_nil_of_length_eq_zero h0
    subst this
    exact ⟨none, 0, [], rfl, Nat.le_refl _, Nat.zero_le _, Reads.none_, fun i hi => by simp at hi⟩
  · exact ⟨_, cap, us, rfl, hnc, hl, Reads.of_own h, he⟩
theorem OwnRows.kept {w w' : World} {base : Nat} {v : Value} {rows : List RowL} {row : Option Nat} (h : OwnRows w base v rows) (hg : w.grownBy w' row) (hr : ∀ g, row = some g → g < base) : OwnRows w' base v rows := by
  obtain ⟨us, h, hi⟩ := h
  have hne : ∀ {e : TypeId} {n s : Nat} {u : Value} {xs : List Value}, w.ownsRow base e s u n xs → ∀ g', row = some g' → u.ownBlock ≠ some g' := fun h g' e1 e2 => by
    have := own_row_ge h g' e2
    have := hr g' e1
    omega
  exact ⟨us, own_kept h hg (hne h), fun i hlt => by obtain ⟨u, h1, h2, h3⟩ := hi i hlt; exact ⟨u, h1, h2, own_kept h3 hg (hne h3)⟩⟩
theorem OwnRows.below {w w' : World} {base B : Nat} {v : Value} {rows : List RowL} (h : OwnRows w base v rows) (hb : Below B w w') (hB : w.heap.size ≤ B) : OwnRows w' base v rows := by
  obtain ⟨us, h, hi⟩ := h
  exact ⟨us, own_below h hb hB, fun i hlt => by obtain ⟨u, h1, h2, h3⟩ := hi i hlt; exact ⟨u, h1, h2, own_below h3 hb hB⟩⟩
/-- Behind an append of one row more. -/
theorem OwnRows.snoc {w w' : World} {base : Nat} {v v' u : Value} {rows : List RowL} {r : RowL} {us : List Value} (hr : w.ownsRow base 65 2 v rows.length us)
    (hi : ∀ i, i < rows.length → ∃ u, us[i * 2]? = some u ∧ us[i * 2 + 1]? = some (.bool (Rk.rowAt rows i).2) ∧ OwnInts w base u (Rk.rowAt rows i).1) (hu : OwnInts w base u r.1)
    (hown : w'.ownsRow base 65 2 v' (rows.length + 1) (us ++ [u, .bool r.2])) (hg : w.grownBy w' v.ownBlock) : OwnRows w' base v' (rows ++ [r]) := by
  have hl : us.length = rows.length * 2 := hr.1
  have keep : ∀ {u' : Value} {ys : List Int}, OwnInts w base u' ys → OwnInts w' base u' ys := fun h => own_kept h hg (fun g e => own_own_ne hr h (by decide) e)
  refine ⟨us ++ [u, .bool r.2], by simpa using hown, fun i hlt => ?_⟩
  by_cases h : i < rows.length
  · obtain ⟨u', h1, h2, h3⟩ := hi i h
    have e : Rk.rowAt (rows ++ [r]) i = Rk.rowAt rows i := by
      unfold Rk.rowAt
      rw [List.getD_eq_getElem?_getD, List.getElem?_append_left h, ← List.getD_eq_getElem?_getD]
    rw [e]
    exact ⟨u', by rw [List.getElem?_append_left (by omega)]; exact h1, by rw [List.getElem?_append_left (by omega)]; exact h2, keep h3⟩
  · have e : i = rows.length := by simp at hlt; omega
    subst e
    have e : Rk.rowAt (rows ++ [r]) rows.length = r := by
      unfold Rk.rowAt
      rw [List.getD_eq_getElem?_getD, List.getElem?_append_right (Nat.le_refl _), Nat.sub_self]; rfl
    rw [e]
    refine ⟨u, ?_, ?_, keep hu⟩
    · rw [List.getElem?_append_right (by omega), hl, Nat.sub_self]; rfl
    · rw [List.getElem?_append_right (by omega), hl, show rows.length * 2 + 1 - rows.length * 2 = 1 by omega]; rfl

namespace Rk
/-- The errors of Lift. -/
def liftErr (err parts : Int) (owner : List Int) (owners : Int) : Int :=
  if err ≠ 0 then err else if owners < 1 then 1 else if 256 < owners then 3 else if (owner.length : Int) ≠ parts then 1
  else if ∀ i, i < owner.length → 0 ≤ owner.getD i 0 ∧ owner.getD i 0 < owners then 0 else 1
/-- Does one of some components belong to the larger one n? -/
def lifted (owner hits : List Int) (n : Nat) : Bool := hits.any fun c => decide (owner.getD c.toNat 0 = (n : Int))
def liftRow (owner : List Int) (owners : Nat) (r : RowL) : RowL := (chosenTo (lifted owner r.1) owners, r.2)
/-- The errors of Join. -/
def joinErr (e1 e2 : Int) (p1 p2 : Int) (rows1 rows2 : List RowL) : Int :=
  if e1 ≠ 0 then e1 else if e2 ≠ 0 then e2 else if rows1.map (·.2) ≠ rows2.map (·.2) then 12 else if 256 < p1 + p2 then 3 else 0
def joinRow (p1 : Int) (r1 r2 : RowL) : RowL := (r1.1 ++ r2.1.map fun c => c + p1, r1.2)
end Rk
end Go.Proofs.Ytfpmbjobieeidaa
