/-
  A spectrum of the call's own while rows are appended to it.
-/
import Derived.Test.YtfpmbjobieeidaaOwnRows
import Derived.Test.YtfpmbjobieeidaaOwnD
namespace Go.Proofs.Ytfpmbjobieeidaa
open Go.RowKit

theorem read_row2 {w : World} {B : Nat} {u : Value} {b : Bool} {t : TypeId} (hB : w.heap.size < B) : Reads (w.alloc (.cells #[u, .bool b] t)) B 2 (some ⟨w.heap.size, 0, none⟩) 1 [u, .bool b] :=
  ⟨rfl, fun _ => ⟨_, rfl, hB, fun j v hj => by
    rw [at0, (Blk.new w t #[u, .bool b]).cell j]
    simpa using hj⟩⟩

/-- Block wa.heap.size is a spectrum whose rows are of the call's own and later than it. -/
structure SpB (wa : World) (p : Int) (u : Value) (rows : List RowL) (w : World) : Prop where
  blk : Blk w wa.heap.size 48 #[.int .i64 p, u]
  own : OwnRows w (wa.heap.size + 1) u rows
  low : Below wa.heap.size wa w
section
variable {wa w w' : World} {p : Int} {u : Value} {rows : List RowL}
theorem SpB.start (wa : World) (p : Int) : SpB wa p (.slice none 0 0) [] (wa.alloc (.cells #[.int .i64 p, .slice none 0 0] 48)) :=
  ⟨Blk.new wa _ _, OwnRows.nil _ _, (Below.refl _ wa).alloc (Nat.le_refl _) _⟩
theorem SpB.below (h : SpB wa p u rows w) (hb : Below w.heap.size w w') : SpB wa p u rows w' :=
  ⟨h.blk.below hb h.blk.lt, h.own.below hb (Nat.le_refl _), h.low.trans (hb.mono h.low.size)⟩
theorem SpB.drewN (h : SpB wa p u rows w) (k : Nat) : SpB wa p u rows (w.drewN k) := ⟨h.blk, h.own, below_drewN h.low k⟩
theorem SpB.facts (h : SpB wa p u rows w) : w.cell? ⟨wa.heap.size, 0, none⟩ = some (.int .i64 p) ∧ w.cell? ⟨wa.heap.size, 1, none⟩ = some u ∧ w.frozen? ⟨wa.heap.size, 1, none⟩ = false ∧ wa.heap.size < w.heap.size ∧ ∃ A c, u = .slice A rows.length c := by
  obtain ⟨us, hr, _⟩ := h.own
  obtain ⟨A, c, e, _⟩ := own_form hr
  exact ⟨h.blk.cell 0, h.blk.cell 1, h.blk.frozen 1, h.blk.lt, A, c, e⟩
/-- A later block is written. -/
theorem SpB.far {w0 : World} {row : Option Nat} (h : SpB wa p u rows w0) (hb : Below w0.heap.size w0 w) (hg : w.grownBy w' row) (hr : ∀ g, row = some g → w0.heap.size ≤ g) : SpB wa p u rows w' := by
  have h1 := h.below hb
  refine ⟨h1.blk.grown hg (fun e => by have := hr _ e.symm; have := h.blk.lt; omega), ?_, h1.low.grown hg h1.low.size (fun k e => by have := hr k e; have := h.low.size; omega)⟩
  obtain ⟨us, h, hi⟩ := h.own
  have far : ∀ {e : TypeId} {n s : Nat} {u : Value} {xs : List Value}, w0.ownsRow (wa.heap.size + 1) e s u n xs → w'.ownsRow (wa.heap.size + 1) e s u n xs := fun h =>
    own_kept (own_below h hb (Nat.le_refl _)) hg (fun g e e2 => by have := (own_row_lt h g e2).2; have := hr g e; omega)
  exact ⟨us, far h, fun i hlt => by obtain ⟨u, h1, h2, h3⟩ := hi i hlt; exact ⟨u, h1, h2, far h3⟩⟩
end
/-- The row of a spectrum of the call's own, and its rows. -/
def RowsV (w : World) (base : Nat) (u : Value) (rows : List RowL) (us : List Value) : Prop :=
  w.ownsRow base 65 2 u rows.length us ∧ ∀ i, i < rows.length → ∃ x, us[i * 2]? = some x ∧ us[i * 2 + 1]? = some (.bool (Rk.rowAt rows i).2) ∧ OwnInts w base x (Rk.rowAt rows i).1
theorem SpB.us {wa w : World} {p : Int} {u : Value} {rows : List RowL} (h : SpB wa p u rows w) : ∃ us, RowsV w (wa.heap.size + 1) u rows us := h.own
/-- Behind the append of one row more, and the store of its outcome. -/
theorem SpB.snoc {wa w w4 : World} {p : Int} {u v1 v2 : Value} {rows : List RowL} {us : List Value} {r : RowL} (h : SpB wa p u rows w) (hV : RowsV w (wa.heap.size + 1) u rows us) (hv : OwnInts w (wa.heap.size + 1) v1 r.1)
    (hown : w4.ownsRow (wa.heap.size + 1) 65 2 v2 (rows.length + 1) (us ++ [v1, .bool r.2])) (hg : (w.alloc (.cells #[v1, .bool r.2] 65)).grownBy w4 u.ownBlock) :
    (w4.cell? ⟨wa.heap.size, 1, none⟩ = some u ∧ w4.frozen? ⟨wa.heap.size, 1, none⟩ = false ∧ wa.heap.size < w4.heap.size) ∧ SpB wa p v2 (rows ++ [r]) (w4.setCell ⟨wa.heap.size, 1, none⟩ v2) := by
  have hga : w.grownBy (w.alloc (.cells #[v1, .bool r.2] 65)) none := World.grownBy_alloc _ _ none
  have hub := fun k e => (own_row_lt hV.1 k e).1
  have hblk : Blk w4 wa.heap.size 48 #[.int .i64 p, u] := (h.blk.alloc _).grown hg (fun e => by have := hub _ e.symm; omega)
  refine ⟨⟨hblk.cell 1, hblk.frozen 1, hblk.lt⟩, hblk.set_ 1 _, ?_, ?_⟩
  · exact (OwnRows.snoc (r := r) (own_kept hV.1 hga (fun g e => by cases e)) (fun i hi => by
      obtain ⟨x, h1, h2, h3⟩ := hV.2 i hi
      exact ⟨x, h1, h2, own_kept h3 hga (fun g e => by cases e)⟩) (own_kept hv hga (fun g e => by cases e)) hown hg).kept (grown_setCell w4 ⟨wa.heap.size, 1, none⟩ v2) (by intro g e; simp at e; omega)
  · have b3 := h.low.alloc h.low.size (.cells #[v1, .bool r.2] 65)
    have b4 := b3.grown hg b3.size (fun g e => by have := hub g e; omega)
    exact b4.grown (grown_setCell w4 ⟨wa.heap.size, 1, none⟩ v2) b4.size (fun g e => by simp at e; omega)
end Go.Proofs.Ytfpmbjobieeidaa
