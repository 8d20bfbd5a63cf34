/-
  A spectrum of the call's own whose rows are rows of an older one, while they are appended.
-/
import Derived.Test.YtfpmbjobieeidaaOwnRows
import Derived.Test.YtfpmbjobieeidaaOwnD
namespace Go.Proofs.Ytfpmbjobieeidaa
open Go.RowKit

/-- The row of headers, and the older rows in it. -/
def RowsC (wa : World) (B : Nat) (w : World) (u : Value) (rows : List RowL) (us : List Value) : Prop :=
  w.ownsRow (wa.heap.size + 1) 65 2 u rows.length us ∧ ∀ i, i < rows.length → ∃ x, us[i * 2]? = some x ∧ us[i * 2 + 1]? = some (.bool (Rk.rowAt rows i).2) ∧ Ints wa B x (Rk.rowAt rows i).1
/-- Block wa.heap.size is a spectrum whose row of headers is later than it, and whose hits are older. -/
structure SpC (wa : World) (B : Nat) (p : Int) (u : Value) (rows : List RowL) (w : World) : Prop where
  blk : Blk w wa.heap.size 48 #[.int .i64 p, u]
  own : ∃ us, RowsC wa B w u rows us
  low : Below wa.heap.size wa w
section
variable {wa w w' : World} {B : Nat} {p : Int} {u : Value} {rows : List RowL}
theorem SpC.start (wa : World) (B : Nat) (p : Int) : SpC wa B p (.slice none 0 0) [] (wa.alloc (.cells #[.int .i64 p, .slice none 0 0] 48)) :=
  ⟨Blk.new wa _ _, ⟨[], ⟨by simp, .inl ⟨rfl, rfl⟩⟩, fun i hi => by simp at hi⟩, (Below.refl _ wa).alloc (Nat.le_refl _) _⟩
theorem SpC.below (h : SpC wa B p u rows w) (hb : Below w.heap.size w w') : SpC wa B p u rows w' :=
  let ⟨us, h1, h2⟩ := h.own
  ⟨h.blk.below hb h.blk.lt, ⟨us, own_below h1 hb (Nat.le_refl _), h2⟩, h.low.trans (hb.mono h.low.size)⟩
theorem SpC.drewN (h : SpC wa B p u rows w) (k : Nat) : SpC wa B p u rows (w.drewN k) := h.below (below_drewN (Below.refl _ w) k)
theorem SpC.facts (h : SpC wa B p u rows w) : w.cell? ⟨wa.heap.size, 0, none⟩ = some (.int .i64 p) ∧ w.cell? ⟨wa.heap.size, 1, none⟩ = some u ∧ w.frozen? ⟨wa.heap.size, 1, none⟩ = false ∧ wa.heap.size < w.heap.size ∧ ∃ A c, u = .slice A rows.length c := by
  obtain ⟨us, hr, _⟩ := h.own
  obtain ⟨A, c, e, _⟩ := own_form hr
  exact ⟨h.blk.cell 0, h.blk.cell 1, h.blk.frozen 1, h.blk.lt, A, c, e⟩
/-- Behind the append of one row more, and the store of its outcome. -/
theorem SpC.snoc {w4 : World} {v1 v2 : Value} {us : List Value} {r : RowL} (h : SpC wa B p u rows w) (hV : RowsC wa B w u rows us) (hv : Ints wa B v1 r.1)
    (hown : w4.ownsRow (wa.heap.size + 1) 65 2 v2 (rows.length + 1) (us ++ [v1, .bool r.2])) (hg : (w.alloc (.cells #[v1, .bool r.2] 65)).grownBy w4 u.ownBlock) :
    (w4.cell? ⟨wa.heap.size, 1, none⟩ = some u ∧ w4.frozen? ⟨wa.heap.size, 1, none⟩ = false ∧ wa.heap.size < w4.heap.size) ∧ SpC wa B p v2 (rows ++ [r]) (w4.setCell ⟨wa.heap.size, 1, none⟩ v2) := by
  have hub := fun k e => (own_row_lt hV.1 k e).1
  have hblk : Blk w4 wa.heap.size 48 #[.int .i64 p, u] := (h.blk.alloc _).grown hg (fun e => by have := hub _ e.symm; omega)
  have hl : us.length = rows.length * 2 := hV.1.1
  refine ⟨⟨hblk.cell 1, hblk.frozen 1, hblk.lt⟩, hblk.set_ 1 _, ⟨us ++ [v1, .bool r.2], ?_, fun i hlt => ?_⟩, ?_⟩
  · rw [List.length_append]
    exact own_kept hown (grown_setCell w4 ⟨wa.heap.size, 1, none⟩ v2) (fun g e e2 => by
      have h1 := (own_row_ge hown g e2)
      simp at e; omega)
  · by_cases hi : i < rows.length
    · obtain ⟨x, h1, h2, h3⟩ := hV.2 i hi
      have e : Rk.rowAt (rows ++ [r]) i = Rk.rowAt rows i := by
        unfold Rk.rowAt
        rw [List.getD_eq_getElem?_getD, List.getElem?_append_left hi, ← List.getD_eq_getElem?_getD]
      rw [e]
      exact ⟨x, by rw [List.getElem?_append_left (by omega)]; exact h1, by rw [List.getElem?_append_left (by omega)]; exact h2, h3⟩
    · have e : i = rows.length := by simp at hlt; omega
      subst e
      have e : Rk.rowAt (rows ++ [r]) rows.length = r := by
        unfold Rk.rowAt
        rw [List.getD_eq_getElem?_getD, List.getElem?_append_right (Nat.le_refl _), Nat.sub_self]; rfl
      rw [e]
      refine ⟨v1, ?_, ?_, hv⟩
      · rw [List.getElem?_append_right (by omega), hl, Nat.sub_self]; rfl
      · rw [List.getElem?_append_right (by omega), hl, show rows.length * 2 + 1 - rows.length * 2 = 1 by omega]; rfl
  · have b3 := h.low.alloc h.low.size (.cells #[v1, .bool r.2] 65)
    have b4 := b3.grown hg b3.size (fun g e => by have := hub g e; omega)
    exact b4.grown (grown_setCell w4 ⟨wa.heap.size, 1, none⟩ v2) b4.size (fun g e => by simp at e; omega)
/-- The rows as another call reads them. -/
theorem SpC.reads_ (h : SpC wa B p u rows w) (hB : B ≤ wa.heap.size) (hl : rows.length ≤ 4398046510976) : Rows w w.heap.size u rows := by
  obtain ⟨us, h1, h2⟩ := h.own
  have hsz := h.low.size
  have he : ∀ i, i < rows.length → ∃ x, us[i * 2]? = some x ∧ us[i * 2 + 1]? = some (.bool (Rk.rowAt rows i).2) ∧ Ints w w.heap.size x (Rk.rowAt rows i).1 := fun i hlt => by
    obtain ⟨x, a1, a2, a3⟩ := h2 i hlt
    exact ⟨x, a1, a2, (a3.keep (fun q hq => h.low.cell (Nat.lt_of_lt_of_le hq hB))).more (Nat.le_trans hB hsz)⟩
  rcases h1.2 with ⟨rfl, h0⟩ | ⟨g, cap, cur, rfl, hb, hh, hnc, hrest⟩
  · have : rows = [] := List.eq_nil_of_length_eq_zero h0
    subst this
    exact ⟨none, 0, [], rfl, Nat.le_refl _, Nat.zero_le _, Reads.none_, fun i hi => by simp at hi⟩
  · exact ⟨_, cap, us, rfl, hnc, hl, Reads.of_own h1, he⟩
end
end Go.Proofs.Ytfpmbjobieeidaa
