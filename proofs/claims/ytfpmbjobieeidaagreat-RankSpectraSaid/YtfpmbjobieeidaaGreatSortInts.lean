/-
  slices.Sort on a row of numbers of the call's own.
-/
import Derived.Test.YtfpmbjobieeidaaGreatSort
import Derived.Test.YtfpmbjobieeidaaGreatPlainA
namespace Go.Proofs.YtfpmbjobieeidaaGreat
open Go.RowKit Go.Lib Go.Sort

theorem sortInts_any {w : World} {base : Nat} {v : Value} {l : List Int} (hown : OwnInts w base v l) (hsz : l.length < 4611686018427387904) :
    Calls Tryz.prog 62 #[v] w fun e w' => e = .returned (.tuple #[]) ∧ OwnInts w' base v (Rk.sortInts l) ∧ w.grownBy w' v.ownBlock := by
  have hlen : (Rk.sortInts l).length = l.length := (List.mergeSort_perm l _).length_eq
  rcases hown.2 with ⟨rfl, h0⟩ | ⟨g, cap, cur, rfl, hb, hh, hnc, hcm, hcs, ht⟩
  · have hx : l = [] := List.eq_nil_of_length_eq_zero h0
    subst hx
    refine (Tryz.slices_Sort_int_none none 0 w).mono ?_
    rintro e w' ⟨rfl, rfl⟩
    exact ⟨rfl, by simpa [Rk.sortInts] using hown, World.grownBy.refl _ _⟩
  · have hlt : g < w.heap.size := (Array.getElem?_eq_some_iff.1 hh).1
    have hH : Holds (Value.int .i64) w g 0 l.toArray := holds_of_own (base := base) (e := 3) (cap := cap) (Value.int .i64) (by simp) hown
    refine (Tryz.slices_Sort_int g 0 cap l w hH hlt hsz).mono ?_
    rintro e w' ⟨rfl, m, os, rfl⟩
    refine ⟨rfl, ?_, sortWorld_grown (Value.int .i64) w g 0 m _ os⟩
    unfold OwnInts
    rw [hlen]
    have h := sortWorld_own (m := m) (os := os) (d := (Rk.sortInts l).toArray) (Value.int .i64) (by simp [hlen]) hown
    exact h
end Go.Proofs.YtfpmbjobieeidaaGreat
