/-
  The walk of Lift, where it says no ahead of its loops.
-/
import Derived.Test.YtfpmbjobieeidaaOwnRows
import Derived.Test.YtfpmbjobieeidaaWide
import Derived.Test.YtfpmbjobieeidaaOver
namespace Go.Proofs.Ytfpmbjobieeidaa
open Go.RowKit

theorem OwnRows.more {w : World} {base base' : Nat} {v : Value} {rows : List RowL} (h : OwnRows w base v rows) (hb : base' ≤ base) : OwnRows w base' v rows := by
  obtain ⟨us, h, hi⟩ := h
  exact ⟨us, own_more h hb, fun i hlt => by obtain ⟨u, h1, h2, h3⟩ := hi i hlt; exact ⟨u, h1, h2, own_more h3 hb⟩⟩
/-- Rows that a call made: later than the world w. -/
def RowsO (w w' : World) (v : Value) (rows : List RowL) : Prop := Rows w' w'.heap.size v rows ∧ OwnRows w' w.heap.size v rows
/-- What a function that makes a spectrum answers. -/
def SpPost (p err : Int) (rows : List RowL) (w : World) (e : Ending) (w' : World) : Prop :=
  ∃ v, e = .returned (.tuple #[.agg #[.int .i64 (if err = 0 then p else 0), v], .int .i64 err]) ∧ RowsO w w' v (if err = 0 then rows else []) ∧ Below w.heap.size w w'
theorem rows_none (w : World) (B : Nat) : Rows w B (.slice none 0 0) [] := ⟨none, 0, [], rfl, Nat.le_refl _, Nat.zero_le _, Reads.none_, fun i hi => by simp at hi⟩
theorem rowsO_none (w w' : World) : RowsO w w' (.slice none 0 0) [] := ⟨rows_none _ _, OwnRows.nil _ _⟩

set_option maxRecDepth 100000 in
set_option maxHeartbeats 2000000 in
theorem lift_no (parts : Int) (v vo : Value) (rows : List RowL) (owner : List Int) (owners : Int) (B : Nat) (w : World) (hv : Rows w B v rows) (ho : Ints w B vo owner) (hB : B ≤ w.heap.size)
    (h : specErr parts rows ≠ 0 ∨ owners < 1 ∨ 256 < owners ∨ (owner.length : Int) ≠ parts) (L : List RowL) :
    Calls Try.prog 37 #[.agg #[.int .i64 parts, v], vo, .int .i64 owners] w (SpPost owners (Rk.liftErr (specErr parts rows) parts owner owners) L w) := by
  obtain ⟨Ao, co, rfl, _, hom, _⟩ := ho
  obtain ⟨A, c, vs, rfl, hn, hm, hr, hi⟩ := hv
  have Hv := Lib.hid (show Rows w B (.slice A rows.length c) rows from ⟨A, c, vs, rfl, hn, hm, hr, hi⟩)
  clear hr hi hn
  obtain ⟨W, hW⟩ : ∃ W, W = (w.alloc (.cells #[.int .i64 parts, .slice A rows.length c] 48)).alloc (.cells #[.int .i64 0, .slice none 0 0] 48) := ⟨_, rfl⟩
  have hbW : Below w.heap.size w W := by rw [hW]; exact ((Below.refl _ _).alloc (Nat.le_refl _) _).alloc (by simp) _
  have hs : Blk W w.heap.size 48 #[.int .i64 parts, .slice A rows.length c] := by rw [hW]; exact (Blk.new w _ _).alloc _
  have hs' : Blk W (w.heap.size + 1) 48 #[.int .i64 0, .slice none 0 0] := by
    rw [hW]
    have := Blk.new (w.alloc (.cells #[.int .i64 parts, .slice A rows.length c] 48)) 48 #[.int .i64 0, .slice none 0 0]
    simpa using this
  have HC := Lib.hid (checkspectrum_any parts _ rows B W (Hv.out.below (hbW.mono hB)) (Nat.le_trans hB hbW.size))
  have HbW := Lib.hid hbW
  have HW := Lib.hid hW
  have s0 : W.cell? ⟨w.heap.size, 0, none⟩ = some (.int .i64 parts) := hs.cell 0
  have s1 : W.cell? ⟨w.heap.size, 1, none⟩ = some (.slice A rows.length c) := hs.cell 1
  have Hs := Lib.hid hs
  have Hs' := Lib.hid hs'
  clear hbW hW hs hs'
  have He := Lib.hid (show ∀ x, Rk.liftErr (specErr parts rows) parts owner owners = x → x = Rk.liftErr (specErr parts rows) parts owner owners from fun x e => e.symm)
  have hcase : (specErr parts rows ≠ 0 ∧ Rk.liftErr (specErr parts rows) parts owner owners = specErr parts rows) ∨ (specErr parts rows = 0 ∧ owners < 1 ∧ Rk.liftErr (specErr parts rows) parts owner owners = 1) ∨
      (specErr parts rows = 0 ∧ 1 ≤ owners ∧ 256 < owners ∧ Rk.liftErr (specErr parts rows) parts owner owners = 3) ∨ (specErr parts rows = 0 ∧ 1 ≤ owners ∧ owners ≤ 256 ∧ (owner.length : Int) ≠ parts ∧ Rk.liftErr (specErr parts rows) parts owner owners = 1) := by
    unfold Rk.liftErr
    by_cases h1 : specErr parts rows ≠ 0
    · exact .inl ⟨h1, by rw [if_pos h1]⟩
    · have h1' : specErr parts rows = 0 := by omega
      rw [if_neg h1]
      by_cases h2 : owners < 1
      · exact .inr (.inl ⟨h1', h2, by rw [if_pos h2]⟩)
      · rw [if_neg h2]
        by_cases h3 : 256 < owners
        · exact .inr (.inr (.inl ⟨h1', by omega, h3, by rw [if_pos h3]⟩))
        · rw [if_neg h3]
          have h4 : (owner.length : Int) ≠ parts := by omega
          exact .inr (.inr (.inr ⟨h1', by omega, by omega, h4, by rw [if_pos h4]⟩))
  clear h He
  generalize Rk.liftErr (specErr parts rows) parts owner owners = le at *
  generalize specErr parts rows = se at *
  rcases hcase with ⟨h1, h2⟩ | ⟨h1, h2, h3⟩ | ⟨h1, h2, h3, h4⟩ | ⟨h1, h2, h3, h4, h5⟩
  · have hne : (se != 0) = true := by simpa using h1
    have Hne := Lib.hid h1
    subst h2
    clear h1
    go_enter Try.func37, Try.ntmps37
    go_wp2_with fail
    rw [← HW.out]
    go_wp2_with fail
    refine HC.out.mono ?_
    rintro e w1 ⟨rfl, hb⟩
    have z := Hs'.out.below hb Hs'.out.lt
    have y := Hs.out.below hb Hs.out.lt
    have HB := Lib.hid (HbW.out.trans (hb.mono HbW.out.size))
    have Z := Lib.hid z
    have hlt := z.lt
    have y0 := z.cell 0
    have y1 := z.cell 1
    have x0 := y.cell 0
    have f0 := z.frozen 0
    have f1 := z.frozen 1
    simp only [List.getElem?_toArray, List.getElem?_cons_zero, List.getElem?_cons_succ] at y0 y1 x0
    clear hb z y
    go_wp2
    have K := (st2 Z.out (.int .i64 0) (.slice none 0 0))
    have k0 := K.cell 0
    have k1 := K.cell 1
    simp only [List.getElem?_toArray, List.getElem?_cons_zero, List.getElem?_cons_succ] at k0 k1
    refine bodyPost_ret (v := .tuple #[.agg #[.int .i64 0, .slice none 0 0], .int .i64 le]) (by simp [results, Try.results37, go_sem, k0, k1]) rfl ⟨_, by rw [if_neg Hne.out], by rw [if_neg Hne.out]; exact rowsO_none _ _, ?_⟩
    exact below_st2 (g := w.heap.size + 1) HB.out (by omega) HB.out.size _ _
  · subst h1 h3
    go_enter Try.func37, Try.ntmps37
    go_wp2_with fail
    rw [← HW.out]
    go_wp2_with fail
    refine HC.out.mono ?_
    rintro e w1 ⟨rfl, hb⟩
    have z := Hs'.out.below hb Hs'.out.lt
    have y := Hs.out.below hb Hs.out.lt
    have HB := Lib.hid (HbW.out.trans (hb.mono HbW.out.size))
    have Z := Lib.hid z
    have hlt := z.lt
    have y0 := z.cell 0
    have y1 := z.cell 1
    have x0 := y.cell 0
    have f0 := z.frozen 0
    have f1 := z.frozen 1
    simp only [List.getElem?_toArray, List.getElem?_cons_zero, List.getElem?_cons_succ] at y0 y1 x0
    clear hb z y
    go_wp2
    have K := (st2 Z.out (.int .i64 0) (.slice none 0 0))
    have k0 := K.cell 0
    have k1 := K.cell 1
    simp only [List.getElem?_toArray, List.getElem?_cons_zero, List.getElem?_cons_succ] at k0 k1
    refine bodyPost_ret (v := .tuple #[.agg #[.int .i64 0, .slice none 0 0], .int .i64 1]) (by simp [results, Try.results37, go_sem, k0, k1]) rfl ⟨_, by rw [if_neg (by decide)], by rw [if_neg (by decide)]; exact rowsO_none _ _, ?_⟩
    exact below_st2 (g := w.heap.size + 1) HB.out (by omega) HB.out.size _ _
  · subst h1 h4
    go_enter Try.func37, Try.ntmps37
    go_wp2_with fail
    rw [← HW.out]
    go_wp2_with fail
    refine HC.out.mono ?_
    rintro e w1 ⟨rfl, hb⟩
    have z := Hs'.out.below hb Hs'.out.lt
    have y := Hs.out.below hb Hs.out.lt
    have HB := Lib.hid (HbW.out.trans (hb.mono HbW.out.size))
    have Z := Lib.hid z
    have hlt := z.lt
    have y0 := z.cell 0
    have y1 := z.cell 1
    have x0 := y.cell 0
    have f0 := z.frozen 0
    have f1 := z.frozen 1
    simp only [List.getElem?_toArray, List.getElem?_cons_zero, List.getElem?_cons_succ] at y0 y1 x0
    clear hb z y
    go_wp2
    have K := (st2 Z.out (.int .i64 0) (.slice none 0 0))
    have k0 := K.cell 0
    have k1 := K.cell 1
    simp only [List.getElem?_toArray, List.getElem?_cons_zero, List.getElem?_cons_succ] at k0 k1
    refine bodyPost_ret (v := .tuple #[.agg #[.int .i64 0, .slice none 0 0], .int .i64 3]) (by simp [results, Try.results37, go_sem, k0, k1]) rfl ⟨_, by rw [if_neg (by decide)], by rw [if_neg (by decide)]; exact rowsO_none _ _, ?_⟩
    exact below_st2 (g := w.heap.size + 1) HB.out (by omega) HB.out.size _ _
  · subst h1 h5
    have hlz : ((owner.length : Int) != parts) = true := by simpa using h4
    go_enter Try.func37, Try.ntmps37
    go_wp2_with fail
    rw [← HW.out]
    go_wp2_with fail
    refine HC.out.mono ?_
    rintro e w1 ⟨rfl, hb⟩
    have z := Hs'.out.below hb Hs'.out.lt
    have y := Hs.out.below hb Hs.out.lt
    have HB := Lib.hid (HbW.out.trans (hb.mono HbW.out.size))
    have Z := Lib.hid z
    have hlt := z.lt
    have y0 := z.cell 0
    have y1 := z.cell 1
    have x0 := y.cell 0
    have f0 := z.frozen 0
    have f1 := z.frozen 1
    simp only [List.getElem?_toArray, List.getElem?_cons_zero, List.getElem?_cons_succ] at y0 y1 x0
    clear hb z y
    go_wp2
    have K := (st2 Z.out (.int .i64 0) (.slice none 0 0))
    have k0 := K.cell 0
    have k1 := K.cell 1
    simp only [List.getElem?_toArray, List.getElem?_cons_zero, List.getElem?_cons_succ] at k0 k1
    refine bodyPost_ret (v := .tuple #[.agg #[.int .i64 0, .slice none 0 0], .int .i64 1]) (by simp [results, Try.results37, go_sem, k0, k1]) rfl ⟨_, by rw [if_neg (by decide)], by rw [if_neg (by decide)]; exact rowsO_none _ _, ?_⟩
    exact below_st2 (g := w.heap.size + 1) HB.out (by omega) HB.out.size _ _
end Go.Proofs.Ytfpmbjobieeidaa
