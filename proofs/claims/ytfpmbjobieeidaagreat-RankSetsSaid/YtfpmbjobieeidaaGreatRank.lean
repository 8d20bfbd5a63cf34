/-
  The walk of Rank.
-/
import Derived.Test.YtfpmbjobieeidaaGreatRankS
import Derived.Test.YtfpmbjobieeidaaGreatEqR
namespace Go.Proofs.YtfpmbjobieeidaaGreat
open Go.RowKit

theorem specErr_zero {parts : Int} {rows : List RowL} (h : specErr parts rows = 0) : 1 ≤ parts ∧ parts ≤ 256 ∧ rows.length ≤ 64 ∧ ∀ i, i < rows.length → Rk.Incr parts (Rk.rowAt rows i).1 := by
  unfold specErr at h
  split at h
  · cases h
  · split at h
    · cases h
    · split at h
      · rename_i h3
        exact ⟨by omega, by omega, by omega, fun i hi => of_decide_eq_true (h3 i hi)⟩
      · cases h

/-- The fields of a standing. -/
def fld (x : Rk.Stn) (j : Nat) : Int := match j with | 0 => x.1 | 1 => x.2.1.1 | 2 => x.2.1.2 | 3 => x.2.2.1 | _ => x.2.2.2
/-- The value reads as a list of standings. -/
def Stns (w : World) (B : Nat) (v : Value) (l : List Rk.Stn) : Prop :=
  ∃ A c, v = .slice A l.length c ∧ l.length ≤ 256 ∧ (0 < l.length → ∃ g, A = some ⟨g, 0, none⟩ ∧ g < B ∧ ∀ p j, p < l.length → j < 5 → w.cell? ⟨g, p * 5 + j, none⟩ = some (.int .i64 (fld (l.getD p (0, (0, 0), 0, 0)) j)))
theorem Stns.nil (w : World) (B : Nat) : Stns w B (.slice none 0 0) [] := ⟨none, 0, rfl, by simp, fun h => by simp at h⟩
theorem Stns.below {w w' : World} {B : Nat} {v : Value} {l : List Rk.Stn} (h : Stns w B v l) (hb : Below B w w') : Stns w' B v l := by
  obtain ⟨A, c, e, hl, hc⟩ := h
  exact ⟨A, c, e, hl, fun h0 => by
    obtain ⟨g, e, hg, hk⟩ := hc h0
    exact ⟨g, e, hg, fun p j hp hj => (hb.cell hg).trans (hk p j hp hj)⟩⟩
theorem Stns.more {w : World} {B B' : Nat} {v : Value} {l : List Rk.Stn} (h : Stns w B v l) (hb : B ≤ B') : Stns w B' v l := by
  obtain ⟨A, c, e, hl, hc⟩ := h
  exact ⟨A, c, e, hl, fun h0 => by
    obtain ⟨g, e, hg, hk⟩ := hc h0
    exact ⟨g, e, by omega, hk⟩⟩

def rankErr (parts : Int) (f : Nat) (rows : List RowL) : Int := if specErr parts rows ≠ 0 then specErr parts rows else if 1 ≤ f ∧ f ≤ 14 then 0 else 1
def rankOf (parts : Int) (f : Nat) (rows : List RowL) : List Rk.Stn := if rankErr parts f rows = 0 then Rk.ranking (Rk.scoreAt f rows) parts.toNat else []
def RankPost (parts : Int) (f : Nat) (rows : List RowL) (w : World) (e : Ending) (w' : World) : Prop :=
  ∃ v', e = .returned (.tuple #[v', .int .i64 (rankErr parts f rows)]) ∧ Stns w' w'.heap.size v' (rankOf parts f rows) ∧ Below w.heap.size w w'

set_option maxRecDepth 100000 in
set_option maxHeartbeats 1000000 in
theorem rank_bad (parts : Int) (f : Nat) (v : Value) (rows : List RowL) (B : Nat) (w : World) (hv : Rows w B v rows) (hB : B ≤ w.heap.size) (h : specErr parts rows ≠ 0) :
    Calls Tryz.prog 11 #[.agg #[.int .i64 parts, v], .int .u8 f] w (RankPost parts f rows w) := by
  have HC := Lib.hid (fun W (hb : Below w.heap.size w W) => checkspectrum_any parts v rows B W (hv.below (hb.mono hB)) (by have := hb.size; omega))
  have Hp := Lib.hid (show rankErr parts f rows = specErr parts rows ∧ rankOf parts f rows = [] by
    have e : rankErr parts f rows = specErr parts rows := if_pos h
    exact ⟨e, by unfold rankOf; rw [e, if_neg h]⟩)
  have hne : (specErr parts rows != 0) = true := by simpa using h
  obtain ⟨A, cv, vs, rfl, j1, j2, j3, j4⟩ := hv
  clear j1 j2 j3 j4 h hB
  generalize specErr parts rows = err at *
  go_enter Tryz.func11, Tryz.ntmps11
  go_wp2_with fail
  refine (HC.out _ (al1 _ _)).mono ?_
  rintro e w1 ⟨rfl, hb⟩
  have HB := Lib.hid ((al1 w _).trans (hb.mono (by simp)))
  clear hb
  go_wp2
  go_ret2
  refine ⟨.slice none 0 0, ?_, ?_, HB.out⟩
  · rw [Hp.out.1]; rfl
  · rw [Hp.out.2]; exact Stns.nil _ _

set_option maxRecDepth 100000 in
set_option maxHeartbeats 1000000 in
theorem rank_none (parts : Int) (f : Nat) (hf : f < 256) (v : Value) (rows : List RowL) (B : Nat) (w : World) (hv : Rows w B v rows) (hB : B ≤ w.heap.size) (h : specErr parts rows = 0) (hbad : ¬ (1 ≤ f ∧ f ≤ 14)) :
    Calls Tryz.prog 11 #[.agg #[.int .i64 parts, v], .int .u8 f] w (RankPost parts f rows w) := by
  have HC := Lib.hid (fun W (hb : Below w.heap.size w W) => checkspectrum_any parts v rows B W (hv.below (hb.mono hB)) (by have := hb.size; omega))
  have HT := Lib.hid (fun W => table_any f W hf)
  have Ho : Hid (tabF f = .nilFunc ∧ tabOk f = false) := ⟨if_neg hbad, decide_eq_false hbad⟩
  have Hp := Lib.hid (show rankErr parts f rows = 1 ∧ rankOf parts f rows = [] by
    have e : rankErr parts f rows = 1 := by unfold rankErr; rw [if_neg (by simpa using h), if_neg hbad]
    exact ⟨e, by unfold rankOf; rw [e, if_neg (by decide)]⟩)
  rw [h] at HC
  obtain ⟨A, cv, vs, rfl, j1, j2, j3, j4⟩ := hv
  clear j1 j2 j3 j4 h hB hbad
  go_enter Tryz.func11, Tryz.ntmps11
  go_wp2_with fail
  refine (HC.out _ (al1 _ _)).mono ?_
  rintro e w1 ⟨rfl, hb⟩
  have HB := Lib.hid ((al1 w _).trans (hb.mono (by simp)))
  clear hb
  go_wp2_with fail
  refine (HT.out _).mono ?_
  rintro e w2 ⟨rfl, hb⟩
  rw [Ho.out.1, Ho.out.2]
  have HB2 := Lib.hid (HB.out.trans (hb.mono HB.out.size))
  clear hb
  go_wp2
  go_ret2
  refine ⟨.slice none 0 0, ?_, ?_, al HB2.out (Nat.le_refl _) _⟩
  · rw [Hp.out.1]; rfl
  · rw [Hp.out.2]; exact Stns.nil _ _
end Go.Proofs.YtfpmbjobieeidaaGreat
