/-
  The reference's Hit in general; Suspects, of rank and of the reference.
-/
import Derived.Test.YtfpmbjobieeidaaGreatRHit
import Derived.Test.YtfpmbjobieeidaaGreatConf
namespace Go.Proofs.YtfpmbjobieeidaaGreat
open Go.RowKit

set_option maxRecDepth 100000 in
set_option maxHeartbeats 1000000 in
theorem rhit_any (v : Value) (xss : List (List Int)) (size : Int) (B : Nat) (w : World) (hv : Sets w B v xss) (hB : B ≤ w.heap.size) :
    Calls Tryz.prog 25 #[v, .int .i64 size] w (HitPost xss size w) := by
  by_cases hgood : setsErr xss = 0 ∧ 0 ≤ size ∧ size ≤ 3
  · obtain ⟨h1, h2, h3⟩ := hgood
    obtain ⟨n, rfl⟩ : ∃ n : Nat, size = n := ⟨size.toNat, by omega⟩
    exact rhit_main v xss n (by omega) B w hv hB h1
  have HC := Lib.hid (rchecksets_any v xss B w hv)
  by_cases he : setsErr xss = 0
  · rcases (show size < 0 ∨ 0 ≤ size ∧ 3 < size by omega) with h1 | ⟨h1, h2⟩
    · have Hp := Lib.hid (show 1 = Rk.hitErr (setsErr xss) (Rk.hitRun (Rk.smallest xss) size).1 size by unfold Rk.hitErr; rw [he, if_neg (by simp), if_pos h1])
      rw [he] at HC
      have z1 : decide (size < 0) = true := decide_eq_true h1
      clear hgood he
      go_enter Tryz.func25, Tryz.ntmps25
      go_wp2_with fail
      refine HC.out.mono ?_
      rintro e w1 ⟨rfl, q, rfl⟩
      go_wp2
      go_ret2
      exact ⟨_, 1, [], rfl, sets_nil _ _, below_drewN (Below.refl _ w) q, Hp.out, rfl⟩
    · have Hp := Lib.hid (show 3 = Rk.hitErr (setsErr xss) (Rk.hitRun (Rk.smallest xss) size).1 size by unfold Rk.hitErr; rw [he, if_neg (by simp), if_neg (by omega), if_pos h2])
      rw [he] at HC
      have z1 : decide (size < 0) = false := decide_eq_false (by omega)
      have z2 : decide (3 < size) = true := decide_eq_true h2
      clear hgood he
      go_enter Tryz.func25, Tryz.ntmps25
      go_wp2_with fail
      refine HC.out.mono ?_
      rintro e w1 ⟨rfl, q, rfl⟩
      go_wp2
      go_ret2
      exact ⟨_, 3, [], rfl, sets_nil _ _, below_drewN (Below.refl _ w) q, Hp.out, rfl⟩
  · have hne : (setsErr xss != 0) = true := by simpa using he
    have Hh := Lib.hid he
    have Hp := Lib.hid (show setsErr xss = Rk.hitErr (setsErr xss) (Rk.hitRun (Rk.smallest xss) size).1 size by unfold Rk.hitErr; rw [if_pos he])
    obtain ⟨err, herr⟩ : ∃ err, setsErr xss = err := ⟨_, rfl⟩
    rw [herr] at HC hne Hh
    have Herr := Lib.hid herr
    clear hgood he herr
    go_enter Tryz.func25, Tryz.ntmps25
    go_wp2_with fail
    refine HC.out.mono ?_
    rintro e w1 ⟨rfl, q, rfl⟩
    go_wp2
    go_ret2
    exact ⟨_, err, [], rfl, sets_nil _ _, below_drewN (Below.refl _ w) q, by rw [← Herr.out]; exact Hp.out, by rw [if_neg Hh.out]⟩

/-- What Suspects answers. -/
def susErr (parts : Int) (rows : List RowL) (size : Int) : Int := if specErr parts rows ≠ 0 then specErr parts rows else Rk.hitErr 0 (Rk.hitRun (Rk.smallest (Rk.smallest (Rk.failsL rows))) size).1 size
def susOf (parts : Int) (rows : List RowL) (size : Int) : List (List Int) := if susErr parts rows size = 0 then Rk.sortSets (Rk.hitRun (Rk.smallest (Rk.smallest (Rk.failsL rows))) size).2 else []
def SusPost (parts : Int) (rows : List RowL) (size : Int) (w : World) (e : Ending) (w' : World) : Prop :=
  ∃ v', e = .returned (.tuple #[v', .int .i64 (susErr parts rows size)]) ∧ Sets w' w'.heap.size v' (susOf parts rows size) ∧ Below w.heap.size w w'
theorem smallSets_ok {parts : Int} {rows : List RowL} (h : specErr parts rows = 0) : setsErr (Rk.smallest (Rk.failsL rows)) = 0 := by
  obtain ⟨hl, hi⟩ := failsL_ok h
  obtain ⟨h1, h2⟩ := small_ok (by omega) hi
  unfold setsErr
  rw [if_neg (by omega), if_pos]
  intro i hi
  exact decide_eq_true (h2 _ (Rk.memD hi))
theorem susPost_of {parts : Int} {rows : List RowL} {size : Int} (h : specErr parts rows = 0) {w w0 w' : World} {e : Ending} (hp : HitPost (Rk.smallest (Rk.failsL rows)) size w e w') (hb : Below w0.heap.size w0 w) : SusPost parts rows size w0 e w' := by
  obtain ⟨v', err, l, he, hs, hb', h1, h2⟩ := hp
  rw [smallSets_ok h] at h1
  have e1 : susErr parts rows size = err := by unfold susErr; rw [if_neg (by simpa using h), h1]
  refine ⟨v', by rw [e1]; exact he, ?_, hb.trans (hb'.mono hb.size)⟩
  unfold susOf
  rw [e1, ← h2]
  exact hs

set_option maxRecDepth 100000 in
set_option maxHeartbeats 1000000 in
theorem susp_any (parts : Int) (v : Value) (rows : List RowL) (size : Int) (B : Nat) (w : World) (hv : Rows w B v rows) (hB : B ≤ w.heap.size) :
    Calls Tryz.prog 28 #[.agg #[.int .i64 parts, v], .int .i64 size] w (SusPost parts rows size w) := by
  have HC := Lib.hid (fun W (hb : Below w.heap.size w W) => checkspectrum_any parts v rows B W (hv.below (hb.mono hB)) (by have := hb.size; omega))
  by_cases h : specErr parts rows = 0
  · obtain ⟨hl, hi⟩ := failsL_ok h
    obtain ⟨sl, si⟩ := small_ok (by omega) hi
    have HK := Lib.hid (fun W (hb : Below w.heap.size w W) => conf_any parts v rows B W (hv.below (hb.mono hB)) (by have := hb.size; omega) (spec_zero h).2.2.1 (fun s hs => by have := len256 (hi s hs); omega))
    have HH := Lib.hid (fun u W (hu : Sets W W.heap.size u (Rk.smallest (Rk.failsL rows))) => hit_any u (Rk.smallest (Rk.failsL rows)) size W.heap.size W hu (Nat.le_refl _))
    have Hso := Lib.hid (And.intro sl si)
    have Hh := Lib.hid h
    rw [h] at HC
    obtain ⟨A, cv, vs, rfl, j1, j2, j3, j4⟩ := hv
    clear j1 j2 j3 j4 h hB hl hi sl si
    go_enter Tryz.func28, Tryz.ntmps28
    go_wp2_with fail
    refine (HC.out _ ((Below.refl _ w).alloc (Nat.le_refl _) _)).mono ?_
    rintro e w1 ⟨rfl, hb⟩
    have S1 : Blk w1 w.heap.size 24 #[.int .i64 parts, .slice A rows.length cv] := (Blk.new w _ _).below hb (by simp)
    have HB := Lib.hid (show Below w.heap.size w w1 from ((Below.refl _ w).alloc (Nat.le_refl _) _).trans (hb.mono (by simp)))
    have ltw : w.heap.size < w1.heap.size := S1.lt
    have s0 := S1.cell 0
    have s1 := S1.cell 1
    simp only [List.getElem?_toArray, List.getElem?_cons_zero, List.getElem?_cons_succ] at s0 s1
    clear hb HC S1
    go_wp2_with fail
    refine (HK.out _ HB.out).mono ?_
    rintro e w2 ⟨v', rfl, ho, hb⟩
    have Hb := Lib.hid (show Below w.heap.size w w2 from HB.out.trans (hb.mono HB.out.size))
    have HHf := Lib.hid (HH.out v' w2 (ho.reads (by have := Hso.out.1; omega) (fun s hs => by have := len256 (Hso.out.2 s hs); omega)))
    clear ho hb HK HH
    go_wp2_with fail
    refine HHf.out.mono ?_
    intro e w3 hp
    obtain ⟨v3, rfl, h2, h3⟩ := susPost_of Hh.out hp Hb.out
    have H23 := Lib.hid (And.intro h2 h3)
    clear h2 h3 hp
    go_wp2
    go_ret2
    exact ⟨_, rfl, H23.out.1, H23.out.2⟩
  · have hne : (specErr parts rows != 0) = true := by simpa using h
    have Hp := Lib.hid (show susErr parts rows size = specErr parts rows ∧ susOf parts rows size = [] by
      have e1 : susErr parts rows size = specErr parts rows := if_pos h
      exact ⟨e1, by unfold susOf; rw [e1, if_neg h]⟩)
    obtain ⟨A, cv, vs, rfl, j1, j2, j3, j4⟩ := hv
    clear j1 j2 j3 j4 h hB
    obtain ⟨err, herr⟩ : ∃ err, specErr parts rows = err := ⟨_, rfl⟩
    rw [herr] at hne HC Hp
    clear herr
    go_enter Tryz.func28, Tryz.ntmps28
    go_wp2_with fail
    refine (HC.out _ ((Below.refl _ w).alloc (Nat.le_refl _) _)).mono ?_
    rintro e w1 ⟨rfl, hb⟩
    have HB := Lib.hid (show Below w.heap.size w w1 from ((Below.refl _ w).alloc (Nat.le_refl _) _).trans (hb.mono (by simp)))
    clear hb
    go_wp2
    go_ret2
    exact ⟨_, by rw [Hp.out.1]; rfl, by rw [Hp.out.2]; exact sets_nil _ _, HB.out⟩

set_option maxRecDepth 100000 in
set_option maxHeartbeats 1000000 in
theorem rsusp_any (parts : Int) (v : Value) (rows : List RowL) (size : Int) (B : Nat) (w : World) (hv : Rows w B v rows) (hB : B ≤ w.heap.size) :
    Calls Tryz.prog 29 #[.agg #[.int .i64 parts, v], .int .i64 size] w (SusPost parts rows size w) := by
  have HC := Lib.hid (fun W (hb : Below w.heap.size w W) => rconfl_any parts v rows B W (hv.below (hb.mono hB)) (by have := hb.size; omega))
  unfold CnfPost at HC
  by_cases h : specErr parts rows = 0
  · have HH := Lib.hid (fun u W (hu : Sets W W.heap.size u (Rk.smallest (Rk.failsL rows))) => rhit_any u (Rk.smallest (Rk.failsL rows)) size W.heap.size W hu (Nat.le_refl _))
    have Hh := Lib.hid h
    rw [h, if_pos rfl] at HC
    obtain ⟨A, cv, vs, rfl, j1, j2, j3, j4⟩ := hv
    clear j1 j2 j3 j4 h hB
    go_enter Tryz.func29, Tryz.ntmps29
    go_wp2_with fail
    refine (HC.out _ ((Below.refl _ w).alloc (Nat.le_refl _) _)).mono ?_
    rintro e w1 ⟨v', rfl, hs, hb⟩
    have Hb := Lib.hid (show Below w.heap.size w w1 from ((Below.refl _ w).alloc (Nat.le_refl _) _).trans (hb.mono (by simp)))
    have HHf := Lib.hid (HH.out v' w1 hs)
    clear hb hs HC HH
    go_wp2_with fail
    refine HHf.out.mono ?_
    intro e w3 hp
    obtain ⟨v3, rfl, h2, h3⟩ := susPost_of Hh.out hp Hb.out
    have H23 := Lib.hid (And.intro h2 h3)
    clear h2 h3 hp
    go_wp2
    go_ret2
    exact ⟨_, rfl, H23.out.1, H23.out.2⟩
  · have hne : (specErr parts rows != 0) = true := by simpa using h
    have Hp := Lib.hid (show susErr parts rows size = specErr parts rows ∧ susOf parts rows size = [] by
      have e1 : susErr parts rows size = specErr parts rows := if_pos h
      exact ⟨e1, by unfold susOf; rw [e1, if_neg h]⟩)
    rw [if_neg h] at HC
    obtain ⟨A, cv, vs, rfl, j1, j2, j3, j4⟩ := hv
    clear j1 j2 j3 j4 h hB
    obtain ⟨err, herr⟩ : ∃ err, specErr parts rows = err := ⟨_, rfl⟩
    rw [herr] at hne HC Hp
    clear herr
    go_enter Tryz.func29, Tryz.ntmps29
    go_wp2_with fail
    refine (HC.out _ ((Below.refl _ w).alloc (Nat.le_refl _) _)).mono ?_
    rintro e w1 ⟨v', rfl, hs, hb⟩
    have HB := Lib.hid (show Below w.heap.size w w1 from ((Below.refl _ w).alloc (Nat.le_refl _) _).trans (hb.mono (by simp)))
    clear hb hs
    go_wp2
    go_ret2
    exact ⟨_, by rw [Hp.out.1]; rfl, by rw [Hp.out.2]; exact sets_nil _ _, HB.out⟩
end Go.Proofs.YtfpmbjobieeidaaGreat
