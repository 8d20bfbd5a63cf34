/-
  The walk of Tallies.
-/
import Derived.Test.YtfpmbjobieeidaaGreatTallies
import Derived.Test.YtfpmbjobieeidaaGreatNum
namespace Go.Proofs.YtfpmbjobieeidaaGreat
open Go.RowKit

/-- What Tallies answers. -/
def TlsPost (n : Nat) (parts : Int) (rows : List RowL) (w : World) (e : Ending) (w' : World) : Prop :=
  ∃ v, e = .returned (.tuple #[v, .int .i64 (specErr parts rows)]) ∧ Below w.heap.size w w' ∧ (specErr parts rows ≠ 0 → v = .slice none 0 0) ∧
    (specErr parts rows = 0 → ∃ g, v = .slice (some ⟨g, 0, none⟩) n n ∧ w.heap.size ≤ g ∧ TalAt w' g n (Rk.tal rows))
theorem al1' (w : World) (o : Obj) : Below w.heap.size w (w.alloc o) := (Below.refl _ w).alloc (Nat.le_refl _) o

set_option maxRecDepth 100000 in
set_option maxHeartbeats 1000000 in
theorem tals_any (parts : Int) (v : Value) (rows : List RowL) (B : Nat) (w : World) (hv : Rows w B v rows) (hB : B ≤ w.heap.size) :
    Calls Tryz.prog 7 #[.agg #[.int .i64 parts, v]] w (TlsPost parts.toNat parts rows w) := by
  have HC := Lib.hid (fun W (hb : Below w.heap.size w W) => checkspectrum_any parts v rows B W (hv.below (hb.mono hB)) (by have := hb.size; omega))
  by_cases h : specErr parts rows = 0
  · obtain ⟨z0, z1, z2, z3⟩ : 1 ≤ parts ∧ parts ≤ 256 ∧ rows.length ≤ 64 ∧ ∀ i, i < rows.length → Rk.Incr parts (Rk.rowAt rows i).1 := by
      unfold specErr at h
      split at h
      · cases h
      · split at h
        · cases h
        · split at h
          · rename_i h3
            exact ⟨by omega, by omega, by omega, fun i hi => of_decide_eq_true (h3 i hi)⟩
          · cases h
    obtain ⟨n, rfl⟩ : ∃ n : Nat, parts = n := ⟨parts.toNat, by omega⟩
    have HT := Lib.hid (fun W (hb : Below w.heap.size w W) => tallies_any n v rows B W (hv.below (hb.mono hB)) (by have := hb.size; omega) (by omega) z2 z3)
    rw [Int.toNat_natCast]
    have Hh := Lib.hid h
    rw [h] at HC
    obtain ⟨A, cv, vs, rfl, j1, j2, j3, j4⟩ := hv
    clear j1 j2 j3 j4 h hB z0 z1 z2 z3
    go_enter Tryz.func7, Tryz.ntmps7
    go_wp2_with fail
    refine (HC.out _ (al1' _ _)).mono ?_
    rintro e w1 ⟨rfl, hb⟩
    have S1 : Blk w1 w.heap.size 24 #[.int .i64 n, .slice A rows.length cv] := (Blk.new w _ _).below hb (by simp)
    have HB := Lib.hid ((al1' w _).trans (hb.mono (by simp)))
    have ltw : w.heap.size < w1.heap.size := S1.lt
    have s0 := S1.cell 0
    have s1 := S1.cell 1
    simp only [List.getElem?_toArray, List.getElem?_cons_zero, List.getElem?_cons_succ] at s0 s1
    clear hb HC S1
    go_wp2_with fail
    refine (HT.out _ HB.out).mono ?_
    rintro e w2 ⟨g, rfl, hg, ht, hb⟩
    have HB2 := Lib.hid (HB.out.trans (hb.mono HB.out.size))
    have hgw : w.heap.size ≤ g := Nat.le_trans HB.out.size hg
    have Ht := Lib.hid ht
    clear hb ht
    go_wp2
    go_ret2
    exact ⟨_, by rw [Hh.out]; rfl, HB2.out, fun h => absurd Hh.out h, fun _ => ⟨g, rfl, hgw, Ht.out⟩⟩
  · have hne : (specErr parts rows != 0) = true := by simpa using h
    have Hh := Lib.hid h
    obtain ⟨A, cv, vs, rfl, j1, j2, j3, j4⟩ := hv
    clear j1 j2 j3 j4 h hB
    obtain ⟨err, herr⟩ : ∃ err, specErr parts rows = err := ⟨_, rfl⟩
    unfold TlsPost
    rw [herr] at Hh hne HC ⊢
    go_enter Tryz.func7, Tryz.ntmps7
    go_wp2_with fail
    refine (HC.out _ (al1' _ _)).mono ?_
    rintro e w1 ⟨rfl, hb⟩
    have HB := Lib.hid ((al1' w _).trans (hb.mono (by simp)))
    clear hb
    go_wp2
    go_ret2
    exact ⟨_, rfl, HB.out, fun _ => rfl, fun h => absurd h Hh.out⟩
end Go.Proofs.YtfpmbjobieeidaaGreat
