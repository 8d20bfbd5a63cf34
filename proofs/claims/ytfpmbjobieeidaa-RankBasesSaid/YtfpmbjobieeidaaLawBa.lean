/-
  RankBases: spectra that are lifted to larger components, and spectra side by side.
  RankBases holds, for every input: the row.
-/
import Derived.Test.YtfpmbjobieeidaaExam
import Derived.Test.YtfpmbjobieeidaaRLift
import Derived.Test.YtfpmbjobieeidaaRJoin
import Derived.Test.YtfpmbjobieeidaaSame
import Derived.Test.YtfpmbjobieeidaaOpen
import Derived.Test.YtfpmbjobieeidaaBw
import Derived.Lib.SmallJoins
namespace Go.Proofs.Ytfpmbjobieeidaa
open Go.RowKit

theorem lift_any (parts : Int) (v vo : Value) (rows : List RowL) (owner : List Int) (owners : Int) (B : Nat) (w : World) (hv : Rows w B v rows) (ho : Ints w B vo owner) (hB : B ≤ w.heap.size) :
    Calls Try.prog 37 #[.agg #[.int .i64 parts, v], vo, .int .i64 owners] w (SpPost owners (Rk.liftErr (specErr parts rows) parts owner owners) (rows.map (Rk.liftRow owner owners.toNat)) w) := by
  by_cases h : specErr parts rows ≠ 0 ∨ owners < 1 ∨ 256 < owners ∨ (owner.length : Int) ≠ parts
  · exact lift_no parts v vo rows owner owners B w hv ho hB h _
  · exact lift_yes parts v vo rows owner owners B w hv ho hB (by omega) (by omega) (by omega) (by omega)
theorem rlift_any (parts : Int) (v vo : Value) (rows : List RowL) (owner : List Int) (owners : Int) (B : Nat) (w : World) (hv : Rows w B v rows) (ho : Ints w B vo owner) (hB : B ≤ w.heap.size) :
    Calls Try.prog 38 #[.agg #[.int .i64 parts, v], vo, .int .i64 owners] w (SpPost owners (Rk.liftErr (specErr parts rows) parts owner owners) (rows.map (Rk.liftRow owner owners.toNat)) w) := by
  by_cases h : specErr parts rows ≠ 0 ∨ owners < 1 ∨ 256 < owners ∨ (owner.length : Int) ≠ parts
  · exact rlift_no parts v vo rows owner owners B w hv ho hB h _
  · exact rlift_yes parts v vo rows owner owners B w hv ho hB (by omega) (by omega) (by omega) (by omega)
/-- What a function that makes a spectrum answers, its parts and rows named. -/
def SpNamed (p err : Int) (rows : List RowL) (w : World) (e : Ending) (w' : World) : Prop :=
  ∃ v, e = .returned (.tuple #[.agg #[.int .i64 p, v], .int .i64 err]) ∧ RowsO w w' v rows ∧ Below w.heap.size w w'
theorem rows_lens {w : World} {B : Nat} {v : Value} {rows : List RowL} (h : Rows w B v rows) : rows.length ≤ 4398046510976 ∧ ∀ r ∈ rows, r.1.length ≤ 17592186043904 := by
  obtain ⟨A, c, vs, _, _, hm, _, hi⟩ := h
  refine ⟨hm, fun r hr => ?_⟩
  obtain ⟨i, hi', rfl⟩ := List.mem_iff_getElem.1 hr
  obtain ⟨u, _, _, hu⟩ := hi i hi'
  obtain ⟨_, _, _, _, hl, _⟩ := hu
  unfold Rk.rowAt at hl
  rw [List.getD_eq_getElem?_getD, List.getElem?_eq_getElem hi'] at hl
  exact hl
theorem rows_form {w : World} {B : Nat} {v : Value} {rows : List RowL} (h : Rows w B v rows) : ∃ A c, v = .slice A rows.length c := by
  obtain ⟨A, c, _, e, _⟩ := h
  exact ⟨A, c, e⟩
theorem sp_named {p err : Int} {rows : List RowL} {w : World} {e : Ending} {w' : World} (h : SpPost p err rows w e w') : SpNamed (if err = 0 then p else 0) err (if err = 0 then rows else []) w e w' := h

set_option maxRecDepth 100000 in
set_option maxHeartbeats 4000000 in
theorem rankBases_any (p1 : Int) (v1 : Value) (rows1 : List RowL) (p2 : Int) (v2 : Value) (rows2 : List RowL) (vo : Value) (owner : List Int) (owners : Int) (B : Nat) (w : World) (hv1 : Rows w B v1 rows1) (hv2 : Rows w B v2 rows2) (ho : Ints w B vo owner) (hB : B ≤ w.heap.size) :
    Calls Try.prog 11 #[.agg #[.int .i64 p1, v1], .agg #[.int .i64 p2, v2], vo, .int .i64 owners] w fun e w' => e = .returned (.bool true) ∧ Below w.heap.size w w' := by
  have HR := Lib.hid ranks_any
  have HW1 := Lib.hid (fun W (hb : Below w.heap.size w W) => wide_any p1 v1 rows1 B W (hv1.below (hb.mono hB)) (by have := hb.size; omega))
  have HW2 := Lib.hid (fun W (hb : Below w.heap.size w W) => wide_any p2 v2 rows2 B W (hv2.below (hb.mono hB)) (by have := hb.size; omega))
  have HL := Lib.hid (fun W (hb : Below w.heap.size w W) => (lift_any p1 v1 vo rows1 owner owners B W (hv1.below (hb.mono hB)) (ho.below (hb.mono hB)) (by have := hb.size; omega)).mono fun _ _ h => sp_named h)
  have HM := Lib.hid (fun W (hb : Below w.heap.size w W) => (rlift_any p1 v1 vo rows1 owner owners B W (hv1.below (hb.mono hB)) (ho.below (hb.mono hB)) (by have := hb.size; omega)).mono fun _ _ h => sp_named h)
  have HJ := Lib.hid (fun W (hb : Below w.heap.size w W) => (join_any p1 p2 v1 v2 rows1 rows2 B W (hv1.below (hb.mono hB)) (hv2.below (hb.mono hB)) (by have := hb.size; omega)).mono fun _ _ h => sp_named h)
  have HK := Lib.hid (fun W (hb : Below w.heap.size w W) => (rjoin_any p1 p2 v1 v2 rows1 rows2 B W (hv1.below (hb.mono hB)) (hv2.below (hb.mono hB)) (by have := hb.size; omega)).mono fun _ _ h => sp_named h)
  generalize Rk.liftErr (specErr p1 rows1) p1 owner owners = el at *
  generalize Rk.joinErr (specErr p1 rows1) (specErr p2 rows2) p1 p2 rows1 rows2 = ej at *
  generalize rows1.map (Rk.liftRow owner owners.toNat) = rl at *
  generalize Rk.joinRows p1 rows1 rows2 rows1.length = rj at *
  generalize (if el = 0 then owners else 0) = pl at *
  generalize (if el = 0 then rl else []) = rl' at *
  generalize (if ej = 0 then p1 + p2 else 0) = pj at *
  generalize (if ej = 0 then rj else []) = rj' at *
  obtain ⟨A, c, vs, rfl, j1, j2, j3, j4⟩ := hv1
  clear j1 j2 j3 j4
  obtain ⟨A', c', vs', rfl, j1, j2, j3, j4⟩ := hv2
  clear j1 j2 j3 j4
  obtain ⟨Ao, co, rfl, j1, hom, j3⟩ := ho
  clear j1 j3 hB
  obtain ⟨W, hW⟩ : ∃ W, W = (w.alloc (.cells #[.int .i64 p1, .slice A rows1.length c] 48)).alloc (.cells #[.int .i64 p2, .slice A' rows2.length c'] 48) := ⟨_, rfl⟩
  have HbW := Lib.hid (show Below w.heap.size w W by rw [hW]; exact ((Below.refl _ _).alloc (Nat.le_refl _) _).alloc (by simp) _)
  have hs1 : Blk W w.heap.size 48 #[.int .i64 p1, .slice A rows1.length c] := by rw [hW]; exact (Blk.new w _ _).alloc _
  have hs2 : Blk W (w.heap.size + 1) 48 #[.int .i64 p2, .slice A' rows2.length c'] := by
    rw [hW]
    have := Blk.new (w.alloc (.cells #[.int .i64 p1, .slice A rows1.length c] 48)) 48 #[.int .i64 p2, .slice A' rows2.length c']
    simpa using this
  have s0 := hs1.cell 0
  have s1 := hs1.cell 1
  simp only [List.getElem?_toArray, List.getElem?_cons_zero, List.getElem?_cons_succ] at s0 s1
  have HS1 := Lib.hid hs1
  have HS2 := Lib.hid hs2
  have HW := Lib.hid hW
  clear hW hs1 hs2
  go_enter Try.func11, Try.ntmps11
  go_wp2_with fail
  rw [← HW.out]
  go_wp2_with fail
  refine (HW1.out _ HbW.out).mono ?_
  rintro e w1 ⟨⟨b1, rfl⟩, hb⟩
  have T1 := HS1.out.below hb HS1.out.lt
  have T2 := HS2.out.below hb HS2.out.lt
  have HB1 := Lib.hid (HbW.out.trans (hb.mono HbW.out.size))
  have t0 := T2.cell 0
  have t1 := T2.cell 1
  have x0 := T1.cell 0
  have x1 := T1.cell 1
  have lt1 := T2.lt
  simp only [List.getElem?_toArray, List.getElem?_cons_zero, List.getElem?_cons_succ] at t0 t1 x0 x1
  have HT1 := Lib.hid T1
  have HT2 := Lib.hid T2
  clear hb T1 T2 HS1 HS2 s0 s1
  cases b1
  rotate_left
  · go_wp2_with fail
    refine (HR.out _).mono ?_
    rintro e w2 ⟨rfl, hb⟩
    go_wp2
    go_ret
    exact ⟨rfl, HB1.out.trans (hb.mono HB1.out.size)⟩
  · go_wp2_with fail
    refine (HW2.out _ HB1.out).mono ?_
    rintro e w2 ⟨⟨b2, rfl⟩, hb⟩
    have T1 := HT1.out.below hb HT1.out.lt
    have T2 := HT2.out.below hb HT2.out.lt
    have HB2 := Lib.hid (HB1.out.trans (hb.mono HB1.out.size))
    have t0 := T2.cell 0
    have t1 := T2.cell 1
    have x0 := T1.cell 0
    have x1 := T1.cell 1
    have lt2 := T2.lt
    simp only [List.getElem?_toArray, List.getElem?_cons_zero, List.getElem?_cons_succ] at t0 t1 x0 x1
    have HU1 := Lib.hid T1
    have HU2 := Lib.hid T2
    clear hb T1 T2 HT1 HT2
    cases b2
    rotate_left
    · go_wp2_with fail
      refine (HR.out _).mono ?_
      rintro e w3 ⟨rfl, hb⟩
      go_wp2
      go_ret
      exact ⟨rfl, HB2.out.trans (hb.mono HB2.out.size)⟩
    · rcases (show 60 < owner.length ∨ owner.length ≤ 60 ∧ 40 < owners ∧ owners ≤ 256 ∨ owner.length ≤ 60 ∧ owners ≤ 40 ∨ owner.length ≤ 60 ∧ 40 < owners ∧ 256 < owners by omega) with g1 | ⟨g1, g2, g3⟩ | ⟨g1, g2⟩ | ⟨g1, g2, g3⟩
      · go_wp2_with fail
        refine (HR.out _).mono ?_
        rintro e w3 ⟨rfl, hb⟩
        go_wp2
        go_ret
        exact ⟨rfl, HB2.out.trans (hb.mono HB2.out.size)⟩
      · go_wp2_with fail
        refine (HR.out _).mono ?_
        rintro e w3 ⟨rfl, hb⟩
        go_wp2
        go_ret
        exact ⟨rfl, HB2.out.trans (hb.mono HB2.out.size)⟩
      all_goals
        go_wp2_with fail
        refine (HL.out _ HB2.out).mono ?_
        rintro e w3 ⟨va, rfl, ha, hb⟩
        have T1 := HU1.out.below hb HU1.out.lt
        have T2 := HU2.out.below hb HU2.out.lt
        have HB3 := Lib.hid (HB2.out.trans (hb.mono HB2.out.size))
        have lt3 := T2.lt
        have lt3b := T1.lt
        have t0 := T2.cell 0
        have t1 := T2.cell 1
        have x0 := T1.cell 0
        have x1 := T1.cell 1
        simp only [List.getElem?_toArray, List.getElem?_cons_zero, List.getElem?_cons_succ] at t0 t1 x0 x1
        have HV1 := Lib.hid T1
        have HV2 := Lib.hid T2
        obtain ⟨Aa, ca, rfl⟩ := rows_form ha.1
        have HA := Lib.hid ha
        clear hb T1 T2 ha
        go_wp2_with fail
        refine (HM.out _ (HB3.out.alloc HB3.out.size _)).mono ?_
        rintro e w5 ⟨vb, rfl, hbv, hb⟩
        obtain ⟨Ab, cb, rfl⟩ := rows_form hbv.1
        have A4 := Blk.new w3 48 #[.int .i64 pl, .slice Aa rl'.length ca]
        have HB4 := HB3.out.alloc HB3.out.size (.cells #[.int .i64 pl, .slice Aa rl'.length ca] 48)
        have A5 := A4.below hb A4.lt
        have T1 := (HV1.out.alloc (.cells #[.int .i64 pl, .slice Aa rl'.length ca] 48)).below hb (by have := HV1.out.lt; simp; omega)
        have T2 := (HV2.out.alloc (.cells #[.int .i64 pl, .slice Aa rl'.length ca] 48)).below hb (by have := HV2.out.lt; simp; omega)
        have HRa := Lib.hid (show Rows w5 w5.heap.size (.slice Aa rl'.length ca) rl' from (HA.out.1.below ((below_alloc0 w3 _).trans (hb.mono (by simp)))).more (by have := hb.size; simp at this; omega))
        have HB5 := Lib.hid (HB4.trans (hb.mono HB4.size))
        have HRb := Lib.hid hbv.1
        have ltA := A5.lt
        have ltw : w.heap.size < w5.heap.size := T1.lt
        have lga : w.heap.size ≤ w3.heap.size := HB3.out.size
        have u0 := T1.cell 0
        have u1 := T1.cell 1
        have r0 := T2.cell 0
        have r1 := T2.cell 1
        have lt5 := T2.lt
        have a0 := A5.cell 0
        have a1 := A5.cell 1
        simp only [List.getElem?_toArray, List.getElem?_cons_zero, List.getElem?_cons_succ] at u0 u1 r0 r1 a0 a1
        have HX1 := Lib.hid T1
        have HX2 := Lib.hid T2
        have HXA := Lib.hid A5
        have hee : (el != el) = false := by simp
        have hje : (ej == ej) = true := by simp
        have HS := Lib.hid (samespec_any pl pl (.slice Aa rl'.length ca) (.slice Ab rl'.length cb) rl' rl' (w5.heap.size + 1) (w5.alloc (.cells #[.int .i64 pl, .slice Ab rl'.length cb] 48)) ((HRa.out.below (below_alloc0 w5 _)).more (by omega)) ((HRb.out.below (below_alloc0 w5 _)).more (by omega)) (by simp))
        rw [decide_eq_true ⟨rfl, rfl⟩] at HS
        clear hb T1 T2 A4 A5 HB4 hbv HV1 HV2 HA x0 x1 t0 t1
        go_wp2_with fail
        refine HS.out.mono ?_
        rintro e w7 ⟨rfl, hb⟩
        have lts : (w5.alloc (.cells #[.int .i64 pl, .slice Ab rl'.length cb] 48)).heap.size = w5.heap.size + 1 := by simp
        have T1 := (HX1.out.alloc (.cells #[.int .i64 pl, .slice Ab rl'.length cb] 48)).below hb (by omega)
        have T2 := (HX2.out.alloc (.cells #[.int .i64 pl, .slice Ab rl'.length cb] 48)).below hb (by omega)
        have A7 := (HXA.out.alloc (.cells #[.int .i64 pl, .slice Ab rl'.length cb] 48)).below hb (by omega)
        have B7 := (Blk.new w5 48 #[.int .i64 pl, .slice Ab rl'.length cb]).below hb (by omega)
        have HB6 := HB5.out.alloc HB5.out.size (.cells #[.int .i64 pl, .slice Ab rl'.length cb] 48)
        have HB7 := Lib.hid (HB6.trans (hb.mono HB6.size))
        have u0 := T1.cell 0
        have u1 := T1.cell 1
        have r0 := T2.cell 0
        have r1 := T2.cell 1
        simp only [List.getElem?_toArray, List.getElem?_cons_zero, List.getElem?_cons_succ] at u0 u1 r0 r1
        have lt71 := T1.lt
        have lt72 := T2.lt
        have HX1 := Lib.hid T1
        have HX2 := Lib.hid T2
        have HXA := Lib.hid A7
        have HXB := Lib.hid B7
        clear hb T1 T2 A7 B7 HB6 HS HRa HRb a0 a1
        go_wp2_with fail
        refine (HJ.out _ HB7.out).mono ?_
        rintro e w8 ⟨vc, rfl, hcv, hb⟩
        obtain ⟨Ac, cc, rfl⟩ := rows_form hcv.1
        have T1 := HX1.out.below hb HX1.out.lt
        have T2 := HX2.out.below hb HX2.out.lt
        have A8 := HXA.out.below hb HXA.out.lt
        have B8 := HXB.out.below hb HXB.out.lt
        have hga7 := HXA.out.lt
        have hgb7 := HXB.out.lt
        have HB8 := Lib.hid (HB7.out.trans (hb.mono HB7.out.size))
        have hz8 := hb.size
        have a0 := A8.cell 0
        have a1 := A8.cell 1
        have af0 := A8.frozen 0
        have af1 := A8.frozen 1
        have alt := A8.lt
        simp only [List.getElem?_toArray, List.getElem?_cons_zero, List.getElem?_cons_succ] at a0 a1
        obtain ⟨W9, hW9⟩ : ∃ W9, W9 = (w8.setCell ⟨w3.heap.size, 0, none⟩ (.int .i64 pj)).setCell ⟨w3.heap.size, 1, none⟩ (.slice Ac rj'.length cc) := ⟨_, rfl⟩
        have hne1 : w.heap.size ≠ w3.heap.size := by omega
        have hne2 : w.heap.size + 1 ≠ w3.heap.size := by omega
        have hne3 : w5.heap.size ≠ w3.heap.size := by omega
        have T19 : Blk W9 w.heap.size 48 #[.int .i64 p1, .slice A rows1.length c] := by rw [hW9]; exact (T1.far hne1 _).far hne1 _
        have T29 : Blk W9 (w.heap.size + 1) 48 #[.int .i64 p2, .slice A' rows2.length c'] := by rw [hW9]; exact (T2.far hne2 _).far hne2 _
        have A9 : Blk W9 w3.heap.size 48 #[.int .i64 pj, .slice Ac rj'.length cc] := by rw [hW9]; exact st2 A8 _ _
        have B9 : Blk W9 w5.heap.size 48 #[.int .i64 pl, .slice Ab rl'.length cb] := by rw [hW9]; exact (B8.far hne3 _).far hne3 _
        have HB9 := Lib.hid (show Below w.heap.size w W9 by rw [hW9]; exact below_st2 HB8.out (by omega) HB8.out.size _ _)
        have HO9 := Lib.hid (show OwnRows W9 w7.heap.size (.slice Ac rj'.length cc) rj' by
          rw [hW9]
          exact (hcv.2.kept (grown_setCell w8 ⟨w3.heap.size, 0, none⟩ (.int .i64 pj)) (by intro g e; simp at e; omega)).kept (grown_setCell _ ⟨w3.heap.size, 1, none⟩ (.slice Ac rj'.length cc)) (by intro g e; simp at e; omega))
        have HLn := Lib.hid (rows_lens hcv.1)
        have hs9 : W9.heap.size = w8.heap.size := by rw [hW9]; simp
        have HW9 := Lib.hid hW9
        have u0 := T19.cell 0
        have u1 := T19.cell 1
        have r0 := T29.cell 0
        have r1 := T29.cell 1
        simp only [List.getElem?_toArray, List.getElem?_cons_zero, List.getElem?_cons_succ] at u0 u1 r0 r1
        have HX1 := Lib.hid T19
        have HX2 := Lib.hid T29
        have HXA := Lib.hid A9
        have HXB := Lib.hid B9
        clear hb T1 T2 A8 B8 T19 T29 A9 B9 hW9 hcv
        rw [HW9.out] at u0 u1 r0 r1
        go_wp2_with fail
        refine (HK.out _ (by rw [← HW9.out]; exact HB9.out)).mono ?_
        rintro e w10 ⟨vd, rfl, hdv, hb⟩
        rw [← HW9.out] at hdv hb
        obtain ⟨Ad, cd, rfl⟩ := rows_form hdv.1
        have A10 := HXA.out.below hb HXA.out.lt
        have B10 := HXB.out.below hb HXB.out.lt
        have HB10 := Lib.hid (HB9.out.trans (hb.mono HB9.out.size))
        have b0 := B10.cell 0
        have b1 := B10.cell 1
        have bf0 := B10.frozen 0
        have bf1 := B10.frozen 1
        have blt := B10.lt
        have hz10 := hb.size
        simp only [List.getElem?_toArray, List.getElem?_cons_zero, List.getElem?_cons_succ] at b0 b1
        obtain ⟨W11, hW11⟩ : ∃ W11, W11 = (w10.setCell ⟨w5.heap.size, 0, none⟩ (.int .i64 pj)).setCell ⟨w5.heap.size, 1, none⟩ (.slice Ad rj'.length cd) := ⟨_, rfl⟩
        have A11 : Blk W11 w3.heap.size 48 #[.int .i64 pj, .slice Ac rj'.length cc] := by rw [hW11]; exact (A10.far (fun e => hne3 e.symm) _).far (fun e => hne3 e.symm) _
        have B11 : Blk W11 w5.heap.size 48 #[.int .i64 pj, .slice Ad rj'.length cd] := by rw [hW11]; exact st2 B10 _ _
        have HB11 := Lib.hid (show Below w.heap.size w W11 by rw [hW11]; exact below_st2 HB10.out (by omega) HB10.out.size _ _)
        have HOc := HO9.out.below hb (Nat.le_refl _)
        have hRc : Rows W11 W11.heap.size (.slice Ac rj'.length cc) rj' := by
          have h : OwnRows W11 w7.heap.size (.slice Ac rj'.length cc) rj' := by
            rw [hW11]
            exact (HOc.kept (grown_setCell w10 ⟨w5.heap.size, 0, none⟩ (.int .i64 pj)) (by intro g e; simp at e; omega)).kept (grown_setCell _ ⟨w5.heap.size, 1, none⟩ (.slice Ad rj'.length cd)) (by intro g e; simp at e; omega)
          exact h.reads HLn.out.1 HLn.out.2
        have hRd : Rows W11 W11.heap.size (.slice Ad rj'.length cd) rj' := by
          have h : OwnRows W11 W9.heap.size (.slice Ad rj'.length cd) rj' := by
            rw [hW11]
            exact (hdv.2.kept (grown_setCell w10 ⟨w5.heap.size, 0, none⟩ (.int .i64 pj)) (by intro g e; simp at e; omega)).kept (grown_setCell _ ⟨w5.heap.size, 1, none⟩ (.slice Ad rj'.length cd)) (by intro g e; simp at e; omega)
          exact h.reads HLn.out.1 HLn.out.2
        have HS := Lib.hid (samespec_any pj pj (.slice Ac rj'.length cc) (.slice Ad rj'.length cd) rj' rj' W11.heap.size W11 hRc hRd (Nat.le_refl _))
        rw [decide_eq_true ⟨rfl, rfl⟩] at HS
        have a0 := A11.cell 0
        have a1 := A11.cell 1
        have b0 := B11.cell 0
        have b1 := B11.cell 1
        simp only [List.getElem?_toArray, List.getElem?_cons_zero, List.getElem?_cons_succ] at a0 a1 b0 b1
        have HW11 := Lib.hid hW11
        clear hb A10 B10 A11 B11 hRc hRd HOc hdv hW11 HO9
        rw [HW11.out] at a0 a1 b0 b1
        rw [HW11.out] at HS
        go_wp2_with fail
        refine HS.out.mono ?_
        rintro e w12 ⟨rfl, hb⟩
        rw [← HW11.out] at hb
        have HB12 := Lib.hid (HB11.out.trans (hb.mono HB11.out.size))
        clear hb
        go_wp2_with fail
        refine (HR.out _).mono ?_
        rintro e w13 ⟨rfl, hb⟩
        go_wp2
        go_ret
        exact ⟨rfl, HB12.out.trans (hb.mono HB12.out.size)⟩
end Go.Proofs.Ytfpmbjobieeidaa
namespace Go.Proofs.Ytfpmbjobieeidaa
open Go.ChangeShapes Go.WideShapes Go.ChangeAt Go.RowKit Go.Joins

theorem ownBa : ownKnob Try.prog.godebug = none := by kernel_rfl

set_option maxRecDepth 100000 in
theorem rankBases_lifted (os : Os) (started : os.Started) (H : Type) (enc : TypeId × Value → H) :
    ReturnsInHanded {} Try.checked os 11 .any (Rows.rankBasesSpec.pre6 enc Try.prog Try.f11 Rows.rankBasesRow.domain false) (Rows.rankBasesSpec.post enc Try.prog Try.f11 false true false false) := by
  refine returnsInHanded_of_change_sized (C := Try.checked) ownBa started (by kernel_rfl) Try.func11
    (ChangeSpec.witness6 (enc := enc) (C := Try.checked) false ⟨#[], #[.agg #[.int .i64 0, .slice none 0 0], .agg #[.int .i64 0, .slice none 0 0], .slice none 0 0, .int .i64 0], []⟩ 8 (by kernel_rfl) (by kernel_rfl) (by kernel_rfl) (by kernel_rfl)) ?_
  intro W base args ds gs before hval0 hW _ hsz0 _
  have hsz : (DataW.weightsEach Try.prog (Try.f11.params.toList ++ Rows.rankBasesSpec.plain.varTypes Try.prog) (ds ++ gs)).all (· ≤ reachBytes) = true := hsz0
  have hval : ∀ (j : Nat) t v, Try.f11.params[j]? = some t → args[j]? = some v → Value.okWide Try.prog W .any base t v := hval0
  have hW' := hW
  obtain ⟨p, q, hA0, hV, rfl, hfz, hnd⟩ := hW
  have hA : DataW.TrodAll enc Try.prog W 0 (fun _ => true) true Try.f11.params.toList args.toList ds p := hA0
  rw [Try.params11] at hA hval hsz
  obtain ⟨v0, v1, v2, v3, e0, e1, e2, e3, p0, p1, p2, p3, rfl, rfl, rfl, h0, h1, h2, h3⟩ := trodAll_four hA
  have hpost := fun W' (hb : Below W.heap.size W W') => law_post (tb := 4) laidOut (by rw [Try.params11]; intro t ht; simp at ht; rcases ht with rfl | rfl | rfl | rfl <;> exact ⟨by kernel_rfl, of_decide_eq_true (by kernel_rfl)⟩) hW' rfl rfl Try.underlying4 (by kernel_rfl) hb
  obtain ⟨parts0, u0, rows0, rfl, rlo0, rhi0, hr0⟩ := open_spec (hval 0 48 v0 rfl rfl) h0 (sized_one hsz (j := 0) rfl rfl)
  obtain ⟨parts1, u1, rows1, rfl, rlo1, rhi1, hr1⟩ := open_spec (hval 1 48 v1 rfl rfl) h1 (sized_one hsz (j := 1) rfl rfl)
  obtain ⟨xs2, hs2⟩ := open_set h2 (sized_one hsz (j := 2) rfl rfl) (okWide_slice Try.underlying37 (hval 2 37 v2 rfl rfl))
  obtain ⟨k3, rfl, -, -, w3⟩ := open_int Try.underlying3 (hval 3 3 v3 rfl rfl) h3
  have rk3 := i64_of_wf w3
  refine (rankBases_any parts0 u0 rows0 parts1 u1 rows1 v2 xs2 k3 W.heap.size W hr0 hr1 hs2 (Nat.le_refl _)).mono fun r W' ⟨he, hb⟩ => ?_
  subst he
  exact ⟨_, rfl, hpost W' hb⟩

theorem rankBases_holds : Rows.RankBasesSaid :=
  OpenClaim.holds_of_wide 11 Try.f11 rfl rfl rfl rfl rfl rfl rfl ⟨rfl, rfl, rfl, rfl, rfl⟩ rfl rfl rfl rfl rfl (by kernel_rfl) Try.func11 (by kernel_rfl)
    (of_decide_eq_true (by kernel_rfl)) (by unfold Func.isWrapper; first | (rw [if_pos (by decide +kernel)]; kernel_rfl) | (rw [if_neg (by decide +kernel)]; exact ⟨rfl, rfl⟩))
    (fun os started H enc _ => rankBases_lifted os started H enc)
#print axioms rankBases_holds
end Go.Proofs.Ytfpmbjobieeidaa
