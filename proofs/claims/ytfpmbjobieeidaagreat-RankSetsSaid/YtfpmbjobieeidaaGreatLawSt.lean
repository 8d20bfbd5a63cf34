/-
  What RankSets computes: true, for every input, no memory of the caller changed.
  RankSets holds, for every input: the row.
-/
import Derived.Test.YtfpmbjobieeidaaGreatBlameR
import Derived.Test.YtfpmbjobieeidaaGreatSusp
import Derived.Test.YtfpmbjobieeidaaGreatRSets
import Derived.Test.YtfpmbjobieeidaaGreatRSmall
import Derived.Test.YtfpmbjobieeidaaGreatWide
import Derived.Test.YtfpmbjobieeidaaGreatExam
import Derived.Test.YtfpmbjobieeidaaGreatBw
import Derived.Test.YtfpmbjobieeidaaGreatOpen
import Derived.Lib.SmallJoins
namespace Go.Proofs.YtfpmbjobieeidaaGreat
open Go.RowKit

theorem al1s (w : World) (o : Obj) : Below w.heap.size w (w.alloc o) := (Below.refl _ w).alloc (Nat.le_refl _) o
theorem sets_yes (u v : Value) (L : List (List Int)) (B : Nat) (w : World) (hu : Sets w B u L) (hv : Sets w B v L) :
    Calls Tryz.prog 16 #[u, v] w fun e w' => e = .returned (.bool true) ∧ Below w.heap.size w w' :=
  (rsets_any u v L L B w hu hv).mono fun e w' ⟨h, n, hn⟩ => ⟨by rw [h, decide_eq_true rfl], by rw [hn]; exact below_drewN (Below.refl _ _) n⟩
theorem ints_yes (u v : Value) (L : List Int) (B : Nat) (w : World) (hu : Ints w B u L) (hv : Ints w B v L) :
    Calls Tryz.prog 32 #[u, v] w fun e w' => e = .returned (.bool true) ∧ Below w.heap.size w w' :=
  (ints_any u v L L B w hu hv).mono fun e w' ⟨h, n, hn⟩ => ⟨by rw [h, decide_eq_true rfl], by rw [hn]; exact below_drewN (Below.refl _ _) n⟩

set_option maxRecDepth 100000 in
set_option maxHeartbeats 2000000 in
theorem rankSets_any (u : Value) (xss : List (List Int)) (size : Int) (parts : Int) (v : Value) (rows : List RowL) (B : Nat) (w : World) (hu : Sets w B u xss) (hv : Rows w B v rows) (hB : B ≤ w.heap.size) :
    Calls Tryz.prog 4 #[u, .int .i64 size, .agg #[.int .i64 parts, v]] w fun e w' => e = .returned (.bool true) ∧ Below w.heap.size w w' := by
  have HR := Lib.hid ranks_any
  have HBg := Lib.hid (fun (u : Value) (xss : List (List Int)) (B : Nat) W (hu : Sets W B u xss) => (big_any u xss size B W hu).mono (fun e w' ⟨h, hw⟩ => (⟨h, by rw [← hw]; exact Below.refl _ _⟩ : AnyBool e ∧ Below W.heap.size W w')))
  have HBg1 := Lib.hid (fun W (hb : Below w.heap.size w W) => HBg.out u xss B W (hu.below (hb.mono hB)))
  have HWd := Lib.hid (fun W (hb : Below w.heap.size w W) => wide_any parts v rows B W (hv.below (hb.mono hB)) (by have := hb.size; omega))
  have HS1 := Lib.hid (fun W (hb : Below w.heap.size w W) => smallestE_any u xss B W (hu.below (hb.mono hB)) (by have := hb.size; omega))
  have HS2 := Lib.hid (fun W (hb : Below w.heap.size w W) => rsmallestE_any u xss B W (hu.below (hb.mono hB)) (by have := hb.size; omega))
  have HD1 := Lib.hid (fun W (hb : Below w.heap.size w W) => (checksets_any u xss B W (hu.below (hb.mono hB))).mono (fun (e : Ending) w' ⟨h, hw⟩ => (⟨h, by rw [← hw]; exact Below.refl _ _⟩ : e = Ending.returned (.int .i64 (setsErr xss)) ∧ Below W.heap.size W w')))
  have HD2 := Lib.hid (fun W (hb : Below w.heap.size w W) => (rchecksets_any u xss B W (hu.below (hb.mono hB))).mono (fun (e : Ending) w' ⟨h, n, hw⟩ => (⟨h, by rw [hw]; exact below_drewN (Below.refl _ _) n⟩ : e = Ending.returned (.int .i64 (setsErr xss)) ∧ Below W.heap.size W w')))
  have HH1 := Lib.hid (fun W (hb : Below w.heap.size w W) => hit_any u xss size B W (hu.below (hb.mono hB)) (by have := hb.size; omega))
  have HH2 := Lib.hid (fun W (hb : Below w.heap.size w W) => rhit_any u xss size B W (hu.below (hb.mono hB)) (by have := hb.size; omega))
  have HC1 := Lib.hid (fun W (hb : Below w.heap.size w W) => confl_any parts v rows B W (hv.below (hb.mono hB)) (by have := hb.size; omega))
  have HC2 := Lib.hid (fun W (hb : Below w.heap.size w W) => rconfl_any parts v rows B W (hv.below (hb.mono hB)) (by have := hb.size; omega))
  have HU1 := Lib.hid (fun W (hb : Below w.heap.size w W) => susp_any parts v rows size B W (hv.below (hb.mono hB)) (by have := hb.size; omega))
  have HU2 := Lib.hid (fun W (hb : Below w.heap.size w W) => rsusp_any parts v rows size B W (hv.below (hb.mono hB)) (by have := hb.size; omega))
  have HL1 := Lib.hid (fun W (hb : Below w.heap.size w W) => blame_any parts v rows u xss B W (hv.below (hb.mono hB)) (hu.below (hb.mono hB)) (by have := hb.size; omega))
  have HL2 := Lib.hid (fun W (hb : Below w.heap.size w W) => rblame_any parts v rows u xss B W (hv.below (hb.mono hB)) (hu.below (hb.mono hB)) (by have := hb.size; omega))
  unfold SmlPost at HS1 HS2
  unfold HitPost at HH1 HH2
  unfold CnfPost at HC1 HC2
  unfold SusPost at HU1 HU2
  unfold BlmPost at HL1 HL2
  obtain ⟨A, c, vs, rfl, j1, j2, j3, j4⟩ := hv
  obtain ⟨Ax, cx, vx, rfl, k1, k2, k3, k4⟩ := hu
  clear j1 j2 j3 j4 k1 k2 k3 k4 hB
  generalize (if setsErr xss = 0 then Rk.smallest xss else []) = smL at *
  generalize (if specErr parts rows = 0 then Rk.smallest (Rk.failsL rows) else []) = cnL at *
  generalize Rk.hitErr (setsErr xss) (Rk.hitRun (Rk.smallest xss) size).1 size = hE at *
  generalize Rk.sortSets (Rk.hitRun (Rk.smallest xss) size).2 = hiL at *
  generalize setsErr xss = sE at *
  generalize specErr parts rows = cE at *
  generalize susErr parts rows size = uE at *
  generalize susOf parts rows size = usL at *
  generalize blmErr parts rows xss = bE at *
  generalize blmOf parts rows xss = blL at *
  go_enter Tryz.func4, Tryz.ntmps4
  go_wp2_with fail
  refine (HBg1.out _ (al1s _ _)).mono ?_
  rintro e w1 ⟨⟨b0, rfl⟩, hb⟩
  have HS1' := Lib.hid ((Blk.new w _ _).below hb (by simp) : Blk w1 w.heap.size 24 #[.int .i64 parts, .slice A rows.length c])
  have HB1 := Lib.hid (below_x' (al1s w _) hb)
  clear hb HBg1
  have HSm1 := HS1
  have HSm2 := HS2
  clear HS1 HS2
  have HS1 := HS1'
  clear HS1'
  have lt1 := HS1.out.lt
  have s0 := HS1.out.cell 0
  have s1 := HS1.out.cell 1
  simp only [List.getElem?_toArray, List.getElem?_cons_zero, List.getElem?_cons_succ] at s0 s1
  cases b0
  rotate_left
  · skip
    go_wp2_with fail
    refine (HR.out _).mono ?_
    rintro e wz ⟨rfl, hb⟩
    go_wp2
    go_ret
    exact ⟨rfl, below_x' HB1.out hb⟩
  go_wp2_with fail
  refine (HWd.out _ HB1.out).mono ?_
  rintro e w2 ⟨⟨b0, rfl⟩, hb⟩
  have HS2 := Lib.hid (HS1.out.below hb HS1.out.lt)
  have HB2 := Lib.hid (below_x' HB1.out hb)
  clear s0 s1 lt1
  have lt2 := HS2.out.lt
  have s0 := HS2.out.cell 0
  have s1 := HS2.out.cell 1
  simp only [List.getElem?_toArray, List.getElem?_cons_zero, List.getElem?_cons_succ] at s0 s1
  clear hb HWd HS1
  cases b0
  rotate_left
  · skip
    go_wp2_with fail
    refine (HR.out _).mono ?_
    rintro e wz ⟨rfl, hb⟩
    go_wp2
    go_ret
    exact ⟨rfl, below_x' HB2.out hb⟩
  go_wp2_with fail
  refine (HSm1.out _ HB2.out).mono ?_
  rintro e w3 ⟨va, rfl, hva, hb⟩
  have HS3 := Lib.hid (HS2.out.below hb HS2.out.lt)
  have HB3 := Lib.hid (below_x' HB2.out hb)
  clear s0 s1 lt2
  have lt3 := HS3.out.lt
  have s0 := HS3.out.cell 0
  have s1 := HS3.out.cell 1
  simp only [List.getElem?_toArray, List.getElem?_cons_zero, List.getElem?_cons_succ] at s0 s1
  have HVa := Lib.hid hva
  clear hb hva HSm1 HS2
  go_wp2_with fail
  refine (HSm2.out _ HB3.out).mono ?_
  rintro e w4 ⟨vb, rfl, hvb, hb⟩
  have HS4 := Lib.hid (HS3.out.below hb HS3.out.lt)
  have HB4 := Lib.hid (below_x' HB3.out hb)
  clear s0 s1 lt3
  have lt4 := HS4.out.lt
  have s0 := HS4.out.cell 0
  have s1 := HS4.out.cell 1
  simp only [List.getElem?_toArray, List.getElem?_cons_zero, List.getElem?_cons_succ] at s0 s1
  have HVb := Lib.hid hvb
  have HRS := Lib.hid (sets_yes va vb smL w4.heap.size w4 ((HVa.out.below hb).more hb.size) hvb)
  clear hb hvb HSm2 HVa HS3
  go_wp2_with fail
  refine HRS.out.mono ?_
  rintro e w5 ⟨rfl, hb⟩
  have HS5 := Lib.hid (HS4.out.below hb HS4.out.lt)
  have HB5 := Lib.hid (below_x' HB4.out hb)
  clear s0 s1 lt4
  have lt5 := HS5.out.lt
  have s0 := HS5.out.cell 0
  have s1 := HS5.out.cell 1
  simp only [List.getElem?_toArray, List.getElem?_cons_zero, List.getElem?_cons_succ] at s0 s1
  have HVb2 := Lib.hid ((HVb.out.below hb).more hb.size)
  clear HVb
  have HVb := HVb2
  clear HVb2
  clear HRS HS4 hb
  go_wp2_with fail
  refine (HD1.out _ HB5.out).mono ?_
  rintro e w6 ⟨rfl, hb⟩
  have HS6 := Lib.hid (HS5.out.below hb HS5.out.lt)
  have HB6 := Lib.hid (below_x' HB5.out hb)
  clear s0 s1 lt5
  have lt6 := HS6.out.lt
  have s0 := HS6.out.cell 0
  have s1 := HS6.out.cell 1
  simp only [List.getElem?_toArray, List.getElem?_cons_zero, List.getElem?_cons_succ] at s0 s1
  clear hb HD1 HS5
  go_wp2_with fail
  refine (HD2.out _ HB6.out).mono ?_
  rintro e w7 ⟨rfl, hb⟩
  have HS7 := Lib.hid (HS6.out.below hb HS6.out.lt)
  have HB7 := Lib.hid (below_x' HB6.out hb)
  clear s0 s1 lt6
  have lt7 := HS7.out.lt
  have s0 := HS7.out.cell 0
  have s1 := HS7.out.cell 1
  simp only [List.getElem?_toArray, List.getElem?_cons_zero, List.getElem?_cons_succ] at s0 s1
  clear hb HD2 HS6 HVb
  go_wp2_with fail
  refine (HH1.out _ HB7.out).mono ?_
  rintro e w8 ⟨va, err, l, rfl, hva, hb, rfl, rfl⟩
  have HS8 := Lib.hid (HS7.out.below hb HS7.out.lt)
  have HB8 := Lib.hid (below_x' HB7.out hb)
  clear s0 s1 lt7
  have lt8 := HS8.out.lt
  have s0 := HS8.out.cell 0
  have s1 := HS8.out.cell 1
  simp only [List.getElem?_toArray, List.getElem?_cons_zero, List.getElem?_cons_succ] at s0 s1
  have HVa := Lib.hid hva
  clear hb hva HH1 HS7
  go_wp2_with fail
  refine (HH2.out _ HB8.out).mono ?_
  rintro e w9 ⟨vb, err, l, rfl, hvb, hb, rfl, rfl⟩
  have HS9 := Lib.hid (HS8.out.below hb HS8.out.lt)
  have HB9 := Lib.hid (below_x' HB8.out hb)
  clear s0 s1 lt8
  have lt9 := HS9.out.lt
  have s0 := HS9.out.cell 0
  have s1 := HS9.out.cell 1
  simp only [List.getElem?_toArray, List.getElem?_cons_zero, List.getElem?_cons_succ] at s0 s1
  have HVb := Lib.hid hvb
  have HRS := Lib.hid (sets_yes va vb _ w9.heap.size w9 ((HVa.out.below hb).more hb.size) hvb)
  clear hb hvb HH2 HVa HS8
  go_wp2_with fail
  refine HRS.out.mono ?_
  rintro e w10 ⟨rfl, hb⟩
  have HS10 := Lib.hid (HS9.out.below hb HS9.out.lt)
  have HB10 := Lib.hid (below_x' HB9.out hb)
  clear s0 s1 lt9
  have lt10 := HS10.out.lt
  have s0 := HS10.out.cell 0
  have s1 := HS10.out.cell 1
  simp only [List.getElem?_toArray, List.getElem?_cons_zero, List.getElem?_cons_succ] at s0 s1
  have HVb2 := Lib.hid ((HVb.out.below hb).more hb.size)
  clear HVb
  have HVb := HVb2
  clear HVb2
  clear HRS HS9 hb
  clear HVb
  go_wp2_with fail
  refine (HC1.out _ HB10.out).mono ?_
  rintro e w11 ⟨va, rfl, hva, hb⟩
  have HS11 := Lib.hid (HS10.out.below hb HS10.out.lt)
  have HB11 := Lib.hid (below_x' HB10.out hb)
  clear s0 s1 lt10
  have lt11 := HS11.out.lt
  have s0 := HS11.out.cell 0
  have s1 := HS11.out.cell 1
  simp only [List.getElem?_toArray, List.getElem?_cons_zero, List.getElem?_cons_succ] at s0 s1
  have HVa := Lib.hid hva
  clear hb hva HC1 HS10
  go_wp2_with fail
  refine (HC2.out _ HB11.out).mono ?_
  rintro e w12 ⟨vb, rfl, hvb, hb⟩
  have HS12 := Lib.hid (HS11.out.below hb HS11.out.lt)
  have HB12 := Lib.hid (below_x' HB11.out hb)
  clear s0 s1 lt11
  have lt12 := HS12.out.lt
  have s0 := HS12.out.cell 0
  have s1 := HS12.out.cell 1
  simp only [List.getElem?_toArray, List.getElem?_cons_zero, List.getElem?_cons_succ] at s0 s1
  have HVb := Lib.hid hvb
  have HRS := Lib.hid (sets_yes va vb cnL w12.heap.size w12 ((HVa.out.below hb).more hb.size) hvb)
  clear hb hvb HC2 HVa HS11
  go_wp2_with fail
  refine HRS.out.mono ?_
  rintro e w13 ⟨rfl, hb⟩
  have HS13 := Lib.hid (HS12.out.below hb HS12.out.lt)
  have HB13 := Lib.hid (below_x' HB12.out hb)
  clear s0 s1 lt12
  have lt13 := HS13.out.lt
  have s0 := HS13.out.cell 0
  have s1 := HS13.out.cell 1
  simp only [List.getElem?_toArray, List.getElem?_cons_zero, List.getElem?_cons_succ] at s0 s1
  have HVb2 := Lib.hid ((HVb.out.below hb).more hb.size)
  clear HVb
  have HVb := HVb2
  clear HVb2
  clear HRS HS12 hb
  by_cases hz : cE = 0
  · subst hz
    go_wp2_with fail
    refine (HBg.out vb cnL _ _ HVb.out).mono ?_
    rintro e w14 ⟨⟨b0, rfl⟩, hb⟩
    have HS14 := Lib.hid (HS13.out.below hb HS13.out.lt)
    have HB14 := Lib.hid (below_x' HB13.out hb)
    clear s0 s1 lt13
    have lt14 := HS14.out.lt
    have s0 := HS14.out.cell 0
    have s1 := HS14.out.cell 1
    simp only [List.getElem?_toArray, List.getElem?_cons_zero, List.getElem?_cons_succ] at s0 s1
    clear hb HBg HS13 HVb
    cases b0
    rotate_left
    · skip
      go_wp2_with fail
      refine (HR.out _).mono ?_
      rintro e wz ⟨rfl, hb⟩
      go_wp2
      go_ret
      exact ⟨rfl, below_x' HB14.out hb⟩
    go_wp2_with fail
    refine (HU1.out _ HB14.out).mono ?_
    rintro e w15 ⟨va, rfl, hva, hb⟩
    have HS15 := Lib.hid (HS14.out.below hb HS14.out.lt)
    have HB15 := Lib.hid (below_x' HB14.out hb)
    clear s0 s1 lt14
    have lt15 := HS15.out.lt
    have s0 := HS15.out.cell 0
    have s1 := HS15.out.cell 1
    simp only [List.getElem?_toArray, List.getElem?_cons_zero, List.getElem?_cons_succ] at s0 s1
    have HVa := Lib.hid hva
    clear hb hva HU1 HS14
    go_wp2_with fail
    refine (HU2.out _ HB15.out).mono ?_
    rintro e w16 ⟨vb, rfl, hvb, hb⟩
    have HS16 := Lib.hid (HS15.out.below hb HS15.out.lt)
    have HB16 := Lib.hid (below_x' HB15.out hb)
    clear s0 s1 lt15
    have lt16 := HS16.out.lt
    have s0 := HS16.out.cell 0
    have s1 := HS16.out.cell 1
    simp only [List.getElem?_toArray, List.getElem?_cons_zero, List.getElem?_cons_succ] at s0 s1
    have HVb := Lib.hid hvb
    have HRS := Lib.hid (sets_yes va vb usL w16.heap.size w16 ((HVa.out.below hb).more hb.size) hvb)
    clear hb hvb HU2 HVa HS15
    go_wp2_with fail
    refine HRS.out.mono ?_
    rintro e w17 ⟨rfl, hb⟩
    have HS17 := Lib.hid (HS16.out.below hb HS16.out.lt)
    have HB17 := Lib.hid (below_x' HB16.out hb)
    clear s0 s1 lt16
    have lt17 := HS17.out.lt
    have s0 := HS17.out.cell 0
    have s1 := HS17.out.cell 1
    simp only [List.getElem?_toArray, List.getElem?_cons_zero, List.getElem?_cons_succ] at s0 s1
    have HVb2 := Lib.hid ((HVb.out.below hb).more hb.size)
    clear HVb
    have HVb := HVb2
    clear HVb2
    clear HRS HS16 hb
    clear HVb
    go_wp2_with fail
    refine (HL1.out _ HB17.out).mono ?_
    rintro e w18 ⟨va, rfl, hva, hb⟩
    have HS18 := Lib.hid (HS17.out.below hb HS17.out.lt)
    have HB18 := Lib.hid (below_x' HB17.out hb)
    clear s0 s1 lt17
    have lt18 := HS18.out.lt
    have s0 := HS18.out.cell 0
    have s1 := HS18.out.cell 1
    simp only [List.getElem?_toArray, List.getElem?_cons_zero, List.getElem?_cons_succ] at s0 s1
    have HVa := Lib.hid hva
    clear hb hva HL1 HS17
    go_wp2_with fail
    refine (HL2.out _ HB18.out).mono ?_
    rintro e w19 ⟨vb, rfl, hvb, hb⟩
    have HS19 := Lib.hid (HS18.out.below hb HS18.out.lt)
    have HB19 := Lib.hid (below_x' HB18.out hb)
    clear s0 s1 lt18
    have lt19 := HS19.out.lt
    have s0 := HS19.out.cell 0
    have s1 := HS19.out.cell 1
    simp only [List.getElem?_toArray, List.getElem?_cons_zero, List.getElem?_cons_succ] at s0 s1
    have HRI := Lib.hid (ints_yes va vb blL w19.heap.size w19 ((HVa.out.below hb).more hb.size) hvb)
    clear hb hvb HL2 HVa HS18
    go_wp2_with fail
    refine HRI.out.mono ?_
    rintro e w20 ⟨rfl, hb⟩
    have HS20 := Lib.hid (HS19.out.below hb HS19.out.lt)
    have HB20 := Lib.hid (below_x' HB19.out hb)
    clear s0 s1 lt19
    have lt20 := HS20.out.lt
    have s0 := HS20.out.cell 0
    have s1 := HS20.out.cell 1
    simp only [List.getElem?_toArray, List.getElem?_cons_zero, List.getElem?_cons_succ] at s0 s1
    clear hb HRI HS19
    go_wp2_with fail
    refine (HR.out _).mono ?_
    rintro e wz ⟨rfl, hb⟩
    go_wp2
    go_ret
    exact ⟨rfl, below_x' HB20.out hb⟩
  · have hz2 : (cE == 0) = false := by simpa using hz
    clear hz HBg HVb
    go_wp2_with fail
    refine (HU1.out _ HB13.out).mono ?_
    rintro e w14 ⟨va, rfl, hva, hb⟩
    have HS14 := Lib.hid (HS13.out.below hb HS13.out.lt)
    have HB14 := Lib.hid (below_x' HB13.out hb)
    clear s0 s1 lt13
    have lt14 := HS14.out.lt
    have s0 := HS14.out.cell 0
    have s1 := HS14.out.cell 1
    simp only [List.getElem?_toArray, List.getElem?_cons_zero, List.getElem?_cons_succ] at s0 s1
    have HVa := Lib.hid hva
    clear hb hva HU1 HS13
    go_wp2_with fail
    refine (HU2.out _ HB14.out).mono ?_
    rintro e w15 ⟨vb, rfl, hvb, hb⟩
    have HS15 := Lib.hid (HS14.out.below hb HS14.out.lt)
    have HB15 := Lib.hid (below_x' HB14.out hb)
    clear s0 s1 lt14
    have lt15 := HS15.out.lt
    have s0 := HS15.out.cell 0
    have s1 := HS15.out.cell 1
    simp only [List.getElem?_toArray, List.getElem?_cons_zero, List.getElem?_cons_succ] at s0 s1
    have HVb := Lib.hid hvb
    have HRS := Lib.hid (sets_yes va vb usL w15.heap.size w15 ((HVa.out.below hb).more hb.size) hvb)
    clear hb hvb HU2 HVa HS14
    go_wp2_with fail
    refine HRS.out.mono ?_
    rintro e w16 ⟨rfl, hb⟩
    have HS16 := Lib.hid (HS15.out.below hb HS15.out.lt)
    have HB16 := Lib.hid (below_x' HB15.out hb)
    clear s0 s1 lt15
    have lt16 := HS16.out.lt
    have s0 := HS16.out.cell 0
    have s1 := HS16.out.cell 1
    simp only [List.getElem?_toArray, List.getElem?_cons_zero, List.getElem?_cons_succ] at s0 s1
    have HVb2 := Lib.hid ((HVb.out.below hb).more hb.size)
    clear HVb
    have HVb := HVb2
    clear HVb2
    clear HRS HS15 hb
    clear HVb
    go_wp2_with fail
    refine (HL1.out _ HB16.out).mono ?_
    rintro e w17 ⟨va, rfl, hva, hb⟩
    have HS17 := Lib.hid (HS16.out.below hb HS16.out.lt)
    have HB17 := Lib.hid (below_x' HB16.out hb)
    clear s0 s1 lt16
    have lt17 := HS17.out.lt
    have s0 := HS17.out.cell 0
    have s1 := HS17.out.cell 1
    simp only [List.getElem?_toArray, List.getElem?_cons_zero, List.getElem?_cons_succ] at s0 s1
    have HVa := Lib.hid hva
    clear hb hva HL1 HS16
    go_wp2_with fail
    refine (HL2.out _ HB17.out).mono ?_
    rintro e w18 ⟨vb, rfl, hvb, hb⟩
    have HS18 := Lib.hid (HS17.out.below hb HS17.out.lt)
    have HB18 := Lib.hid (below_x' HB17.out hb)
    clear s0 s1 lt17
    have lt18 := HS18.out.lt
    have s0 := HS18.out.cell 0
    have s1 := HS18.out.cell 1
    simp only [List.getElem?_toArray, List.getElem?_cons_zero, List.getElem?_cons_succ] at s0 s1
    have HRI := Lib.hid (ints_yes va vb blL w18.heap.size w18 ((HVa.out.below hb).more hb.size) hvb)
    clear hb hvb HL2 HVa HS17
    go_wp2_with fail
    refine HRI.out.mono ?_
    rintro e w19 ⟨rfl, hb⟩
    have HS19 := Lib.hid (HS18.out.below hb HS18.out.lt)
    have HB19 := Lib.hid (below_x' HB18.out hb)
    clear s0 s1 lt18
    have lt19 := HS19.out.lt
    have s0 := HS19.out.cell 0
    have s1 := HS19.out.cell 1
    simp only [List.getElem?_toArray, List.getElem?_cons_zero, List.getElem?_cons_succ] at s0 s1
    clear hb HRI HS18
    go_wp2_with fail
    refine (HR.out _).mono ?_
    rintro e wz ⟨rfl, hb⟩
    go_wp2
    go_ret
    exact ⟨rfl, below_x' HB19.out hb⟩
end Go.Proofs.YtfpmbjobieeidaaGreat
namespace Go.Proofs.YtfpmbjobieeidaaGreat
open Go.ChangeShapes Go.WideShapes Go.ChangeAt Go.RowKit Go.Joins

theorem ownSt : ownKnob Tryz.prog.godebug = none := by kernel_rfl

set_option maxRecDepth 100000 in
theorem rankSets_lifted (os : Os) (started : os.Started) (H : Type) (enc : TypeId × Value → H) :
    ReturnsInHanded {} Tryz.checked os 4 .any (Rows.rankSetsSpec.pre6 enc Tryz.prog Tryz.f4 Rows.rankSetsRow.domain false) (Rows.rankSetsSpec.post enc Tryz.prog Tryz.f4 false true false false) := by
  refine returnsInHanded_of_change_sized (C := Tryz.checked) ownSt started (by kernel_rfl) Tryz.func4
    (ChangeSpec.witness6 (enc := enc) (C := Tryz.checked) false ⟨#[], #[.slice none 0 0, .int .i64 0, .agg #[.int .i64 0, .slice none 0 0]], []⟩ 8 (by kernel_rfl) (by kernel_rfl) (by kernel_rfl) (by kernel_rfl)) ?_
  intro W base args ds gs before hval0 hW _ hsz0 _
  have hsz : (DataW.weightsEach Tryz.prog (Tryz.f4.params.toList ++ Rows.rankSetsSpec.plain.varTypes Tryz.prog) (ds ++ gs)).all (· ≤ reachBytes) = true := hsz0
  have hval : ∀ (j : Nat) t v, Tryz.f4.params[j]? = some t → args[j]? = some v → Value.okWide Tryz.prog W .any base t v := hval0
  have hW' := hW
  obtain ⟨p, q, hA0, hV, rfl, hfz, hnd⟩ := hW
  have hA : DataW.TrodAll enc Tryz.prog W 0 (fun _ => true) true Tryz.f4.params.toList args.toList ds p := hA0
  rw [Tryz.params4] at hA hval hsz
  obtain ⟨v0, v1, v2, e0, e1, e2, p0, p1, p2, rfl, rfl, rfl, h0, h1, h2⟩ := trodAll_three hA
  have hpost := fun W' (hb : Below W.heap.size W W') => law_post (tb := 4) laidOut (by rw [Tryz.params4]; intro t ht; simp at ht; rcases ht with rfl | rfl | rfl <;> exact ⟨by kernel_rfl, of_decide_eq_true (by kernel_rfl)⟩) hW' rfl rfl Tryz.underlying4 (by kernel_rfl) hb
  obtain ⟨xss0, hs0⟩ := open_sets h0 (sized_one hsz (j := 0) rfl rfl) (okWide_slice Tryz.underlying40 (hval 0 40 v0 rfl rfl))
  obtain ⟨k1, rfl, -, -, w1⟩ := open_int Tryz.underlying3 (hval 1 3 v1 rfl rfl) h1
  have rk1 := i64_of_wf w1
  obtain ⟨parts2, u2, rows2, rfl, rlo2, rhi2, hr2⟩ := open_spec (hval 2 24 v2 rfl rfl) h2 (sized_one hsz (j := 2) rfl rfl)
  refine (rankSets_any v0 xss0 k1 parts2 u2 rows2 W.heap.size W hs0 hr2 (Nat.le_refl _)).mono fun r W' ⟨he, hb⟩ => ?_
  subst he
  exact ⟨_, rfl, hpost W' hb⟩

theorem rankSets_holds : Rows.RankSetsSaid :=
  OpenClaim.holds_of_wide 4 Tryz.f4 rfl rfl rfl rfl rfl rfl rfl ⟨rfl, rfl, rfl, rfl, rfl⟩ rfl rfl rfl rfl rfl (by kernel_rfl) Tryz.func4 (by kernel_rfl)
    (of_decide_eq_true (by kernel_rfl)) (by unfold Func.isWrapper; first | (rw [if_pos (by decide +kernel)]; kernel_rfl) | (rw [if_neg (by decide +kernel)]; exact ⟨rfl, rfl⟩))
    (fun os started H enc _ => rankSets_lifted os started H enc)
#print axioms rankSets_holds
end Go.Proofs.YtfpmbjobieeidaaGreat
