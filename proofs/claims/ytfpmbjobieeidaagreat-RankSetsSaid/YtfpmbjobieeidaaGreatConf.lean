/-
  The walks of conflicts, Conflicts and of the reference's Conflicts.
-/
import Derived.Test.YtfpmbjobieeidaaGreatRSmall
import Derived.Test.YtfpmbjobieeidaaGreatSpec
import Derived.Test.YtfpmbjobieeidaaGreatWide
namespace Go.Proofs.YtfpmbjobieeidaaGreat
open Go.RowKit

/-- What the failing rows cover. -/
def Rk.failsL (rows : List RowL) : List (List Int) := (rows.filter fun r => r.2).map fun r => r.1
theorem Rk.failsL_yes {rows : List RowL} {k : Nat} (hk : k < rows.length) (h : (Rk.rowAt rows k).2 = true) : Rk.failsL (rows.take (k + 1)) = Rk.failsL (rows.take k) ++ [(Rk.rowAt rows k).1] := by
  unfold Rk.failsL Rk.rowAt at *
  rw [List.getD_eq_getElem?_getD, List.getElem?_eq_getElem hk] at *
  simp only [Option.getD_some] at *
  rw [List.take_succ_eq_append_getElem hk, List.filter_append, List.map_append, List.filter_cons_of_pos h]
  rfl
theorem Rk.failsL_no {rows : List RowL} {k : Nat} (hk : k < rows.length) (h : (Rk.rowAt rows k).2 = false) : Rk.failsL (rows.take (k + 1)) = Rk.failsL (rows.take k) := by
  unfold Rk.failsL Rk.rowAt at *
  rw [List.getD_eq_getElem?_getD, List.getElem?_eq_getElem hk] at h
  rw [List.take_succ_eq_append_getElem hk, List.filter_append, List.map_append, List.filter_cons_of_neg (by simpa using h)]
  simp
theorem Rk.failsL_len (rows : List RowL) : (Rk.failsL rows).length ≤ rows.length := by
  unfold Rk.failsL
  rw [List.length_map]
  exact List.length_filter_le _ _
theorem Rk.failsL_mem {rows : List RowL} {s : List Int} (h : s ∈ Rk.failsL rows) : ∃ i, i < rows.length ∧ (Rk.rowAt rows i).1 = s := by
  unfold Rk.failsL at h
  obtain ⟨r, hr, rfl⟩ := List.mem_map.1 h
  obtain ⟨i, hi, e⟩ := List.mem_iff_getElem.1 (List.mem_filter.1 hr).1
  exact ⟨i, hi, by unfold Rk.rowAt; rw [List.getD_eq_getElem?_getD, List.getElem?_eq_getElem hi, ← e]; rfl⟩

/-- A row of the call's own whose rows of numbers are older. -/
def RowsOf (w : World) (base B : Nat) (v : Value) (l : List (List Int)) : Prop := ∃ us, w.ownsRow base 26 1 v l.length us ∧ ∀ i, i < l.length → ∃ u, us[i]? = some u ∧ Ints w B u (l.getD i [])
theorem RowsOf.nil (w : World) (base B : Nat) : RowsOf w base B (.slice none 0 0) [] := ⟨[], ⟨by simp, .inl ⟨rfl, rfl⟩⟩, fun i hi => by simp at hi⟩
theorem RowsOf.snoc {w w' : World} {base B : Nat} {v v' u : Value} {l : List (List Int)} {x : List Int} {us : List Value} (hr : w.ownsRow base 26 1 v l.length us) (hi : ∀ i, i < l.length → ∃ u, us[i]? = some u ∧ Ints w B u (l.getD i [])) (hu : Ints w B u x)
    (hown : w'.ownsRow base 26 1 v' (l.length + 1) (us ++ [u])) (hb : Below B w w') : RowsOf w' base B v' (l ++ [x]) := by
  have hl : us.length = l.length := by simpa using hr.1
  refine ⟨us ++ [u], by simpa using hown, fun i hlt => ?_⟩
  by_cases h : i < l.length
  · obtain ⟨u', h1, h2⟩ := hi i h
    refine ⟨u', by rw [List.getElem?_append_left (by omega)]; exact h1, ?_⟩
    rw [List.getD_eq_getElem?_getD, List.getElem?_append_left h, ← List.getD_eq_getElem?_getD]
    exact h2.below hb
  · have e : i = l.length := by simp at hlt; omega
    subst e
    refine ⟨u, by rw [List.getElem?_append_right (by omega), hl, Nat.sub_self]; rfl, ?_⟩
    rw [List.getD_eq_getElem?_getD, List.getElem?_append_right (Nat.le_refl _), Nat.sub_self]
    exact hu.below hb
theorem RowsOf.sets {w : World} {base B : Nat} {v : Value} {l : List (List Int)} (h : RowsOf w base B v l) (hB : B ≤ w.heap.size) (hl : l.length ≤ 65536) : Sets w w.heap.size v l := by
  obtain ⟨us, hr, hi⟩ := h
  obtain ⟨A, c, e, hc, hrd, _⟩ := own_form hr
  exact ⟨A, c, us, e, hc, by omega, hrd, fun i hlt => by obtain ⟨u, h1, h2⟩ := hi i hlt; exact ⟨u, h1, h2.more hB⟩⟩

def CnfPost (parts : Int) (rows : List RowL) (w : World) (e : Ending) (w' : World) : Prop :=
  ∃ v', e = .returned (.tuple #[v', .int .i64 (specErr parts rows)]) ∧ Sets w' w'.heap.size v' (if specErr parts rows = 0 then Rk.smallest (Rk.failsL rows) else []) ∧ Below w.heap.size w w'

set_option maxRecDepth 100000 in
set_option maxHeartbeats 1000000 in
theorem conf_any (parts : Int) (v : Value) (rows : List RowL) (B : Nat) (w : World) (hv : Rows w B v rows) (hB : B ≤ w.heap.size) (hr64 : rows.length ≤ 64) (hlong : ∀ s ∈ Rk.failsL rows, s.length ≤ 65536) :
    Calls Tryz.prog 67 #[.agg #[.int .i64 parts, v]] w fun e w' => ∃ v', e = .returned v' ∧ OwnSets w' w.heap.size v' (Rk.smallest (Rk.failsL rows)) ∧ Below w.heap.size w w' := by
  have HS := Lib.hid (fun (u : Value) W (hu : Sets W W.heap.size u (Rk.failsL rows)) => smallest_any u (Rk.failsL rows) W.heap.size W hu (Nat.le_refl _) (by have := Rk.failsL_len rows; omega) hlong)
  have HB0 := Lib.hid hB
  obtain ⟨A, cv, vs, rfl, j1, j2, hr, hi⟩ := hv
  obtain ⟨j0, hj0, yz0, yz1, yz2⟩ := info_parts info_ints
  have Hr := Lib.hid hr
  have Hi := Lib.hid hi
  clear j1 j2 hr hi hB hlong
  obtain ⟨W0, hW0⟩ : ∃ W0, W0 = w.alloc (.cells #[.int .i64 parts, .slice A rows.length cv] 24) := ⟨_, rfl⟩
  have HS0 := Lib.hid (show Blk W0 w.heap.size 24 #[.int .i64 parts, .slice A rows.length cv] by rw [hW0]; exact Blk.new w _ _)
  have HL0 := Lib.hid (show Below w.heap.size w W0 by rw [hW0]; exact (Below.refl _ w).alloc (Nat.le_refl _) _)
  have HW0 := Lib.hid hW0
  have s0 := HS0.out.cell 0
  have s1 := HS0.out.cell 1
  have lt0 := HS0.out.lt
  simp only [List.getElem?_toArray, List.getElem?_cons_zero, List.getElem?_cons_succ] at s0 s1
  clear hW0
  go_enter Tryz.func67, Tryz.ntmps67
  go_wp2
  try rw [← HW0.out]
  go_loopg [3, 9] rows.length (fun g s3 s9 wr => ∃ k : Nat, k ≤ rows.length ∧ g = rows.length - k ∧ s9 = .int .i64 k ∧ Hid (RowsOf wr w.heap.size B s3 (Rk.failsL (rows.take k))) ∧ Hid (Below w.heap.size w wr))
  case atStart => exact ⟨0, Nat.zero_le _, rfl, rfl, by rw [List.take_zero]; exact RowsOf.nil _ _ _, HL0.out⟩
  case round =>
    obtain ⟨k, hk, hg, rfl, hrow, hL⟩ := hrel
    have Hg := Lib.hid hg
    clear hg s0 s1
    by_cases hlt : k < rows.length
    · obtain ⟨ad, u, rfl, hadb, hc0, hc1, hu⟩ := rows_at Hr.out Hi.out hlt
      have hadw : ad.block < w.heap.size := Nat.lt_of_lt_of_le hadb HB0.out
      have x0 := keepB hL.out (p := ad.add (k * 2)) (by rw [block_of_add]; exact hadw) hc0
      have x1 := keepB hL.out (p := ad.add (k * 2 + 1)) (by rw [block_of_add]; exact hadw) hc1
      obtain ⟨fb, hfb⟩ : ∃ fb, fb = (Rk.rowAt rows k).2 := ⟨_, rfl⟩
      rw [← hfb, ← add_of_add] at x1
      have x1 : wr.cell? ⟨(ad.add (k * 2)).block, (ad.add (k * 2)).off + 1, none⟩ = some (.bool fb) := x1
      have Hu := Lib.hid (hu.keep (fun p hp => hL.out.cell (Nat.lt_of_lt_of_le hp HB0.out)))
      obtain ⟨Au, cu, rfl, -, -, -⟩ := hu
      have Hl := Lib.hid (Nat.le_trans (Rk.failsL_len (rows.take k)) (by rw [List.length_take]; omega : (rows.take k).length ≤ 64))
      have hkz : (k : Int) < (rows.length : Int) := by omega
      clear hc0 hc1 hadb
      obtain ⟨wo, rfl⟩ : ∃ wo : World, wo = wr := ⟨_, rfl⟩
      have hsz := hL.out.size
      cases fb
      · have Hn := Lib.hid (show RowsOf (wo.alloc (.cells #[.slice Au (Rk.rowAt rows k).1.length cu, .bool false] 59)) w.heap.size B _ (Rk.failsL (rows.take (k + 1))) by
          rw [Rk.failsL_no hlt hfb.symm]
          obtain ⟨us, h1, h2⟩ := hrow.out
          exact ⟨us, own_kept h1 (World.grownBy_alloc wo _ none) (fun g e => by cases e), fun i hi => by
            obtain ⟨u, h3, h4⟩ := h2 i hi
            exact ⟨u, h3, h4.below ((Below.refl B wo).alloc (Nat.le_trans HB0.out hsz) _)⟩⟩)
        have Hb := Lib.hid (show Below w.heap.size w (wo.alloc (.cells #[.slice Au (Rk.rowAt rows k).1.length cu, .bool false] 59)) from hL.out.alloc hsz _)
        clear hfb hrow Hl
        go_wp2
        go_roundg (rows.length - (k + 1))
        case rel => exact ⟨k + 1, hlt, rfl, by go_num, Hn.out, Hb.out⟩
        case measure => rw [Hg.out]; omega
      · have Hy := Lib.hid (Rk.failsL_yes hlt hfb.symm)
        obtain ⟨us, h1, h2⟩ := hrow.out
        obtain ⟨A3, c3, ev3, -, -, -⟩ := own_form h1
        subst ev3
        obtain ⟨W1, hW1⟩ : ∃ W1, W1 = wo.alloc (.cells #[.slice Au (Rk.rowAt rows k).1.length cu, .bool true] 59) := ⟨_, rfl⟩
        have hs1 : W1.heap.size = wo.heap.size + 1 := by rw [hW1]; simp
        have hb1 : Below B wo W1 := by rw [hW1]; exact (Below.refl B wo).alloc (Nat.le_trans HB0.out hsz) _
        have h1' : W1.ownsRow w.heap.size 26 1 (.slice A3 (Rk.failsL (rows.take k)).length c3) (Rk.failsL (rows.take k)).length us := by rw [hW1]; exact own_kept h1 (World.grownBy_alloc wo _ none) (fun g e => by cases e)
        have HR1 := Lib.hid (And.intro h1' (show ∀ i, i < (Rk.failsL (rows.take k)).length → ∃ u, us[i]? = some u ∧ Ints W1 B u ((Rk.failsL (rows.take k)).getD i []) from fun i hi => by
          obtain ⟨u, h3, h4⟩ := h2 i hi
          exact ⟨u, h3, h4.below hb1⟩))
        have HL1 := Lib.hid (show Below w.heap.size w W1 by rw [hW1]; exact hL.out.alloc hsz _)
        have Hu1 := Lib.hid (Hu.out.below hb1)
        have HW1 := Lib.hid hW1
        clear hfb hrow h1 h2 h1' hW1 hb1
        go_wp2_with (at_builtin; go_must (rw [← HW1.out]; refine wpList_append_any _ rfl _ _ 40 rfl w.heap.size 26 j0 _ 1 24 Tryz.underlying40 hj0 yz0 yz1 yz2 rfl (by decide) _ (Rk.failsL (rows.take k)).length us rfl (own_kept HR1.out.1 (World.grownBy_alloc _ _ none) (fun g e => by cases e)) (W1.heap.size + 1) _ 1 _ [.slice Au (Rk.rowAt rows k).1.length cu] (by first | rfl | (rw [hs1]; rfl)) (reads_one (Nat.lt_succ_self _) (cell_new0 _ _ _)) ?e2 ?e3 ?e4 ?e5 ?_))
        case e2 => first | rfl | (intro u hu; simp at hu; subst hu; rfl)
        case e3 => have := Hl.out; unfold maxLen; omega
        case e4 => have := Hl.out; omega
        case e5 => simp; omega
        intro v7 w7 hown7 hg7 hat7
        have hb7 : Below B W1 w7 := ((Below.refl B W1).alloc (by have := HB0.out; omega) _).grown hg7 (by have := HB0.out; simp; omega) (fun k e => Nat.le_trans HB0.out (own_row_ge HR1.out.1 k e))
        have hs7 := RowsOf.snoc HR1.out.1 HR1.out.2 Hu1.out hown7 hb7
        rw [← Hy.out] at hs7
        have Hs7 := Lib.hid hs7
        have HB7 := Lib.hid (show Below w.heap.size w w7 from (HL1.out.alloc HL1.out.size _).grown hg7 (by simp; omega) (own_row_ge HR1.out.1))
        clear hown7 hg7 hat7 hb7 hs7
        go_wp2
        go_roundg (rows.length - (k + 1))
        case rel => exact ⟨k + 1, hlt, rfl, by go_num, Hs7.out, HB7.out⟩
        case measure => rw [Hg.out]; omega
    · obtain rfl : k = rows.length := by omega
      have hrw := hrow.out
      rw [List.take_length] at hrw
      have hsz := hL.out.size
      have HSf := Lib.hid (HS.out _ wr (hrw.sets (Nat.le_trans HB0.out hsz) (by have := Rk.failsL_len rows; omega)))
      clear hrw hrow HS
      go_wp2_with fail
      refine HSf.out.mono ?_
      rintro e w8 ⟨v', rfl, ho, hb⟩
      have Ho := Lib.hid (ho.more hsz)
      have Hb := Lib.hid (show Below w.heap.size w w8 from hL.out.trans (hb.mono hsz))
      clear ho hb
      go_wp2
      go_ret
      exact ⟨_, rfl, Ho.out, Hb.out⟩

theorem spec_zero {parts : Int} {rows : List RowL} (h : specErr parts rows = 0) : 1 ≤ parts ∧ parts ≤ 256 ∧ rows.length ≤ 64 ∧ ∀ i, i < rows.length → Rk.Incr parts (Rk.rowAt rows i).1 := by
  unfold specErr at h
  split at h
  · cases h
  · split at h
    · cases h
    · split at h
      · rename_i h3
        exact ⟨by omega, by omega, by omega, fun i hi => of_decide_eq_true (h3 i hi)⟩
      · cases h
theorem failsL_ok {parts : Int} {rows : List RowL} (h : specErr parts rows = 0) : (Rk.failsL rows).length ≤ 64 ∧ ∀ s ∈ Rk.failsL rows, Rk.Incr 256 s := by
  obtain ⟨h1, h2, h3, h4⟩ := spec_zero h
  refine ⟨Nat.le_trans (Rk.failsL_len rows) h3, fun s hs => ?_⟩
  obtain ⟨i, hi, rfl⟩ := Rk.failsL_mem hs
  refine Rk.Incr.of_pairwise (h4 i hi).pairwise fun x hx => ?_
  have := (h4 i hi).mem hx
  omega
theorem small_ok {xss : List (List Int)} (h1 : xss.length ≤ 256) (h2 : ∀ s ∈ xss, Rk.Incr 256 s) : (Rk.smallest xss).length ≤ 256 ∧ ∀ s ∈ Rk.smallest xss, Rk.Incr 256 s := by
  have hpw : ∀ s ∈ xss, s.Pairwise (· < ·) := fun s hs => (h2 s hs).pairwise
  exact ⟨Nat.le_trans (Rk.nodup_len (Rk.smallest_strict hpw).nodup (fun z hz => ((Rk.smallest_mem hpw z).1 hz).1)) h1, fun s hs => h2 s ((Rk.smallest_mem hpw s).1 hs).1⟩
theorem len256 {s : List Int} (h : Rk.Incr 256 s) : s.length ≤ 256 := by have := h.length_le; omega

set_option maxRecDepth 100000 in
set_option maxHeartbeats 1000000 in
theorem confl_any (parts : Int) (v : Value) (rows : List RowL) (B : Nat) (w : World) (hv : Rows w B v rows) (hB : B ≤ w.heap.size) :
    Calls Tryz.prog 26 #[.agg #[.int .i64 parts, v]] w (CnfPost parts rows w) := by
  have HC := Lib.hid (fun W (hb : Below w.heap.size w W) => checkspectrum_any parts v rows B W (hv.below (hb.mono hB)) (by have := hb.size; omega))
  by_cases h : specErr parts rows = 0
  · obtain ⟨hl, hi⟩ := failsL_ok h
    obtain ⟨sl, si⟩ := small_ok (by omega) hi
    have HK := Lib.hid (fun W (hb : Below w.heap.size w W) => conf_any parts v rows B W (hv.below (hb.mono hB)) (by have := hb.size; omega) (spec_zero h).2.2.1 (fun s hs => by have := len256 (hi s hs); omega))
    have Hso := Lib.hid (And.intro sl si)
    have Hh := Lib.hid h
    rw [h] at HC
    obtain ⟨A, cv, vs, rfl, j1, j2, j3, j4⟩ := hv
    clear j1 j2 j3 j4 h hB hl hi sl si
    go_enter Tryz.func26, Tryz.ntmps26
    go_wp2_with fail
    refine (HC.out _ ((Below.refl _ w).alloc (Nat.le_refl _) _)).mono ?_
    rintro e w1 ⟨rfl, hb⟩
    have S1 : Blk w1 w.heap.size 24 #[.int .i64 parts, .slice A rows.length cv] := (Blk.new w _ _).below hb (by simp)
    have HB := Lib.hid (show Below w.heap.size w w1 from ((Below.refl _ w).alloc (Nat.le_refl _) _).trans (hb.mono (by simp)))
    have ltw : w.heap.size < w1.heap.size := S1.lt
    have s0 := S1.cell 0
    have s1 := S1.cell 1
    simp only [List.getElem?_toArray, List.getElem?_cons_zero, List.getElem?_cons_succ] at s0 s1
    clear hb HC S1
    go_wp2_with fail
    refine (HK.out _ HB.out).mono ?_
    rintro e w2 ⟨v', rfl, ho, hb⟩
    have Hb := Lib.hid (show Below w.heap.size w w2 from HB.out.trans (hb.mono HB.out.size))
    have Ho := Lib.hid (ho.reads (by have := Hso.out.1; omega) (fun s hs => by have := len256 (Hso.out.2 s hs); omega))
    clear ho hb HK
    go_wp2
    go_ret2
    exact ⟨_, by rw [Hh.out]; rfl, by rw [Hh.out, if_pos rfl]; exact Ho.out, Hb.out⟩
  · have hne : (specErr parts rows != 0) = true := by simpa using h
    have Hh := Lib.hid h
    obtain ⟨A, cv, vs, rfl, j1, j2, j3, j4⟩ := hv
    clear j1 j2 j3 j4 h hB
    obtain ⟨err, herr⟩ : ∃ err, specErr parts rows = err := ⟨_, rfl⟩
    unfold CnfPost
    rw [herr] at Hh hne HC ⊢
    clear herr
    go_enter Tryz.func26, Tryz.ntmps26
    go_wp2_with fail
    refine (HC.out _ ((Below.refl _ w).alloc (Nat.le_refl _) _)).mono ?_
    rintro e w1 ⟨rfl, hb⟩
    have HB := Lib.hid (show Below w.heap.size w w1 from ((Below.refl _ w).alloc (Nat.le_refl _) _).trans (hb.mono (by simp)))
    clear hb
    go_wp2
    go_ret2
    exact ⟨_, rfl, ⟨none, 0, [], rfl, Nat.le_refl _, Nat.zero_le _, Reads.none_, fun i hi => by simp at hi⟩, HB.out⟩

set_option maxRecDepth 100000 in
set_option maxHeartbeats 1000000 in
theorem rconfl_any (parts : Int) (v : Value) (rows : List RowL) (B : Nat) (w : World) (hv : Rows w B v rows) (hB : B ≤ w.heap.size) :
    Calls Tryz.prog 27 #[.agg #[.int .i64 parts, v]] w (CnfPost parts rows w) := by
  have HC := Lib.hid (fun W (hb : Below w.heap.size w W) => rcheckspectrum_any parts v rows B W (hv.below (hb.mono hB)) (by have := hb.size; omega))
  by_cases h : specErr parts rows = 0
  · obtain ⟨hl, hi'⟩ := failsL_ok h
    obtain ⟨sl, si⟩ := small_ok (by omega) hi'
    have HS := Lib.hid (fun (u : Value) W (hu : Sets W W.heap.size u (Rk.failsL rows)) => rsmallest_any u (Rk.failsL rows) W.heap.size W hu (Nat.le_refl _) (fun s hs => (hi' s hs).pairwise) (by omega) (fun s hs => by have := len256 (hi' s hs); omega))
    have Hso := Lib.hid (And.intro sl si)
    have Hh := Lib.hid h
    have hr64 := (spec_zero h).2.2.1
    rw [h] at HC
    have HB0 := Lib.hid hB
    obtain ⟨A, cv, vs, rfl, j1, j2, hr, hi⟩ := hv
    obtain ⟨j0, hj0, yz0, yz1, yz2⟩ := info_parts info_ints
    have Hr := Lib.hid hr
    have Hi := Lib.hid hi
    clear j1 j2 hr hi h hB hl hi' sl si
    go_enter Tryz.func27, Tryz.ntmps27
    go_wp2_with fail
    refine (HC.out _ ((Below.refl _ w).alloc (Nat.le_refl _) _)).mono ?_
    rintro e w1 ⟨rfl, hb⟩
    have S1 : Blk w1 w.heap.size 24 #[.int .i64 parts, .slice A rows.length cv] := (Blk.new w _ _).below hb (by simp)
    have HB := Lib.hid (show Below w.heap.size w w1 from ((Below.refl _ w).alloc (Nat.le_refl _) _).trans (hb.mono (by simp)))
    have HS1 := Lib.hid S1
    have ltw : w.heap.size < w1.heap.size := S1.lt
    clear hb HC S1
    go_wp2
    go_loopg [5, 6] rows.length (fun g s3 s9 wr => ∃ k : Nat, k ≤ rows.length ∧ g = rows.length - k ∧ s9 = .int .i64 k ∧ Hid (RowsOf wr w1.heap.size B s3 (Rk.failsL (rows.take k))) ∧ Hid (Below w1.heap.size w1 wr))
    case atStart => exact ⟨0, Nat.zero_le _, rfl, rfl, by rw [List.take_zero]; exact RowsOf.nil _ _ _, Below.refl _ _⟩
    case round =>
      obtain ⟨k, hk, hg, rfl, hrow, hL⟩ := hrel
      have Hg := Lib.hid hg
      clear hg
      have S2 := HS1.out.below hL.out ltw
      have s0 := S2.cell 0
      have s1 := S2.cell 1
      have lt2 : w.heap.size < wr.heap.size := S2.lt
      simp only [List.getElem?_toArray, List.getElem?_cons_zero, List.getElem?_cons_succ] at s0 s1
      clear S2
      have hsz := hL.out.size
      have HLw := Lib.hid (show Below w.heap.size w wr from HB.out.trans (hL.out.mono HB.out.size))
      have hB1 : B ≤ w1.heap.size := Nat.le_trans HB0.out HB.out.size
      by_cases hlt : k < rows.length
      · obtain ⟨ad, u, rfl, hadb, hc0, hc1, hu⟩ := rows_at Hr.out Hi.out hlt
        have hadw : ad.block < w.heap.size := Nat.lt_of_lt_of_le hadb HB0.out
        have x0 := keepB HLw.out (p := ad.add (k * 2)) (by rw [block_of_add]; exact hadw) hc0
        have x1 := keepB HLw.out (p := ad.add (k * 2 + 1)) (by rw [block_of_add]; exact hadw) hc1
        obtain ⟨fb, hfb⟩ : ∃ fb, fb = (Rk.rowAt rows k).2 := ⟨_, rfl⟩
        rw [← hfb, ← add_of_add] at x1
        have x1 : wr.cell? ⟨(ad.add (k * 2)).block, (ad.add (k * 2)).off + 1, none⟩ = some (.bool fb) := x1
        have Hu := Lib.hid (hu.keep (fun p hp => HLw.out.cell (Nat.lt_of_lt_of_le hp HB0.out)))
        obtain ⟨Au, cu, rfl, -, -, -⟩ := hu
        have Hl := Lib.hid (Nat.le_trans (Rk.failsL_len (rows.take k)) (by rw [List.length_take]; omega : (rows.take k).length ≤ 64))
        have hkz : (k : Int) < (rows.length : Int) := by omega
        clear hc0 hc1 hadb
        obtain ⟨wo, rfl⟩ : ∃ wo : World, wo = wr := ⟨_, rfl⟩
        cases fb
        · have Hn := Lib.hid (show RowsOf wo w1.heap.size B _ (Rk.failsL (rows.take (k + 1))) by rw [Rk.failsL_no hlt hfb.symm]; exact hrow.out)
          clear hfb hrow Hl
          go_wp2
          go_roundg (rows.length - (k + 1))
          case rel => exact ⟨k + 1, hlt, rfl, by go_num, Hn.out, hL.out⟩
          case measure => rw [Hg.out]; omega
        · have Hy := Lib.hid (Rk.failsL_yes hlt hfb.symm)
          obtain ⟨us, h1, h2⟩ := hrow.out
          obtain ⟨A3, c3, ev3, -, -, -⟩ := own_form h1
          subst ev3
          have HR1 := Lib.hid (And.intro h1 h2)
          clear hfb hrow h1 h2
          go_wp2_with (at_builtin; go_must (refine wpList_append_any _ rfl _ _ 40 rfl w1.heap.size 26 j0 _ 1 24 Tryz.underlying40 hj0 yz0 yz1 yz2 rfl (by decide) _ (Rk.failsL (rows.take k)).length us rfl (own_kept HR1.out.1 (World.grownBy_alloc _ _ none) (fun g e => by cases e)) (wo.heap.size + 1) _ 1 _ [.slice Au (Rk.rowAt rows k).1.length cu] rfl (reads_one (Nat.lt_succ_self _) (cell_new0 _ _ _)) ?e2 ?e3 ?e4 ?e5 ?_))
          case e2 => first | rfl | (intro u hu; simp at hu; subst hu; rfl)
          case e3 => have := Hl.out; unfold maxLen; omega
          case e4 => have := Hl.out; omega
          case e5 => simp; omega
          intro v7 w7 hown7 hg7 hat7
          have hb7 : Below B wo w7 := ((Below.refl B wo).alloc (by omega) _).grown hg7 (by simp; omega) (fun k e => Nat.le_trans hB1 (own_row_ge HR1.out.1 k e))
          have hs7 := RowsOf.snoc HR1.out.1 HR1.out.2 Hu.out hown7 hb7
          rw [← Hy.out] at hs7
          have Hs7 := Lib.hid hs7
          have HB7 := Lib.hid (show Below w1.heap.size w1 w7 from (hL.out.alloc hL.out.size _).grown hg7 (by simp; omega) (own_row_ge HR1.out.1))
          clear hown7 hg7 hat7 hb7 hs7
          go_wp2
          go_roundg (rows.length - (k + 1))
          case rel => exact ⟨k + 1, hlt, rfl, by go_num, Hs7.out, HB7.out⟩
          case measure => rw [Hg.out]; omega
      · obtain rfl : k = rows.length := by omega
        have hrw := hrow.out
        rw [List.take_length] at hrw
        have HSf := Lib.hid (HS.out _ wr (hrw.sets (by omega) (by have := Rk.failsL_len rows; omega)))
        clear hrw hrow HS
        go_wp2_with fail
        refine HSf.out.mono ?_
        rintro e w8 ⟨v', rfl, ho, hb⟩
        have Ho := Lib.hid (ho.reads (by have := Hso.out.1; omega) (fun s hs => by have := len256 (Hso.out.2 s hs); omega))
        have Hb := Lib.hid (show Below w.heap.size w w8 from HLw.out.trans (hb.mono HLw.out.size))
        clear ho hb
        go_wp2
        go_ret2
        exact ⟨_, by rw [Hh.out]; rfl, by rw [Hh.out, if_pos rfl]; exact Ho.out, Hb.out⟩
  · have hne : (specErr parts rows != 0) = true := by simpa using h
    have Hh := Lib.hid h
    obtain ⟨A, cv, vs, rfl, j1, j2, j3, j4⟩ := hv
    clear j1 j2 j3 j4 h hB
    obtain ⟨err, herr⟩ : ∃ err, specErr parts rows = err := ⟨_, rfl⟩
    unfold CnfPost
    rw [herr] at Hh hne HC ⊢
    clear herr
    go_enter Tryz.func27, Tryz.ntmps27
    go_wp2_with fail
    refine (HC.out _ ((Below.refl _ w).alloc (Nat.le_refl _) _)).mono ?_
    rintro e w1 ⟨rfl, hb⟩
    have HB := Lib.hid (show Below w.heap.size w w1 from ((Below.refl _ w).alloc (Nat.le_refl _) _).trans (hb.mono (by simp)))
    clear hb
    go_wp2
    go_ret2
    exact ⟨_, rfl, ⟨none, 0, [], rfl, Nat.le_refl _, Nat.zero_le _, Reads.none_, fun i hi => by simp at hi⟩, HB.out⟩
end Go.Proofs.YtfpmbjobieeidaaGreat
