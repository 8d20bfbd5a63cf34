/-
  The walk of Rank, where there is no error.
-/
import Derived.Test.YtfpmbjobieeidaaGreatRank
import Derived.RegionTactic
namespace Go.Proofs.YtfpmbjobieeidaaGreat
open Go.RowKit

/-- The bounds of a score. -/
theorem score_fb (k : Nat) (h q m r : Int) (hh : 0 ≤ h ∧ h ≤ 64) (hq : 0 ≤ q ∧ q ≤ 64) (hm : 0 ≤ m ∧ m ≤ 64) (hr : 0 ≤ r ∧ r ≤ 64) : Rk.Fb 10000000000 10000000000 (Rk.score k h q m r) := by
  have p1 := prod_le hh.1 hh.1 (X := 64) (Y := 64) hh.2 hh.2
  have p2 := prod_le (x := h + m) (y := h + q) (by omega) (by omega) (X := 128) (Y := 128) (by omega) (by omega)
  have p3 := prod_le (x := 2 * h) (y := h) (by omega) (by omega) (X := 128) (Y := 64) (by omega) (by omega)
  have p4 := prod_le (x := h) (y := h + m + q) (by omega) (by omega) (X := 64) (Y := 192) (by omega) (by omega)
  have p5 := prod_le (x := 10000 * m) (y := q) (by omega) (by omega) (X := 640000) (Y := 64) (by omega) (by omega)
  have hi : ∀ {N D : Nat} {a : Int × Int}, Rk.Fb N D a → N ≤ 10000000000 → D ≤ 10000000000 → Rk.Fb 10000000000 10000000000 a := fun h a b => h.mono a b
  have ho : ∀ {n d : Int}, n.natAbs ≤ 10000000000 → d.natAbs ≤ 10000000000 → Rk.Fb 10000000000 10000000000 (Rk.ov n d) := fun a b => Rk.ov_fb a b (by decide)
  unfold Rk.score
  split
  · exact hi (Rk.bt_fb (Rk.ov_s (by omega) (by omega)) (Rk.pl_s (Rk.ov_s (by omega) (by omega)) (Rk.ov_s (by omega) (by omega))) (by decide)) (by decide) (by decide)
  · exact ho (by omega) (by omega)
  · exact ho (by omega) (by omega)
  · exact ho (by omega) (by omega)
  · exact hi (Rk.bt_fb (Rk.pl_s (Rk.ov_s (by omega) (by omega)) (Rk.ov_s (by omega) (by omega))) (Rk.ov_s (by omega) (by omega)) (by decide)) (by decide) (by decide)
  · split
    · exact ho (by omega) (by omega)
    · exact ho (by omega) (by omega)
  · exact hi (Rk.mi_s (Rk.ov_s (by omega) (by omega)) (Rk.ov_s (by omega) (by omega))) (by decide) (by decide)
  · exact ho (by omega) (by omega)
  · obtain ⟨a1, a2, a3⟩ := Rk.mi_s (Rk.ov_s (n := h) (d := h + m) (by omega) (by omega)) (Rk.ov_s (n := q) (d := q + r) (by omega) (by omega))
    refine ⟨?_, a2, Int.le_trans a3 (by decide)⟩
    show (max _ _ : Int).natAbs ≤ _
    omega
  · exact hi (Rk.mi_fb (Rk.ov_s (by omega) (by omega)) (Rk.wong_s hq.1 hq.2)) (by decide) (by decide)
  · exact ho (by omega) (by omega)
  · exact ho (by omega) (by omega)
  · split
    · exact ho (by omega) (by omega)
    · exact hi (Rk.pl_s (Rk.ov_s (by omega) (by omega)) (Rk.ov_s (by omega) (by omega))) (by decide) (by decide)
  · exact ho (by omega) (by omega)

def oAt (sc : Nat → Rk.Fr) (n p : Nat) : Nat := (Rk.order sc n).getD p 0
theorem oAt_get {sc : Nat → Rk.Fr} {n p : Nat} (h : p < n) : oAt sc n p = (Rk.order sc n)[p]'(by rw [Rk.order_length]; exact h) := by
  unfold oAt
  rw [List.getD_eq_getElem?_getD, List.getElem?_eq_getElem (by rw [Rk.order_length]; exact h)]
  rfl
theorem group_at {sc : Nat → Rk.Fr} {n i k p : Nat} (hl : ∀ c, Rk.Low (sc c)) (hi : i ≤ p) (hp : p < k) (hk : k ≤ n) (heq : ∀ q, i ≤ q → q < k → sc (oAt sc n q) = sc (oAt sc n i))
    (hlo : i = 0 ∨ sc (oAt sc n (i - 1)) ≠ sc (oAt sc n i)) (hhi : k = n ∨ sc (oAt sc n k) ≠ sc (oAt sc n i)) : Rk.gtN sc n (oAt sc n p) = i ∧ Rk.geN sc n (oAt sc n p) = k := by
  have hlen := Rk.order_length sc n
  rw [oAt_get (by omega)]
  refine Rk.group hl hi hp (by rw [hlen]; exact hk) (fun q h1 h2 => ?_) (fun h0 => ?_) (fun h0 => ?_)
  · have := heq q h1 h2
    rwa [oAt_get (by omega), oAt_get (by omega)] at this
  · rcases hlo with h | h
    · omega
    · rwa [oAt_get (by omega), oAt_get (by omega)] at h
  · rcases hhi with h | h
    · omega
    · rwa [oAt_get (by omega), oAt_get (by omega)] at h

/-- The fields of a standing, told for the places ahead of i. -/
def stM (sc : Nat → Rk.Fr) (n i : Nat) (p j : Nat) : Int :=
  match j with
  | 0 => oAt sc n p
  | 1 => (sc (oAt sc n p)).1
  | 2 => (sc (oAt sc n p)).2
  | 3 => if p < i then 1 + (Rk.gtN sc n (oAt sc n p) : Int) else 0
  | _ => if p < i then (Rk.geN sc n (oAt sc n p) : Int) else 0
theorem stM_zero (sc : Nat → Rk.Fr) (n p j : Nat) : stS sc n p j = stM sc n 0 p j := by
  rcases j with _ | _ | _ | _ | j <;> simp [stS, stM, oAt]
theorem stM_step {sc : Nat → Rk.Fr} {n m i k : Nat} (h1 : Rk.gtN sc n (oAt sc n m) = i) (h2 : Rk.geN sc n (oAt sc n m) = k) (p j : Nat) (hj : j < 5) :
    Rk.upd (Rk.upd (stM sc n m) m 3 ((i : Int) + 1)) m 4 k p j = stM sc n (m + 1) p j := by
  unfold Rk.upd stM
  by_cases e : p = m
  · subst e
    rcases (show j = 0 ∨ j = 1 ∨ j = 2 ∨ j = 3 ∨ j = 4 by omega) with rfl | rfl | rfl | rfl | rfl <;> simp [h1, h2]
    omega
  · have e2 : p < m + 1 ↔ p < m := by omega
    simp only [e, false_and, if_false, e2]
theorem stM_done {sc : Nat → Rk.Fr} {n p j : Nat} (hp : p < n) (hj : j < 5) : stM sc n n p j = fld ((Rk.ranking sc n).getD p (0, (0, 0), 0, 0)) j := by
  have e : (Rk.ranking sc n).getD p (0, (0, 0), 0, 0) = Rk.stnOf sc n (oAt sc n p) := by
    unfold Rk.ranking
    rw [List.getD_eq_getElem?_getD, List.getElem?_map, List.getElem?_eq_getElem (by rw [Rk.order_length]; exact hp), oAt_get hp]
    rfl
  rw [e]
  unfold stM fld Rk.stnOf
  rcases (show j = 0 ∨ j = 1 ∨ j = 2 ∨ j = 3 ∨ j = 4 by omega) with rfl | rfl | rfl | rfl | rfl <;> simp [hp]

theorem info_stn : (Tryz.prog.info? 64).map (fun i => (i.zero, i.size, i.bytes)) = some (some (.agg #[.int .i64 0, .int .i64 0, .int .i64 0, .int .i64 0, .int .i64 0]), 5, 40) := by kernel_rfl
theorem make_stns (w : World) (n : Nat) (h : n ≤ 256) : (Instr.makeSlice 36 (.int .i64 0) (.int .i64 n)).run Tryz.prog w = .ok (.slice (some ⟨w.heap.size, 0, none⟩) 0 n) (w.alloc (.cells (madeCells #[.int .i64 0, .int .i64 0, .int .i64 0, .int .i64 0, .int .i64 0] (n * 5)) 64)) := by
  obtain ⟨i, hi, hz, hs, hb⟩ := info_parts info_stn
  have h := run_make (P := Tryz.prog) w 36 64 i (.agg #[.int .i64 0, .int .i64 0, .int .i64 0, .int .i64 0, .int .i64 0]) Tryz.underlying36 hi hz .i64 .i64 0 n (by omega) (by omega) (by rw [hb]; omega) (by omega)
  rw [hs] at h
  exact h
theorem own_stns (w : World) (n : Nat) (h : n ≤ 256) : (w.alloc (.cells (madeCells #[.int .i64 0, .int .i64 0, .int .i64 0, .int .i64 0, .int .i64 0] (n * 5)) 64)).ownsRow w.heap.size 64 5 (.slice (some ⟨w.heap.size, 0, none⟩) 0 n) 0 [] :=
  World.ownsRow_made w _ n (Nat.le_refl _) (by unfold maxLen; omega) (size_madeCells _ _)
theorem frCells_get : ∀ (l : List (Int × Int)) (c : Nat), c < l.length → (frCells l)[c * 2]? = some (.int .i64 (l.getD c (0, 0)).1) ∧ (frCells l)[c * 2 + 1]? = some (.int .i64 (l.getD c (0, 0)).2)
  | x :: l, 0, _ => ⟨rfl, rfl⟩
  | x :: l, c + 1, h => by
    have ih := frCells_get l c (by simpa using h)
    have e : frCells (x :: l) = [.int .i64 x.1, .int .i64 x.2] ++ frCells l := rfl
    rw [e, List.getElem?_append_right (by simp; omega), List.getElem?_append_right (by simp; omega)]
    simp only [List.length_cons, List.length_nil]
    rw [show (c + 1) * 2 - (0 + 1 + 1) = c * 2 by omega, show (c + 1) * 2 + 1 - (0 + 1 + 1) = c * 2 + 1 by omega]
    exact ih

/-- While the standings are laid: c of n. -/
structure RkA (w : World) (sc : Nat → Rk.Fr) (n base g32 cap32 c : Nat) (v : Value) (wr : World) : Prop where
  row : wr.ownsRow base 64 5 v c (stCells sc c)
  scs : wr.ownsRow 0 45 2 (.slice (some ⟨g32, 0, none⟩) n cap32) n (frCells ((List.range n).map sc))
  low : Below w.heap.size w wr
  lo : w.heap.size ≤ base
  hi : base ≤ wr.heap.size
section
variable {w wr w' : World} {sc : Nat → Rk.Fr} {n base g32 cap32 c : Nat} {v : Value}
theorem RkA.below (h : RkA w sc n base g32 cap32 c v wr) (hb : Below wr.heap.size wr w') : RkA w sc n base g32 cap32 c v w' :=
  ⟨own_below h.row hb (Nat.le_refl _), own_below h.scs hb (Nat.le_refl _), h.low.trans (hb.mono h.low.size), h.lo, Nat.le_trans h.hi hb.size⟩
theorem RkA.snoc (h : RkA w sc n base g32 cap32 c v wr) {v' : Value} (hown : w'.ownsRow base 64 5 v' (c + 1) (stCells sc c ++ [.int .i64 c, .int .i64 (sc c).1, .int .i64 (sc c).2, .int .i64 0, .int .i64 0]))
    (hg : wr.grownBy w' v.ownBlock) : RkA w sc n base g32 cap32 (c + 1) v' w' :=
  ⟨by rw [stCells_succ]; exact hown, own_kept h.scs hg (fun g e => own_own_ne h.row h.scs (by decide) e), h.low.grown hg h.low.size (fun g e => Nat.le_trans h.lo (own_row_ge h.row g e)), h.lo, Nat.le_trans h.hi hg.size⟩
theorem RkA.cells (h : RkA w sc n base g32 cap32 c v wr) (hc : c < n) : wr.cell? ⟨g32, c * 2, none⟩ = some (.int .i64 (sc c).1) ∧ wr.cell? ⟨g32, c * 2 + 1, none⟩ = some (.int .i64 (sc c).2) ∧ g32 < wr.heap.size := by
  have hr := Reads.of_own h.scs
  obtain ⟨ad, e, hb, hk⟩ := hr.2 (by omega)
  injection e with e
  subst e
  obtain ⟨e1, e2⟩ := frCells_get ((List.range n).map sc) c (by simpa using hc)
  have hd : ((List.range n).map sc).getD c (0, 0) = sc c := by simp [hc]
  rw [hd] at e1 e2
  have a : ∀ j, (⟨g32, 0, none⟩ : Addr).add j = ⟨g32, j, none⟩ := fun j => by
    unfold Addr.add; split
    · rename_i h0; simp_all
    · simp
  have k1 := hk _ _ e1
  have k2 := hk _ _ e2
  rw [a] at k1 k2
  exact ⟨k1, k2, hb⟩
end

theorem scoresOf_fun (k : Nat) (rows : List RowL) (n : Nat) : Rk.scoresOf k rows n = (List.range n).map (Rk.scoreAt k rows) := rfl
theorem score_low (k : Nat) (rows : List RowL) (c : Nat) : Rk.Low (Rk.scoreAt k rows c) := Rk.score_low _ _ _ _ _
theorem score_bounds {rows : List RowL} (hr : rows.length ≤ 64) (k c : Nat) : (-9223372036854775808 ≤ (Rk.scoreAt k rows c).1 ∧ (Rk.scoreAt k rows c).1 ≤ 9223372036854775807) ∧ 0 < (Rk.scoreAt k rows c).2 ∧ (Rk.scoreAt k rows c).2 ≤ 9223372036854775807 := by
  have b0 := Rk.tal_bounds rows c 0
  have b1 := Rk.tal_bounds rows c 1
  have b2 := Rk.tal_bounds rows c 2
  have b3 := Rk.tal_bounds rows c 3
  have h := score_fb k (Rk.tal rows c 0) (Rk.tal rows c 1) (Rk.tal rows c 2) (Rk.tal rows c 3) (by omega) (by omega) (by omega) (by omega)
  unfold Rk.scoreAt
  generalize Rk.score k (Rk.tal rows c 0) (Rk.tal rows c 1) (Rk.tal rows c 2) (Rk.tal rows c 3) = s at *
  obtain ⟨h1, h2, h3⟩ := h
  omega

set_option maxRecDepth 100000 in
set_option maxHeartbeats 2000000 in
theorem rank_main (n f : Nat) (f0 : 1 ≤ f) (f1 : f ≤ 14) (v : Value) (rows : List RowL) (B : Nat) (w : World) (hv : Rows w B v rows) (hB : B ≤ w.heap.size) (h : specErr n rows = 0) :
    Calls Tryz.prog 11 #[.agg #[.int .i64 n, v], .int .u8 f] w (RankPost n f rows w) := by
  obtain ⟨z0, z1, z2, z3⟩ := specErr_zero h
  have hn1 : 1 ≤ n := by omega
  have hn2 : n ≤ 256 := by omega
  have HC := Lib.hid (fun W (hb : Below w.heap.size w W) => checkspectrum_any n v rows B W (hv.below (hb.mono hB)) (by have := hb.size; omega))
  have HT := Lib.hid (fun W => table_any f W (by omega))
  have HS := Lib.hid (fun W (hb : Below w.heap.size w W) => scores_any f n f0 f1 v rows B W (hv.below (hb.mono hB)) (by have := hb.size; omega) hn2 z2 z3)
  have Ho : Hid (tabF f = .func (.func (tabN f)) #[] #[] ∧ tabOk f = true) := ⟨if_pos ⟨f0, f1⟩, decide_eq_true ⟨f0, f1⟩⟩
  have Hp := Lib.hid (show rankErr n f rows = 0 ∧ rankOf n f rows = Rk.ranking (Rk.scoreAt f rows) n by
    have e : rankErr n f rows = 0 := by unfold rankErr; rw [if_neg (by simpa using h), if_pos ⟨f0, f1⟩]
    exact ⟨e, by unfold rankOf; rw [e, if_pos rfl]; rfl⟩)
  have Hlow := Lib.hid (score_low f rows)
  have Hbd := Lib.hid (score_bounds z2 f)
  have hmk := fun W => make_stns W n hn2
  rw [h] at HC
  rw [Ho.out.1] at HS
  obtain ⟨A, cv, vs, rfl, j1, j2, j3, j4⟩ := hv
  clear j1 j2 j3 j4 h hB z0 z1 z2 z3
  go_enter Tryz.func11, Tryz.ntmps11
  go_wp2_with fail
  refine (HC.out _ (al1 _ _)).mono ?_
  rintro e w1 ⟨rfl, hb⟩
  have S1 : Blk w1 w.heap.size 24 #[.int .i64 n, .slice A rows.length cv] := (Blk.new w _ _).below hb (by simp)
  have HB := Lib.hid ((al1 w _).trans (hb.mono (by simp)))
  have ltw : w.heap.size < w1.heap.size := S1.lt
  have s0 := S1.cell 0
  have s1 := S1.cell 1
  have HS1 := Lib.hid S1
  simp only [List.getElem?_toArray, List.getElem?_cons_zero, List.getElem?_cons_succ] at s0 s1
  clear hb HC S1
  go_wp2_with fail
  refine (HT.out _).mono ?_
  rintro e w2 ⟨rfl, hb⟩
  rw [Ho.out.1, Ho.out.2]
  have S2 := HS1.out.below hb ltw
  have HB2 := Lib.hid (HB.out.trans (hb.mono HB.out.size))
  have ltw2 : w.heap.size < w2.heap.size := S2.lt
  have s0' := S2.cell 0
  have s1' := S2.cell 1
  simp only [List.getElem?_toArray, List.getElem?_cons_zero, List.getElem?_cons_succ] at s0' s1'
  clear hb HT S2 HS1 s0 s1
  go_wp2_with fail
  refine (HS.out _ ?hB0).mono ?_
  case hB0 => exact HB2.out.trans ((al2 _ _ _).mono HB2.out.size)
  rintro e w4 ⟨v32, rfl, hrow, hb⟩
  obtain ⟨g32, c32, e32, j1, j2⟩ := hrow.form (by omega)
  clear j1 j2
  subst e32
  have H0 : Hid (RkA w (Rk.scoreAt f rows) n (w2.heap.size + 1) g32 c32 0 (.slice (some ⟨w2.heap.size + 1, 0, none⟩) 0 n) w4) := by
    have h1 := own_below (own_stns (w2.alloc (.cells #[.func (.func (tabN f)) #[] #[]] 70)) n hn2) hb (Nat.le_refl _)
    rw [show (w2.alloc (.cells #[.func (.func (tabN f)) #[] #[]] 70)).heap.size = w2.heap.size + 1 by simp] at h1
    have h2 : ∀ o p, Below w.heap.size w ((w2.alloc o).alloc p) := fun o p => HB2.out.trans ((al2 _ o p).mono HB2.out.size)
    exact ⟨h1, own_more hrow (Nat.zero_le _), (h2 _ _).trans (hb.mono (h2 _ _).size), by have := HB2.out.size; omega, by have := hb.size; simp at this; omega⟩
  clear hb hrow hmk HS s0' s1' ltw2 HB ltw
  generalize Rk.scoreAt f rows = sc at *
  go_wp2
  go_loopg [9, 34] n (fun kx s9 s34 wr => ∃ (c : Nat) (v : Value), s9 = v ∧ s34 = .int .i64 c ∧ c ≤ n ∧ kx = n - c ∧ Hid (RkA w sc n (w2.heap.size + 1) g32 c32 c v wr))
  case atStart => exact ⟨0, _, rfl, rfl, Nat.zero_le _, rfl, H0⟩
  case round =>
    clear H0
    obtain ⟨c, v, rfl, rfl, hcn, hkx, H⟩ := hrel
    have Hkx := Lib.hid hkx
    clear hkx
    obtain ⟨A9, c9, hv9, j1, j2, j3⟩ := own_form H.out.row
    clear j1 j2 j3
    subst hv9
    by_cases hlt : c < n
    · obtain ⟨wo, rfl⟩ : ∃ wo : World, wo = wr := ⟨_, rfl⟩
      obtain ⟨c_0, c_1, lt32⟩ := H.out.cells hlt
      obtain ⟨r1, r2, hr⟩ : ∃ r1 r2, sc c = (r1, r2) := ⟨_, _, rfl⟩
      rw [hr] at c_0 c_1
      have Hr := Lib.hid hr
      obtain ⟨i0, hi0, hz0, hz1, hz2⟩ := info_parts info_stn
      obtain ⟨W3, hW3⟩ : ∃ W3, W3 = wo.alloc (.cells #[.int .i64 r1, .int .i64 r2] 45) := ⟨_, rfl⟩
      have H3 := Lib.hid (H.out.below (show Below wo.heap.size wo (W3.alloc (.cells #[.int .i64 c, .int .i64 r1, .int .i64 r2, .int .i64 0, .int .i64 0] 64)) by
        rw [hW3]; exact al2 _ _ _))
      have HW3 := Lib.hid hW3
      have Hs3 := Lib.hid (show W3.heap.size = wo.heap.size + 1 by rw [hW3]; simp)
      clear hW3 hr
      go_wp2_with (at_builtin; go_must (rw [← HW3.out]; refine wpList_append_own _ rfl _ _ 36 rfl (w2.heap.size + 1) 64 i0 _ 5 40 Tryz.underlying36 hi0 hz0 hz1 hz2 rfl (by decide) _ c (stCells sc c) rfl H3.out.row ⟨W3.heap.size, 0, none⟩ 1 1 [.int .i64 c, .int .i64 r1, .int .i64 r2, .int .i64 0, .int .i64 0] (by rw [Hs3.out]; rfl) rfl ?d1 ?d2 ?d3 ?d4 ?d5 ?_))
      case d2 => exact ⟨rfl, rfl, rfl, rfl⟩
      case d3 => unfold maxLen; omega
      case d4 => omega
      case d5 => have := H.out.hi; have := Hs3.out; simp; omega
      intro v44 wb hown44 hg44 _
      have HS := Lib.hid (H3.out.snoc (by rw [Hr.out]; exact hown44) hg44)
      clear hown44 hg44
      go_wp2
      go_roundg (n - (c + 1))
      case rel => exact ⟨c + 1, v44, rfl, by go_num, hlt, rfl, HS⟩
      case measure => rw [Hkx.out]; omega
    · obtain rfl : c = n := by omega
      obtain ⟨g, cg, eg, j1, j2⟩ := H.out.row.form (by omega)
      clear j1 j2
      obtain rfl : A9 = some ⟨g, 0, none⟩ := by injection eg
      obtain rfl : c9 = cg := by injection eg
      have HSt := Lib.hid (sortStn_any Hbd.out hn2 H.out.row)
      have HL := Lib.hid H.out.low
      have hgw : w.heap.size ≤ g := Nat.le_trans H.out.lo (own_row_ge H.out.row g rfl)
      clear eg Hbd
      go_wp2_with fail
      refine HSt.out.mono ?_
      rintro e w5 ⟨rfl, hst, hg⟩
      have Hst := Lib.hid (hst.congr (fun p j _ _ => stM_zero sc c p j))
      have HL5 := Lib.hid (HL.out.grown hg HL.out.size (fun k e => by injection e with e; omega))
      clear hst hg HL HSt H
      go_wp2
      go_loopg [12] c (fun kx s12 wr => ∃ i : Nat, s12 = .int .i64 i ∧ i ≤ c ∧ c - i ≤ kx ∧ Hid (i = 0 ∨ i = c ∨ sc (oAt sc c (i - 1)) ≠ sc (oAt sc c i)) ∧ Hid (StC wr g c (stM sc c i)) ∧ Hid (Below w.heap.size w wr))
      case atStart => exact ⟨0, rfl, Nat.zero_le _, Nat.le_refl _, .inl rfl, Hst, HL5⟩
      case round =>
        clear Hst HL5
        obtain ⟨i, rfl, hic, hkx, Hlo, Hst, HL⟩ := hrel
        by_cases hi : i < c
        · obtain ⟨wo, rfl⟩ : ∃ wo : World, wo = wr := ⟨_, rfl⟩
          go_wp2
          go_loopg [13] c (fun kx s13 wr => ∃ k q : Nat, s13 = .int .i64 k ∧ i ≤ k ∧ k ≤ c ∧ c - k ≤ kx ∧ Hid (∀ q, i ≤ q → q < k → sc (oAt sc c q) = sc (oAt sc c i)) ∧ wr = wo.drewN q)
          case atStart => exact ⟨i, 0, rfl, Nat.le_refl _, by omega, by omega, fun q h1 h2 => by omega, rfl⟩
          case round =>
            obtain ⟨k, q, rfl, hik, hkc, hkx2, Heq, rfl⟩ := hrel
            by_cases hk : k < c
            · have hkz : decide ((k : Int) < (c : Int)) = true := decide_eq_true (by omega)
              have x1 : wo.cell? ⟨g, k * 5 + 1, none⟩ = some (.int .i64 (sc (oAt sc c k)).1) := (Hst.out.2 k 1 hk (by decide)).1
              have x2 : wo.cell? ⟨g, k * 5 + 1 + 1, none⟩ = some (.int .i64 (sc (oAt sc c k)).2) := (Hst.out.2 k 2 hk (by decide)).1
              have y1 : wo.cell? ⟨g, i * 5 + 1, none⟩ = some (.int .i64 (sc (oAt sc c i)).1) := (Hst.out.2 i 1 hi (by decide)).1
              have y2 : wo.cell? ⟨g, i * 5 + 1 + 1, none⟩ = some (.int .i64 (sc (oAt sc c i)).2) := (Hst.out.2 i 2 hi (by decide)).1
              have he := fun W => eq_ratio W (sc (oAt sc c k)).1 (sc (oAt sc c k)).2 (sc (oAt sc c i)).1 (sc (oAt sc c i)).2
              have hgd := fun (x y : Operand) W => gd_ratio W .eql x y #[.int .i64 (sc (oAt sc c k)).1, .int .i64 (sc (oAt sc c k)).2] #[.int .i64 (sc (oAt sc c i)).1, .int .i64 (sc (oAt sc c i)).2]
              obtain ⟨bb, hbb⟩ : ∃ bb, bb = ((sc (oAt sc c k)).1 == (sc (oAt sc c i)).1 && (sc (oAt sc c k)).2 == (sc (oAt sc c i)).2) := ⟨_, rfl⟩
              rw [← hbb] at he
              have Hbb := Lib.hid (show bb = true ↔ sc (oAt sc c k) = sc (oAt sc c i) by
                rw [hbb, Bool.and_eq_true, beq_iff_eq, beq_iff_eq]
                exact ⟨fun h => Prod.ext h.1 h.2, fun h => by rw [h]; exact ⟨rfl, rfl⟩⟩)
              clear hbb
              have z0 : (0 : Int) ≤ (k : Int) := by omega
              have z1 : (k : Int) < (c : Int) := by omega
              have z2 : (0 : Int) ≤ (i : Int) := by omega
              have z3 : (i : Int) < (c : Int) := by omega
              cases bb
              · have Hhi := Lib.hid (show k = c ∨ sc (oAt sc c k) ≠ sc (oAt sc c i) from .inr (fun h => by have := Hbb.out.2 h; cases this))
                have hik2 : i < k := by
                  rcases Nat.lt_or_eq_of_le hik with h | h
                  · exact h
                  · subst h
                    rcases Hhi.out with h | h
                    · omega
                    · exact absurd rfl h
                have Hgr := Lib.hid (fun m (h1 : i ≤ m) (h2 : m < k) => group_at Hlow.out h1 h2 hkc Heq.out (Hlo.out.imp id (fun h => h.resolve_left (by omega))) Hhi.out)
                have Hst2 := Lib.hid (Hst.out.drewN q)
                have HL2 := Lib.hid (below_drewN HL.out q)
                skip
                go_wp2_with fail
                go_quiet (fail)
                go_wp2
                go_loopg [14] (k - i) (fun kx s14 wr => ∃ m : Nat, s14 = .int .i64 m ∧ i ≤ m ∧ m ≤ k ∧ k - m ≤ kx ∧ Hid (StC wr g c (stM sc c m)) ∧ Hid (Below w.heap.size w wr))
                case atStart => exact ⟨i, rfl, Nat.le_refl _, by omega, Nat.le_refl _, Hst2.out.drewN _, below_drewN HL2.out _⟩
                case round =>
                  clear Hst2 HL2 Hst HL
                  obtain ⟨m, rfl, him, hmk, hkx3, Hst3, HL3⟩ := hrel
                  by_cases hm : m < k
                  · have x3 : wr.cell? ⟨g, m * 5 + 3, none⟩ = some (.int .i64 (stM sc c m m 3)) := (Hst3.out.2 m 3 (by omega) (by decide)).1
                    have f3 := (Hst3.out.2 m 3 (by omega) (by decide)).2
                    have f4 := (Hst3.out.2 m 4 (by omega) (by decide)).2
                    have e4 : (wr.setCell ⟨g, m * 5 + 3, none⟩ (.int .i64 ((i : Int) + 1))).cell? ⟨g, m * 5 + 4, none⟩ = some (.int .i64 (stM sc c m m 4)) :=
                      (World.cell?_setCell_other _ _ _ _ (by simp)).trans (Hst3.out.2 m 4 (by omega) (by decide)).1
                    have hg1 : g < wr.heap.size := Hst3.out.1
                    obtain ⟨q1, q2⟩ := Hgr.out m him hm
                    have HS := Lib.hid (((Hst3.out.set_ (c := m) (j := 3) (by omega) (by decide) ((i : Int) + 1)).set_ (c := m) (j := 4) (by omega) (by decide) (k : Int)).congr (fun p j _ hj => stM_step q1 q2 p j hj))
                    have HB := Lib.hid ((HL3.out.grown (grown_setCell wr ⟨g, m * 5 + 3, none⟩ (.int .i64 ((i : Int) + 1))) HL3.out.size (fun b e => by simp at e; omega)).grown (grown_setCell _ ⟨g, m * 5 + 4, none⟩ (.int .i64 (k : Int))) (by have := HL3.out.size; simpa using this) (fun b e => by simp at e; omega))
                    have z0 : (0 : Int) ≤ (m : Int) := by omega
                    have z1 : (m : Int) < (c : Int) := by omega
                    generalize stM sc c m m 3 = v3 at *
                    generalize stM sc c m m 4 = v4 at *
                    clear q1 q2
                    go_wp2
                    go_roundg (k - (m + 1))
                    case measure => omega
                    case rel => exact ⟨m + 1, by go_num, by omega, hm, Nat.le_refl _, HS, HB⟩
                  · obtain rfl : m = k := by omega
                    go_wp2
                    go_roundg (c - m)
                    case measure => omega
                    case rel => exact ⟨m, rfl, hkc, Nat.le_refl _, .inr (Hhi.out.imp id (fun h => by rw [Heq.out (m - 1) (by omega) (by omega)]; exact fun e => h e.symm)), Hst3, HL3⟩
              · go_wp2_with fail
                go_quiet (fail)
                go_wp2
                go_roundg (c - (k + 1))
                case measure => omega
                case rel => exact ⟨k + 1, _, by go_num, by omega, hk, Nat.le_refl _, fun p h1 h2 => by
                  by_cases e : p = k
                  · rw [e]; exact Hbb.out.1 trivial
                  · exact Heq.out p h1 (by omega), rfl⟩
            · have hkz : decide ((k : Int) < (c : Int)) = false := decide_eq_false (by omega)
              have hkc2 : k = c := by omega
              have Hhi := Lib.hid (show k = c ∨ sc (oAt sc c k) ≠ sc (oAt sc c i) from .inl hkc2)
              have hik2 : i < k := by
                rcases Nat.lt_or_eq_of_le hik with h | h
                · exact h
                · subst h
                  rcases Hhi.out with h | h
                  · omega
                  · exact absurd rfl h
              have Hgr := Lib.hid (fun m (h1 : i ≤ m) (h2 : m < k) => group_at Hlow.out h1 h2 hkc Heq.out (Hlo.out.imp id (fun h => h.resolve_left (by omega))) Hhi.out)
              have Hst2 := Lib.hid (Hst.out.drewN q)
              have HL2 := Lib.hid (below_drewN HL.out q)
              clear hkc2
              go_wp2_with fail
              go_quiet (fail)
              go_wp2
              go_loopg [14] (k - i) (fun kx s14 wr => ∃ m : Nat, s14 = .int .i64 m ∧ i ≤ m ∧ m ≤ k ∧ k - m ≤ kx ∧ Hid (StC wr g c (stM sc c m)) ∧ Hid (Below w.heap.size w wr))
              case atStart => exact ⟨i, rfl, Nat.le_refl _, by omega, Nat.le_refl _, Hst2.out.drewN _, below_drewN HL2.out _⟩
              case round =>
                clear Hst2 HL2 Hst HL
                obtain ⟨m, rfl, him, hmk, hkx3, Hst3, HL3⟩ := hrel
                by_cases hm : m < k
                · have x3 : wr.cell? ⟨g, m * 5 + 3, none⟩ = some (.int .i64 (stM sc c m m 3)) := (Hst3.out.2 m 3 (by omega) (by decide)).1
                  have f3 := (Hst3.out.2 m 3 (by omega) (by decide)).2
                  have f4 := (Hst3.out.2 m 4 (by omega) (by decide)).2
                  have e4 : (wr.setCell ⟨g, m * 5 + 3, none⟩ (.int .i64 ((i : Int) + 1))).cell? ⟨g, m * 5 + 4, none⟩ = some (.int .i64 (stM sc c m m 4)) :=
                    (World.cell?_setCell_other _ _ _ _ (by simp)).trans (Hst3.out.2 m 4 (by omega) (by decide)).1
                  have hg1 : g < wr.heap.size := Hst3.out.1
                  obtain ⟨q1, q2⟩ := Hgr.out m him hm
                  have HS := Lib.hid (((Hst3.out.set_ (c := m) (j := 3) (by omega) (by decide) ((i : Int) + 1)).set_ (c := m) (j := 4) (by omega) (by decide) (k : Int)).congr (fun p j _ hj => stM_step q1 q2 p j hj))
                  have HB := Lib.hid ((HL3.out.grown (grown_setCell wr ⟨g, m * 5 + 3, none⟩ (.int .i64 ((i : Int) + 1))) HL3.out.size (fun b e => by simp at e; omega)).grown (grown_setCell _ ⟨g, m * 5 + 4, none⟩ (.int .i64 (k : Int))) (by have := HL3.out.size; simpa using this) (fun b e => by simp at e; omega))
                  have z0 : (0 : Int) ≤ (m : Int) := by omega
                  have z1 : (m : Int) < (c : Int) := by omega
                  generalize stM sc c m m 3 = v3 at *
                  generalize stM sc c m m 4 = v4 at *
                  clear q1 q2
                  go_wp2
                  go_roundg (k - (m + 1))
                  case measure => omega
                  case rel => exact ⟨m + 1, by go_num, by omega, hm, Nat.le_refl _, HS, HB⟩
                · obtain rfl : m = k := by omega
                  go_wp2
                  go_roundg (c - m)
                  case measure => omega
                  case rel => exact ⟨m, rfl, hkc, Nat.le_refl _, .inr (Hhi.out.imp id (fun h => by rw [Heq.out (m - 1) (by omega) (by omega)]; exact fun e => h e.symm)), Hst3, HL3⟩
        · obtain rfl : i = c := by omega
          go_wp2
          go_ret2
          refine ⟨.slice (some ⟨g, 0, none⟩) i c9, ?_, ?_, HL.out⟩
          · rw [Hp.out.1]; rfl
          · rw [Hp.out.2]
            have hl := Rk.ranking_length sc i
            exact ⟨_, c9, by rw [hl], by omega, fun _ => ⟨g, rfl, Hst.out.1, fun p j hp hj => by
              rw [hl] at hp
              rw [(Hst.out.2 p j hp hj).1, stM_done hp hj]⟩⟩

theorem rank_any (parts : Int) (f : Nat) (hf : f < 256) (v : Value) (rows : List RowL) (B : Nat) (w : World) (hv : Rows w B v rows) (hB : B ≤ w.heap.size) :
    Calls Tryz.prog 11 #[.agg #[.int .i64 parts, v], .int .u8 f] w (RankPost parts f rows w) := by
  by_cases h : specErr parts rows = 0
  · by_cases hg : 1 ≤ f ∧ f ≤ 14
    · have h1 := (specErr_zero h).1
      obtain ⟨n, rfl⟩ : ∃ n : Nat, parts = n := ⟨parts.toNat, by omega⟩
      exact rank_main n f hg.1 hg.2 v rows B w hv hB h
    · exact rank_none parts f hf v rows B w hv hB h hg
  · exact rank_bad parts f v rows B w hv hB h
end Go.Proofs.YtfpmbjobieeidaaGreat
