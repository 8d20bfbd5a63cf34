/-
  The walk of scores.
-/
import Derived.Test.YtfpmbjobieeidaaGreatTallies
import Derived.Test.YtfpmbjobieeidaaGreatMap
import Derived.Test.YtfpmbjobieeidaaGreatScoreP
import Derived.Test.YtfpmbjobieeidaaGreatGrow
namespace Go.Proofs.YtfpmbjobieeidaaGreat
open Go.RowKit

/-- The cells of some fractions. -/
def frCells (l : List (Int × Int)) : List Value := l.flatMap fun p => [.int .i64 p.1, .int .i64 p.2]
theorem frCells_length (l : List (Int × Int)) : (frCells l).length = l.length * 2 := by
  unfold frCells
  induction l with
  | nil => rfl
  | cons p l ih => simp [List.flatMap_cons, ih]; omega
theorem frCells_snoc (l : List (Int × Int)) (p : Int × Int) : frCells (l ++ [p]) = frCells l ++ [.int .i64 p.1, .int .i64 p.2] := by unfold frCells; simp

def tallyV (rows : List RowL) (c : Nat) : Value := .agg #[.int .i64 (Rk.tal rows c 0), .int .i64 (Rk.tal rows c 1), .int .i64 (Rk.tal rows c 2), .int .i64 (Rk.tal rows c 3)]
def Rk.scoreAt (k : Nat) (rows : List RowL) (c : Nat) : Int × Int := Rk.score k (Rk.tal rows c 0) (Rk.tal rows c 1) (Rk.tal rows c 2) (Rk.tal rows c 3)
def Rk.scoresOf (k : Nat) (rows : List RowL) (n : Nat) : List (Int × Int) := (List.range n).map (Rk.scoreAt k rows)
theorem scoresOf_succ (k : Nat) (rows : List RowL) (n : Nat) : Rk.scoresOf k rows (n + 1) = Rk.scoresOf k rows n ++ [Rk.scoreAt k rows n] := by unfold Rk.scoresOf; rw [List.range_succ, List.map_append]; rfl
theorem tallyV_inj {rows : List RowL} {c d : Nat} (h : tallyV rows c = tallyV rows d) (k : Nat) : Rk.scoreAt k rows c = Rk.scoreAt k rows d := by
  unfold tallyV at h
  simp at h
  unfold Rk.scoreAt
  rw [h.1, h.2.1, h.2.2.1, h.2.2.2]

/-- The entries of the map: scores of tallies. -/
def Known (k : Nat) (rows : List RowL) (M : List (Value × Value)) : Prop := ∀ p ∈ M, ∃ c, p = (tallyV rows c, fv (Rk.scoreAt k rows c))
theorem Known.hit {k : Nat} {rows : List RowL} {M : List (Value × Value)} (h : Known k rows M) (c : Nat) : ∀ p ∈ M, p.1 = tallyV rows c → p.2 = fv (Rk.scoreAt k rows c) := fun p hp e => by
  obtain ⟨d, rfl⟩ := h p hp
  rw [show fv (Rk.scoreAt k rows c) = fv (Rk.scoreAt k rows d) by rw [tallyV_inj e k]]

theorem zero_ratio (w : World) : (zeroValue 45).run Tryz.prog w = .ok (.agg #[.int .i64 0, .int .i64 0]) w := Tryz.zeroValue45 w
theorem info_ratio : (Tryz.prog.info? 45).map (fun i => (i.zero, i.size, i.bytes)) = some (some (.agg #[.int .i64 0, .int .i64 0]), 2, 16) := by kernel_rfl
theorem make_ratios (w : World) (n : Nat) (h : n ≤ 256) : (Instr.makeSlice 73 (.int .i64 0) (.int .i64 n)).run Tryz.prog w = .ok (.slice (some ⟨w.heap.size, 0, none⟩) 0 n) (w.alloc (.cells (madeCells #[.int .i64 0, .int .i64 0] (n * 2)) 45)) := by
  obtain ⟨i, hi, hz, hs, hb⟩ := info_parts info_ratio
  have h := run_make (P := Tryz.prog) w 73 45 i (.agg #[.int .i64 0, .int .i64 0]) Tryz.underlying73 hi hz .i64 .i64 0 n (by omega) (by omega) (by rw [hb]; omega) (by omega)
  rw [hs] at h
  exact h
theorem own_made (w : World) (n : Nat) (h : n ≤ 256) : (w.alloc (.cells (madeCells #[.int .i64 0, .int .i64 0] (n * 2)) 45)).ownsRow w.heap.size 45 2 (.slice (some ⟨w.heap.size, 0, none⟩) 0 n) 0 [] :=
  World.ownsRow_made w _ n (Nat.le_refl _) (by unfold maxLen; omega) (size_madeCells _ _)

theorem al {B : Nat} {a w : World} (h : Below B a w) (hB : B ≤ a.heap.size) (o : Obj) : Below B a (w.alloc o) := h.alloc (Nat.le_trans hB h.size) o
theorem al1 (w : World) (o : Obj) : Below w.heap.size w (w.alloc o) := al (Below.refl _ w) (Nat.le_refl _) o
theorem al2 (w : World) (o p : Obj) : Below w.heap.size w ((w.alloc o).alloc p) := al (al1 w o) (Nat.le_refl _) p
theorem al3 (w : World) (o p q : Obj) : Below w.heap.size w (((w.alloc o).alloc p).alloc q) := al (al2 w o p) (Nat.le_refl _) q
theorem al4 (w : World) (o p q r : Obj) : Below w.heap.size w ((((w.alloc o).alloc p).alloc q).alloc r) := al (al3 w o p q) (Nat.le_refl _) r

/-- While the scores are reckoned: c of n. -/
structure ScR (w : World) (n ks : Nat) (rows : List RowL) (gt c : Nat) (v : Value) (wr : World) : Prop where
  row : wr.ownsRow (w.heap.size + 3) 45 2 v c (frCells (Rk.scoresOf ks rows c))
  map : ∃ M, MapAt wr Tryz.prog 35 (w.heap.size + 2) M ∧ Known ks rows M
  fn : Blk wr (w.heap.size + 1) 70 #[tabF ks]
  tal : TalAt wr gt n (Rk.tal rows)
  low : Below w.heap.size w wr
section
variable {w wr w' : World} {n ks : Nat} {rows : List RowL} {gt c : Nat} {v : Value}
theorem ScR.below (h : ScR w n ks rows gt c v wr) (hb : Below wr.heap.size wr w') : ScR w n ks rows gt c v w' := by
  obtain ⟨M, hM, hK⟩ := h.map
  exact ⟨own_below h.row hb (Nat.le_refl _), ⟨M, hM.same (hb.block _ hM.lt), hK⟩, h.fn.below hb h.fn.lt, h.tal.below hb h.tal.lt, h.low.trans (hb.mono h.low.size)⟩
theorem ScR.noted (h : ScR w n ks rows gt c v wr) (hg : wr.grownBy w' (some (w.heap.size + 2))) {M : List (Value × Value)} (hM : MapAt w' Tryz.prog 35 (w.heap.size + 2) M) (hK : Known ks rows M) : ScR w n ks rows gt c v w' := by
  obtain ⟨M0, hM0, _⟩ := h.map
  refine ⟨own_kept h.row hg (fun g e e2 => by have := own_row_ge h.row g e2; injection e with e; omega), ⟨M, hM, hK⟩, h.fn.grown hg (fun e => by injection e with e; omega), ?_, h.low.grown hg h.low.size (fun g e => by injection e with e; omega)⟩
  refine h.tal.kept (hg.block gt h.tal.lt (fun e => ?_))
  injection e with e
  obtain ⟨es, cl, hm, _⟩ := hM0
  obtain ⟨cur, hb, _⟩ := h.tal
  unfold Blk at hb
  rw [e, hm] at hb
  cases hb
theorem ScR.snoc (h : ScR w n ks rows gt c v wr) {v' : Value} (hown : w'.ownsRow (w.heap.size + 3) 45 2 v' (c + 1) (frCells (Rk.scoresOf ks rows c) ++ [.int .i64 (Rk.scoreAt ks rows c).1, .int .i64 (Rk.scoreAt ks rows c).2]))
    (hg : wr.grownBy w' v.ownBlock) : ScR w n ks rows gt (c + 1) v' w' := by
  have hge := own_row_ge h.row
  obtain ⟨M, hM, hK⟩ := h.map
  obtain ⟨cur, hb, _⟩ := h.tal
  refine ⟨by rw [scoresOf_succ, frCells_snoc]; exact hown, ⟨M, hM.same (hg.block _ hM.lt (fun e => by have := hge _ e.symm; omega)), hK⟩, h.fn.grown hg (fun e => by have := hge _ e.symm; omega), h.tal.kept (hg.block gt h.tal.lt (fun e => own_blk_ne h.row hb (by decide) e.symm)), h.low.grown hg h.low.size (fun g e => by have := hge g e; omega)⟩
end

theorem cells_new (w : World) (t : TypeId) (cs : Array Value) (j : Nat) (u : Value) (h : cs.toList[j]? = some u) : (w.alloc (.cells cs t)).cell? ((⟨w.heap.size, 0, none⟩ : Addr).add j) = some u := by
  have e : (⟨w.heap.size, 0, none⟩ : Addr).add j = ⟨w.heap.size, j, none⟩ := by
    unfold Addr.add
    split
    · rename_i h0; simp_all
    · simp
  rw [e, (Blk.new w t cs).cell j, ← Array.getElem?_toList]
  exact h
theorem scores_start (w : World) (n ks : Nat) (rows : List RowL) (hn : n ≤ 256) (sv : Value) {W0 w1 : World} {gt : Nat}
    (hW0 : W0 = (((w.alloc (.cells #[.int .i64 n, sv] 24)).alloc (.cells #[tabF ks] 70)).alloc (.map #[] 0)).alloc (.cells (madeCells #[.int .i64 0, .int .i64 0] (n * 2)) 45))
    (hb : Below W0.heap.size W0 w1) (hT : TalAt w1 gt n (Rk.tal rows)) : ScR w n ks rows gt 0 (.slice (some ⟨w.heap.size + 3, 0, none⟩) 0 n) w1 := by
  subst hW0
  have s1 : (w.alloc (.cells #[.int .i64 n, sv] 24)).heap.size = w.heap.size + 1 := by simp
  have s2 : ((w.alloc (.cells #[.int .i64 n, sv] 24)).alloc (.cells #[tabF ks] 70)).heap.size = w.heap.size + 2 := by simp
  have s3 : (((w.alloc (.cells #[.int .i64 n, sv] 24)).alloc (.cells #[tabF ks] 70)).alloc (.map #[] 0)).heap.size = w.heap.size + 3 := by simp
  have f := Blk.new (w.alloc (.cells #[.int .i64 n, sv] 24)) 70 #[tabF ks]
  rw [s1] at f
  have m := MapAt.made ((w.alloc (.cells #[.int .i64 n, sv] 24)).alloc (.cells #[tabF ks] 70)) Tryz.prog 35
  rw [s2] at m
  have r := own_made (((w.alloc (.cells #[.int .i64 n, sv] 24)).alloc (.cells #[tabF ks] 70)).alloc (.map #[] 0)) n hn
  rw [s3] at r
  have f2 := (f.alloc (.map #[] 0)).alloc (.cells (madeCells #[.int .i64 0, .int .i64 0] (n * 2)) 45)
  refine ⟨own_below r hb (Nat.le_refl _), ⟨[], (m.same (Below.heap_alloc _ _ _ m.lt)).same (hb.block _ (by simp)), fun p hp => by cases hp⟩, f2.below hb f2.lt, hT, ?_⟩
  exact (al4 _ _ _ _ _).trans (hb.mono (by simp; omega))

def ScsPost (n ks : Nat) (rows : List RowL) (w : World) (e : Ending) (w' : World) : Prop :=
  ∃ v', e = .returned v' ∧ w'.ownsRow (w.heap.size + 3) 45 2 v' n (frCells (Rk.scoresOf ks rows n)) ∧ Below w.heap.size w w'

set_option maxRecDepth 100000 in
set_option maxHeartbeats 1000000 in
theorem scores_any (ks n : Nat) (k0 : 1 ≤ ks) (k1 : ks ≤ 14) (v : Value) (rows : List RowL) (B : Nat) (w : World) (hv : Rows w B v rows) (hB : B ≤ w.heap.size) (hn1 : n ≤ 256) (hr64 : rows.length ≤ 64)
    (hin : ∀ i, i < rows.length → Rk.Incr n (Rk.rowAt rows i).1) :
    Calls Tryz.prog 40 #[.agg #[.int .i64 n, v], .agg #[tabF ks]] w (ScsPost n ks rows w) := by
  have HT := Lib.hid (fun W (hb : Below w.heap.size w W) => tallies_any n v rows B W (hv.below (hb.mono hB)) (by have := hb.size; omega) hn1 hr64 hin)
  obtain ⟨A, cv, vs, rfl, j1, j2, j3, j4⟩ := hv
  clear j1 j2 j3 j4
  have hmm := @run_makeMap Tryz.prog
  have hmk := fun W => make_ratios W n hn1
  have Ht : Hid (tabF ks = .func (.func (tabN ks)) #[] #[]) := if_pos ⟨k0, k1⟩
  have Hen := tab_enter ks k0 k1
  have HF := Lib.hid (fun c W => formula_any ks k0 k1 (Rk.tal rows c 0) (Rk.tal rows c 1) (Rk.tal rows c 2) (Rk.tal rows c 3) (by have := Rk.tal_bounds rows c 0; omega) (by have := Rk.tal_bounds rows c 1; omega) (by have := Rk.tal_bounds rows c 2; omega) (by have := Rk.tal_bounds rows c 3; omega) W)
  clear hin hB
  rw [Ht.out]
  generalize tabN ks = fn at *
  go_enter Tryz.func40, Tryz.ntmps40
  go_wp2_with fail
  refine (HT.out _ ?hB0).mono ?_
  case hB0 => exact al4 _ _ _ _ _
  rintro e w1 ⟨gt, rfl, hgt, hT, hb⟩
  have H0 := Lib.hid (scores_start w n ks rows hn1 (.slice A rows.length cv) (by rw [Ht.out]) hb hT)
  clear hT hb hgt HT hmm hmk
  go_wp2
  go_loopg [6, 18] n (fun kx s6 s18 wr => ∃ (c : Nat) (v : Value), s6 = v ∧ s18 = .int .i64 c ∧ c ≤ n ∧ kx = n - c ∧ Hid (ScR w n ks rows gt c v wr))
  case atStart => exact ⟨0, _, rfl, rfl, Nat.zero_le _, rfl, H0⟩
  case round =>
    clear H0
    obtain ⟨c, v, rfl, rfl, hcn, hkx, H⟩ := hrel
    have Hkx := Lib.hid hkx
    clear hkx
    obtain ⟨A6, c6, hv6, j1, j2, j3⟩ := own_form H.out.row
    clear j1 j2 j3
    subst hv6
    by_cases hlt : c < n
    · obtain ⟨wo, rfl⟩ : ∃ wo : World, wo = wr := ⟨_, rfl⟩
      have c_0 : wo.cell? ⟨gt, c * 4, none⟩ = some (.int .i64 (Rk.tal rows c 0)) := H.out.tal.cell hlt (j := 0) (by decide)
      have c_1 := H.out.tal.cell hlt (j := 1) (by decide)
      have c_2 := H.out.tal.cell hlt (j := 2) (by decide)
      have c_3 := H.out.tal.cell hlt (j := 3) (by decide)
      have b_0 := Rk.tal_bounds rows c 0
      have b_1 := Rk.tal_bounds rows c 1
      have b_2 := Rk.tal_bounds rows c 2
      have b_3 := Rk.tal_bounds rows c 3
      have HFc := Lib.hid (HF.out c)
      obtain ⟨r1, r2, hr⟩ : ∃ r1 r2, Rk.scoreAt ks rows c = (r1, r2) := ⟨_, _, rfl⟩
      have Hr := Lib.hid hr
      obtain ⟨M, hM, hK⟩ := H.out.map
      obtain ⟨kl, hkl⟩ := keyT_of (Rk.tal rows c 0) (Rk.tal rows c 1) (Rk.tal rows c 2) (Rk.tal rows c 3) (WalkArith.wf_i64 (by omega)) (WalkArith.wf_i64 (by omega)) (WalkArith.wf_i64 (by omega)) (WalkArith.wf_i64 (by omega))
      have hM1 := hM.same (w' := wo.alloc (.cells #[.int .i64 (Rk.tal rows c 0), .int .i64 (Rk.tal rows c 1), .int .i64 (Rk.tal rows c 2), .int .i64 (Rk.tal rows c 3)] 35)) (Below.heap_alloc _ _ _ hM.lt)
      have cfn : wo.cell? ⟨w.heap.size + 1, 0, none⟩ = some (.func (.func fn) #[] #[]) := by
        rw [← Ht.out]; exact H.out.fn.cell 0
      have ltf := H.out.fn.lt
      have ltw : w.heap.size < wo.heap.size := by omega
      have lt3 : w.heap.size + 3 ≤ wo.heap.size := hM.lt
      have ltt := H.out.tal.lt
      obtain ⟨i0, hi0, hz0, hz1, hz2⟩ := info_parts info_ratio
      by_cases hin : ∃ p ∈ M, p.1 = tallyV rows c
      · have hrun := MapAt.hit (t := 111) (e := 45) (v := fv (Rk.scoreAt ks rows c)) hM1 keyTLaw Tryz.underlying111 (show keyOf Tryz.prog 35 (tallyV rows c) = some kl from hkl) (hK.hit c) hin true
        rw [hr] at hrun
        unfold tallyV fv at hrun
        simp only [if_true] at hrun
        rw [show w.heap.size + 2 = w.heap.size + 1 + 1 from rfl] at hrun
        clear hr hin hM1 hK hkl hM b_0 b_1 b_2 b_3 HFc HF
        generalize Rk.tal rows c 0 = x0 at *
        generalize Rk.tal rows c 1 = x1 at *
        generalize Rk.tal rows c 2 = x2 at *
        generalize Rk.tal rows c 3 = x3 at *
        obtain ⟨W3, hW3⟩ : ∃ W3, W3 = ((wo.alloc (.cells #[.int .i64 x0, .int .i64 x1, .int .i64 x2, .int .i64 x3] 35)).alloc (.cells #[.int .i64 r1, .int .i64 r2] 45)) := ⟨_, rfl⟩
        have H3 := Lib.hid (H.out.below (show Below wo.heap.size wo (W3.alloc (.cells #[.int .i64 r1, .int .i64 r2] 45)) by
          rw [hW3]; exact al3 _ _ _ _))
        have hs3 : W3.heap.size = wo.heap.size + 1 + 1 := by rw [hW3]; simp
        have HW3 := Lib.hid hW3
        have Hs3 := Lib.hid hs3
        clear hW3 hs3
        go_wp2_with (at_builtin; go_must (rw [← HW3.out]; refine wpList_append_own _ rfl _ _ 73 rfl (w.heap.size + 3) 45 i0 _ 2 16 Tryz.underlying73 hi0 hz0 hz1 hz2 rfl (by decide) _ c (frCells (Rk.scoresOf ks rows c)) rfl H3.out.row ⟨W3.heap.size, 0, none⟩ 1 1 [.int .i64 r1, .int .i64 r2] (by rw [Hs3.out]; rfl) rfl ?d1 ?d2 ?d3 ?d4 ?d5 ?_))
        case d1 => exact fun j u hj => cells_new W3 45 #[.int .i64 r1, .int .i64 r2] j u hj
        case d2 => intro u hu; simp at hu; rcases hu with rfl | rfl <;> rfl
        case d3 => unfold maxLen; omega
        case d4 => omega
        case d5 => have := Hs3.out; simp; omega
        intro v47 wb hown47 hg47 _
        have HS := Lib.hid (H3.out.snoc (by rw [Hr.out]; exact hown47) hg47)
        clear hown47 hg47
        go_wp2
        go_roundg (n - (c + 1))
        case rel => exact ⟨c + 1, v47, rfl, by go_num, hlt, rfl, HS⟩
        case measure => rw [Hkx.out]; omega
      · have hmiss : ∀ p ∈ M, p.1 ≠ tallyV rows c := fun p hp e => hin ⟨p, hp, e⟩
        have hrun := MapAt.miss (t := 111) (e := 45) hM1 keyTLaw Tryz.underlying111 (zero_ratio _) (show keyOf Tryz.prog 35 (tallyV rows c) = some kl from hkl) hmiss true
        have HFd : Hid (∀ W, Calls Tryz.prog fn #[.int .i64 (Rk.tal rows c 0), .int .i64 (Rk.tal rows c 1), .int .i64 (Rk.tal rows c 2), .int .i64 (Rk.tal rows c 3)] W (FvPost (r1, r2) W)) := by
          show ∀ W, _
          rw [← hr]; exact HFc.out
        have HK2 := Lib.hid (show Known ks rows (M ++ [(tallyV rows c, fv (r1, r2))]) from fun p hp => by
          rcases List.mem_append.1 hp with h | h
          · exact hK p h
          · obtain rfl := List.mem_singleton.1 h
            exact ⟨c, by rw [hr]⟩)
        have Hkl := Lib.hid (show keyOf Tryz.prog 35 (tallyV rows c) = some kl from hkl)
        have Hmiss := Lib.hid hmiss
        have HM := Lib.hid hM
        unfold tallyV at hrun Hkl Hmiss HK2
        simp only [if_true] at hrun
        rw [show w.heap.size + 2 = w.heap.size + 1 + 1 from rfl] at hrun
        clear hr hin hM1 hK hkl hM b_0 b_1 b_2 b_3 HFc HF hmiss
        generalize Rk.tal rows c 0 = x0 at *
        generalize Rk.tal rows c 1 = x1 at *
        generalize Rk.tal rows c 2 = x2 at *
        generalize Rk.tal rows c 3 = x3 at *
        go_wp2_with fail
        refine (HFd.out _).mono ?_
        rintro e w4 ⟨rfl, hb4⟩
        have B2 := al2 wo (.cells #[.int .i64 x0, .int .i64 x1, .int .i64 x2, .int .i64 x3] 35) (.cells #[.int .i64 0, .int .i64 0] 45)
        have B4 := B2.trans (hb4.mono B2.size)
        have T8 : Blk w4 wo.heap.size 35 #[.int .i64 x0, .int .i64 x1, .int .i64 x2, .int .i64 x3] := ((Blk.new wo _ _).alloc _).below hb4 (by simp <;> omega)
        have T9 : Blk w4 (wo.heap.size + 1) 45 #[.int .i64 0, .int .i64 0] := by
          have h := (Blk.new (wo.alloc (.cells #[.int .i64 x0, .int .i64 x1, .int .i64 x2, .int .i64 x3] 35)) 45 #[.int .i64 0, .int .i64 0]).below hb4 (by simp)
          simpa using h
        obtain ⟨W5, hW5⟩ : ∃ W5, W5 = (w4.setCell ⟨wo.heap.size + 1, 0, none⟩ (.int .i64 r1)).setCell ⟨wo.heap.size + 1, 1, none⟩ (.int .i64 r2) := ⟨_, rfl⟩
        have T9' : Blk W5 (wo.heap.size + 1) 45 #[.int .i64 r1, .int .i64 r2] := by rw [hW5]; exact st2 T9 _ _
        have T8' : Blk W5 wo.heap.size 35 #[.int .i64 x0, .int .i64 x1, .int .i64 x2, .int .i64 x3] := by rw [hW5]; exact (T8.far (by simp) _).far (by simp) _
        have B5 : Below wo.heap.size wo W5 := by rw [hW5]; exact below_st2 (g := wo.heap.size + 1) B4 (by omega) B4.size _ _
        have hM5 := HM.out.same (B5.block _ HM.out.lt)
        obtain ⟨w6, hrun6, hM6, hg6⟩ := MapAt.store (t := 111) (e := 45) (v := fv (r1, r2)) hM5 keyTLaw Tryz.underlying111 Hkl.out Hmiss.out
        have T9w : Blk w6 (wo.heap.size + 1) 45 #[.int .i64 r1, .int .i64 r2] := T9'.grown hg6 (fun e => by injection e with e; have := HM.out.lt; omega)
        have H3 := Lib.hid (((H.out.below B5).noted hg6 hM6 HK2.out).below (show Below w6.heap.size w6 (w6.alloc (.cells #[.int .i64 r1, .int .i64 r2] 45)) from al1 _ _))
        have sz6 : wo.heap.size ≤ w6.heap.size := Nat.le_trans B5.size hg6.size
        unfold fv at hrun6
        simp only at hrun6
        rw [show w.heap.size + 2 = w.heap.size + 1 + 1 from rfl, hW5] at hrun6
        have d0 := T8.cell 0
        have d1 := T8.cell 1
        have d2 := T8.cell 2
        have d3 := T8.cell 3
        have d0' := T8'.cell 0
        have d1' := T8'.cell 1
        have d2' := T8'.cell 2
        have d3' := T8'.cell 3
        rw [hW5] at d0' d1' d2' d3'
        have k0 := T9.cell 0
        have k1 := T9.cell 1
        have f0 := T9.frozen 0
        have f1 := T9.frozen 1
        have q0 := T9w.cell 0
        have q1 := T9w.cell 1
        have lt9 := T9.lt
        simp only [List.getElem?_toArray, List.getElem?_cons_zero, List.getElem?_cons_succ] at d0 d1 d2 d3 d0' d1' d2' d3' k0 k1 q0 q1
        clear B2 B4 T8 T9 T9' T8' B5 hM5 hM6 hg6 T9w hW5 hb4 hrun
        unfold fv
        go_wp2_with (at_builtin; go_must (refine wpList_append_own _ rfl _ _ 73 rfl (w.heap.size + 3) 45 i0 _ 2 16 Tryz.underlying73 hi0 hz0 hz1 hz2 rfl (by decide) _ c (frCells (Rk.scoresOf ks rows c)) rfl H3.out.row ⟨w6.heap.size, 0, none⟩ 1 1 [.int .i64 r1, .int .i64 r2] rfl rfl ?d1 ?d2 ?d3 ?d4 ?d5 ?_))
        case d1 => exact fun j u hj => cells_new w6 45 #[.int .i64 r1, .int .i64 r2] j u hj
        case d2 => intro u hu; simp at hu; rcases hu with rfl | rfl <;> rfl
        case d3 => unfold maxLen; omega
        case d4 => omega
        case d5 => simp; omega
        intro v47 wb hown47 hg47 _
        have HS := Lib.hid (H3.out.snoc (by rw [Hr.out]; exact hown47) hg47)
        clear hown47 hg47
        go_wp2
        go_roundg (n - (c + 1))
        case rel => exact ⟨c + 1, v47, rfl, by go_num, hlt, rfl, HS⟩
        case measure => rw [Hkx.out]; omega
    · obtain rfl : c = n := by omega
      go_wp2
      go_ret
      exact ⟨_, rfl, H.out.row, H.out.low⟩
end Go.Proofs.YtfpmbjobieeidaaGreat
