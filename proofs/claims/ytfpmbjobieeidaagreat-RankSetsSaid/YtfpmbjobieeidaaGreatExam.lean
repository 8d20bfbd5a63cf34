/-
  The closed examples of the chapter: ranks.
-/
import Derived.Test.YtfpmbjobieeidaaGreatRankM
import Derived.Test.YtfpmbjobieeidaaGreatHit
import Derived.Test.YtfpmbjobieeidaaGreatRInts
import Derived.Test.YtfpmbjobieeidaaGreatEqR
import Derived.Test.YtfpmbjobieeidaaGreatFrac
import Derived.Test.YtfpmbjobieeidaaGreatScoreP
namespace Go.Proofs.YtfpmbjobieeidaaGreat
open Go.RowKit

theorem ex_sets1 : Rk.sortSets [[1, 2], [2, 3]] = [[1, 2], [2, 3]] := (Rk.sortSets_unique (List.Perm.refl _) (by decide)).symm
theorem ex_sets2 : Rk.sortSets [[1, 3], [2]] = [[2], [1, 3]] := (Rk.sortSets_unique (List.Perm.swap _ _ _) (by decide)).symm
theorem ex_small : Rk.smallest [[1, 2], [2, 3]] = [[1, 2], [2, 3]] := by
  unfold Rk.smallest; rw [ex_sets1]; decide
theorem sortInts_sorted {l : List Int} (h : l.Pairwise fun x y => decide (x ≤ y) = true) : Rk.sortInts l = l := List.mergeSort_of_pairwise h
def exH : Nat → Nat := Rk.hTo [[1, 2], [2, 3]] 2
theorem ex_leaf12 : Rk.leaf exH 2 [1, 2] [] = (true, []) := by
  unfold Rk.leaf
  rw [sortInts_sorted (by decide), if_pos (by decide)]
theorem ex_leaf13 : Rk.leaf exH 2 [1, 3] [] = (true, [[1, 3]]) := by
  unfold Rk.leaf
  rw [sortInts_sorted (by decide), if_neg (by decide)]
  rfl
theorem ex_leaf2 : Rk.leaf exH 2 [2] [[1, 3]] = (true, [[1, 3], [2]]) := by
  unfold Rk.leaf
  rw [sortInts_sorted (by decide), if_neg (by decide)]
  rfl
theorem ex_g12 : Rk.grow exH [[1, 2], [2, 3]] 0 [1, 2] (exH 1 ||| exH 2) [] = (true, []) := by
  rw [Rk.grow, if_pos (by decide)]; exact ex_leaf12
theorem ex_g13 : Rk.grow exH [[1, 2], [2, 3]] 0 [1, 3] (exH 1 ||| exH 3) [] = (true, [[1, 3]]) := by
  rw [Rk.grow, if_pos (by decide)]; exact ex_leaf13
theorem ex_g1 : Rk.grow exH [[1, 2], [2, 3]] 1 [1] (exH 1) [] = (true, [[1, 3]]) := by
  rw [Rk.grow, if_neg (by decide)]
  show Rk.steps _ [2, 3] [] = _
  rw [Rk.steps, if_pos (by rw [show ([1] ++ [2] : List Int) = [1, 2] from rfl]; exact congrArg Prod.fst ex_g12)]
  rw [show ([1] ++ [2] : List Int) = [1, 2] from rfl, show (Int.toNat 2) = 2 from rfl, ex_g12, Rk.steps]
  rw [show ([1] ++ [3] : List Int) = [1, 3] from rfl, show (Int.toNat 3) = 3 from rfl, ex_g13]
  rfl
theorem ex_g2 : Rk.grow exH [[1, 2], [2, 3]] 1 [2] (exH 2) [[1, 3]] = (true, [[1, 3], [2]]) := by
  rw [Rk.grow, if_pos (by decide)]; exact ex_leaf2
theorem ex_run : Rk.hitRun [[1, 2], [2, 3]] 2 = (true, [[1, 3], [2]]) := by
  show Rk.grow exH [[1, 2], [2, 3]] 2 [] 0 [] = _
  rw [Rk.grow, if_neg (by decide)]
  show Rk.steps _ [1, 2] [] = _
  rw [Rk.steps, show (([] : List Int) ++ [1]) = [1] from rfl, show (0 ||| exH (Int.toNat 1)) = exH 1 from by decide, ex_g1, if_pos rfl, Rk.steps, show (([] : List Int) ++ [2]) = [2] from rfl, show (0 ||| exH (Int.toNat 2)) = exH 2 from by decide, ex_g2]
  rfl
def exRows : List RowL := [([0, 1], true), ([1], false)]
theorem ex_order : Rk.order (Rk.scoreAt 3 exRows) 2 = [0, 1] := (Rk.order_unique (List.Perm.refl _) (by decide)).symm
theorem ex_rank : Rk.ranking (Rk.scoreAt 3 exRows) 2 = [(0, (1, 1), 1, 1), (1, (1, 2), 2, 2)] := by
  unfold Rk.ranking; rw [ex_order]; decide
theorem ex_err : rankErr 2 3 exRows = 0 := by decide

theorem Blk.new_ {w : World} {g : Nat} {t : TypeId} {cs : Array Value} (h : g = w.heap.size) : Blk (w.alloc (.cells cs t)) g t cs := h ▸ Blk.new w t cs
theorem reads_blk {w : World} {B g size n : Nat} {t : TypeId} {cs : Array Value} (h : Blk w g t cs) (hB : g < B) (hs : cs.size = n * size) : Reads w B size (some ⟨g, 0, none⟩) n cs.toList :=
  ⟨by simpa using hs, fun _ => ⟨_, rfl, hB, fun j u hj => by
    have a : (⟨g, 0, none⟩ : Addr).add j = ⟨g, j, none⟩ := by
      unfold Addr.add; split
      · rename_i h0; simp_all
      · simp
    rw [a, h.cell j, ← Array.getElem?_toList]; exact hj⟩⟩
theorem ints_blk {w : World} {B g : Nat} {t : TypeId} {l : List Int} (h : Blk w g t (l.map (Value.int .i64)).toArray) (hB : g < B) (hl : l.length ≤ 1000) : Ints w B (.slice (some ⟨g, 0, none⟩) l.length l.length) l :=
  ⟨_, _, rfl, Nat.le_refl _, by omega, by simpa using reads_blk h hB (size := 1) (n := l.length) (by simp)⟩
theorem ints_own {w : World} {B g n : Nat} {t : TypeId} {l : List Int} (h : Blk w g t (l.map (Value.int .i64)).toArray) (hB : g < B) (hl : l.length ≤ 1000) (hn : n = l.length) : Ints w B (.slice (some ⟨g, 0, none⟩) n n) l := hn ▸ ints_blk h hB hl

theorem ex_rows (w : World) (o S : Obj) : Rows (((((w.alloc o).alloc (.cells #[.int .i64 0, .int .i64 1] 3)).alloc (.cells #[.int .i64 1] 3)).alloc
    (.cells #[.slice (some ⟨w.heap.size + 1, 0, none⟩) 2 2, .bool true, .slice (some ⟨w.heap.size + 1 + 1, 0, none⟩) 1 1, .bool false] 59)).alloc S) (w.heap.size + 4) (.slice (some ⟨w.heap.size + 1 + 1 + 1, 0, none⟩) 2 2) exRows := by
  have b1 : Blk ((w.alloc o).alloc (.cells #[.int .i64 0, .int .i64 1] 3)) (w.heap.size + 1) 3 #[.int .i64 0, .int .i64 1] := Blk.new_ (by simp)
  have b2 : Blk (((w.alloc o).alloc (.cells #[.int .i64 0, .int .i64 1] 3)).alloc (.cells #[.int .i64 1] 3)) (w.heap.size + 1 + 1) 3 #[.int .i64 1] := Blk.new_ (by simp)
  have b3 : Blk ((((w.alloc o).alloc (.cells #[.int .i64 0, .int .i64 1] 3)).alloc (.cells #[.int .i64 1] 3)).alloc
    (.cells #[.slice (some ⟨w.heap.size + 1, 0, none⟩) 2 2, .bool true, .slice (some ⟨w.heap.size + 1 + 1, 0, none⟩) 1 1, .bool false] 59)) (w.heap.size + 1 + 1 + 1) 59 #[.slice (some ⟨w.heap.size + 1, 0, none⟩) 2 2, .bool true, .slice (some ⟨w.heap.size + 1 + 1, 0, none⟩) 1 1, .bool false] := Blk.new_ (by simp)
  refine ⟨_, _, _, rfl, by decide, by decide, reads_blk (b3.alloc S) (by omega) rfl, fun i hi => ?_⟩
  rcases (show i = 0 ∨ i = 1 by have : i < 2 := hi; omega) with rfl | rfl
  · exact ⟨_, rfl, rfl, ints_own (l := [0, 1]) (((b1.alloc _).alloc _).alloc _) (by omega) (by decide) rfl⟩
  · exact ⟨_, rfl, rfl, ints_own (l := [1]) ((b2.alloc _).alloc _) (by omega) (by decide) rfl⟩
theorem ex_sets (w : World) : Sets (((w.alloc (.cells #[.int .i64 1, .int .i64 2] 3)).alloc (.cells #[.int .i64 2, .int .i64 3] 3)).alloc
    (.cells #[.slice (some ⟨w.heap.size, 0, none⟩) 2 2, .slice (some ⟨w.heap.size + 1, 0, none⟩) 2 2] 26)) (w.heap.size + 3) (.slice (some ⟨w.heap.size + 1 + 1, 0, none⟩) 2 2) [[1, 2], [2, 3]] := by
  have b1 : Blk (w.alloc (.cells #[.int .i64 1, .int .i64 2] 3)) w.heap.size 3 #[.int .i64 1, .int .i64 2] := Blk.new_ rfl
  have b2 : Blk ((w.alloc (.cells #[.int .i64 1, .int .i64 2] 3)).alloc (.cells #[.int .i64 2, .int .i64 3] 3)) (w.heap.size + 1) 3 #[.int .i64 2, .int .i64 3] := Blk.new_ (by simp)
  have b3 : Blk (((w.alloc (.cells #[.int .i64 1, .int .i64 2] 3)).alloc (.cells #[.int .i64 2, .int .i64 3] 3)).alloc
    (.cells #[.slice (some ⟨w.heap.size, 0, none⟩) 2 2, .slice (some ⟨w.heap.size + 1, 0, none⟩) 2 2] 26)) (w.heap.size + 1 + 1) 26 #[.slice (some ⟨w.heap.size, 0, none⟩) 2 2, .slice (some ⟨w.heap.size + 1, 0, none⟩) 2 2] := Blk.new_ (by simp)
  refine ⟨_, _, _, rfl, Nat.le_refl _, by decide, reads_blk b3 (by omega) rfl, fun i hi => ?_⟩
  rcases (show i = 0 ∨ i = 1 by have : i < 2 := hi; omega) with rfl | rfl
  · exact ⟨_, rfl, ints_own (l := [1, 2]) ((b1.alloc _).alloc _) (by omega) (by decide) rfl⟩
  · exact ⟨_, rfl, ints_own (l := [2, 3]) (b2.alloc _) (by omega) (by decide) rfl⟩

/-- What Rank and Hit answer at the examples. -/
theorem ex_rank_any (v : Value) (B : Nat) (w : World) (hv : Rows w B v exRows) (hB : B ≤ w.heap.size) :
    Calls Tryz.prog 11 #[.agg #[.int .i64 2, v], .int .u8 3] w fun e w' => ∃ g c, e = .returned (.tuple #[.slice (some ⟨g, 0, none⟩) 2 c, .int .i64 0]) ∧ g < w'.heap.size ∧
      (∀ j, j < 10 → w'.cell? ⟨g, j, none⟩ = some (.int .i64 ([0, 1, 1, 1, 1, 1, 1, 2, 2, 2].getD j 0))) ∧ Below w.heap.size w w' := by
  refine (rank_any 2 3 (by decide) v exRows B w hv hB).mono ?_
  rintro e w' ⟨v', rfl, hs, hb⟩
  rw [ex_err]
  unfold rankOf at hs
  rw [ex_err, if_pos rfl, show (2 : Int).toNat = 2 from rfl, ex_rank] at hs
  obtain ⟨A, c, rfl, _, hc⟩ := hs
  obtain ⟨g, rfl, hg, hk⟩ := hc (by decide)
  refine ⟨g, c, rfl, hg, fun j hj => ?_, hb⟩
  have := hk (j / 5) (j % 5) (by show j / 5 < 2; omega) (by omega)
  rw [show j / 5 * 5 + j % 5 = j by omega] at this
  rw [this]
  rcases (show j = 0 ∨ j = 1 ∨ j = 2 ∨ j = 3 ∨ j = 4 ∨ j = 5 ∨ j = 6 ∨ j = 7 ∨ j = 8 ∨ j = 9 by omega) with rfl | rfl | rfl | rfl | rfl | rfl | rfl | rfl | rfl | rfl <;> rfl
theorem ex_hit_any (v : Value) (B : Nat) (w : World) (hv : Sets w B v [[1, 2], [2, 3]]) (hB : B ≤ w.heap.size) :
    Calls Tryz.prog 24 #[v, .int .i64 2] w fun e w' => ∃ A c, e = .returned (.tuple #[.slice A 2 c, .int .i64 0]) ∧ Sets w' w'.heap.size (.slice A 2 c) [[2], [1, 3]] ∧ Below w.heap.size w w' := by
  refine (hit_any v [[1, 2], [2, 3]] 2 B w hv hB).mono ?_
  rintro e w' ⟨v', err, l, rfl, hs, hb, he, hl⟩
  have e1 : setsErr [[1, 2], [2, 3]] = 0 := by decide
  rw [ex_small, ex_run, e1] at he
  have e0 : err = 0 := he
  rw [if_pos e0, ex_small, ex_run] at hl
  have hl2 : l = [[2], [1, 3]] := hl.trans ex_sets2
  subst e0 hl2
  obtain ⟨A, c, vs, rfl, h⟩ := hs
  exact ⟨A, c, rfl, ⟨A, c, vs, rfl, h⟩, hb⟩

set_option maxRecDepth 100000 in
set_option maxHeartbeats 2000000 in
theorem ranks_any (w : World) : Calls Tryz.prog 6 #[] w fun e w' => e = .returned (.bool true) ∧ Below w.heap.size w w' := by
  have HF := Lib.hid (fun W => fraction_any 6 (-4) (by decide) (by decide) (by decide) (by decide) W)
  have HS := Lib.hid (fun W => score_any 2 (by decide) 2 1 0 3 W)
  unfold FrPost at HF
  unfold ScPost at HS
  rw [show Rk.frN 6 (-4) = -3 by decide, show Rk.frD 6 (-4) = 2 by decide, show Rk.frErr 6 (-4) = 0 by decide] at HF
  rw [show Rk.scoreOf 2 2 1 0 3 = (2, 3) by decide, show Rk.scoreErr 2 [2, 1, 0, 3] = 0 by decide] at HS
  unfold fv at HS
  have hgd := fun (op : BinOp) (x y : Operand) (u v : Array Value) W => gd_ratio W op x y u v
  have hgs := fun (op : BinOp) (x y : Operand) (u v : Array Value) W => gd_stn W op x y u v
  have hn1 : ∀ W, (binOp .neq 45 (.agg #[.int .i64 (-3), .int .i64 2]) (.agg #[.int .i64 (-3), .int .i64 2])).run Tryz.prog W = .ok (.bool false) W := fun W => neq_ratio W (-3) 2 (-3) 2
  have hn2 : ∀ W, (binOp .neq 45 (.agg #[.int .i64 2, .int .i64 3]) (.agg #[.int .i64 2, .int .i64 3])).run Tryz.prog W = .ok (.bool false) W := fun W => neq_ratio W 2 3 2 3
  have hn3 : ∀ W, (binOp .eql 64 (.agg #[.int .i64 0, .int .i64 1, .int .i64 1, .int .i64 1, .int .i64 1]) (.agg #[.int .i64 0, .int .i64 1, .int .i64 1, .int .i64 1, .int .i64 1])).run Tryz.prog W = .ok (.bool true) W := fun W => eq_stn W 0 1 1 1 1 0 1 1 1 1
  have hn4 : ∀ W, (binOp .eql 64 (.agg #[.int .i64 1, .int .i64 1, .int .i64 2, .int .i64 2, .int .i64 2]) (.agg #[.int .i64 1, .int .i64 1, .int .i64 2, .int .i64 2, .int .i64 2])).run Tryz.prog W = .ok (.bool true) W := fun W => eq_stn W 1 1 2 2 2 1 1 2 2 2
  go_enter Tryz.func6, Tryz.ntmps6
  go_wp2_with fail
  refine (HF.out _).mono ?_
  rintro e w1 ⟨rfl, hb⟩
  have HB1 := Lib.hid hb
  clear hb
  go_wp2_with fail
  refine (HS.out _).mono ?_
  rintro e w2 ⟨rfl, hb⟩
  have T1 : Hid (Blk w2 w1.heap.size 45 #[.int .i64 (-3), .int .i64 2]) := (Blk.new w1 _ _).below hb (by simp)
  have HB2 := Lib.hid (HB1.out.trans ((al1 _ _).trans (hb.mono (by simp)) |>.mono HB1.out.size))
  clear hb HF HS
  go_wp2_with fail
  refine (ex_rank_any _ (w2.heap.size + 4) _ (ex_rows w2 _ _) (by simp)).mono ?_
  rintro e w3 ⟨g, cg, rfl, hg, hcell, hb⟩
  have B3 : Below w2.heap.size w2 w3 := (al (al4 w2 _ _ _ _) (Nat.le_refl _) _).trans (hb.mono (by simp; omega))
  have T3 : Hid (Blk w3 w2.heap.size 45 #[.int .i64 2, .int .i64 3]) := ((((((Blk.new w2 _ _).alloc _).alloc _).alloc _).alloc _)).below hb (by simp; omega)
  have T1' := Lib.hid (T1.out.below B3 T1.out.lt)
  have HB3 := Lib.hid (HB2.out.trans (B3.mono HB2.out.size))
  have HC := Lib.hid hcell
  clear hb B3 T1 HB1 HB2 hcell
  go_wp2_with fail
  refine (ex_hit_any _ (w3.heap.size + 3) _ (ex_sets w3) (by simp)).mono ?_
  rintro e w4 ⟨A8, c8, rfl, hsets, hb⟩
  have B4 : Below w3.heap.size w3 w4 := (al3 w3 _ _ _).trans (hb.mono (by simp; omega))
  have t10 := (T1'.out.below B4 T1'.out.lt).cell 0
  have t11 := (T1'.out.below B4 T1'.out.lt).cell 1
  have t30 := (T3.out.below B4 T3.out.lt).cell 0
  have t31 := (T3.out.below B4 T3.out.lt).cell 1
  simp only [List.getElem?_toArray, List.getElem?_cons_zero, List.getElem?_cons_succ] at t10 t11 t30 t31
  have hk : ∀ j, j < 10 → w4.cell? ⟨g, j, none⟩ = some (.int .i64 ([0, 1, 1, 1, 1, 1, 1, 2, 2, 2].getD j 0)) := fun j hj => (B4.cell hg).trans (HC.out j hj)
  have q0 := hk 0 (by decide)
  have q1 := hk 1 (by decide)
  have q2 := hk 2 (by decide)
  have q3 := hk 3 (by decide)
  have q4 := hk 4 (by decide)
  have q5 := hk 5 (by decide)
  have q6 := hk 6 (by decide)
  have q7 := hk 7 (by decide)
  have q8 := hk 8 (by decide)
  have q9 := hk 9 (by decide)
  simp only [List.getD_cons_zero, List.getD_cons_succ] at q0 q1 q2 q3 q4 q5 q6 q7 q8 q9
  obtain ⟨A8', c8', vs, e8, _, _, hr, hi⟩ := hsets
  obtain rfl : A8 = A8' := by injection e8
  obtain ⟨ad, u0, rfl, had, h0, i0⟩ := sets_at (xss := [[2], [1, 3]]) hr hi (k := 0) (by decide)
  obtain ⟨ad', u1, ead, _, h1, i1⟩ := sets_at (xss := [[2], [1, 3]]) hr hi (k := 1) (by decide)
  injection ead with ead
  subst ead
  rw [add_zero_] at h0
  have I0 := Lib.hid i0
  have I1 := Lib.hid i1
  have HB4 := Lib.hid (HB3.out.trans (B4.mono HB3.out.size))
  have hg4 : g < w4.heap.size := Nat.lt_of_lt_of_le hg B4.size
  have l1 : w1.heap.size < w4.heap.size := Nat.lt_of_lt_of_le T1'.out.lt B4.size
  have l2 : w2.heap.size < w4.heap.size := Nat.lt_of_lt_of_le T3.out.lt B4.size
  clear hk hr hi e8 i0 i1 B4 hb T1' T3 HB3 HC
  go_wp2_with fail
  refine (ints_any u0 _ [2] [2] (w4.heap.size + 1) _ ((I0.out.below (al1 w4 _)).more (Nat.le_succ _)) (ints_own (l := [2]) (Blk.new w4 3 #[.int .i64 2]) (by omega) (by decide) rfl)).mono ?_
  rintro e w5 ⟨rfl, q, rfl⟩
  rw [show decide (([2] : List Int) = [2]) = true from rfl]
  have hadb : (ad.add 1).block < w4.heap.size := by rw [block_of_add]; exact had
  have h1' : (w4.alloc (.cells #[.int .i64 2] 3)).cell? (ad.add 1) = some u1 := (World.cell?_alloc_lt w4 _ _ hadb).trans h1
  have h1s := h1'
  unfold Addr.add at h1s
  rw [if_neg (by decide)] at h1s
  go_wp2_with fail
  have b13 : Blk (((w4.alloc (.cells #[.int .i64 2] 3)).drewN q).alloc (.cells #[.int .i64 1, .int .i64 3] 3)) (w4.heap.size + 1) 3 #[.int .i64 1, .int .i64 3] := Blk.new_ (by simp)
  have I1' : Ints (((w4.alloc (.cells #[.int .i64 2] 3)).drewN q).alloc (.cells #[.int .i64 1, .int .i64 3] 3)) (w4.heap.size + 1 + 1) u1 [1, 3] :=
    ((I1.out.below (al2 w4 (.cells #[.int .i64 2] 3) (.cells #[.int .i64 1, .int .i64 3] 3))).more (by omega)).keep fun _ _ => rfl
  refine (ints_any u1 _ [1, 3] [1, 3] (w4.heap.size + 1 + 1) _ I1' (ints_own (l := [1, 3]) b13 (by omega) (by decide) rfl)).mono ?_
  rintro e w6 ⟨rfl, q', rfl⟩
  rw [show decide (([1, 3] : List Int) = [1, 3]) = true from rfl]
  go_wp2
  go_ret
  exact ⟨rfl, below_drewN (al (below_drewN (al HB4.out (Nat.le_refl _) _) q) (Nat.le_refl _) _) q'⟩
end Go.Proofs.YtfpmbjobieeidaaGreat
