/-
  The walks of slices.Index and slices.Contains over whole numbers.
  The walk of Effort.
  What Effort answers in every case: rank's.
-/
import Derived.Test.YtfpmbjobieeidaaGreatRInts
import Derived.Test.YtfpmbjobieeidaaGreatPlainJ
import Derived.Test.YtfpmbjobieeidaaGreatRankM
import Derived.Test.YtfpmbjobieeidaaGreatPlainL
import Derived.Test.YtfpmbjobieeidaaGreatBw
import Derived.BigQuiet
namespace Go.Proofs.YtfpmbjobieeidaaGreat
open Go.RowKit

set_option maxHeartbeats 400000 in
theorem index_any (u : Value) (xs : List Int) (n : Int) (B : Nat) (w : World) (hu : Ints w B u xs) :
    Calls Tryz.prog 96 #[u, .int .i64 n] w fun e w' => (∃ i : Int, e = .returned (.int .i64 i) ∧ (0 ≤ i ↔ n ∈ xs)) ∧ w = w' := by
  obtain ⟨A, c, rfl, hn, hm, hr⟩ := hu
  clear hn
  go_enter Tryz.func96, Tryz.ntmps96
  go_wp2
  go_loop [8] (fun i => ∃ k : Nat, k ≤ xs.length ∧ i = .int .i64 k ∧ Hid (∀ j, j < k → xs.getD j 0 ≠ n)) (fun i => xs.length - (intOf i).toNat)
  case atStart => exact ⟨0, Nat.zero_le _, rfl, fun j h => by omega⟩
  case round =>
    obtain ⟨k, hk, rfl, he⟩ := hrel
    by_cases hlt : k < xs.length
    · obtain ⟨ad, rfl, _, hc⟩ := ints_at hr hlt
      by_cases hx : xs.getD k 0 = n
      · have Hr := Lib.hid (show n ∈ xs by rw [← hx]; exact Rk.memD hlt)
        have hb : (n == xs.getD k 0) = true := by simpa using hx.symm
        clear hr he hx
        generalize xs.getD k 0 = x at *
        go_wp2
        go_ret
        exact ⟨⟨k, rfl, ⟨fun _ => Hr.out, fun _ => by omega⟩⟩, rfl⟩
      · have He := Lib.hid (show ∀ j, j < k + 1 → xs.getD j 0 ≠ n from fun j hj => by
          by_cases e : j = k
          · rw [e]; exact hx
          · exact he.out j (by omega))
        have hb : (n == xs.getD k 0) = false := by simpa using fun e : n = xs.getD k 0 => hx e.symm
        clear hr he hx
        generalize xs.getD k 0 = x at *
        go_wp2
        go_round
        case rel => exact ⟨k + 1, hlt, by go_num, He⟩
        case measure => simp [intOf]; omega
    · have Hr := Lib.hid (show ¬ n ∈ xs from fun h => by
        obtain ⟨j, hj, e⟩ := Rk.mem_getD (d := 0) h
        exact he.out j (by omega) e)
      clear hr he
      go_wp2
      go_ret
      exact ⟨⟨-1, rfl, ⟨fun h => absurd h (by decide), fun h => absurd h Hr.out⟩⟩, rfl⟩

set_option maxHeartbeats 400000 in
theorem contains_any (u : Value) (xs : List Int) (n : Int) (B : Nat) (w : World) (hu : Ints w B u xs) :
    Calls Tryz.prog 48 #[u, .int .i64 n] w fun e w' => e = .returned (.bool (decide (n ∈ xs))) ∧ w = w' := by
  have HI := Lib.hid (index_any u xs n B w hu)
  clear hu
  go_enter Tryz.func48, Tryz.ntmps48
  go_wp2_with fail
  refine HI.out.mono ?_
  rintro e w' ⟨⟨i, rfl, hi⟩, rfl⟩
  have Hi := Lib.hid (show decide (0 ≤ i) = decide (n ∈ xs) from decide_eq_decide.2 hi)
  clear hi
  go_wp2
  go_ret
  exact ⟨ret_bool Hi.out, rfl⟩
end Go.Proofs.YtfpmbjobieeidaaGreat
namespace Go.Proofs.YtfpmbjobieeidaaGreat
open Go.RowKit

def EfPost (sc : Nat → Rk.Fr) (n : Nat) (F : Nat → Bool) (w : World) (e : Ending) (w' : World) : Prop :=
  ∃ c, Rk.Top sc n F c ∧ e = .returned (.tuple #[.int .i64 ((Rk.gtN sc n c : Int) + 1), .int .i64 ((Rk.gtN sc n c : Int) + (Rk.eqN sc n c : Int) - (Rk.eqF sc n F c : Int) + 1), fv (Rk.mean (Rk.gtN sc n c) (Rk.eqN sc n c) (Rk.eqF sc n F c)), .int .i64 0]) ∧ Below w.heap.size w w'

theorem below_x' {W0 W w1 : World} (h : Below W0.heap.size W0 W) (hb : Below W.heap.size W w1) : Below W0.heap.size W0 w1 := h.trans (hb.mono h.size)
theorem scs_cells {w : World} {sc : Nat → Rk.Fr} {n base g cap c : Nat} (h : w.ownsRow base 45 2 (.slice (some ⟨g, 0, none⟩) n cap) n (frCells ((List.range n).map sc))) (hc : c < n) :
    w.cell? ⟨g, c * 2, none⟩ = some (.int .i64 (sc c).1) ∧ w.cell? ⟨g, c * 2 + 1, none⟩ = some (.int .i64 (sc c).2) ∧ g < w.heap.size := by
  have hr := Reads.of_own h
  obtain ⟨ad, e, hb, hk⟩ := hr.2 (by omega)
  injection e with e
  subst e
  obtain ⟨e1, e2⟩ := frCells_get ((List.range n).map sc) c (by simpa using hc)
  have hd : ((List.range n).map sc).getD c (0, 0) = sc c := by simp [hc]
  rw [hd] at e1 e2
  have a : ∀ j, (⟨g, 0, none⟩ : Addr).add j = ⟨g, j, none⟩ := fun j => by
    unfold Addr.add; split
    · rename_i h0; simp_all
    · simp
  have k1 := hk _ _ e1
  have k2 := hk _ _ e2
  rw [a] at k1 k2
  exact ⟨k1, k2, hb⟩

set_option maxRecDepth 100000 in
set_option maxHeartbeats 2000000 in
theorem effort_any (n f : Nat) (f0 : 1 ≤ f) (f1 : f ≤ 14) (v : Value) (rows : List RowL) (u : Value) (xs : List Int) (B : Nat) (w : World) (hv : Rows w B v rows) (hu : Ints w B u xs) (hB : B ≤ w.heap.size) (h : specErr n rows = 0)
    (hx0 : 0 < xs.length) (hxi : Rk.incr n xs = true) :
    Calls Tryz.prog 17 #[.agg #[.int .i64 n, v], .int .u8 f, u] w (EfPost (Rk.scoreAt f rows) n (Rk.faultF xs) w) := by
  obtain ⟨z0, z1, z2, z3⟩ := specErr_zero h
  have hn1 : 1 ≤ n := by omega
  have hn2 : n ≤ 256 := by omega
  have HC := Lib.hid (fun W (hb : Below w.heap.size w W) => checkspectrum_any n v rows B W (hv.below (hb.mono hB)) (by have := hb.size; omega))
  have HT := Lib.hid (fun W => table_any f W (by omega))
  have HS := Lib.hid (fun W (hb : Below w.heap.size w W) => scores_any f n f0 f1 v rows B W (hv.below (hb.mono hB)) (by have := hb.size; omega) hn2 z2 z3)
  have HI := Lib.hid (fun W (hb : Below w.heap.size w W) => increasing_any u xs n B W (hu.below (hb.mono hB)))
  have HCo := Lib.hid (fun (i : Int) W (hb : Below w.heap.size w W) => contains_any u xs i B W (hu.below (hb.mono hB)))
  have Ho : Hid (tabF f = .func (.func (tabN f)) #[] #[] ∧ tabOk f = true) := ⟨if_pos ⟨f0, f1⟩, decide_eq_true ⟨f0, f1⟩⟩
  have Hbd := Lib.hid (score_bounds z2 f)
  have HB0 := Lib.hid hB
  have Hxi := Lib.hid (fun (x : Int) (hx : x ∈ xs) => Rk.Incr.mem (show Rk.Incr n xs from of_decide_eq_true hxi) hx)
  rw [h] at HC
  rw [hxi] at HI
  rw [Ho.out.1] at HS
  obtain ⟨A, cv, vs, rfl, j1, j2, j3, j4⟩ := hv
  obtain ⟨Ax, cx, rfl, k1, k2, hrx⟩ := hu
  have Hrx := Lib.hid hrx
  have hxl : xs.length ≤ 17592186043904 := by omega
  clear j1 j2 j3 j4 h hB z0 z1 z2 z3 k1 k2 hrx hxi
  go_enter Tryz.func17, Tryz.ntmps17
  go_wp2_with fail
  refine (HC.out _ (al2 _ _ _)).mono ?_
  rintro e w1 ⟨rfl, hb⟩
  have S1 : Blk w1 w.heap.size 24 #[.int .i64 n, .slice A rows.length cv] := ((Blk.new w _ _).alloc _).below hb (by simp; omega)
  have R1 : Blk w1 (w.heap.size + 1) 45 #[.int .i64 0, .int .i64 0] := by
    have h := (Blk.new (w.alloc (.cells #[.int .i64 n, .slice A rows.length cv] 24)) 45 #[.int .i64 0, .int .i64 0]).below hb (by simp)
    rw [World.size_alloc] at h
    exact h
  have HB := Lib.hid ((al2 w _ _).trans (hb.mono (by simp; omega)))
  have ltw : w.heap.size + 1 < w1.heap.size := R1.lt
  have s0 := S1.cell 0
  have s1 := S1.cell 1
  have HS1 := Lib.hid S1
  have HR1 := Lib.hid R1
  simp only [List.getElem?_toArray, List.getElem?_cons_zero, List.getElem?_cons_succ] at s0 s1
  clear hb HC S1 R1
  go_wp2_with fail
  refine (HT.out _).mono ?_
  rintro e w2 ⟨rfl, hb⟩
  rw [Ho.out.1, Ho.out.2]
  have S2 := HS1.out.below hb (by omega)
  have HR2 := Lib.hid (HR1.out.below hb ltw)
  have HB2 := Lib.hid (HB.out.trans (hb.mono HB.out.size))
  have ltw2 : w.heap.size + 1 < w2.heap.size := HR2.out.lt
  have s0' := S2.cell 0
  have s1' := S2.cell 1
  simp only [List.getElem?_toArray, List.getElem?_cons_zero, List.getElem?_cons_succ] at s0' s1'
  have hxn : ¬ xs = [] := by intro e; rw [e] at hx0; simp at hx0
  have hxz : ((xs.length : Int) == 0) = false := by simpa using hxn
  have ltw3 : w.heap.size < w2.heap.size := by omega
  clear hb HT S2 HS1 HR1 s0 s1 ltw
  go_wp2_with fail
  refine (HI.out _ (HB2.out.trans ((al1 _ _).mono HB2.out.size))).mono ?_
  rintro e w3 ⟨rfl, rfl⟩
  clear HI
  go_wp2_with fail
  refine (HS.out _ (HB2.out.trans ((al1 _ _).mono HB2.out.size))).mono ?_
  rintro e w4 ⟨v32, rfl, hrow, hb⟩
  obtain ⟨g32, c32, e32, j1, j2⟩ := hrow.form (by omega)
  clear j1 j2
  subst e32
  have HB4 := Lib.hid (show Below w.heap.size w w4 from HB2.out.trans (((al1 _ _).trans (hb.mono (by simp))).mono HB2.out.size))
  have HR4 := Lib.hid (show Blk w4 (w.heap.size + 1) 45 #[.int .i64 0, .int .i64 0] from (HR2.out.alloc _).below hb (by simp; omega))
  have HSc := Lib.hid (fun c (hc : c < n) => scs_cells hrow hc)
  have hg32 : g32 < w4.heap.size := (HSc.out 0 (by omega)).2.2
  have lt4 : w.heap.size + 1 < w4.heap.size := HR4.out.lt
  clear hb hrow HS HR2 s0' s1' ltw2 ltw3
  generalize Rk.scoreAt f rows = sc at *
  have Hp := Lib.hid (fun x (hx : x ∈ xs) => (Hxi.out x hx).1)
  obtain ⟨ad, rfl, hadB, -⟩ := ints_at Hrx.out hx0
  have Hrd := Lib.hid (fun k (hk : k < xs.length) W (hb : Below w.heap.size w W) => (show W.cell? (ad.add k) = some (.int .i64 (xs.getD k 0)) by
    obtain ⟨ad', e, _, hc⟩ := ints_at Hrx.out hk
    injection e with e
    subst e
    exact (hb.cell (by rw [block_of_add]; exact Nat.lt_of_lt_of_le hadB HB0.out)).trans hc))
  obtain ⟨c0, hc0⟩ : ∃ c0, c0 = (xs.getD 0 0).toNat := ⟨_, rfl⟩
  have hc0m := Rk.nat_mem Hp.out hx0
  rw [← hc0] at hc0m
  have hc0n : c0 < n := by have := Hxi.out _ (Rk.memD (d := 0) hx0); omega
  have x0c := Hrd.out 0 hx0 w4 HB4.out
  rw [← hc0m, add_zero_] at x0c
  have Ht0 := Lib.hid (show Rk.TopTo sc xs 0 c0 by rw [hc0]; exact Rk.topTo_zero hx0 Hp.out)
  obtain ⟨sa, sb, sg⟩ := HSc.out c0 hc0n
  have hc0z : (c0 : Int) < (n : Int) := by omega
  have hxlz : (0 : Int) < (xs.length : Int) := by omega
  have HB5 := Lib.hid (show Below w.heap.size w (w4.alloc (.cells #[.int .i64 (sc c0).1, .int .i64 (sc c0).2] 45)) from HB4.out.alloc HB4.out.size _)
  have HT5 := Lib.hid (Blk.new w4 45 #[.int .i64 (sc c0).1, .int .i64 (sc c0).2])
  have HL5 := Lib.hid (al1 w4 (.cells #[.int .i64 (sc c0).1, .int .i64 (sc c0).2] 45))
  clear hc0 hc0m sg
  go_wp2
  go_loopg [59] xs.length (fun g s wr => ∃ k c : Nat, k ≤ xs.length ∧ g = xs.length - k ∧ s = .int .i64 k ∧ Hid (Rk.TopTo sc xs k c) ∧ c < n ∧ Hid (Below w.heap.size w wr) ∧ Hid (Below w4.heap.size w4 wr) ∧ Hid (Blk wr w4.heap.size 45 #[.int .i64 (sc c).1, .int .i64 (sc c).2]))
  case atStart => exact ⟨0, c0, Nat.zero_le _, rfl, rfl, Ht0, hc0n, HB5.out, HL5.out, HT5.out⟩
  case round =>
    obtain ⟨k, c, hk, hg, rfl, ht, hcn, hb, hl, htop⟩ := hrel
    have Hg := Lib.hid hg
    clear hg HB5 HL5 HT5 Ht0 hc0n hc0z sa sb x0c
    by_cases hlt : k < xs.length
    · obtain ⟨d, hd⟩ : ∃ d, d = (xs.getD k 0).toNat := ⟨_, rfl⟩
      have hdm := Rk.nat_mem Hp.out hlt
      rw [← hd] at hdm
      have hdn : d < n := by have := Hxi.out _ (Rk.memD (d := 0) hlt); omega
      have xk := Hrd.out k hlt wr hb.out
      rw [← hdm] at xk
      have hdz : (d : Int) < (n : Int) := by omega
      have hkz : (k : Int) < (xs.length : Int) := by omega
      obtain ⟨sa, sb, sg⟩ := HSc.out d hdn
      have ka := keepB hl.out hg32 sa
      have kb := keepB hl.out hg32 sb
      have hgw : g32 < wr.heap.size := Nat.lt_of_lt_of_le hg32 hl.out.size
      have htl := htop.out.lt
      have pa := fun p : BW wr => cell_bw hgw ka p
      have pb := fun p : BW wr => cell_bw hgw kb p
      have ta := fun p : BW wr => cell_bw htl (htop.out.cell 0) p
      have tb := fun p : BW wr => cell_bw htl (htop.out.cell 1) p
      obtain ⟨⟨d0, d1⟩, d2, d3⟩ := Hbd.out d
      obtain ⟨⟨e0, e1⟩, e2, e3⟩ := Hbd.out c
      obtain ⟨r, hr⟩ : ∃ r, r = Rk.cmpF (sc d) (sc c) := ⟨_, rfl⟩
      have HCm := Lib.hid (fun W => compare_any (sc d).1 (sc d).2 (sc c).1 (sc c).2 d0 d1 d3 e0 e1 e3 W)
      unfold CmpPost at HCm
      have hr' : Rk.cmp (sc d).1 (sc d).2 (sc c).1 (sc c).2 = r := hr.symm
      rw [hr'] at HCm
      have Hr := Lib.hid hr
      have Hd := Lib.hid hd
      clear hd hdm hr hr' d0 d1 d2 d3 e0 e1 e2 e3 sa sb sg ka kb
      go_wp2_with fail
      refine wp_region_bw (by kernel_rfl) (by kernel_rfl) ?_
      repeat (quiet_step (first | (go_at_call 43; with_reducible exact calls_bw (HCm.out _))))
      refine wpQuiet_nil ?_
      intro _ hw'
      obtain ⟨p, hw''⟩ := hw'
      subst hw''
      have Hb6 := Lib.hid (below_x' hb.out p.ok)
      have Hl6 := Lib.hid (below_x' (W0 := w4) hl.out p.ok)
      have Ht6 := Lib.hid (htop.out.below p.ok htl)
      have htl6 : w4.heap.size < p.to.heap.size := Ht6.out.lt
      by_cases hpos : 0 < r
      · have ka := pa p
        have kb := pb p
        have Hn := Lib.hid (show Rk.TopTo sc xs (k + 1) d by rw [Hd.out]; exact Rk.topTo_new ht.out hlt Hp.out (by rw [← Hd.out, ← Hr.out]; exact hpos))
        have Ht7 := Lib.hid (st2 Ht6.out (.int .i64 (sc d).1) (.int .i64 (sc d).2))
        have Hb7 := Lib.hid (below_st2 Hb6.out (show w.heap.size ≤ w4.heap.size by omega) (by omega) (.int .i64 (sc d).1) (.int .i64 (sc d).2))
        have Hl7 := Lib.hid (below_st2 Hl6.out (Nat.le_refl w4.heap.size) (by omega) (.int .i64 (sc d).1) (.int .i64 (sc d).2))
        have hpz : decide (0 < r) = true := decide_eq_true hpos
        have f0 := Ht6.out.frozen 0
        have f1 := Ht6.out.frozen 1
        have ta := ta p
        have tb := tb p
        clear pa pb
        go_wp2
        go_roundg (xs.length - (k + 1))
        case rel => exact ⟨k + 1, d, hlt, rfl, by go_num, Hn, hdn, Hb7.out, Hl7.out, Ht7.out⟩
        case measure => rw [Hg.out]; omega
      · have Hn := Lib.hid (show Rk.TopTo sc xs (k + 1) c from Rk.topTo_old ht.out (by rw [← Hd.out, ← Hr.out]; exact hpos))
        have hpz : decide (0 < r) = false := decide_eq_false hpos
        clear pa pb ta tb
        go_wp2
        go_roundg (xs.length - (k + 1))
        case rel => exact ⟨k + 1, c, hlt, rfl, by go_num, Hn, hcn, Hb6.out, Hl6.out, Ht6.out⟩
        case measure => rw [Hg.out]; omega
    · obtain rfl : k = xs.length := by omega
      have Htop := Lib.hid (Rk.topTo_end (n := n) ht.out Hxi.out)
      have hsz := hl.out.size
      obtain ⟨wo, rfl⟩ : ∃ wo : World, wo = wr := ⟨_, rfl⟩
      clear ht
      go_wp2
      go_loopg [17, 18, 19, 77] n (fun g s17 s18 s19 s77 wr => ∃ i b t k : Nat, i ≤ n ∧ g = n - i ∧ s17 = .int .i64 b ∧ s18 = .int .i64 t ∧ s19 = .int .i64 k ∧ s77 = .int .i64 i ∧ b ≤ i ∧ t ≤ i ∧ k ≤ t ∧ Hid (Rk.gtN sc i c = b ∧ Rk.eqN sc i c = t ∧ Rk.eqF sc i (Rk.faultF xs) c = k) ∧ Hid (Below w.heap.size w wr) ∧ Hid (Below w4.heap.size w4 wr) ∧ Hid (Blk wr w4.heap.size 45 #[.int .i64 (sc c).1, .int .i64 (sc c).2]))
      case atStart => exact ⟨0, 0, 0, 0, Nat.zero_le _, rfl, rfl, rfl, rfl, rfl, Nat.le_refl _, Nat.le_refl _, Nat.le_refl _, ⟨rfl, rfl, rfl⟩, hb.out, hl.out, htop.out⟩
      case round =>
        obtain ⟨i, b, t, k, hi, hg2, rfl, rfl, rfl, rfl, hbi, hti, hkt, hq, hb2, hl2, ht2⟩ := hrel
        have Hg2 := Lib.hid hg2
        clear hg2 hb hl htop
        obtain ⟨wo, rfl⟩ : ∃ wo : World, wo = wr := ⟨_, rfl⟩
        by_cases hlt : i < n
        · obtain ⟨sa, sb, sg⟩ := HSc.out i hlt
          have ka := keepB hl2.out hg32 sa
          have kb := keepB hl2.out hg32 sb
          have hgw : g32 < wo.heap.size := Nat.lt_of_lt_of_le hg32 hl2.out.size
          have htl := ht2.out.lt
          have ta := ht2.out.cell 0
          have tb := ht2.out.cell 1
          simp only [List.getElem?_toArray, List.getElem?_cons_zero, List.getElem?_cons_succ] at ta tb
          obtain ⟨⟨d0, d1⟩, d2, d3⟩ := Hbd.out i
          obtain ⟨⟨e0, e1⟩, e2, e3⟩ := Hbd.out c
          obtain ⟨r, hr⟩ : ∃ r, r = Rk.cmpF (sc i) (sc c) := ⟨_, rfl⟩
          have HCm := Lib.hid (fun W => compare_any (sc i).1 (sc i).2 (sc c).1 (sc c).2 d0 d1 d3 e0 e1 e3 W)
          unfold CmpPost at HCm
          have hr' : Rk.cmp (sc i).1 (sc i).2 (sc c).1 (sc c).2 = r := hr.symm
          rw [hr'] at HCm
          have Hr := Lib.hid hr.symm
          clear hr hr' d0 d1 d2 d3 e0 e1 e2 e3 sa sb sg
          have hiz : (i : Int) < (n : Int) := by omega
          go_wp2_with fail
          refine (HCm.out _).mono ?_
          rintro e w7 ⟨rfl, hb7⟩
          have hb7' : Below wo.heap.size wo w7 := (al1 wo _).trans (hb7.mono (by simp))
          have Hb7 := Lib.hid (below_x' hb2.out hb7')
          have Hl7 := Lib.hid (below_x' (W0 := w4) hl2.out hb7')
          have Ht7 := Lib.hid (ht2.out.below hb7' htl)
          clear hb7 hb7' ta tb ka kb HCm hb2 hl2 ht2
          by_cases h1 : r = 1
          · subst h1
            obtain ⟨q1, q2, q3⟩ := hq.out
            have hs := Rk.step_gt (F := Rk.faultF xs) Hr.out
            rw [q1, q2, q3] at hs
            have Hs := Lib.hid hs
            clear q1 q2 q3 hs
            go_wp2
            go_roundg (n - (i + 1))
            case rel => exact ⟨i + 1, b + 1, t, k, hlt, rfl, by go_num, rfl, rfl, by go_num, by omega, by omega, hkt, Hs.out, Hb7.out, Hl7.out, Ht7.out⟩
            case measure => rw [Hg2.out]; omega
          · have h1z : (r == 1) = false := by simpa using h1
            by_cases h0 : r = 0
            · subst h0
              have HCo2 := Lib.hid (HCo.out (i : Int) w7 Hb7.out)
              obtain ⟨bb, hbb⟩ : ∃ bb, bb = Rk.faultF xs i := ⟨_, rfl⟩
              have hbb' : decide ((i : Int) ∈ xs) = bb := hbb.symm
              rw [hbb'] at HCo2
              obtain ⟨q1, q2, q3⟩ := hq.out
              cases bb
              · have hs := Rk.step_eq' (F := Rk.faultF xs) Hr.out hbb.symm
                rw [q1, q2, q3] at hs
                have Hs := Lib.hid hs
                clear q1 q2 q3 hs hbb hbb'
                go_wp2_with fail
                refine HCo2.out.mono ?_
                rintro e w8 ⟨rfl, rfl⟩
                go_wp2
                go_roundg (n - (i + 1))
                case rel => exact ⟨i + 1, b, t + 1, k, hlt, rfl, rfl, by go_num, rfl, by go_num, by omega, by omega, by omega, Hs.out, Hb7.out, Hl7.out, Ht7.out⟩
                case measure => rw [Hg2.out]; omega
              · have hs := Rk.step_eq (F := Rk.faultF xs) Hr.out hbb.symm
                rw [q1, q2, q3] at hs
                have Hs := Lib.hid hs
                clear q1 q2 q3 hs hbb hbb'
                go_wp2_with fail
                refine HCo2.out.mono ?_
                rintro e w8 ⟨rfl, rfl⟩
                go_wp2
                go_roundg (n - (i + 1))
                case rel => exact ⟨i + 1, b, t + 1, k + 1, hlt, rfl, rfl, by go_num, by go_num, by go_num, by omega, by omega, by omega, Hs.out, Hb7.out, Hl7.out, Ht7.out⟩
                case measure => rw [Hg2.out]; omega
            · have h0z : (r == 0) = false := by simpa using h0
              have hs := Rk.step_lt (F := Rk.faultF xs) (c := c) (i := i) (sc := sc) (by rw [Hr.out]; exact h1) (by rw [Hr.out]; exact h0)
              obtain ⟨q1, q2, q3⟩ := hq.out
              rw [q1, q2, q3] at hs
              have Hs := Lib.hid hs
              clear q1 q2 q3 hs
              go_wp2
              go_roundg (n - (i + 1))
              case rel => exact ⟨i + 1, b, t, k, hlt, rfl, rfl, rfl, rfl, by go_num, by omega, by omega, hkt, Hs.out, Hb7.out, Hl7.out, Ht7.out⟩
              case measure => rw [Hg2.out]; omega
        · obtain rfl : i = n := by omega
          have HO1 := Lib.hid (fun W => over_any (b : Int) 1 W (by omega) (by omega))
          have HO2 := Lib.hid (fun W => over_any ((t : Int) + 1) ((k : Int) + 1) W (by omega) (by omega))
          have HPl := Lib.hid (fun W => plus_any (Rk.ov (b : Int) 1) (Rk.ov ((t : Int) + 1) ((k : Int) + 1)) (Rk.ov_sm (by omega) (by omega)) (Rk.ov_sm (by omega) (by omega)) W)
          unfold FvPost at HO1 HO2 HPl
          have R8 := HR4.out.below hl2.out lt4
          have Hbo := Lib.hid hb2.out
          have HR8 := Lib.hid R8
          have Hq := Lib.hid hq.out
          clear hb2 hl2 ht2 R8 hq
          go_wp2_with fail
          refine (HO1.out _).mono ?_
          rintro e w8 ⟨rfl, hb8⟩
          have Hb8 := Lib.hid (below_x' Hbo.out hb8)
          have HR9 := Lib.hid (HR8.out.below hb8 HR8.out.lt)
          clear hb8 HR8
          go_wp2_with fail
          refine (HO2.out _).mono ?_
          rintro e w9 ⟨rfl, hb9⟩
          have Hb9 := Lib.hid (below_x' Hb8.out hb9)
          have HR10 := Lib.hid (HR9.out.below hb9 HR9.out.lt)
          clear hb9 HR9
          go_wp2_with fail
          refine (HPl.out _).mono ?_
          rintro e w10 ⟨rfl, hb10⟩
          have Hb10 := Lib.hid (below_x' Hb9.out hb10)
          have HR11 := Lib.hid (HR10.out.below hb10 HR10.out.lt)
          clear hb10 HR10 HO1 HO2 HPl
          have Hm := Lib.hid (show Rk.pl (Rk.ov (b : Int) 1) (Rk.ov ((t : Int) + 1) ((k : Int) + 1)) = Rk.mean b t k from rfl)
          rw [Hm.out]
          obtain ⟨m1, m2, hm⟩ : ∃ m1 m2, Rk.mean b t k = (m1, m2) := ⟨_, _, rfl⟩
          rw [hm]
          have HM := Lib.hid hm
          clear hm
          unfold fv
          have c0 := HR11.out.cell 0
          have c1 := HR11.out.cell 1
          have f0 := HR11.out.frozen 0
          have f1 := HR11.out.frozen 1
          have lt11 := HR11.out.lt
          simp only [List.getElem?_toArray, List.getElem?_cons_zero, List.getElem?_cons_succ] at c0 c1
          go_wp2
          have K := st2 HR11.out (.int .i64 m1) (.int .i64 m2)
          have k0 := K.cell 0
          have k1 := K.cell 1
          simp only [List.getElem?_toArray, List.getElem?_cons_zero, List.getElem?_cons_succ] at k0 k1
          refine bodyPost_ret (v := .tuple #[.int .i64 ((b : Int) + 1), .int .i64 ((b : Int) + (t : Int) - (k : Int) + 1), .agg #[.int .i64 m1, .int .i64 m2], .int .i64 0]) (by simp [results, Tryz.results17, go_sem, k0, k1]) rfl ?_
          obtain ⟨q1, q2, q3⟩ := Hq.out
          refine ⟨c, Htop.out, ?_, below_st2 Hb10.out (by omega) Hb10.out.size _ _⟩
          rw [q1, q2, q3, HM.out]
          rfl
end Go.Proofs.YtfpmbjobieeidaaGreat
namespace Go.Proofs.YtfpmbjobieeidaaGreat
open Go.RowKit

/-- The first faulty one of the ranking. -/
def Rk.effC (sc : Nat → Rk.Fr) (n : Nat) (F : Nat → Bool) : Nat := ((Rk.order sc n).filter F).headD 0
theorem Rk.effC_top {sc : Nat → Rk.Fr} {n : Nat} {xs : List Int} (h0 : 0 < xs.length) (hi : Rk.Incr n xs) : Rk.Top sc n (Rk.faultF xs) (Rk.effC sc n (Rk.faultF xs)) := by
  unfold Rk.effC
  cases hl : (Rk.order sc n).filter (Rk.faultF xs) with
  | nil =>
    have hx := hi.mem (Rk.memD (d := 0) h0)
    have hm : (xs.getD 0 0).toNat ∈ (Rk.order sc n).filter (Rk.faultF xs) := by
      rw [List.mem_filter, (Rk.order_perm sc n).mem_iff, List.mem_range]
      refine ⟨by omega, decide_eq_true ?_⟩
      rw [show (((xs.getD 0 0).toNat : Nat) : Int) = xs.getD 0 0 by omega]
      exact Rk.memD h0
    rw [hl] at hm
    simp at hm
  | cons c r => exact Rk.first_top hl
/-- May the effort be asked? -/
def effOk (parts : Int) (f : Nat) (rows : List RowL) (xs : List Int) : Prop := specErr parts rows = 0 ∧ (1 ≤ f ∧ f ≤ 14) ∧ 0 < xs.length ∧ Rk.incr parts xs = true
instance (parts : Int) (f : Nat) (rows : List RowL) (xs : List Int) : Decidable (effOk parts f rows xs) := by unfold effOk; infer_instance
def effErr (parts : Int) (f : Nat) (rows : List RowL) (xs : List Int) : Int := if specErr parts rows ≠ 0 then specErr parts rows else if effOk parts f rows xs then 0 else 1
def effYes (sc : Nat → Rk.Fr) (n : Nat) (xs : List Int) (c : Nat) : Value :=
  .tuple #[.int .i64 ((Rk.gtN sc n c : Int) + 1), .int .i64 ((Rk.gtN sc n c : Int) + (Rk.eqN sc n c : Int) - (Rk.eqF sc n (Rk.faultF xs) c : Int) + 1), fv (Rk.mean (Rk.gtN sc n c) (Rk.eqN sc n c) (Rk.eqF sc n (Rk.faultF xs) c)), .int .i64 0]
def effV (parts : Int) (f : Nat) (rows : List RowL) (xs : List Int) : Value :=
  if effOk parts f rows xs then effYes (Rk.scoreAt f rows) parts.toNat xs (Rk.effC (Rk.scoreAt f rows) parts.toNat (Rk.faultF xs)) else .tuple #[.int .i64 0, .int .i64 0, .agg #[.int .i64 0, .int .i64 0], .int .i64 (effErr parts f rows xs)]
theorem effV_yes {n f : Nat} {rows : List RowL} {xs : List Int} (h : effOk n f rows xs) {c : Nat} (ht : Rk.Top (Rk.scoreAt f rows) n (Rk.faultF xs) c) : effV n f rows xs = effYes (Rk.scoreAt f rows) n xs c := by
  have h2 := Rk.effC_top (sc := Rk.scoreAt f rows) h.2.2.1 (of_decide_eq_true h.2.2.2)
  obtain ⟨e1, e2, e3⟩ := Rk.top_alike ht h2
  unfold effV
  rw [if_pos h, Int.toNat_natCast]
  unfold effYes
  rw [e1, e2, e3]

set_option maxRecDepth 100000 in
set_option maxHeartbeats 1000000 in
theorem effort_all (parts : Int) (f : Nat) (hf : f < 256) (v : Value) (rows : List RowL) (u : Value) (xs : List Int) (B : Nat) (w : World) (hv : Rows w B v rows) (hu : Ints w B u xs) (hB : B ≤ w.heap.size) :
    Calls Tryz.prog 17 #[.agg #[.int .i64 parts, v], .int .u8 f, u] w fun e w' => e = .returned (effV parts f rows xs) ∧ Below w.heap.size w w' := by
  by_cases hok : effOk parts f rows xs
  · obtain ⟨n, rfl⟩ : ∃ n : Nat, parts = n := ⟨parts.toNat, by have := (specErr_zero hok.1).1; omega⟩
    refine (effort_any n f hok.2.1.1 hok.2.1.2 v rows u xs B w hv hu hB hok.1 hok.2.2.1 hok.2.2.2).mono ?_
    rintro e w' ⟨c, ht, he, hb⟩
    exact ⟨by rw [effV_yes hok ht]; exact he, hb⟩
  have HC := Lib.hid (fun W (hb : Below w.heap.size w W) => checkspectrum_any parts v rows B W (hv.below (hb.mono hB)) (by have := hb.size; omega))
  have HT := Lib.hid (fun W => table_any f W hf)
  have HI := Lib.hid (fun (m : Int) W (hb : Below w.heap.size w W) => increasing_any u xs m B W (hu.below (hb.mono hB)))
  have Hv := Lib.hid (show effV parts f rows xs = .tuple #[.int .i64 0, .int .i64 0, .agg #[.int .i64 0, .int .i64 0], .int .i64 (effErr parts f rows xs)] from if_neg hok)
  rw [Hv.out]
  obtain ⟨A, cv, vs, rfl, j1, j2, j3, j4⟩ := hv
  obtain ⟨Ax, cx, rfl, k1, k2, hrx⟩ := hu
  have hxl : xs.length ≤ 17592186043904 := by omega
  clear j1 j2 j3 j4 k1 k2 hrx hB
  obtain ⟨W0, hW0⟩ : ∃ W0, W0 = (w.alloc (.cells #[.int .i64 parts, .slice A rows.length cv] 24)).alloc (.cells #[.int .i64 0, .int .i64 0] 45) := ⟨_, rfl⟩
  have HS0 := Lib.hid (show Blk W0 w.heap.size 24 #[.int .i64 parts, .slice A rows.length cv] by rw [hW0]; exact (Blk.new w _ _).alloc _)
  have HR0 := Lib.hid (show Blk W0 (w.heap.size + 1) 45 #[.int .i64 0, .int .i64 0] by
    rw [hW0]
    have h := Blk.new (w.alloc (.cells #[.int .i64 parts, .slice A rows.length cv] 24)) 45 #[.int .i64 0, .int .i64 0]
    rw [World.size_alloc] at h
    exact h)
  have HL0 := Lib.hid (show Below w.heap.size w W0 by rw [hW0]; exact al2 w _ _)
  have HW0 := Lib.hid hW0
  have ltS := HS0.out.lt
  have ltR := HR0.out.lt
  clear hW0
  by_cases h : specErr parts rows = 0
  · have Her := Lib.hid (show effErr parts f rows xs = 1 by unfold effErr; rw [if_neg (by simpa using h), if_neg hok])
    have Hno := Lib.hid (show ¬ (1 ≤ f ∧ f ≤ 14) ∨ (1 ≤ f ∧ f ≤ 14) ∧ xs.length = 0 ∨ (1 ≤ f ∧ f ≤ 14) ∧ 0 < xs.length ∧ Rk.incr parts xs = false by
      by_cases h1 : 1 ≤ f ∧ f ≤ 14
      · by_cases h2 : 0 < xs.length
        · refine .inr (.inr ⟨h1, h2, ?_⟩)
          cases h3 : Rk.incr parts xs
          · rfl
          · exact absurd ⟨h, h1, h2, h3⟩ hok
        · exact .inr (.inl ⟨h1, by omega⟩)
      · exact .inl h1)
    rw [h] at HC
    clear h hok
    rw [Her.out]
    go_enter Tryz.func17, Tryz.ntmps17
    go_wp2_with fail
    rw [← HW0.out]
    refine (HC.out _ HL0.out).mono ?_
    rintro e w1 ⟨rfl, hb⟩
    have HS1 := Lib.hid (HS0.out.below hb ltS)
    have HR1 := Lib.hid (HR0.out.below hb ltR)
    have HL1 := Lib.hid (below_x' HL0.out hb)
    have s0 := HS1.out.cell 0
    have s1 := HS1.out.cell 1
    have lt1 := HS1.out.lt
    have ltr1 := HR1.out.lt
    simp only [List.getElem?_toArray, List.getElem?_cons_zero, List.getElem?_cons_succ] at s0 s1
    clear hb HC
    go_wp2_with fail
    refine (HT.out _).mono ?_
    rintro e w2 ⟨rfl, hb⟩
    have HS2 := Lib.hid (HS1.out.below hb lt1)
    have HR2 := Lib.hid (HR1.out.below hb ltr1)
    have HL2 := Lib.hid (below_x' HL1.out hb)
    have s0 := HS2.out.cell 0
    have lt2 := HS2.out.lt
    have ltr2 := HR2.out.lt
    simp only [List.getElem?_toArray, List.getElem?_cons_zero] at s0
    clear hb HT s1
    have fin : ∀ w3, Below w2.heap.size w2 w3 → ∀ z : Int, Blk w3 (w.heap.size + 1) 45 #[.int .i64 0, .int .i64 0] ∧ w3.frozen? ⟨w.heap.size + 1, 0, none⟩ = false ∧ w3.frozen? ⟨w.heap.size + 1, 1, none⟩ = false ∧ w.heap.size + 1 < w3.heap.size ∧ Below w.heap.size w w3 := fun w3 hb _ =>
      ⟨HR2.out.below hb ltr2, (HR2.out.below hb ltr2).frozen 0, (HR2.out.below hb ltr2).frozen 1, (HR2.out.below hb ltr2).lt, below_x' HL2.out hb⟩
    have Fin := Lib.hid fin
    clear fin
    rcases Hno.out with hno | ⟨hin, hx⟩ | ⟨hin, hx, hxi⟩
    · have e1 : tabF f = .nilFunc := if_neg hno
      have e2 : tabOk f = false := decide_eq_false hno
      rw [e1, e2]
      obtain ⟨d1, b2, b3, b4, -⟩ := Fin.out _ (Below.refl _ w2) 0
      have c0 := d1.cell 0
      have c1 := d1.cell 1
      simp only [List.getElem?_toArray, List.getElem?_cons_zero, List.getElem?_cons_succ] at c0 c1
      clear d1 e1 e2
      go_wp2
      have K := (st2 HR2.out (.int .i64 0) (.int .i64 0)).alloc (.cells #[.nilFunc] 70)
      have k0 := K.cell 0
      have k1 := K.cell 1
      simp only [List.getElem?_toArray, List.getElem?_cons_zero, List.getElem?_cons_succ] at k0 k1
      refine bodyPost_ret (v := .tuple #[.int .i64 0, .int .i64 0, .agg #[.int .i64 0, .int .i64 0], .int .i64 1]) (by simp [results, Tryz.results17, go_sem, k0, k1]) rfl ⟨rfl, ?_⟩
      exact (below_st2 HL2.out (by omega) HL2.out.size _ _).alloc (by have := HL2.out.size; simpa using this) _
    · have e1 : tabF f = .func (.func (tabN f)) #[] #[] := if_pos hin
      have e2 : tabOk f = true := decide_eq_true hin
      rw [e1, e2]
      have hxz : ((xs.length : Int) == 0) = true := by rw [hx]; rfl
      have hxn : xs = [] := List.eq_nil_of_length_eq_zero hx
      obtain ⟨d1, b2, b3, b4, -⟩ := Fin.out _ (Below.refl _ w2) 0
      have c0 := d1.cell 0
      have c1 := d1.cell 1
      simp only [List.getElem?_toArray, List.getElem?_cons_zero, List.getElem?_cons_succ] at c0 c1
      clear d1 e1 e2
      clear hx
      go_wp2
      have K := (st2 HR2.out (.int .i64 0) (.int .i64 0)).alloc (.cells #[.func (.func (tabN f)) #[] #[]] 70)
      have k0 := K.cell 0
      have k1 := K.cell 1
      simp only [List.getElem?_toArray, List.getElem?_cons_zero, List.getElem?_cons_succ] at k0 k1
      refine bodyPost_ret (v := .tuple #[.int .i64 0, .int .i64 0, .agg #[.int .i64 0, .int .i64 0], .int .i64 1]) (by simp [results, Tryz.results17, go_sem, k0, k1]) rfl ⟨rfl, ?_⟩
      exact (below_st2 HL2.out (by omega) HL2.out.size _ _).alloc (by have := HL2.out.size; simpa using this) _
    · have e1 : tabF f = .func (.func (tabN f)) #[] #[] := if_pos hin
      have e2 : tabOk f = true := decide_eq_true hin
      rw [e1, e2]
      have hxn : ¬ xs = [] := by intro e; rw [e] at hx; simp at hx
      have hxz : ((xs.length : Int) == 0) = false := by simpa using hxn
      have HI2 := Lib.hid (fun W hb => HI.out parts W hb)
      rw [hxi] at HI2
      obtain ⟨W3, hW3⟩ : ∃ W3, W3 = w2.alloc (.cells #[.func (.func (tabN f)) #[] #[]] 70) := ⟨_, rfl⟩
      have HW3 := Lib.hid hW3
      have s0' : W3.cell? ⟨w.heap.size, 0, none⟩ = some (.int .i64 parts) := by rw [hW3]; exact (World.cell?_alloc_lt _ _ _ lt2).trans s0
      have hb3 : Below w2.heap.size w2 W3 := by rw [hW3]; exact al1 w2 _
      obtain ⟨b1, b2, b3, b4, b5⟩ := Fin.out W3 hb3 0
      have c0 := b1.cell 0
      have c1 := b1.cell 1
      have Hb1 := Lib.hid b1
      have Hb5 := Lib.hid b5
      simp only [List.getElem?_toArray, List.getElem?_cons_zero, List.getElem?_cons_succ] at c0 c1
      clear b1 b5 e1 e2 hxi hb3 hW3
      go_wp2_with fail
      rw [← HW3.out]
      refine (HI2.out _ Hb5.out).mono ?_
      rintro e w3 ⟨rfl, rfl⟩
      go_wp2
      have K := st2 Hb1.out (.int .i64 0) (.int .i64 0)
      have k0 := K.cell 0
      have k1 := K.cell 1
      simp only [List.getElem?_toArray, List.getElem?_cons_zero, List.getElem?_cons_succ] at k0 k1
      refine bodyPost_ret (v := .tuple #[.int .i64 0, .int .i64 0, .agg #[.int .i64 0, .int .i64 0], .int .i64 1]) (by simp [results, Tryz.results17, go_sem, k0, k1]) rfl ⟨rfl, ?_⟩
      exact below_st2 Hb5.out (by omega) Hb5.out.size _ _
  · have Her := Lib.hid (show effErr parts f rows xs = specErr parts rows from if_pos h)
    have hne : (specErr parts rows != 0) = true := by simpa using h
    rw [Her.out]
    obtain ⟨err, herr⟩ : ∃ err, specErr parts rows = err := ⟨_, rfl⟩
    rw [herr] at hne HC ⊢
    clear h hok herr
    go_enter Tryz.func17, Tryz.ntmps17
    go_wp2_with fail
    rw [← HW0.out]
    refine (HC.out _ HL0.out).mono ?_
    rintro e w1 ⟨rfl, hb⟩
    have Hb1 := Lib.hid (HR0.out.below hb ltR)
    have Hb5 := Lib.hid (below_x' HL0.out hb)
    have c0 := Hb1.out.cell 0
    have c1 := Hb1.out.cell 1
    have b2 := Hb1.out.frozen 0
    have b3 := Hb1.out.frozen 1
    have b4 := Hb1.out.lt
    simp only [List.getElem?_toArray, List.getElem?_cons_zero, List.getElem?_cons_succ] at c0 c1
    clear hb HC
    go_wp2
    have K := st2 Hb1.out (.int .i64 0) (.int .i64 0)
    have k0 := K.cell 0
    have k1 := K.cell 1
    simp only [List.getElem?_toArray, List.getElem?_cons_zero, List.getElem?_cons_succ] at k0 k1
    refine bodyPost_ret (v := .tuple #[.int .i64 0, .int .i64 0, .agg #[.int .i64 0, .int .i64 0], .int .i64 err]) (by simp [results, Tryz.results17, go_sem, k0, k1]) rfl ⟨rfl, ?_⟩
    exact below_st2 Hb5.out (by omega) Hb5.out.size _ _
end Go.Proofs.YtfpmbjobieeidaaGreat
