/-
  RankEffort: the effort's range, its mean, and one more faulty component.
-/
import Derived.Test.YtfpmbjobieeidaaExam
import Derived.Test.YtfpmbjobieeidaaRankM
import Derived.Test.YtfpmbjobieeidaaWide
import Derived.Test.YtfpmbjobieeidaaEffort
import Derived.Test.YtfpmbjobieeidaaOwnD
namespace Go.Proofs.Ytfpmbjobieeidaa
open Go.RowKit

theorem below_x {W0 W w1 : World} (h : Below W0.heap.size W0 W) (hb : Below W.heap.size W w1) : Below W0.heap.size W0 w1 := h.trans (hb.mono h.size)
theorem al1' (w : World) (o : Obj) : Below w.heap.size w (w.alloc o) := (Below.refl _ w).alloc (Nat.le_refl _) o
theorem stns_form {w : World} {B : Nat} {v : Value} {l : List Rk.Stn} (h : Stns w B v l) (h0 : 0 < l.length) :
    ∃ g c, v = .slice (some ⟨g, 0, none⟩) l.length c ∧ g < B ∧ ∀ p j, p < l.length → j < 5 → w.cell? ⟨g, p * 5 + j, none⟩ = some (.int .i64 (fld (l.getD p (0, (0, 0), 0, 0)) j)) := by
  obtain ⟨A, c, e, _, hc⟩ := h
  obtain ⟨g, rfl, hg, hk⟩ := hc h0
  exact ⟨g, c, e, hg, hk⟩
theorem rank_ok {n f : Nat} {rows : List RowL} (h : specErr n rows = 0) (f0 : 1 ≤ f) (f1 : f ≤ 14) : rankErr n f rows = 0 ∧ rankOf n f rows = Rk.ranking (Rk.scoreAt f rows) n := by
  have e : rankErr n f rows = 0 := by unfold rankErr; rw [if_neg (by simpa using h), if_pos ⟨f0, f1⟩]
  exact ⟨e, by unfold rankOf; rw [e, if_pos rfl]; rfl⟩


theorem effPost_of {n : Nat} {sc : Nat → Rk.Fr} {F : Nat → Bool} {w w' : World} {e : Ending} (h : EfPost sc n F w e w') :
    ∃ c b t k, Rk.Top sc n F c ∧ b = Rk.gtN sc n c ∧ t = Rk.eqN sc n c ∧ k = Rk.eqF sc n F c ∧ 1 ≤ k ∧ k ≤ t ∧ b + t ≤ n ∧
      e = .returned (.tuple #[.int .i64 ((b : Int) + 1), .int .i64 ((b : Int) + (t : Int) - (k : Int) + 1), fv (Rk.mean b t k), .int .i64 0]) ∧ Below w.heap.size w w' := by
  obtain ⟨c, ht, he, hb⟩ := h
  have h1 := Rk.geN_eq sc n c
  have h2 := Rk.geN_le sc n c
  exact ⟨c, _, _, _, ht, rfl, rfl, rfl, Rk.eqF_pos ht, Rk.eqF_le _ _ _ _, by omega, he, hb⟩

set_option maxRecDepth 100000 in
set_option maxHeartbeats 2000000 in
theorem rankEffort_good (n f : Nat) (f0 : 1 ≤ f) (f1 : f ≤ 14) (v : Value) (rows : List RowL) (u : Value) (xs : List Int) (o : Nat) (B : Nat) (w : World) (hv : Rows w B v rows) (hu : Ints w B u xs) (hB : B ≤ w.heap.size)
    (he : specErr n rows = 0) (hx : ¬ xs = []) (hxi : Rk.incr n xs = true) (o2 : o < n) :
    Calls Try.prog 10 #[.agg #[.int .i64 n, v], .int .u8 f, u, .int .i64 o] w fun e w' => e = .returned (.bool true) ∧ Below w.heap.size w w' := by
  have HR := Lib.hid ranks_any
  have hn1 : 1 ≤ n := by have := (specErr_zero he).1; omega
  have hn2 : n ≤ 256 := by have := (specErr_zero he).2.1; omega
  have hx0 : 0 < xs.length := by rcases xs with _ | ⟨x, l⟩; exact absurd rfl hx; simp
  have hxz : ((xs.length : Int) == 0) = false := by simpa using hx
  have HWd := Lib.hid (fun W (hb : Below w.heap.size w W) => wide_any n v rows B W (hv.below (hb.mono hB)) (by have := hb.size; omega))
  have HCk := Lib.hid (fun W (hb : Below w.heap.size w W) => rcheckspectrum_any n v rows B W (hv.below (hb.mono hB)) (by have := hb.size; omega))
  have HRk := Lib.hid (fun W (hb : Below w.heap.size w W) => rank_any n f (by omega) v rows B W (hv.below (hb.mono hB)) (by have := hb.size; omega))
  have HSt := Lib.hid (fun (m : Int) W (hb : Below w.heap.size w W) => set_any u xs m B W (hu.below (hb.mono hB)))
  have HE1 := Lib.hid (fun W (hb : Below w.heap.size w W) => effort_any n f f0 f1 v rows u xs B W (hv.below (hb.mono hB)) (hu.below (hb.mono hB)) (by have := hb.size; omega) he hx0 hxi)
  have HE2 := Lib.hid (fun (u2 : Value) (ys : List Int) W (hb : Below w.heap.size w W) (hu2 : Ints W W.heap.size u2 ys) (h0 : 0 < ys.length) (hi : Rk.incr n ys = true) =>
    effort_any n f f0 f1 v rows u2 ys W.heap.size W ((hv.below (hb.mono hB)).more (by have := hb.size; omega)) hu2 (Nat.le_refl _) he h0 hi)
  have Hrk := Lib.hid (rank_ok (f := f) he f0 f1)
  have HC := Lib.hid (fun W hb => HCk.out W hb)
  rw [he] at HC
  have HSt2 := Lib.hid (fun W hb => HSt.out n W hb)
  rw [hxi] at HSt2
  have Hxi := Lib.hid (show Rk.Incr n xs from of_decide_eq_true hxi)
  have Hx := Lib.hid hx
  have HB0 := Lib.hid hB
  obtain ⟨A, c, vs, rfl, j1, j2, j3, j4⟩ := hv
  obtain ⟨Ax, cx, rfl, k1, k2, hrx⟩ := hu
  have Hrx := Lib.hid hrx
  have hxl : xs.length ≤ 17592186043904 := by omega
  clear j1 j2 j3 j4 hB k1 k2 hrx he hxi HCk HSt
  obtain ⟨ad, rfl, hadB, -⟩ := ints_at Hrx.out hx0
  have Hrd := Lib.hid (fun k (hk : k < xs.length) W (hb : Below w.heap.size w W) => (show W.cell? (ad.add k) = some (.int .i64 (xs.getD k 0)) by
    obtain ⟨ad', e, _, hc⟩ := ints_at Hrx.out hk
    injection e with e
    subst e
    exact (hb.cell (by rw [block_of_add]; exact Nat.lt_of_lt_of_le hadB HB0.out)).trans hc))
  go_enter Try.func10, Try.ntmps10
  go_wp2_with fail
  refine (HWd.out _ (al1' _ _)).mono ?_
  rintro e w1 ⟨⟨b, rfl⟩, hb⟩
  have S1 : Blk w1 w.heap.size 48 #[.int .i64 n, .slice A rows.length c] := (Blk.new w _ _).below hb (by simp)
  have HB := Lib.hid (below_x (al1' w _) hb)
  have lt1 : w.heap.size < w1.heap.size := S1.lt
  have s0 := S1.cell 0
  have s1 := S1.cell 1
  have HS1 := Lib.hid S1
  simp only [List.getElem?_toArray, List.getElem?_cons_zero, List.getElem?_cons_succ] at s0 s1
  clear hb HWd S1
  cases b
  rotate_left
  · go_wp2_with fail
    refine (HR.out _).mono ?_
    rintro e w2 ⟨rfl, hb⟩
    go_wp2
    go_ret
    exact ⟨rfl, below_x HB.out hb⟩
  go_wp2_with fail
  refine (HC.out _ HB.out).mono ?_
  rintro e w2 ⟨rfl, hb⟩
  have HB2 := Lib.hid (below_x HB.out hb)
  have S2 := HS1.out.below hb lt1
  have lt2 : w.heap.size < w2.heap.size := S2.lt
  have s0 := S2.cell 0
  have s1 := S2.cell 1
  have HS2 := Lib.hid S2
  simp only [List.getElem?_toArray, List.getElem?_cons_zero, List.getElem?_cons_succ] at s0 s1
  have g1 : decide ((f : Int) < 1) = false := decide_eq_false (by omega)
  have g2 : decide (14 < (f : Int)) = false := decide_eq_false (by omega)
  have g3 : decide ((o : Int) < 0) = false := decide_eq_false (by omega)
  have g4 : decide ((n : Int) ≤ (o : Int)) = false := decide_eq_false (by omega)
  have g5 : decide (n ≤ o) = false := decide_eq_false (by omega)
  have g6 : decide (f < 1) = false := decide_eq_false (by omega)
  have g7 : decide (14 < f) = false := decide_eq_false (by omega)
  clear hb S2 HC HS1
  go_wp2_with fail
  refine (HSt2.out w2 HB2.out).mono ?_
  rintro e w3 ⟨rfl, q, rfl⟩
  have HB3 := Lib.hid (below_drewN HB2.out q)
  have HS3 := Lib.hid (HS2.out.drewN q)
  clear HSt2 HB2 HS2 s0 s1
  obtain ⟨w3, hw3⟩ : ∃ w3, w3 = w2.drewN q := ⟨_, rfl⟩
  rw [← hw3] at HB3 HS3 ⊢
  clear hw3 lt2 lt1 HB
  have lt3 : w.heap.size < w3.heap.size := HS3.out.lt
  have s0 := HS3.out.cell 0
  have s1 := HS3.out.cell 1
  simp only [List.getElem?_toArray, List.getElem?_cons_zero, List.getElem?_cons_succ] at s0 s1
  go_wp2_with fail
  refine (HE1.out w3 HB3.out).mono ?_
  intro e w4 hpost
  obtain ⟨c1, b, t, k, htop, hbe, hte, hke, hk1, hkt, hbt, rfl, hb⟩ := effPost_of hpost
  have HT := Lib.hid htop
  have HQ := Lib.hid (show Rk.gtN (Rk.scoreAt f rows) n c1 = b ∧ Rk.eqN (Rk.scoreAt f rows) n c1 = t ∧ Rk.eqF (Rk.scoreAt f rows) n (Rk.faultF xs) c1 = k from ⟨hbe.symm, hte.symm, hke.symm⟩)
  have HB4 := Lib.hid (below_x HB3.out hb)
  have s0 := keepB hb lt3 s0
  have s1 := keepB hb lt3 s1
  have HS4 := Lib.hid (HS3.out.below hb lt3)
  have lt4 : w.heap.size < w4.heap.size := HS4.out.lt
  have hfb := Rk.mean_fb (b := b) (t := t) (k := k) (by omega) (by omega) hkt
  have hlo := Rk.mean_low (b := b) hkt
  have hhi := Rk.mean_high (b := b) hkt
  have hwn := Rk.mean_want b t k
  obtain ⟨m1, m2, hm⟩ : ∃ m1 m2, Rk.mean b t k = (m1, m2) := ⟨_, _, rfl⟩
  rw [hm] at hfb hlo hhi hwn ⊢
  have Hm := Lib.hid hm
  have Hwn := Lib.hid hwn
  obtain ⟨y1, y2, y3⟩ := hfb
  have y1 : m1.natAbs ≤ 100000 := y1
  have y2 : 1 ≤ m2 := y2
  have y3 : m2 ≤ 100000 := y3
  unfold fv
  clear hb htop hbe hte hke HE1 HS3 HB3 hm hwn
  have HR1 := Lib.hid (fun W hb => HRk.out W hb)
  unfold RankPost at HR1
  rw [Hrk.out.1, Hrk.out.2] at HR1
  go_wp2_with fail
  refine (HR1.out _ (below_x HB4.out (al1' _ _))).mono ?_
  rintro e w5 ⟨vl, rfl, hst, hb⟩
  obtain ⟨gl, cl, rfl, hgl, hkl⟩ := stns_form hst (by rw [Rk.ranking_length]; omega)
  rw [Rk.ranking_length] at hkl ⊢
  have HB5 := Lib.hid (below_x (below_x HB4.out (al1' _ _)) hb)
  have hb5 : Below w4.heap.size w4 w5 := below_x (al1' w4 _) hb
  have HKl := Lib.hid hkl
  have M5 := Lib.hid ((Blk.new w4 23 #[.int .i64 m1, .int .i64 m2]).below hb (by simp))
  have HS5 := Lib.hid (HS4.out.below hb5 lt4)
  have lt5 : w.heap.size < w5.heap.size := HS5.out.lt
  have ltm5 : w4.heap.size < w5.heap.size := M5.out.lt
  have s0 := keepB hb5 lt4 s0
  have s1 := keepB hb5 lt4 s1
  have m0 := M5.out.cell 0
  have m1' := M5.out.cell 1
  simp only [List.getElem?_toArray, List.getElem?_cons_zero, List.getElem?_cons_succ] at m0 m1'
  obtain ⟨z, hz⟩ : ∃ z : Nat, z = b + t - k + 1 := ⟨_, rfl⟩
  have hzi : (b : Int) + (t : Int) - (k : Int) + 1 = (z : Int) := by omega
  rw [hzi]
  rw [← hz] at hhi
  have hz1 : b + 1 ≤ z := by omega
  have hz2 : z ≤ n := by omega
  have Hz := Lib.hid hz
  obtain ⟨r1, hr1⟩ : ∃ r1, r1 = Rk.cmpF (m1, m2) ((b : Int) + 1, 1) := ⟨_, rfl⟩
  obtain ⟨r2, hr2⟩ : ∃ r2, r2 = Rk.cmpF (m1, m2) ((z : Int), 1) := ⟨_, rfl⟩
  rw [← hr1] at hlo
  rw [← hr2] at hhi
  have HC1 := Lib.hid (fun W => compare_any m1 m2 ((b : Int) + 1) 1 (by omega) (by omega) (by omega) (by omega) (by omega) (by omega) W)
  have HC2 := Lib.hid (fun W => compare_any m1 m2 (z : Int) 1 (by omega) (by omega) (by omega) (by omega) (by omega) (by omega) W)
  unfold CmpPost at HC1 HC2
  rw [show Rk.cmp m1 m2 ((b : Int) + 1) 1 = r1 from hr1.symm] at HC1
  rw [show Rk.cmp m1 m2 (z : Int) 1 = r2 from hr2.symm] at HC2
  have c1z : decide (r1 < 0) = false := decide_eq_false (by omega)
  have c2z : decide (0 < r2) = false := decide_eq_false (by omega)
  have b1z : decide ((b : Int) + 1 < 1) = false := decide_eq_false (by omega)
  have b2z : decide ((z : Int) < (b : Int) + 1) = false := decide_eq_false (by omega)
  have b3z : decide ((n : Int) < (z : Int)) = false := decide_eq_false (by omega)
  clear hzi hz hr1 hr2 hb hb5 hkl hst HR1 HRk HS4
  go_wp2_with fail
  refine (HC1.out _).mono ?_
  rintro e w6 ⟨rfl, hb⟩
  have HB6 := Lib.hid (below_x HB5.out hb)
  have M6 := Lib.hid (M5.out.below hb ltm5)
  have HS6 := Lib.hid (HS5.out.below hb lt5)
  have hgl6 : gl < w6.heap.size := Nat.lt_of_lt_of_le hgl hb.size
  have HK6 := Lib.hid (fun (p j : Nat) (hp : p < n) (hj : j < 5) => keepB hb hgl (HKl.out p j hp hj))
  have s0 := HS6.out.cell 0
  have s1 := HS6.out.cell 1
  have m0 := M6.out.cell 0
  have m1' := M6.out.cell 1
  simp only [List.getElem?_toArray, List.getElem?_cons_zero, List.getElem?_cons_succ] at m0 m1' s0 s1
  clear hb M5 HS5 HKl HC1
  go_wp2_with fail
  refine (HC2.out _).mono ?_
  rintro e w7 ⟨rfl, hb⟩
  have HB7 := Lib.hid (below_x HB6.out hb)
  have M7 := Lib.hid (M6.out.below hb M6.out.lt)
  have HS7 := Lib.hid (HS6.out.below hb HS6.out.lt)
  have hgl7 : gl < w7.heap.size := Nat.lt_of_lt_of_le hgl6 hb.size
  have HK7 := Lib.hid (fun (p j : Nat) (hp : p < n) (hj : j < 5) => keepB hb hgl6 (HK6.out p j hp hj))
  have lt7 : w.heap.size < w7.heap.size := HS7.out.lt
  have ltm7 : w4.heap.size < w7.heap.size := M7.out.lt
  clear hb M6 HS6 HK6 HC2 s0 s1 m0 m1'
  have Hlo := Lib.hid (And.intro hlo hhi)
  generalize hsc : Rk.scoreAt f rows = sc at *
  clear hsc
  go_wp2
  clear hlo hhi c1z c2z b1z b2z b3z g1 g2 g3 g4 g5 g6 g7
  go_loopg [15, 16, 17] n (fun g s15 s16 s17 wr => ∃ (i q : Nat) (fi mi : Int), i ≤ n ∧ g = n - i ∧ s15 = .int .i64 fi ∧ s16 = .int .i64 mi ∧ s17 = .int .i64 i ∧ 0 ≤ mi ∧ mi ≤ i ∧ Hid (Rk.cntAt sc n xs i = (fi, mi)) ∧ wr = w7.drewN q)
  case atStart => exact ⟨0, 0, 0, 0, Nat.zero_le _, rfl, rfl, rfl, rfl, by omega, by omega, Rk.cntAt_zero xs, rfl⟩
  case round =>
    obtain ⟨i, q, fi, mi, hi, hg, rfl, rfl, rfl, hm0, hmi, hq, rfl⟩ := hrel
    have Hg := Lib.hid hg
    clear hg
    by_cases hil : i < n
    · have a0 := HK7.out i 0 hil (by decide)
      have a3 := HK7.out i 3 hil (by decide)
      have e0 : fld ((Rk.ranking sc n).getD i (0, (0, 0), 0, 0)) 0 = (((Rk.ranking sc n).getD i Rk.noStn).1 : Int) := rfl
      have e3 : fld ((Rk.ranking sc n).getD i (0, (0, 0), 0, 0)) 3 = ((Rk.ranking sc n).getD i Rk.noStn).2.2.1 := rfl
      rw [e0, Nat.add_zero] at a0
      rw [e3] at a3
      have Hhit := Lib.hid (fun (j : Nat) (hj : j < xs.length) h => Rk.cntC_hit (sc := sc) Hxi.out hil hj h)
      have Hmiss := Lib.hid (fun (j : Nat) (hj : j < xs.length) h => Rk.cntC_miss (sc := sc) (n := n) (i := i) hil hj h)
      generalize ((Rk.ranking sc n).getD i Rk.noStn).1 = pt at *
      generalize ((Rk.ranking sc n).getD i Rk.noStn).2.2.1 = bs at *
      clear e0 e3
      have hiz : (i : Int) < (n : Int) := by omega
      go_wp2
      go_loopg [15, 16, 18] xs.length (fun g s15 s16 s18 wr => ∃ (j q : Nat) (fj mj : Int), j ≤ xs.length ∧ g = xs.length - j ∧ s15 = .int .i64 fj ∧ s16 = .int .i64 mj ∧ s18 = .int .i64 j ∧ 0 ≤ mj ∧ mj ≤ i + 1 ∧ Hid (Rk.cntIn sc n xs i j = (fj, mj)) ∧ wr = w7.drewN q)
      case atStart => exact ⟨0, _, fi, mi, Nat.zero_le _, rfl, rfl, rfl, rfl, hm0, by omega, by rw [Rk.cntIn_zero]; exact hq.out, rfl⟩
      case round =>
        obtain ⟨j, q2, fj, mj, hj, hg2, rfl, rfl, rfl, hmj0, hmj, hqj, rfl⟩ := hrel
        have Hg2 := Lib.hid hg2
        clear hg2
        by_cases hjl : j < xs.length
        · have xk := Hrd.out j hjl w7 HB7.out
          have hjz : (j : Int) < (xs.length : Int) := by omega
          have Hh := Lib.hid (Hhit.out j hjl)
          have Hm' := Lib.hid (Hmiss.out j hjl)
          generalize xs.getD j 0 = x at *
          by_cases hpx : (pt : Int) = x
          · obtain ⟨f2, m2', h1, h2, h3, h4⟩ := Hh.out hpx
            rw [hqj.out] at h1
            injection h1 with h1a h1b
            subst h1a h1b
            have hne : ((pt : Int) != x) = false := by simpa using hpx
            have Hp2 := Lib.hid hpx
            clear hpx Hm'
            by_cases hmz : mj = 0
            · subst hmz
              rw [if_pos rfl, if_pos rfl] at h4
              have H4 := Lib.hid h4
              clear h4
              go_wp2
              go_quiet (fail)
              go_wp2
              go_roundg (xs.length - (j + 1))
              case rel => exact ⟨j + 1, _, bs, 1, hjl, rfl, rfl, rfl, by go_num, by omega, by omega, H4.out, rfl⟩
              case measure => rw [Hg2.out]; omega
            · rw [if_neg hmz] at h4
              have hmz' : (mj == 0) = false := by simpa using hmz
              by_cases hbf : bs = fj
              · rw [if_pos hbf] at h4
                have hbf' : (bs == fj) = true := by simpa using hbf
                have H4 := Lib.hid h4
                clear h4 hbf
                go_wp2
                go_quiet (fail)
                go_wp2
                go_roundg (xs.length - (j + 1))
                case rel => exact ⟨j + 1, _, fj, mj + 1, hjl, rfl, rfl, by go_num, by go_num, by omega, by omega, H4.out, rfl⟩
                case measure => rw [Hg2.out]; omega
              · rw [if_neg hbf] at h4
                have hbf' : (bs == fj) = false := by simpa using hbf
                have H4 := Lib.hid h4
                clear h4 hbf
                go_wp2
                go_quiet (fail)
                go_wp2
                go_roundg (xs.length - (j + 1))
                case rel => exact ⟨j + 1, _, fj, mj, hjl, rfl, rfl, rfl, by go_num, by omega, by omega, H4.out, rfl⟩
                case measure => rw [Hg2.out]; omega
          · have hne : ((pt : Int) != x) = true := by simpa using hpx
            have H4 := Lib.hid (Hm'.out hpx)
            clear hpx
            go_wp2
            go_quiet (fail)
            go_wp2
            go_roundg (xs.length - (j + 1))
            case rel => exact ⟨j + 1, _, fj, mj, hjl, rfl, rfl, rfl, by go_num, hmj0, hmj, by rw [H4.out]; exact hqj.out, rfl⟩
            case measure => rw [Hg2.out]; omega
        · obtain rfl : j = xs.length := by omega
          have hqn := hqj.out
          rw [Rk.cntIn_full xs hil] at hqn
          have HQn := Lib.hid hqn
          clear hqn
          go_wp2
          go_roundg (n - (i + 1))
          case rel => exact ⟨i + 1, _, fj, mj, hil, rfl, rfl, rfl, by go_num, hmj0, by omega, HQn.out, rfl⟩
          case measure => rw [Hg.out]; omega
    · obtain rfl : i = n := by omega
      have hcnt := Rk.cntAt_full HT.out
      rw [hq.out, HQ.out.1, HQ.out.2.2] at hcnt
      injection hcnt with hc1 hc2
      obtain rfl : fi = (b : Int) + 1 := by omega
      obtain rfl : mi = (k : Int) := hc2
      obtain ⟨P, hP⟩ : ∃ P : Nat, P = b * (k + 1) := ⟨_, rfl⟩
      have hPi : (b : Int) * ((k : Int) + 1) = (P : Int) := by rw [hP]; simp
      have hPb : P ≤ 256 * 257 := by rw [hP]; exact Nat.mul_le_mul (by omega) (by omega)
      have HF := Lib.hid (fun W => rfraction_any ((P : Int) + (t : Int) + 1) ((k : Int) + 1) (by omega) (by omega) (by omega) (by omega) W)
      unfold FrPost at HF
      have hok : Rk.frOk ((P : Int) + (t : Int) + 1) ((k : Int) + 1) := ⟨by omega, by omega, by omega⟩
      have hwn := Hwn.out
      rw [hPi] at hwn
      injection hwn with hw1 hw2
      rw [show Rk.frN ((P : Int) + (t : Int) + 1) ((k : Int) + 1) = m1 from (if_pos hok).trans hw1.symm, show Rk.frD ((P : Int) + (t : Int) + 1) ((k : Int) + 1) = m2 from (if_pos hok).trans hw2.symm] at HF
      generalize Rk.frErr ((P : Int) + (t : Int) + 1) ((k : Int) + 1) = er at *
      have hkz : ((k : Int) == 0) = false := by simpa using (by omega : ¬ k = 0)
      have hbn : ((b : Int) + 1 != (b : Int) + 1) = false := by simp
      have hzt : (z : Int) - ((b : Int) + 1) + (k : Int) = (t : Int) := by have := Hz.out; omega
      clear hq hP hw1 hw2 hok Hwn
      go_wp2_with fail
      have hwr : ∀ x : Int, 0 ≤ x → x ≤ 1000000 → wrap64 x = x := fun x h1 h2 => by unfold wrap64; omega
      have e : wrap64 (wrap64 (wrap64 ((1 + (b : Int) - 1) * ((k : Int) + 1)) + ((z : Int) - (1 + (b : Int)) + (k : Int))) + 1) = (P : Int) + (t : Int) + 1 := by
        rw [show 1 + (b : Int) - 1 = b by omega, hPi, show (z : Int) - (1 + (b : Int)) + (k : Int) = t by omega, hwr (P : Int) (by omega) (by omega), hwr ((P : Int) + (t : Int)) (by omega) (by omega), hwr ((P : Int) + (t : Int) + 1) (by omega) (by omega)]
      rw [e]
      clear e hwr hPi hzt
      refine (HF.out _).mono ?_
      rintro e w8 ⟨rfl, hb⟩
      have hb : Below w7.heap.size w7 w8 := below_x (W0 := w7) (W := w7.drewN q) (below_drewN (Below.refl _ _) q) hb
      obtain ⟨W9, hW9⟩ : ∃ W9, W9 = w8.alloc (.cells #[.int .i64 m1, .int .i64 m2] 23) := ⟨_, rfl⟩
      have hb9 : Below w7.heap.size w7 W9 := by rw [hW9]; exact hb.alloc hb.size _
      have HB9 := Lib.hid (below_x HB7.out hb9)
      have M9 := Lib.hid (M7.out.below hb9 ltm7)
      have HS9 := Lib.hid (HS7.out.below hb9 lt7)
      have HN9 := Lib.hid (show Blk W9 w8.heap.size 23 #[.int .i64 m1, .int .i64 m2] by rw [hW9]; exact Blk.new _ _ _)
      have HW9 := Lib.hid hW9
      have lt9 : w.heap.size < W9.heap.size := HS9.out.lt
      have ltm9 : w4.heap.size < W9.heap.size := M9.out.lt
      have ltn9 : w8.heap.size < W9.heap.size := HN9.out.lt
      clear hb hb9 hW9 HF HB7 M7 HS7 HK7 hgl7 lt7 ltm7
      obtain ⟨i0, hi0, hz0, hz1, hz2⟩ := info_parts info_int
      go_wp2
      rw [← HW9.out]
      go_loopg [22, 23] i (fun g s22 s23 wr => ∃ (p : Nat), p ≤ i ∧ g = i - p ∧ s23 = .int .i64 p ∧ Hid (OwnInts wr W9.heap.size s22 (Rk.moreL xs o p)) ∧ Hid (Below W9.heap.size W9 wr))
      case atStart => exact ⟨0, Nat.zero_le _, rfl, rfl, ⟨by rw [Rk.moreL_zero]; simp, .inl ⟨rfl, by simp [Rk.moreL_zero]⟩⟩, Below.refl _ _⟩
      case round =>
        obtain ⟨p, hp, hg, rfl, hown, hb⟩ := hrel
        have Hg := Lib.hid hg
        clear hg
        have hs9 := hb.out.size
        have s0 := (HS9.out.below hb.out lt9).cell 0
        have s1 := (HS9.out.below hb.out lt9).cell 1
        simp only [List.getElem?_toArray, List.getElem?_cons_zero, List.getElem?_cons_succ] at s0 s1
        obtain ⟨wo, rfl⟩ : ∃ wo : World, wo = wr := ⟨_, rfl⟩
        by_cases hpi : p < i
        · have hpz : (p : Int) < (i : Int) := by omega
          obtain ⟨b0, hb0⟩ : ∃ b0, b0 = decide (p = o) := ⟨_, rfl⟩
          have hb0' : decide ((p : Int) = (o : Int)) = b0 := by rw [hb0]; exact decide_eq_decide.2 (by omega)
          have hb1' : ((p : Int) == (o : Int)) = b0 := by rw [hb0]; exact decide_eq_decide.2 (by omega)
          have hb2' : (p == o) = b0 := by rw [hb0]; rfl
          have Hb0 := Lib.hid (show b0 = true ↔ (p : Int) = o by rw [hb0, decide_eq_true_eq]; omega)
          clear hb0
          go_wp2
          go_loopg [24, 25] xs.length (fun g s24 s25 wr => ∃ (j : Nat) (bb : Bool), j ≤ xs.length ∧ g = xs.length - j ∧ s24 = .bool bb ∧ s25 = .int .i64 j ∧ Hid (bb = true ↔ (p : Int) = o ∨ (p : Int) ∈ xs.take j) ∧ wr = wo)
          case atStart => exact ⟨0, b0, Nat.zero_le _, rfl, rfl, rfl, by rw [List.take_zero]; exact Lib.hid (by simpa using Hb0.out), rfl⟩
          case round =>
            obtain ⟨j, bb, hj, hg2, rfl, rfl, hbb, rfl⟩ := hrel
            have Hg2 := Lib.hid hg2
            clear hg2 hb0' hb1' hb2'
            by_cases hjl : j < xs.length
            · have hjz : (j : Int) < (xs.length : Int) := by omega
              cases bb
              · have xk := Hrd.out j hjl wr (below_x HB9.out hb.out)
                obtain ⟨x, hx⟩ : ∃ x, x = xs.getD j 0 := ⟨_, rfl⟩
                rw [← hx] at xk
                obtain ⟨b1, hb1⟩ : ∃ b1, b1 = (x == (p : Int)) := ⟨_, rfl⟩
                have hb1' : (x == (p : Int)) = b1 := hb1.symm
                have Hn := Lib.hid (show b1 = true ↔ (p : Int) = o ∨ (p : Int) ∈ xs.take (j + 1) by
                  rw [Rk.mem_take_succ hjl, ← hx, hb1, beq_iff_eq]
                  have hbf : ¬ ((p : Int) = o ∨ (p : Int) ∈ xs.take j) := fun h => by have := hbb.out.2 h; cases this
                  constructor
                  · intro h; exact .inr (.inr h.symm)
                  · rintro (h | h | h)
                    · exact absurd (.inl h) hbf
                    · exact absurd (.inr h) hbf
                    · exact h.symm)
                clear hx hb1
                go_wp2
                go_roundg (xs.length - (j + 1))
                case rel => exact ⟨j + 1, b1, hjl, rfl, rfl, by go_num, Hn, rfl⟩
                case measure => rw [Hg2.out]; omega
              · have Hn := Lib.hid (show true = true ↔ (p : Int) = o ∨ (p : Int) ∈ xs.take (j + 1) by
                  rw [Rk.mem_take_succ hjl]
                  refine ⟨fun _ => ?_, fun _ => rfl⟩
                  rcases hbb.out.1 rfl with h | h
                  · exact .inl h
                  · exact .inr (.inl h))
                go_wp2
                go_roundg (xs.length - (j + 1))
                case rel => exact ⟨j + 1, true, hjl, rfl, rfl, by go_num, Lib.hid ⟨fun _ => by simpa using Hn.out, fun _ => rfl⟩, rfl⟩
                case measure => rw [Hg2.out]; omega
            · obtain rfl : j = xs.length := by omega
              have hbb2 := hbb.out
              rw [List.take_length] at hbb2
              have Hl := Lib.hid (Rk.moreL_len xs o p)
              cases bb
              · have Ho := Lib.hid (show OwnInts wr W9.heap.size _ (Rk.moreL xs o (p + 1)) by
                  rw [Rk.moreL_out (fun h => by have := hbb2.2 h; cases this)]; exact hown.out)
                clear hbb2 hbb hown Hl
                go_wp2
                go_roundg (i - (p + 1))
                case rel => exact ⟨p + 1, hpi, rfl, by go_num, Ho.out, hb.out⟩
                case measure => rw [Hg.out]; omega
              · have Hy := Lib.hid (Rk.moreL_in (hbb2.1 rfl))
                clear hbb2 hbb
                go_wp2_with (at_builtin; go_must (refine wpList_append_any _ rfl _ _ 37 rfl W9.heap.size 3 i0 _ 1 8 Try.underlying37 hi0 hz0 hz1 hz2 rfl (by decide) _ (Rk.moreL xs o p).length _ rfl (own_kept hown.out (World.grownBy_alloc _ _ none) (fun g e => by cases e)) (wr.heap.size + 1) _ 1 _ [.int .i64 p] rfl (reads_one (by omega) (cell_new0 _ _ _)) ?d2 ?d3 ?d4 ?d5 ?_))
                case d2 => first | rfl | (intro u hu; simp at hu; subst hu; rfl)
                case d3 => have := Hl.out; unfold maxLen; omega
                case d4 => have := Hl.out; omega
                case d5 => have := hb.out.size; simp; omega
                intro v2 w2 hown2 hg2 hat2
                have Ho := Lib.hid (show OwnInts w2 W9.heap.size v2 (Rk.moreL xs o (p + 1)) by rw [Hy.out]; exact ownSnoc hown2)
                have Hb := Lib.hid (show Below W9.heap.size W9 w2 from (hb.out.alloc hb.out.size _).grown hg2 (by have := hb.out.size; simp; omega) (fun k hk => own_row_ge hown.out k hk))
                clear hown2 hg2 hat2 Hy Hl hown hb
                go_wp2
                go_roundg (i - (p + 1))
                case rel => exact ⟨p + 1, hpi, rfl, by go_num, Ho.out, Hb.out⟩
                case measure => rw [Hg.out]; omega
        · obtain rfl : p = i := by omega
          have HBo := Lib.hid (below_x HB9.out hb.out)
          have HL := Lib.hid (Rk.moreL_len xs o p)
          have HE3 := Lib.hid (HE2.out _ _ wo HBo.out (hown.out.reads (by have := HL.out; omega)) (Rk.moreL_pos (by omega) (by omega)) (by unfold Rk.incr; exact decide_eq_true (Rk.moreL_incr xs o p)))
          have hfm := Rk.moreL_fault (xs := xs) o2 (fun x hx => Hxi.out.mem hx)
          rw [hfm] at HE3
          have Mo := Lib.hid (M9.out.below hb.out ltm9)
          have No := Lib.hid (HN9.out.below hb.out ltn9)
          have HSo := Lib.hid (HS9.out.below hb.out lt9)
          clear hown hb HE2 hfm M9 HN9 HS9
          go_wp2_with fail
          refine HE3.out.mono ?_
          intro e w10 hpost
          obtain ⟨c2, b2, t2, k2, htop2, hb2, ht2, hk2, hk3, hk4, hbt2, rfl, hb⟩ := effPost_of hpost
          have hmore := Rk.effort_more (o := o) HT.out (by omega) htop2
          rw [HQ.out.1, HQ.out.2.1, HQ.out.2.2, ← hb2, ← ht2, ← hk2, Hm.out] at hmore
          obtain ⟨g1, g2, g3⟩ := hmore
          have hfb2 := Rk.mean_fb (b := b2) (t := t2) (k := k2) (by omega) (by omega) hk4
          obtain ⟨x1, x2, hx12⟩ : ∃ x1 x2, Rk.mean b2 t2 k2 = (x1, x2) := ⟨_, _, rfl⟩
          rw [hx12] at hfb2 g3 ⊢
          obtain ⟨v1, v2, v3⟩ := hfb2
          have v1 : x1.natAbs ≤ 100000 := v1
          have v2 : 1 ≤ x2 := v2
          have v3 : x2 ≤ 100000 := v3
          obtain ⟨z2, hz2'⟩ : ∃ z2 : Nat, z2 = b2 + t2 - k2 + 1 := ⟨_, rfl⟩
          have hzi2 : (b2 : Int) + (t2 : Int) - (k2 : Int) + 1 = (z2 : Int) := by omega
          have hzz : z2 ≤ z := by have := Hz.out; omega
          obtain ⟨r3, hr3⟩ : ∃ r3, r3 = Rk.cmpF (x1, x2) (m1, m2) := ⟨_, rfl⟩
          have HC3 := Lib.hid (fun W => compare_any x1 x2 m1 m2 (by omega) (by omega) (by omega) (by omega) (by omega) (by omega) W)
          unfold CmpPost at HC3
          rw [show Rk.cmp x1 x2 m1 m2 = r3 from hr3.symm] at HC3
          rw [← hr3] at g3
          unfold fv
          rw [hzi2]
          have t1 : decide (r3 ≤ 0) = true := decide_eq_true (by omega)
          have t2' : decide ((b2 : Int) ≤ (b : Int)) = true := decide_eq_true (by omega)
          have t3 : decide ((z2 : Int) ≤ (z : Int)) = true := decide_eq_true (by omega)
          have t4 : decide ((b2 : Int) + 1 ≤ (b : Int) + 1) = true := decide_eq_true (by omega)
          have t5 : decide ((b2 : Int) + 1 ≤ 1 + (b : Int)) = true := decide_eq_true (by omega)
          have t6 : decide (1 + (b2 : Int) ≤ 1 + (b : Int)) = true := decide_eq_true (by omega)
          have hMo := Mo.out.below hb Mo.out.lt
          have hNo := No.out.below hb No.out.lt
          have hB10 := below_x HBo.out hb
          have q0 := (hMo.alloc (.cells #[.int .i64 x1, .int .i64 x2] 23)).cell 0
          have q1 := (hMo.alloc (.cells #[.int .i64 x1, .int .i64 x2] 23)).cell 1
          have p0 := hMo.cell 0
          have p1 := hMo.cell 1
          have n0 := hNo.cell 0
          have n1 := hNo.cell 1
          have ltm := hMo.lt
          have ltn := hNo.lt
          simp only [List.getElem?_toArray, List.getElem?_cons_zero, List.getElem?_cons_succ] at p0 p1 n0 n1
          have he := fun W => eq_ratio W m1 m2 m1 m2
          have hgd := fun (x y : Operand) W => gd_ratio W .eql x y #[.int .i64 m1, .int .i64 m2] #[.int .i64 m1, .int .i64 m2]
          have htt : (m1 == m1 && m2 == m2) = true := by simp
          rw [htt] at he
          have HB10 := Lib.hid hB10
          clear htop2 hb2 ht2 hk2 hr3 hx12 hzi2 hz2' hb hMo hNo hB10 htt q0 q1 Mo No HE3 HT HQ Hm Hz
          go_wp2_with fail
          refine (HC3.out _).mono ?_
          rintro e w11 ⟨rfl, hb⟩
          have HB11 := Lib.hid (below_x (below_x HB10.out (al1' _ _)) hb)
          clear hb HC3 he hgd
          go_wp2_with fail
          refine (HR.out _).mono ?_
          rintro e w12 ⟨rfl, hb⟩
          go_wp2
          go_ret
          exact ⟨rfl, below_x HB11.out hb⟩

set_option maxRecDepth 100000 in
set_option maxHeartbeats 2000000 in
theorem rankEffort_any (parts : Int) (v : Value) (rows : List RowL) (f : Nat) (hf : f < 256) (u : Value) (xs : List Int) (o : Int) (B : Nat) (w : World) (hv : Rows w B v rows) (hu : Ints w B u xs) (hB : B ≤ w.heap.size) :
    Calls Try.prog 10 #[.agg #[.int .i64 parts, v], .int .u8 f, u, .int .i64 o] w fun e w' => e = .returned (.bool true) ∧ Below w.heap.size w w' := by
  by_cases hgood : specErr parts rows = 0 ∧ (1 ≤ f ∧ f ≤ 14) ∧ ¬ xs = [] ∧ Rk.incr parts xs = true ∧ 0 ≤ o ∧ o < parts
  · obtain ⟨g1, ⟨g2, g3⟩, g4, g5, g6, g7⟩ := hgood
    obtain ⟨n, rfl⟩ : ∃ n : Nat, parts = n := ⟨parts.toNat, by have := (specErr_zero g1).1; omega⟩
    obtain ⟨o, rfl⟩ : ∃ o' : Nat, o = o' := ⟨o.toNat, by omega⟩
    exact rankEffort_good n f g2 g3 v rows u xs o B w hv hu hB g1 g4 g5 (by omega)
  have Hng := Lib.hid hgood
  clear hgood
  have HR := Lib.hid ranks_any
  have HWd := Lib.hid (fun W (hb : Below w.heap.size w W) => wide_any parts v rows B W (hv.below (hb.mono hB)) (by have := hb.size; omega))
  have HCk := Lib.hid (fun W (hb : Below w.heap.size w W) => rcheckspectrum_any parts v rows B W (hv.below (hb.mono hB)) (by have := hb.size; omega))
  have HRk := Lib.hid (fun (k : Nat) (hk : k < 256) W (hb : Below w.heap.size w W) => rank_any parts k hk v rows B W (hv.below (hb.mono hB)) (by have := hb.size; omega))
  have HSt := Lib.hid (fun (m : Int) W (hb : Below w.heap.size w W) => set_any u xs m B W (hu.below (hb.mono hB)))
  have Hv := Lib.hid hv
  have Hu := Lib.hid hu
  have HB0 := Lib.hid hB
  obtain ⟨A, c, vs, rfl, j1, j2, j3, j4⟩ := hv
  obtain ⟨Ax, cx, rfl, k1, k2, hrx⟩ := hu
  have Hrx := Lib.hid hrx
  clear j1 j2 j3 j4 hB k1 k2 hrx
  go_enter Try.func10, Try.ntmps10
  go_wp2_with fail
  refine (HWd.out _ (al1' _ _)).mono ?_
  rintro e w1 ⟨⟨b, rfl⟩, hb⟩
  have S1 : Blk w1 w.heap.size 48 #[.int .i64 parts, .slice A rows.length c] := (Blk.new w _ _).below hb (by simp)
  have HB := Lib.hid (below_x (al1' w _) hb)
  have lt1 : w.heap.size < w1.heap.size := S1.lt
  have s0 := S1.cell 0
  have s1 := S1.cell 1
  have HS1 := Lib.hid S1
  simp only [List.getElem?_toArray, List.getElem?_cons_zero, List.getElem?_cons_succ] at s0 s1
  clear hb HWd S1
  cases b
  · by_cases he : specErr parts rows = 0
    · have HC := HCk.out w1 HB.out
      rw [he] at HC
      have HC := Lib.hid HC
      clear HCk
      go_wp2_with fail
      refine HC.out.mono ?_
      rintro e w2 ⟨rfl, hb⟩
      have HB2 := Lib.hid (below_x HB.out hb)
      have S2 := HS1.out.below hb lt1
      have lt2 : w.heap.size < w2.heap.size := S2.lt
      have s0 := S2.cell 0
      have s1 := S2.cell 1
      have HS2 := Lib.hid S2
      simp only [List.getElem?_toArray, List.getElem?_cons_zero, List.getElem?_cons_succ] at s0 s1
      clear hb S2 HC HS1
      by_cases hff : 1 ≤ f ∧ f ≤ 14
      · obtain ⟨f0, f1⟩ := hff
        obtain ⟨n, rfl⟩ : ∃ n : Nat, parts = n := ⟨parts.toNat, by have := (specErr_zero he).1; omega⟩
        have hn1 : 1 ≤ n := by have := (specErr_zero he).1; omega
        have hn2 : n ≤ 256 := by have := (specErr_zero he).2.1; omega
        have He := Lib.hid he
        clear he
        by_cases hx : xs = []
        · have Hx := Lib.hid hx
          have hz : ((xs.length : Int) == 0) = true := by rw [hx]; rfl
          clear hx
          go_wp2_with fail
          refine (HR.out _).mono ?_
          rintro e w3 ⟨rfl, hb⟩
          go_wp2
          go_ret
          exact ⟨rfl, below_x HB2.out hb⟩
        · have hx0 : 0 < xs.length := by rcases xs with _ | ⟨x, l⟩; exact absurd rfl hx; simp
          have hxz : ((xs.length : Int) == 0) = false := by simpa using hx
          by_cases hxi : Rk.incr n xs = true
          · have HSt2 := Lib.hid (HSt.out n w2 HB2.out)
            rw [hxi] at HSt2
            by_cases ho : 0 ≤ o ∧ o < n
            · exact absurd ⟨He.out, ⟨f0, f1⟩, hx, hxi, ho.1, ho.2⟩ Hng.out
            · rcases (show o < 0 ∨ 0 ≤ o ∧ (n : Int) ≤ o by omega) with h1 | ⟨h1, h2⟩
              all_goals
                go_wp2_with fail
                refine HSt2.out.mono ?_
                rintro e w3 ⟨rfl, q, rfl⟩
                go_wp2_with fail
                refine (HR.out _).mono ?_
                rintro e w4 ⟨rfl, hb⟩
                go_wp2
                go_ret
                exact ⟨rfl, below_x (below_drewN HB2.out q) hb⟩
          · have hxf : Rk.incr n xs = false := by simpa using hxi
            have HSt2 := Lib.hid (HSt.out n w2 HB2.out)
            rw [hxf] at HSt2
            go_wp2_with fail
            refine HSt2.out.mono ?_
            rintro e w3 ⟨rfl, q, rfl⟩
            go_wp2_with fail
            refine (HR.out _).mono ?_
            rintro e w4 ⟨rfl, hb⟩
            go_wp2
            go_ret
            exact ⟨rfl, below_x (below_drewN HB2.out q) hb⟩
      · rcases (show f < 1 ∨ 1 ≤ f ∧ 14 < f by omega) with h1 | ⟨h1, h2⟩
        all_goals
          clear he
          go_wp2_with fail
          refine (HR.out _).mono ?_
          rintro e w3 ⟨rfl, hb⟩
          go_wp2
          go_ret
          exact ⟨rfl, below_x HB2.out hb⟩
    · have HC := HCk.out w1 HB.out
      have hne : (specErr parts rows != 0) = true := by simpa using he
      have HC := Lib.hid HC
      clear HCk he
      generalize specErr parts rows = er at *
      go_wp2_with fail
      refine HC.out.mono ?_
      rintro e w2 ⟨rfl, hb⟩
      have HB2 := Lib.hid (below_x HB.out hb)
      go_wp2_with fail
      refine (HR.out _).mono ?_
      rintro e w3 ⟨rfl, hb3⟩
      go_wp2
      go_ret
      exact ⟨rfl, below_x HB2.out hb3⟩
  · go_wp2_with fail
    refine (HR.out _).mono ?_
    rintro e w2 ⟨rfl, hb⟩
    go_wp2
    go_ret
    exact ⟨rfl, below_x HB.out hb⟩
end Go.Proofs.Ytfpmbjobieeidaa
