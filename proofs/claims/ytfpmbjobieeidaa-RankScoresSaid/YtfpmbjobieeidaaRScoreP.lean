/-
  The walk of the reference's Score.
-/
import Derived.Test.YtfpmbjobieeidaaRScore
import Derived.Test.YtfpmbjobieeidaaScoreP
namespace Go.Proofs.Ytfpmbjobieeidaa
open Go.RowKit

theorem rscoreAll (k : Nat) (h0 : 1 ≤ k) (h1 : k ≤ 14) (h q m r : Int) (hh : 0 ≤ h ∧ h ≤ 64) (hq : 0 ≤ q ∧ q ≤ 64) (hm : 0 ≤ m ∧ m ≤ 64) (hr : 0 ≤ r ∧ r ≤ 64) (w : World) :
    Calls Try.prog 49 #[.int .u8 k, .agg #[.int .i64 h, .int .i64 q, .int .i64 m, .int .i64 r]] w (FvPost (Rk.score k h q m r) w) := by
  rcases (show k = 1 ∨ k = 2 ∨ k = 3 ∨ k = 4 ∨ k = 5 ∨ k = 6 ∨ k = 7 ∨ k = 8 ∨ k = 9 ∨ k = 10 ∨ k = 11 ∨ k = 12 ∨ k = 13 ∨ k = 14 by omega) with rfl | rfl | rfl | rfl | rfl | rfl | rfl | rfl | rfl | rfl | rfl | rfl | rfl | rfl
  · exact rscore1_any h q m r hh hq hm hr w
  · exact rscore2_any h q m r hh hq hm hr w
  · exact rscore3_any h q m r hh hq hm hr w
  · exact rscore4_any h q m r hh hq hm hr w
  · exact rscore5_any h q m r hh hq hm hr w
  · exact rscore6_any h q m r hh hq hm hr w
  · exact rscore7_any h q m r hh hq hm hr w
  · exact rscore8_any h q m r hh hq hm hr w
  · exact rscore9_any h q m r hh hq hm hr w
  · exact rscore10_any h q m r hh hq hm hr w
  · exact rscore11_any h q m r hh hq hm hr w
  · exact rscore12_any h q m r hh hq hm hr w
  · exact rscore13_any h q m r hh hq hm hr w
  · exact rscore14_any h q m r hh hq hm hr w

set_option maxRecDepth 100000 in
set_option maxHeartbeats 1000000 in
theorem rscoreS_none (k : Nat) (hbad : ¬ (1 ≤ k ∧ k ≤ 14)) (h q m r : Int) (w : World) :
    Calls Try.prog 18 #[.int .u8 k, .agg #[.int .i64 h, .int .i64 q, .int .i64 m, .int .i64 r]] w (ScPost k h q m r w) := by
  have Hp : Hid (Rk.scoreOf k h q m r = (0, 0) ∧ Rk.scoreErr k [h, q, m, r] = 1) := by
    have h1 : Rk.scoreErr k [h, q, m, r] = 1 := by unfold Rk.scoreErr; rw [if_neg hbad]
    exact ⟨by unfold Rk.scoreOf; rw [h1]; rfl, h1⟩
  have hc : k < 1 ∨ ¬ k < 1 ∧ 14 < k := by omega
  clear hbad
  rcases hc with hc | ⟨hc, hc2⟩
  all_goals
    go_enter Try.func18, Try.ntmps18
    go_wp2
    refine bodyPost_ret (v := .tuple #[.agg #[.int .i64 0, .int .i64 0], .int .i64 1]) (by simp [results, Try.results18, go_sem]) rfl ⟨by rw [Hp.out.1, Hp.out.2]; rfl, ?_⟩
    exact al2 _ _ _

set_option maxRecDepth 100000 in
set_option maxHeartbeats 1000000 in
theorem rscoreS_some (k : Nat) (hk : 1 ≤ k ∧ k ≤ 14) (h q m r : Int) (w : World) :
    Calls Try.prog 18 #[.int .u8 k, .agg #[.int .i64 h, .int .i64 q, .int .i64 m, .int .i64 r]] w (ScPost k h q m r w) := by
  have HF := Lib.hid (fun hz W => rscoreAll k hk.1 hk.2 h q m r (Rk.tErr_zero hz).1 (Rk.tErr_zero hz).2.1 (Rk.tErr_zero hz).2.2.1 (Rk.tErr_zero hz).2.2.2 W)
  have Hp1 : Hid (Rk.scoreErr k [h, q, m, r] = Rk.tErr [h, q, m, r]) := if_pos hk
  have Hp2 : Hid (Rk.scoreOf k h q m r = if Rk.tErr [h, q, m, r] = 0 then Rk.score k h q m r else (0, 0)) := by
    show Rk.scoreOf k h q m r = _
    unfold Rk.scoreOf; rw [Hp1.out]
  obtain ⟨o1, o2, ho⟩ : ∃ o1 o2, Rk.score k h q m r = (o1, o2) := ⟨_, _, rfl⟩
  rw [ho] at HF Hp2
  have Hno := Lib.hid (show Rk.tErr [h, q, m, r] ≠ 0 → Rk.scoreOf k h q m r = (0, 0) from fun hne => by rw [Hp2.out, if_neg hne])
  have Hyes := Lib.hid (show Rk.tErr [h, q, m, r] = 0 → Rk.scoreOf k h q m r = (o1, o2) from fun he => by rw [Hp2.out, if_pos he])
  have k0 : ¬ k < 1 := by omega
  have k1 : ¬ 14 < k := by omega
  clear ho Hp2 hk
  obtain ⟨W0, hW0⟩ : ∃ W0, W0 = ((w.alloc (.cells #[.int .i64 h, .int .i64 q, .int .i64 m, .int .i64 r] 33)).alloc (.cells #[.int .i64 0, .int .i64 0] 23)).alloc (.cells #[.int .i64 h, .int .i64 q, .int .i64 m, .int .i64 r] 90) := ⟨_, rfl⟩
  have ht : Blk W0 w.heap.size 33 #[.int .i64 h, .int .i64 q, .int .i64 m, .int .i64 r] := by rw [hW0]; exact ((Blk.new w _ _).alloc _).alloc _
  have hg : Blk W0 (w.heap.size + 1) 23 #[.int .i64 0, .int .i64 0] := by rw [hW0]; exact (Blk.new_ (by simp)).alloc _
  have ha : Blk W0 (w.heap.size + 1 + 1) 90 #[.int .i64 h, .int .i64 q, .int .i64 m, .int .i64 r] := by rw [hW0]; exact Blk.new_ (by simp)
  have H1 := Lib.hid (show Below w.heap.size w W0 by rw [hW0]; exact al3 _ _ _ _)
  obtain ⟨l, hl⟩ : ∃ l, l = [h, q, m, r] := ⟨_, rfl⟩
  have Hrow := Lib.hid (show ∀ j, j < 4 → W0.cell? ⟨w.heap.size + 1 + 1, j, none⟩ = some (.int .i64 (l.getD j 0)) from fun j hj => by
    rw [ha.cell j, hl]
    rcases (show j = 0 ∨ j = 1 ∨ j = 2 ∨ j = 3 by omega) with rfl | rfl | rfl | rfl <;> rfl)
  have d0 := ht.cell 0
  have d1 := ht.cell 1
  have d2 := ht.cell 2
  have d3 := ht.cell 3
  have c0 := hg.cell 0
  have c1 := hg.cell 1
  have f0 := hg.frozen 0
  have f1 := hg.frozen 1
  have lt := hg.lt
  simp only [List.getElem?_toArray, List.getElem?_cons_zero, List.getElem?_cons_succ] at d0 d1 d2 d3 c0 c1
  have Hg := Lib.hid hg
  have HW0 := Lib.hid hW0
  rw [← hl] at Hno Hyes Hp1
  have Hl := Lib.hid hl
  have hlen : l.length = 4 := by rw [hl]; rfl
  clear hW0 ht hg ha hl
  go_enter Try.func18, Try.ntmps18
  go_wp2
  rw [← HW0.out]
  go_loopg [7] 4 (fun g i wr => ∃ j : Nat, j ≤ 4 ∧ g = 4 - j ∧ i = .int .i64 j ∧ wr = W0 ∧ Hid (Rk.tErr (l.drop j) = Rk.tErr l))
  case atStart => exact ⟨0, Nat.zero_le _, rfl, rfl, rfl, rfl⟩
  case round =>
    obtain ⟨j, hj, hgj, rfl, rfl, hd⟩ := hrel
    have Hgj := Lib.hid hgj
    clear hgj
    by_cases hlt : j < 4
    · have c_j := Hrow.out j hlt
      have hstep := Rk.tErr_drop (l := l) (j := j) (by omega)
      rw [hd.out] at hstep
      generalize l.getD j 0 = n at *
      by_cases hn0 : n < 0
      · rw [if_pos hn0] at hstep
        have Hst := Lib.hid hstep
        clear hstep
        go_wp2
        have K := st2 Hg.out (.int .i64 0) (.int .i64 0)
        have k0 := K.cell 0
        have k1 := K.cell 1
        simp only [List.getElem?_toArray, List.getElem?_cons_zero, List.getElem?_cons_succ] at k0 k1
        refine bodyPost_ret (v := .tuple #[.agg #[.int .i64 0, .int .i64 0], .int .i64 1]) (by simp [results, Try.results18, go_sem, k0, k1]) rfl ⟨by rw [← Hl.out, Hp1.out, Hno.out (by rw [Hst.out]; decide), Hst.out]; rfl, ?_⟩
        exact below_st2 (g := w.heap.size + 1) H1.out (by omega) H1.out.size (.int .i64 0) (.int .i64 0)
      · rw [if_neg hn0] at hstep
        by_cases hn1 : 64 < n
        · rw [if_pos hn1] at hstep
          have Hst := Lib.hid hstep
          clear hstep
          go_wp2
          have K := st2 Hg.out (.int .i64 0) (.int .i64 0)
          have k0 := K.cell 0
          have k1 := K.cell 1
          simp only [List.getElem?_toArray, List.getElem?_cons_zero, List.getElem?_cons_succ] at k0 k1
          refine bodyPost_ret (v := .tuple #[.agg #[.int .i64 0, .int .i64 0], .int .i64 3]) (by simp [results, Try.results18, go_sem, k0, k1]) rfl ⟨by rw [← Hl.out, Hp1.out, Hno.out (by rw [Hst.out]; decide), Hst.out]; rfl, ?_⟩
          exact below_st2 (g := w.heap.size + 1) H1.out (by omega) H1.out.size (.int .i64 0) (.int .i64 0)
        · rw [if_neg hn1] at hstep
          have Hst := Lib.hid hstep.symm
          clear hstep
          go_wp2
          go_roundg (4 - (j + 1))
          case rel => exact ⟨j + 1, by omega, rfl, by go_num, rfl, Hst⟩
          case measure => rw [Hgj.out]; omega
    · obtain rfl : j = 4 := by omega
      have hz : Rk.tErr l = 0 := by rw [← hd.out, List.drop_eq_nil_of_le (by omega)]; rfl
      have Hz := Lib.hid hz
      have HF2 := Lib.hid (HF.out (by rw [← Hl.out]; exact hz))
      clear hz
      go_wp2_with fail
      refine (HF2.out _).mono ?_
      rintro e w3 ⟨rfl, hb3⟩
      have hg3 := Hg.out.below hb3 lt
      have c03 : w3.cell? ⟨w.heap.size + 1, 0, none⟩ = some (.int .i64 0) := hg3.cell 0
      have c13 : w3.cell? ⟨w.heap.size + 1, 1, none⟩ = some (.int .i64 0) := hg3.cell 1
      have f03 := hg3.frozen 0
      have f13 := hg3.frozen 1
      have Hg3 := Lib.hid hg3
      have H3 := Lib.hid (H1.out.trans (hb3.mono H1.out.size))
      clear hg3 hb3
      unfold fv
      go_wp2
      have K := st2 Hg3.out (.int .i64 o1) (.int .i64 o2)
      have k0 := K.cell 0
      have k1 := K.cell 1
      simp only [List.getElem?_toArray, List.getElem?_cons_zero, List.getElem?_cons_succ] at k0 k1
      refine bodyPost_ret (v := .tuple #[.agg #[.int .i64 o1, .int .i64 o2], .int .i64 0]) (by simp [results, Try.results18, go_sem, k0, k1]) rfl ⟨by rw [← Hl.out, Hp1.out, Hyes.out Hz.out, Hz.out]; rfl, ?_⟩
      exact below_st2 (g := w.heap.size + 1) H3.out (by omega) H3.out.size (.int .i64 o1) (.int .i64 o2)

theorem rscoreS_any (k : Nat) (h q m r : Int) (w : World) :
    Calls Try.prog 18 #[.int .u8 k, .agg #[.int .i64 h, .int .i64 q, .int .i64 m, .int .i64 r]] w (ScPost k h q m r w) := by
  by_cases hg : 1 ≤ k ∧ k ≤ 14
  · exact rscoreS_some k hg h q m r w
  · exact rscoreS_none k hg h q m r w
end Go.Proofs.Ytfpmbjobieeidaa
