/-
  The walk of Join.
-/
import Derived.Test.YtfpmbjobieeidaaLiftY
import Derived.Test.YtfpmbjobieeidaaSpB
namespace Go.Proofs.Ytfpmbjobieeidaa
open Go.RowKit

/-- The joined rows, up to k. -/
def Rk.joinRows (p1 : Int) (rows1 rows2 : List RowL) (k : Nat) : List RowL := (List.range k).map fun i => Rk.joinRow p1 (Rk.rowAt rows1 i) (Rk.rowAt rows2 i)
theorem Rk.joinRows_succ (p1 : Int) (rows1 rows2 : List RowL) (k : Nat) : Rk.joinRows p1 rows1 rows2 (k + 1) = Rk.joinRows p1 rows1 rows2 k ++ [Rk.joinRow p1 (Rk.rowAt rows1 k) (Rk.rowAt rows2 k)] := by
  unfold Rk.joinRows; rw [List.range_succ, List.map_append]; rfl
theorem Rk.joinRows_len (p1 : Int) (rows1 rows2 : List RowL) (k : Nat) : (Rk.joinRows p1 rows1 rows2 k).length = k := by simp [Rk.joinRows]
/-- The error of Join, case by case. -/
structure JErr (e1 e2 p1 p2 : Int) (rows1 rows2 : List RowL) (je : Int) : Prop where
  a : e1 ≠ 0 → je = e1
  b : e1 = 0 → e2 ≠ 0 → je = e2
  c : e1 = 0 → e2 = 0 → rows1.length ≠ rows2.length → je = 12
  d : e1 = 0 → e2 = 0 → ∀ k, k < rows1.length → (Rk.rowAt rows1 k).2 ≠ (Rk.rowAt rows2 k).2 → je = 12
  e : e1 = 0 → e2 = 0 → rows1.length = rows2.length → (∀ k, k < rows1.length → (Rk.rowAt rows1 k).2 = (Rk.rowAt rows2 k).2) → je = if 256 < p1 + p2 then 3 else 0
theorem jerr (e1 e2 p1 p2 : Int) (rows1 rows2 : List RowL) : JErr e1 e2 p1 p2 rows1 rows2 (Rk.joinErr e1 e2 p1 p2 rows1 rows2) := by
  have hg : ∀ (rows : List RowL) k, k < rows.length → (rows.map (·.2))[k]? = some (Rk.rowAt rows k).2 := fun rows k hk => by
    unfold Rk.rowAt
    rw [List.getElem?_map, List.getD_eq_getElem?_getD, List.getElem?_eq_getElem hk]
    rfl
  unfold Rk.joinErr
  refine ⟨fun h => by rw [if_pos h], fun h1 h2 => by rw [if_neg (by omega), if_pos h2], fun h1 h2 h3 => ?_, fun h1 h2 k hk h3 => ?_, fun h1 h2 h3 h4 => ?_⟩
  · rw [if_neg (by omega), if_neg (by omega), if_pos]
    intro e
    have := congrArg List.length e
    simp at this
    exact h3 this
  · rw [if_neg (by omega), if_neg (by omega), if_pos]
    intro e
    have hl : k < rows2.length := by
      have := congrArg List.length e
      simp at this
      omega
    have h5 := hg rows1 k hk
    rw [e, hg rows2 k hl] at h5
    exact h3 (Option.some.inj h5).symm
  · rw [if_neg (by omega), if_neg (by omega), if_neg]
    intro hne
    refine hne (List.ext_getElem? fun k => ?_)
    by_cases hk : k < rows1.length
    · rw [hg rows1 k hk, hg rows2 k (by omega), h4 k hk]
    · rw [List.getElem?_eq_none (by simp; omega), List.getElem?_eq_none (by simp; omega)]

set_option maxRecDepth 100000 in
set_option maxHeartbeats 4000000 in
theorem join_any (p1 p2 : Int) (v1 v2 : Value) (rows1 rows2 : List RowL) (B : Nat) (w : World) (hv1 : Rows w B v1 rows1) (hv2 : Rows w B v2 rows2) (hB : B ≤ w.heap.size) :
    Calls Try.prog 40 #[.agg #[.int .i64 p1, v1], .agg #[.int .i64 p2, v2]] w (SpPost (p1 + p2) (Rk.joinErr (specErr p1 rows1) (specErr p2 rows2) p1 p2 rows1 rows2) (Rk.joinRows p1 rows1 rows2 rows1.length) w) := by
  have HC1 := Lib.hid (fun W (hb : Below w.heap.size w W) => checkspectrum_any p1 v1 rows1 B W (hv1.below (hb.mono hB)) (by have := hb.size; omega))
  have HC2 := Lib.hid (fun W (hb : Below w.heap.size w W) => checkspectrum_any p2 v2 rows2 B W (hv2.below (hb.mono hB)) (by have := hb.size; omega))
  obtain ⟨A, c, vs, rfl, hn, hm, hr, hi⟩ := hv1
  obtain ⟨A', c', vs', rfl, hn', hm', hr', hi'⟩ := hv2
  have Hr := Lib.hid hr
  have Hi := Lib.hid hi
  have Hr' := Lib.hid hr'
  have Hi' := Lib.hid hi'
  clear hr hi hr' hi' hn hn'
  have Hje := Lib.hid (jerr (specErr p1 rows1) (specErr p2 rows2) p1 p2 rows1 rows2)
  generalize Rk.joinErr (specErr p1 rows1) (specErr p2 rows2) p1 p2 rows1 rows2 = je at *
  obtain ⟨W, hW⟩ : ∃ W, W = ((w.alloc (.cells #[.int .i64 p1, .slice A rows1.length c] 48)).alloc (.cells #[.int .i64 p2, .slice A' rows2.length c'] 48)).alloc (.cells #[.int .i64 0, .slice none 0 0] 48) := ⟨_, rfl⟩
  have hbW : Below w.heap.size w W := by rw [hW]; exact (((Below.refl _ _).alloc (Nat.le_refl _) _).alloc (by simp) _).alloc (by simp; omega) _
  have hs1 : Blk W w.heap.size 48 #[.int .i64 p1, .slice A rows1.length c] := by rw [hW]; exact ((Blk.new w _ _).alloc _).alloc _
  have hs2 : Blk W (w.heap.size + 1) 48 #[.int .i64 p2, .slice A' rows2.length c'] := by
    rw [hW]
    have := (Blk.new (w.alloc (.cells #[.int .i64 p1, .slice A rows1.length c] 48)) 48 #[.int .i64 p2, .slice A' rows2.length c']).alloc (.cells #[.int .i64 0, .slice none 0 0] 48)
    simpa using this
  have hs3 : Blk W (w.heap.size + 2) 48 #[.int .i64 0, .slice none 0 0] := by
    rw [hW]
    have := Blk.new ((w.alloc (.cells #[.int .i64 p1, .slice A rows1.length c] 48)).alloc (.cells #[.int .i64 p2, .slice A' rows2.length c'] 48)) 48 #[.int .i64 0, .slice none 0 0]
    simpa using this
  have s0 : W.cell? ⟨w.heap.size, 0, none⟩ = some (.int .i64 p1) := hs1.cell 0
  have s1 : W.cell? ⟨w.heap.size, 1, none⟩ = some (.slice A rows1.length c) := hs1.cell 1
  have HS1 := Lib.hid hs1
  have HS2 := Lib.hid hs2
  have HS3 := Lib.hid hs3
  have HbW := Lib.hid hbW
  have HW := Lib.hid hW
  clear hbW hW hs1 hs2 hs3
  go_enter Try.func40, Try.ntmps40
  go_wp2_with fail
  rw [← HW.out]
  go_wp2_with fail
  refine (HC1.out _ HbW.out).mono ?_
  rintro e w1 ⟨rfl, hb⟩
  have T1 := HS1.out.below hb HS1.out.lt
  have T2 := HS2.out.below hb HS2.out.lt
  have T3 := HS3.out.below hb HS3.out.lt
  have HB1 := Lib.hid (HbW.out.trans (hb.mono HbW.out.size))
  have lt3 := T3.lt
  have y0 := T3.cell 0
  have y1 := T3.cell 1
  have z0 := T2.cell 0
  have z1 := T2.cell 1
  have f0 := T3.frozen 0
  have f1 := T3.frozen 1
  simp only [List.getElem?_toArray, List.getElem?_cons_zero, List.getElem?_cons_succ] at y0 y1 z0 z1
  have HT1 := Lib.hid T1
  have HT2 := Lib.hid T2
  have HT3 := Lib.hid T3
  clear hb T1 T2 T3 HC1 HS1 HS2 HS3 s0 s1
  by_cases he1 : specErr p1 rows1 = 0
  rotate_left
  · have hne : (specErr p1 rows1 != 0) = true := by simpa using he1
    have Hne := Lib.hid he1
    have Heq := Lib.hid (Hje.out.a he1)
    clear he1
    go_wp2
    have K := st2 HT3.out (.int .i64 0) (.slice none 0 0)
    have k0 := K.cell 0
    have k1 := K.cell 1
    simp only [List.getElem?_toArray, List.getElem?_cons_zero, List.getElem?_cons_succ] at k0 k1
    refine bodyPost_ret (v := .tuple #[.agg #[.int .i64 0, .slice none 0 0], .int .i64 (specErr p1 rows1)]) (by simp [results, Try.results40, go_sem, k0, k1]) rfl ⟨_, by rw [Heq.out, if_neg Hne.out], by rw [Heq.out, if_neg Hne.out]; exact rowsO_none _ _, ?_⟩
    exact below_st2 (g := w.heap.size + 2) HB1.out (by omega) HB1.out.size _ _
  · rw [he1]
    go_wp2_with fail
    refine (HC2.out _ HB1.out).mono ?_
    rintro e w2 ⟨rfl, hb⟩
    have T1 := HT1.out.below hb HT1.out.lt
    have T2 := HT2.out.below hb HT2.out.lt
    have T3 := HT3.out.below hb HT3.out.lt
    have HB2 := Lib.hid (HB1.out.trans (hb.mono HB1.out.size))
    have lt3' := T3.lt
    have y0 := T3.cell 0
    have y1 := T3.cell 1
    have z0 := T2.cell 0
    have z1 := T2.cell 1
    have x0 := T1.cell 0
    have x1 := T1.cell 1
    have f0 := T3.frozen 0
    have f1 := T3.frozen 1
    simp only [List.getElem?_toArray, List.getElem?_cons_zero, List.getElem?_cons_succ] at y0 y1 z0 z1 x0 x1
    have HU1 := Lib.hid T1
    have HU2 := Lib.hid T2
    have HU3 := Lib.hid T3
    clear hb T1 T2 T3 HC2 HT1 HT2 HT3
    by_cases he2 : specErr p2 rows2 = 0
    rotate_left
    · have hne : (specErr p2 rows2 != 0) = true := by simpa using he2
      have Hne := Lib.hid he2
      have Heq := Lib.hid (Hje.out.b he1 he2)
      clear he2 he1
      go_wp2
      have K := st2 HU3.out (.int .i64 0) (.slice none 0 0)
      have k0 := K.cell 0
      have k1 := K.cell 1
      simp only [List.getElem?_toArray, List.getElem?_cons_zero, List.getElem?_cons_succ] at k0 k1
      refine bodyPost_ret (v := .tuple #[.agg #[.int .i64 0, .slice none 0 0], .int .i64 (specErr p2 rows2)]) (by simp [results, Try.results40, go_sem, k0, k1]) rfl ⟨_, by rw [Heq.out, if_neg Hne.out], by rw [Heq.out, if_neg Hne.out]; exact rowsO_none _ _, ?_⟩
      exact below_st2 (g := w.heap.size + 2) HB2.out (by omega) HB2.out.size _ _
    · rw [he2]
      by_cases hl : rows1.length = rows2.length
      rotate_left
      · have hlz : ((rows1.length : Int) != (rows2.length : Int)) = true := by simp; omega
        obtain rfl := Hje.out.c he1 he2 hl
        clear he1 he2 hl
        go_wp2
        have K := st2 HU3.out (.int .i64 0) (.slice none 0 0)
        have k0 := K.cell 0
        have k1 := K.cell 1
        simp only [List.getElem?_toArray, List.getElem?_cons_zero, List.getElem?_cons_succ] at k0 k1
        refine bodyPost_ret (v := .tuple #[.agg #[.int .i64 0, .slice none 0 0], .int .i64 12]) (by simp [results, Try.results40, go_sem, k0, k1]) rfl ⟨_, by rw [if_neg (by decide)], by rw [if_neg (by decide)]; exact rowsO_none _ _, ?_⟩
        exact below_st2 (g := w.heap.size + 2) HB2.out (by omega) HB2.out.size _ _
      · have hlz : ((rows1.length : Int) != (rows2.length : Int)) = false := by simp [hl]
        have Hl := Lib.hid hl
        have He12 := Lib.hid (And.intro he1 he2)
        have hle : rows1.length ≤ rows2.length := by omega
        clear he1 he2 hl
        go_wp2
        go_loopg [38] rows1.length (fun g i wr => ∃ k q : Nat, k ≤ rows1.length ∧ g = rows1.length - k ∧ i = .int .i64 k ∧ wr = w2.drewN q ∧ Hid (∀ j, j < k → (Rk.rowAt rows1 j).2 = (Rk.rowAt rows2 j).2))
        case atStart => exact ⟨0, 0, Nat.zero_le _, rfl, rfl, rfl, fun j h => by omega⟩
        case round =>
          obtain ⟨k, q, hk, hg, rfl, rfl, hsame⟩ := hrel
          have Hg := Lib.hid hg
          clear hg
          by_cases hlt : k < rows1.length
          · obtain ⟨ad, u, rfl, hadb, hc0, hc1, hu⟩ := rows_at Hr.out Hi.out hlt
            obtain ⟨ad', u', rfl, hadb', hc0', hc1', hu'⟩ := rows_at Hr'.out Hi'.out (show k < rows2.length by omega)
            have hk2 : (k : Int) < (rows2.length : Int) := by omega
            have hq1 : w2.cell? ⟨(ad.add (k * 2)).block, (ad.add (k * 2)).off + 1, none⟩ = some (.bool (Rk.rowAt rows1 k).2) := by
              have h := ((HB2.out.mono hB).cell (p := ad.add (k * 2 + 1)) (by rw [block_of_add]; omega)).trans hc1
              rw [← add_of_add] at h
              exact h
            have hq2 : w2.cell? ⟨(ad'.add (k * 2)).block, (ad'.add (k * 2)).off + 1, none⟩ = some (.bool (Rk.rowAt rows2 k).2) := by
              have h := ((HB2.out.mono hB).cell (p := ad'.add (k * 2 + 1)) (by rw [block_of_add]; omega)).trans hc1'
              rw [← add_of_add] at h
              exact h
            have Hd := Lib.hid (Hje.out.d He12.out.1 He12.out.2 k hlt)
            have Hye := Lib.hid (show (Rk.rowAt rows1 k).2 = (Rk.rowAt rows2 k).2 → ∀ j, j < k + 1 → (Rk.rowAt rows1 j).2 = (Rk.rowAt rows2 j).2 from fun h j hj => by
              by_cases e : j = k
              · rw [e]; exact h
              · exact hsame.out j (by omega))
            clear hu hu' hc0 hc1 hc0' hc1' hsame
            generalize (Rk.rowAt rows1 k).2 = g1 at *
            generalize (Rk.rowAt rows2 k).2 = g2 at *
            by_cases hf : g1 = g2
            · subst hf
              have Hy := Lib.hid (Hye.out rfl)
              clear Hye Hd
              cases g1
              all_goals
                go_wp2
                go_quiet (fail)
                go_wp2
                go_roundg (rows1.length - (k + 1))
                case rel => exact ⟨k + 1, _, hlt, rfl, by go_num, rfl, Hy⟩
                case measure => rw [Hg.out]; omega
            · obtain rfl := Hd.out hf
              have k0 := fun n => (st2 (HU3.out.drewN n) (.int .i64 0) (.slice none 0 0)).cell 0
              have k1 := fun n => (st2 (HU3.out.drewN n) (.int .i64 0) (.slice none 0 0)).cell 1
              simp only [List.getElem?_toArray, List.getElem?_cons_zero, List.getElem?_cons_succ] at k0 k1
              clear Hye Hd
              cases g1 <;> cases g2
              all_goals
                first
                | (exfalso; exact hf rfl)
                | (clear hf
                   go_wp2
                   go_quiet (fail)
                   go_wp2
                   refine bodyPost_ret (v := .tuple #[.agg #[.int .i64 0, .slice none 0 0], .int .i64 12]) (by simp [results, Try.results40, go_sem, k0, k1]) rfl ⟨_, by rw [if_neg (by decide)], by rw [if_neg (by decide)]; exact rowsO_none _ _, ?_⟩
                   exact below_st2 (g := w.heap.size + 2) (below_drewN HB2.out _) (by omega) HB2.out.size _ _)
          · obtain rfl : k = rows1.length := by omega
            obtain ⟨z1a, z1b, z1c, z1d⟩ := specErr_ok He12.out.1
            obtain ⟨z2a, z2b, z2c, z2d⟩ := specErr_ok He12.out.2
            have Hd1 := Lib.hid z1d
            have Hd2 := Lib.hid z2d
            have hje := Hje.out.e He12.out.1 He12.out.2 Hl.out hsame.out
            have hsum : IntKind.i64.wrap (p1 + p2) = p1 + p2 := by rw [IntKind.wrap_i64]; omega
            clear z1d z2d
            by_cases hbig : 256 < p1 + p2
            · rw [if_pos hbig] at hje
              subst hje
              have k0 := fun n => (st2 (HU3.out.drewN n) (.int .i64 0) (.slice none 0 0)).cell 0
              have k1 := fun n => (st2 (HU3.out.drewN n) (.int .i64 0) (.slice none 0 0)).cell 1
              simp only [List.getElem?_toArray, List.getElem?_cons_zero, List.getElem?_cons_succ] at k0 k1
              go_wp2
              refine bodyPost_ret (v := .tuple #[.agg #[.int .i64 0, .slice none 0 0], .int .i64 3]) (by simp [results, Try.results40, go_sem, k0, k1]) rfl ⟨_, by rw [if_neg (by decide)], by rw [if_neg (by decide)]; exact rowsO_none _ _, ?_⟩
              exact below_st2 (g := w.heap.size + 2) (below_drewN HB2.out _) (by omega) HB2.out.size _ _
            · rw [if_neg hbig] at hje
              subst hje
              obtain ⟨wa, hwa⟩ : ∃ wa, wa = w2.drewN q := ⟨_, rfl⟩
              have HBa := Lib.hid (show Below w.heap.size w wa by rw [hwa]; exact below_drewN HB2.out q)
              have HA1 := Lib.hid (show Blk wa w.heap.size 48 #[.int .i64 p1, .slice A rows1.length c] by rw [hwa]; exact HU1.out.drewN q)
              have HA2 := Lib.hid (show Blk wa (w.heap.size + 1) 48 #[.int .i64 p2, .slice A' rows2.length c'] by rw [hwa]; exact HU2.out.drewN q)
              have HA3 := Lib.hid (show Blk wa (w.heap.size + 2) 48 #[.int .i64 0, .slice none 0 0] by rw [hwa]; exact HU3.out.drewN q)
              have hlwa : w.heap.size < wa.heap.size := HA1.out.lt
              have hlwb : w.heap.size + 1 < wa.heap.size := HA2.out.lt
              have hlwc : w.heap.size + 2 < wa.heap.size := HA3.out.lt
              obtain ⟨W2, hW2⟩ : ∃ W2, W2 = wa.alloc (.cells #[.int .i64 (p1 + p2), .slice none 0 0] 48) := ⟨_, rfl⟩
              have H2 := Lib.hid (show SpB wa (p1 + p2) (.slice none 0 0) (Rk.joinRows p1 rows1 rows2 0) W2 by rw [hW2]; exact SpB.start wa (p1 + p2))
              have HW2 := Lib.hid hW2
              have g0 : W2.cell? ⟨w.heap.size, 0, none⟩ = some (.int .i64 p1) := by rw [hW2]; exact (HA1.out.alloc _).cell 0
              have g1 : W2.cell? ⟨w.heap.size, 1, none⟩ = some (.slice A rows1.length c) := by rw [hW2]; exact (HA1.out.alloc _).cell 1
              clear hW2 hsame HU1 HU2 HU3 x0 x1 y0 y1 z0 z1 f0 f1 Hje
              rw [← hwa]
              have q0 := HA1.out.cell 0
              have q1 := HA1.out.cell 1
              have q2 := HA2.out.cell 0
              simp only [List.getElem?_toArray, List.getElem?_cons_zero, List.getElem?_cons_succ] at q0 q1 q2
              have Hwa := Lib.hid hwa
              clear hwa
              go_wp2
              rw [← HW2.out]
              go_loopg [72] rows1.length (fun g i wx => ∃ (k : Nat) (u : Value), k ≤ rows1.length ∧ g = rows1.length - k ∧ i = .int .i64 k ∧ Hid (SpB wa (p1 + p2) u (Rk.joinRows p1 rows1 rows2 k) wx))
              case atStart => exact ⟨0, _, Nat.zero_le _, rfl, rfl, H2.out⟩
              case round =>
                obtain ⟨k2, u, hk2, hg2, rfl, hsp⟩ := hrel
                have Hg2 := Lib.hid hg2
                clear hg2
                by_cases hlt3 : k2 < rows1.length
                · obtain ⟨wo, rfl⟩ : ∃ wo : World, wo = wr := ⟨_, rfl⟩
                  obtain ⟨ad, u1, rfl, hadb, hc0, hc1, hu1⟩ := rows_at Hr.out Hi.out hlt3
                  obtain ⟨ad', u2, rfl, hadb', hc0', hc1', hu2⟩ := rows_at Hr'.out Hi'.out (show k2 < rows2.length by omega)
                  have Hbw := Lib.hid (HBa.out.trans (hsp.out.low.mono HBa.out.size))
                  have hle2 := Hbw.out.size
                  have hlo := hsp.out.low.size
                  have c0 := ((Hbw.out.mono hB).cell (p := ad.add (k2 * 2)) (by rw [block_of_add]; omega)).trans hc0
                  have c1 : wo.cell? ⟨(ad.add (k2 * 2)).block, (ad.add (k2 * 2)).off + 1, none⟩ = some (.bool (Rk.rowAt rows1 k2).2) := by
                    have h := ((Hbw.out.mono hB).cell (p := ad.add (k2 * 2 + 1)) (by rw [block_of_add]; omega)).trans hc1
                    rw [← add_of_add] at h
                    exact h
                  obtain ⟨A1, cu1, rfl, hn1, hm1, hr1⟩ := hu1
                  obtain ⟨A2, cu2, rfl, hn2, hm2, hr2⟩ := hu2
                  have hb1 := (Hd1.out k2 hlt3).length_le
                  have hb2 := (Hd2.out k2 (by omega)).length_le
                  have Hin2 := Lib.hid (show ∀ j, j < (Rk.rowAt rows2 k2).1.length → 0 ≤ (Rk.rowAt rows2 k2).1.getD j 0 ∧ (Rk.rowAt rows2 k2).1.getD j 0 < p2 from fun j hj => (Hd2.out k2 (by omega)).mem (Rk.getD_mem hj))
                  have Hsucc := Lib.hid (Rk.joinRows_succ p1 rows1 rows2 k2)
                  unfold Rk.joinRow at Hsucc
                  have Hr1 := Lib.hid (hr1.below (Hbw.out.mono hB))
                  have Hr2 := Lib.hid hr2
                  have hc0'' := ((Hbw.out.mono hB).cell (p := ad'.add (k2 * 2)) (by rw [block_of_add]; omega)).trans hc0'
                  have hsl := (hsp.out.blk).lt
                  have hk22 : (k2 : Int) < (rows2.length : Int) := by omega
                  clear hc0 hc1 hc0' hc1' hr1 hr2 hn1 hn2 hm1 hm2
                  generalize (Rk.rowAt rows1 k2).1 = h1 at *
                  generalize (Rk.rowAt rows1 k2).2 = fb at *
                  generalize (Rk.rowAt rows2 k2).1 = h2 at *
                  obtain ⟨W3, hW3⟩ : ∃ W3, W3 = wo.alloc (.cells #[.slice A1 h1.length cu1, .bool fb] 65) := ⟨_, rfl⟩
                  have Hrow := Lib.hid (show Blk W3 wo.heap.size 65 #[.slice A1 h1.length cu1, .bool fb] by rw [hW3]; exact Blk.new wo _ _)
                  have HB3 := Lib.hid (show Below wo.heap.size wo W3 by rw [hW3]; exact below_alloc0 _ _)
                  have hs3 : W3.heap.size = wo.heap.size + 1 := by rw [hW3]; simp
                  have w0 : W3.cell? ⟨wo.heap.size, 0, none⟩ = some (.slice A1 h1.length cu1) := Hrow.out.cell 0
                  obtain ⟨i0, hi0, hz0, hz1, hz2⟩ := info_parts info_int
                  have Hone := Lib.hid (show ∀ u ∈ h1.map (Value.int .i64), u.oneCell' = true from fun u hu => by obtain ⟨x, _, rfl⟩ := List.mem_map.1 hu; rfl)
                  have HW3 := Lib.hid hW3
                  clear hW3
                  go_wp2_with (at_builtin; go_must (rw [← HW3.out]; refine wpList_append_any _ rfl _ _ 37 rfl (wo.heap.size + 1) 3 i0 _ 1 8 Try.underlying37 hi0 hz0 hz1 hz2 rfl (by decide) (.slice none 0 0) 0 [] rfl ⟨by simp, .inl ⟨rfl, rfl⟩⟩ B A1 h1.length cu1 _ rfl (Hr1.out.below (HB3.out.mono (by omega))) Hone.out ?d3 ?d4 ?d5 ?_))
                  case d3 => unfold maxLen; omega
                  case d4 => omega
                  case d5 => omega
                  intro v7 w7 hown7 hg7 _
                  have Hown7 := Lib.hid (show OwnInts w7 (wo.heap.size + 1) v7 h1 by unfold OwnInts; simpa using hown7)
                  have HB7 := Lib.hid (show Below wo.heap.size wo w7 from HB3.out.grown hg7 HB3.out.size (fun k e => by simp [Value.ownBlock] at e))
                  have Hrow7 := Lib.hid (Hrow.out.grown hg7 (by simp [Value.ownBlock]))
                  clear hown7 hg7
                  obtain ⟨A7, c7, ev7, _, _, _⟩ := own_form Hown7.out
                  subst ev7
                  have Hbw7 := Lib.hid (Hbw.out.trans (HB7.out.mono Hbw.out.size))
                  have r1 := Hrow7.out.cell 1
                  have c0' := (HB7.out.cell (p := ad'.add (k2 * 2)) (by rw [block_of_add]; omega)).trans hc0''
                  have b1 := ((hsp.out.low.trans (HB7.out.mono hsp.out.low.size)).cell (p := ⟨w.heap.size + 1, 1, none⟩) hlwb).trans (HA2.out.cell 1)
                  simp only [List.getElem?_toArray, List.getElem?_cons_zero, List.getElem?_cons_succ] at r1 b1
                  clear hc0''
                  go_wp2
                  go_loopg [12, 87] h2.length (fun g v i wy => ∃ j : Nat, j ≤ h2.length ∧ g = h2.length - j ∧ i = .int .i64 j ∧ Hid (OwnInts wy (wo.heap.size + 1) v (h1 ++ (h2.take j).map fun c => c + p1)) ∧ Hid (Below wo.heap.size wo wy) ∧ Hid (Blk wy wo.heap.size 65 #[.slice A1 h1.length cu1, .bool fb]))
                  case atStart => exact ⟨0, Nat.zero_le _, rfl, rfl, by rw [List.take_zero, List.map_nil, List.append_nil]; exact Hown7.out, HB7.out, Hrow7.out⟩
                  case round =>
                    obtain ⟨j, hj, hgj, rfl, hoj, hbj, hrj⟩ := hrel
                    have Hgj := Lib.hid hgj
                    clear hgj
                    obtain ⟨Av, cv, ev, _, _, _⟩ := own_form hoj.out
                    subst ev
                    by_cases hjl : j < h2.length
                    · obtain ⟨adn, en, hadnb, hcn⟩ := ints_at Hr2.out hjl
                      subst en
                      have hcn' := (((Hbw.out.trans (hbj.out.mono Hbw.out.size)).mono hB).cell (p := adn.add j) (by rw [block_of_add]; omega)).trans hcn
                      have hq0 := ((hsp.out.low.trans (hbj.out.mono hsp.out.low.size)).cell (p := ⟨w.heap.size, 0, none⟩) hlwa).trans q0
                      obtain ⟨x0, x1⟩ := Hin2.out j hjl
                      have hlen : (h1 ++ (h2.take j).map fun c => c + p1).length = h1.length + j := by simp; omega
                      have Htj := Lib.hid (show (h2.take (j + 1)).map (fun c => c + p1) = (h2.take j).map (fun c => c + p1) ++ [h2.getD j 0 + p1] by
                        rw [List.take_succ_eq_append_getElem hjl, List.map_append, List.getD_eq_getElem?_getD, List.getElem?_eq_getElem hjl]; rfl)
                      have hwr : IntKind.i64.wrap (h2.getD j 0 + p1) = h2.getD j 0 + p1 := by rw [IntKind.wrap_i64]; omega
                      clear hcn
                      generalize h2.getD j 0 = x at *
                      rw [hlen]
                      have Hlen := Lib.hid hlen
                      have hu := hoj.out
                      unfold OwnInts at hu
                      rw [hlen] at hu
                      have Hu := Lib.hid hu
                      clear hu hlen
                      go_wp2_with (at_builtin; go_must (refine wpList_append_any _ rfl _ _ 37 rfl (wo.heap.size + 1) 3 i0 _ 1 8 Try.underlying37 hi0 hz0 hz1 hz2 rfl (by decide) _ (h1.length + j) _ rfl (own_kept Hu.out (World.grownBy_alloc _ _ none) (fun g e => by cases e)) (wr.heap.size + 1) _ 1 _ [.int .i64 (x + p1)] rfl (read1 (by omega) (cellNew _ _ _)) ?d2 ?d6 ?d4 ?d5 ?_))
                      case d2 => intro u hu; simp at hu; subst hu; rfl
                      case d6 => unfold maxLen; omega
                      case d4 => omega
                      case d5 => have := hbj.out.size; simp; omega
                      intro v9 w9 hown9 hg9 _
                      have hub := fun k e => (own_row_lt Hu.out k e).1
                      have Ho9 := Lib.hid (show OwnInts w9 (wo.heap.size + 1) v9 (h1 ++ (h2.take (j + 1)).map fun c => c + p1) by
                        rw [Htj.out, ← List.append_assoc]
                        refine ownSnoc ?_
                        rw [Hlen.out]
                        simpa using hown9)
                      have HB9 := Lib.hid (show Below wo.heap.size wo w9 from (hbj.out.alloc hbj.out.size _).grown hg9 (by have := hbj.out.size; simp; omega) (fun k e => by have := hub k e; omega))
                      have HR9 := Lib.hid (show Blk w9 wo.heap.size 65 #[.slice A1 h1.length cu1, .bool fb] from (hrj.out.alloc _).grown hg9 (fun e => by have := hub _ e.symm; omega))
                      clear hown9 hg9
                      go_wp2
                      go_roundg (h2.length - (j + 1))
                      case rel => exact ⟨j + 1, hjl, rfl, by go_num, Ho9.out, HB9.out, HR9.out⟩
                      case measure => rw [Hgj.out]; omega
                    · obtain rfl : j = h2.length := by omega
                      rw [List.take_length] at hoj ⊢
                      have hspn := hsp.out.below hbj.out
                      have hlk := Rk.joinRows_len p1 rows1 rows2 k2
                      obtain ⟨us, hV⟩ := hspn.us
                      obtain ⟨_, sp1, spf, splt, Au, cu, eu⟩ := hspn.facts
                      rw [hlk] at eu
                      subst eu
                      have r1 := hrj.out.cell 1
                      simp only [List.getElem?_toArray, List.getElem?_cons_zero, List.getElem?_cons_succ] at r1
                      have ltr := hrj.out.lt
                      obtain ⟨j0, hj0, yz0, yz1, yz2⟩ := info_parts info_row
                      have HV := Lib.hid hV
                      have Hsp := Lib.hid hspn
                      have hru := hV.1
                      rw [hlk] at hru
                      have Hru := Lib.hid hru
                      have hso := hspn.low.size
                      have Hro := Lib.hid (own_more hoj.out (show wa.heap.size + 1 ≤ wo.heap.size + 1 by omega))
                      clear hV hspn hru hoj
                      generalize h1 ++ (h2.map fun c => c + p1) = hh at *
                      go_wp2_with (at_builtin; go_must (refine wpList_append_any _ rfl _ _ 46 rfl (wa.heap.size + 1) 65 j0 _ 2 32 Try.underlying46 hj0 yz0 yz1 yz2 rfl (by decide) _ k2 us rfl (own_kept Hru.out (World.grownBy_alloc _ _ none) (fun g e => by cases e)) (wr.heap.size + 1) _ 1 _ [.slice Av hh.length cv, .bool fb] rfl (read_row2 (by omega)) ?d2 ?d6 ?d4 ?d5 ?_))
                      case d2 => intro u hu; simp at hu; rcases hu with rfl | rfl <;> rfl
                      case d6 => unfold maxLen; omega
                      case d4 => omega
                      case d5 => simp; omega
                      intro v9 w9 hown9 hg9 hat9
                      obtain ⟨A9, c9, ev9, _, _, _⟩ := own_form hown9
                      subst ev9
                      obtain ⟨⟨q1', qf, qlt⟩, hS⟩ := Hsp.out.snoc (r := (hh, fb)) HV.out Hro.out (by rw [hlk]; exact hown9) hg9
                      rw [← Hsucc.out] at hS
                      have HS := Lib.hid hS
                      clear hS hown9 hg9 hat9
                      go_wp2
                      go_roundg (rows1.length - (k2 + 1))
                      case rel => exact ⟨k2 + 1, _, hlt3, rfl, by go_num, HS.out⟩
                      case measure => rw [Hg2.out]; omega
                · obtain rfl : k2 = rows1.length := by omega
                  obtain ⟨sp0, sp1, _, splt, Au, cu, eu⟩ := hsp.out.facts
                  rw [Rk.joinRows_len] at eu
                  subst eu
                  have z := HA3.out.below hsp.out.low hlwc
                  have Hz := Lib.hid z
                  have y0 := z.cell 0
                  have y1 := z.cell 1
                  have f0 := z.frozen 0
                  have f1 := z.frozen 1
                  have hltz := z.lt
                  simp only [List.getElem?_toArray, List.getElem?_cons_zero, List.getElem?_cons_succ] at y0 y1
                  have hbd : ∀ i, i < rows1.length → (Rk.rowAt rows1 i).1.length ≤ 256 ∧ (Rk.rowAt rows2 i).1.length ≤ 256 := fun i hi => by
                    have b1 := (Hd1.out i hi).length_le
                    have b2 := (Hd2.out i (by omega)).length_le
                    omega
                  have hfin := Lib.hid (show RowsO w ((wr.setCell ⟨w.heap.size + 2, 0, none⟩ (.int .i64 (p1 + p2))).setCell ⟨w.heap.size + 2, 1, none⟩ (.slice Au rows1.length cu)) (.slice Au rows1.length cu) (Rk.joinRows p1 rows1 rows2 rows1.length) by
                    have h1 := (hsp.out.own.kept (grown_setCell wr ⟨w.heap.size + 2, 0, none⟩ (.int .i64 (p1 + p2))) (by intro g e; simp at e; omega)).kept (grown_setCell _ ⟨w.heap.size + 2, 1, none⟩ (.slice Au rows1.length cu)) (by intro g e; simp at e; omega)
                    exact ⟨h1.reads (by rw [Rk.joinRows_len]; omega) (fun r hr => by
                      unfold Rk.joinRows at hr
                      obtain ⟨i, hi, rfl⟩ := List.mem_map.1 hr
                      have := hbd i (List.mem_range.1 hi)
                      unfold Rk.joinRow
                      simp
                      omega), h1.more (by omega)⟩)
                  have Hbw := Lib.hid (HBa.out.trans (hsp.out.low.mono HBa.out.size))
                  clear z
                  go_wp2
                  have K := (st2 Hz.out (.int .i64 (p1 + p2)) (.slice Au rows1.length cu))
                  have k0 := K.cell 0
                  have k1 := K.cell 1
                  simp only [List.getElem?_toArray, List.getElem?_cons_zero, List.getElem?_cons_succ] at k0 k1
                  refine bodyPost_ret (v := .tuple #[.agg #[.int .i64 (p1 + p2), .slice Au rows1.length cu], .int .i64 0]) (by simp [results, Try.results40, go_sem, k0, k1]) rfl ⟨_, by rw [if_pos rfl], by rw [if_pos rfl]; exact hfin.out, ?_⟩
                  exact below_st2 (g := w.heap.size + 2) Hbw.out (by omega) Hbw.out.size _ _
end Go.Proofs.Ytfpmbjobieeidaa
