/-
  The walk of the reference's Lift.
-/
import Derived.Test.YtfpmbjobieeidaaLiftY
import Derived.Test.YtfpmbjobieeidaaSpB
namespace Go.Proofs.Ytfpmbjobieeidaa
open Go.RowKit

set_option maxRecDepth 100000 in
set_option maxHeartbeats 2000000 in
theorem rlift_no (parts : Int) (v vo : Value) (rows : List RowL) (owner : List Int) (owners : Int) (B : Nat) (w : World) (hv : Rows w B v rows) (ho : Ints w B vo owner) (hB : B ≤ w.heap.size)
    (h : specErr parts rows ≠ 0 ∨ owners < 1 ∨ 256 < owners ∨ (owner.length : Int) ≠ parts) (L : List RowL) :
    Calls Try.prog 38 #[.agg #[.int .i64 parts, v], vo, .int .i64 owners] w (SpPost owners (Rk.liftErr (specErr parts rows) parts owner owners) L w) := by
  obtain ⟨Ao, co, rfl, _, hom, _⟩ := ho
  obtain ⟨A, c, vs, rfl, hn, hm, hr, hi⟩ := hv
  have Hv := Lib.hid (show Rows w B (.slice A rows.length c) rows from ⟨A, c, vs, rfl, hn, hm, hr, hi⟩)
  clear hr hi hn
  obtain ⟨W, hW⟩ : ∃ W, W = (w.alloc (.cells #[.int .i64 parts, .slice A rows.length c] 48)).alloc (.cells #[.int .i64 0, .slice none 0 0] 48) := ⟨_, rfl⟩
  have hbW : Below w.heap.size w W := by rw [hW]; exact ((Below.refl _ _).alloc (Nat.le_refl _) _).alloc (by simp) _
  have hs : Blk W w.heap.size 48 #[.int .i64 parts, .slice A rows.length c] := by rw [hW]; exact (Blk.new w _ _).alloc _
  have hs' : Blk W (w.heap.size + 1) 48 #[.int .i64 0, .slice none 0 0] := by
    rw [hW]
    have := Blk.new (w.alloc (.cells #[.int .i64 parts, .slice A rows.length c] 48)) 48 #[.int .i64 0, .slice none 0 0]
    simpa using this
  have HC := Lib.hid (rcheckspectrum_any parts _ rows B W (Hv.out.below (hbW.mono hB)) (Nat.le_trans hB hbW.size))
  have HbW := Lib.hid hbW
  have HW := Lib.hid hW
  have s0 : W.cell? ⟨w.heap.size, 0, none⟩ = some (.int .i64 parts) := hs.cell 0
  have s1 : W.cell? ⟨w.heap.size, 1, none⟩ = some (.slice A rows.length c) := hs.cell 1
  have Hs := Lib.hid hs
  have Hs' := Lib.hid hs'
  clear hbW hW hs hs'
  have He := Lib.hid (show ∀ x, Rk.liftErr (specErr parts rows) parts owner owners = x → x = Rk.liftErr (specErr parts rows) parts owner owners from fun x e => e.symm)
  have hcase : (specErr parts rows ≠ 0 ∧ Rk.liftErr (specErr parts rows) parts owner owners = specErr parts rows) ∨ (specErr parts rows = 0 ∧ owners < 1 ∧ Rk.liftErr (specErr parts rows) parts owner owners = 1) ∨
      (specErr parts rows = 0 ∧ 1 ≤ owners ∧ 256 < owners ∧ Rk.liftErr (specErr parts rows) parts owner owners = 3) ∨ (specErr parts rows = 0 ∧ 1 ≤ owners ∧ owners ≤ 256 ∧ (owner.length : Int) ≠ parts ∧ Rk.liftErr (specErr parts rows) parts owner owners = 1) := by
    unfold Rk.liftErr
    by_cases h1 : specErr parts rows ≠ 0
    · exact .inl ⟨h1, by rw [if_pos h1]⟩
    · have h1' : specErr parts rows = 0 := by omega
      rw [if_neg h1]
      by_cases h2 : owners < 1
      · exact .inr (.inl ⟨h1', h2, by rw [if_pos h2]⟩)
      · rw [if_neg h2]
        by_cases h3 : 256 < owners
        · exact .inr (.inr (.inl ⟨h1', by omega, h3, by rw [if_pos h3]⟩))
        · rw [if_neg h3]
          have h4 : (owner.length : Int) ≠ parts := by omega
          exact .inr (.inr (.inr ⟨h1', by omega, by omega, h4, by rw [if_pos h4]⟩))
  clear h He
  generalize Rk.liftErr (specErr parts rows) parts owner owners = le at *
  generalize specErr parts rows = se at *
  rcases hcase with ⟨h1, h2⟩ | ⟨h1, h2, h3⟩ | ⟨h1, h2, h3, h4⟩ | ⟨h1, h2, h3, h4, h5⟩
  · have hne : (se != 0) = true := by simpa using h1
    have Hne := Lib.hid h1
    subst h2
    clear h1
    go_enter Try.func38, Try.ntmps38
    go_wp2_with fail
    rw [← HW.out]
    go_wp2_with fail
    refine HC.out.mono ?_
    rintro e w1 ⟨rfl, hb⟩
    have z := Hs'.out.below hb Hs'.out.lt
    have y := Hs.out.below hb Hs.out.lt
    have HB := Lib.hid (HbW.out.trans (hb.mono HbW.out.size))
    have Z := Lib.hid z
    have hlt := z.lt
    have y0 := z.cell 0
    have y1 := z.cell 1
    have x0 := y.cell 0
    have f0 := z.frozen 0
    have f1 := z.frozen 1
    simp only [List.getElem?_toArray, List.getElem?_cons_zero, List.getElem?_cons_succ] at y0 y1 x0
    clear hb z y
    go_wp2
    have K := (st2 Z.out (.int .i64 0) (.slice none 0 0))
    have k0 := K.cell 0
    have k1 := K.cell 1
    simp only [List.getElem?_toArray, List.getElem?_cons_zero, List.getElem?_cons_succ] at k0 k1
    refine bodyPost_ret (v := .tuple #[.agg #[.int .i64 0, .slice none 0 0], .int .i64 le]) (by simp [results, Try.results38, go_sem, k0, k1]) rfl ⟨_, by rw [if_neg Hne.out], by rw [if_neg Hne.out]; exact rowsO_none _ _, ?_⟩
    exact below_st2 (g := w.heap.size + 1) HB.out (by omega) HB.out.size _ _
  · subst h1 h3
    go_enter Try.func38, Try.ntmps38
    go_wp2_with fail
    rw [← HW.out]
    go_wp2_with fail
    refine HC.out.mono ?_
    rintro e w1 ⟨rfl, hb⟩
    have z := Hs'.out.below hb Hs'.out.lt
    have y := Hs.out.below hb Hs.out.lt
    have HB := Lib.hid (HbW.out.trans (hb.mono HbW.out.size))
    have Z := Lib.hid z
    have hlt := z.lt
    have y0 := z.cell 0
    have y1 := z.cell 1
    have x0 := y.cell 0
    have f0 := z.frozen 0
    have f1 := z.frozen 1
    simp only [List.getElem?_toArray, List.getElem?_cons_zero, List.getElem?_cons_succ] at y0 y1 x0
    clear hb z y
    go_wp2
    have K := (st2 Z.out (.int .i64 0) (.slice none 0 0))
    have k0 := K.cell 0
    have k1 := K.cell 1
    simp only [List.getElem?_toArray, List.getElem?_cons_zero, List.getElem?_cons_succ] at k0 k1
    refine bodyPost_ret (v := .tuple #[.agg #[.int .i64 0, .slice none 0 0], .int .i64 1]) (by simp [results, Try.results38, go_sem, k0, k1]) rfl ⟨_, by rw [if_neg (by decide)], by rw [if_neg (by decide)]; exact rowsO_none _ _, ?_⟩
    exact below_st2 (g := w.heap.size + 1) HB.out (by omega) HB.out.size _ _
  · subst h1 h4
    go_enter Try.func38, Try.ntmps38
    go_wp2_with fail
    rw [← HW.out]
    go_wp2_with fail
    refine HC.out.mono ?_
    rintro e w1 ⟨rfl, hb⟩
    have z := Hs'.out.below hb Hs'.out.lt
    have y := Hs.out.below hb Hs.out.lt
    have HB := Lib.hid (HbW.out.trans (hb.mono HbW.out.size))
    have Z := Lib.hid z
    have hlt := z.lt
    have y0 := z.cell 0
    have y1 := z.cell 1
    have x0 := y.cell 0
    have f0 := z.frozen 0
    have f1 := z.frozen 1
    simp only [List.getElem?_toArray, List.getElem?_cons_zero, List.getElem?_cons_succ] at y0 y1 x0
    clear hb z y
    go_wp2
    have K := (st2 Z.out (.int .i64 0) (.slice none 0 0))
    have k0 := K.cell 0
    have k1 := K.cell 1
    simp only [List.getElem?_toArray, List.getElem?_cons_zero, List.getElem?_cons_succ] at k0 k1
    refine bodyPost_ret (v := .tuple #[.agg #[.int .i64 0, .slice none 0 0], .int .i64 3]) (by simp [results, Try.results38, go_sem, k0, k1]) rfl ⟨_, by rw [if_neg (by decide)], by rw [if_neg (by decide)]; exact rowsO_none _ _, ?_⟩
    exact below_st2 (g := w.heap.size + 1) HB.out (by omega) HB.out.size _ _
  · subst h1 h5
    have hlz : ((owner.length : Int) != parts) = true := by simpa using h4
    go_enter Try.func38, Try.ntmps38
    go_wp2_with fail
    rw [← HW.out]
    go_wp2_with fail
    refine HC.out.mono ?_
    rintro e w1 ⟨rfl, hb⟩
    have z := Hs'.out.below hb Hs'.out.lt
    have y := Hs.out.below hb Hs.out.lt
    have HB := Lib.hid (HbW.out.trans (hb.mono HbW.out.size))
    have Z := Lib.hid z
    have hlt := z.lt
    have y0 := z.cell 0
    have y1 := z.cell 1
    have x0 := y.cell 0
    have f0 := z.frozen 0
    have f1 := z.frozen 1
    simp only [List.getElem?_toArray, List.getElem?_cons_zero, List.getElem?_cons_succ] at y0 y1 x0
    clear hb z y
    go_wp2
    have K := (st2 Z.out (.int .i64 0) (.slice none 0 0))
    have k0 := K.cell 0
    have k1 := K.cell 1
    simp only [List.getElem?_toArray, List.getElem?_cons_zero, List.getElem?_cons_succ] at k0 k1
    refine bodyPost_ret (v := .tuple #[.agg #[.int .i64 0, .slice none 0 0], .int .i64 1]) (by simp [results, Try.results38, go_sem, k0, k1]) rfl ⟨_, by rw [if_neg (by decide)], by rw [if_neg (by decide)]; exact rowsO_none _ _, ?_⟩
    exact below_st2 (g := w.heap.size + 1) HB.out (by omega) HB.out.size _ _
set_option maxRecDepth 100000 in
set_option maxHeartbeats 2000000 in
theorem rlift_yes (parts : Int) (v vo : Value) (rows : List RowL) (owner : List Int) (owners : Int) (B : Nat) (w : World) (hv : Rows w B v rows) (ho : Ints w B vo owner) (hB : B ≤ w.heap.size)
    (he : specErr parts rows = 0) (ho1 : 1 ≤ owners) (ho2 : owners ≤ 256) (hlen : (owner.length : Int) = parts) :
    Calls Try.prog 38 #[.agg #[.int .i64 parts, v], vo, .int .i64 owners] w (SpPost owners (Rk.liftErr (specErr parts rows) parts owner owners) (rows.map (Rk.liftRow owner owners.toNat)) w) := by
  obtain ⟨Ao, co, rfl, hon, hom, hor⟩ := ho
  have Hor := Lib.hid hor
  clear hor hon
  obtain ⟨A, c, vs, rfl, hn, hm, hr, hi⟩ := hv
  have Hv := Lib.hid (show Rows w B (.slice A rows.length c) rows from ⟨A, c, vs, rfl, hn, hm, hr, hi⟩)
  clear hr hi hn
  obtain ⟨W, hW⟩ : ∃ W, W = (w.alloc (.cells #[.int .i64 parts, .slice A rows.length c] 48)).alloc (.cells #[.int .i64 0, .slice none 0 0] 48) := ⟨_, rfl⟩
  have hbW : Below w.heap.size w W := by rw [hW]; exact ((Below.refl _ _).alloc (Nat.le_refl _) _).alloc (by simp) _
  have hs : Blk W w.heap.size 48 #[.int .i64 parts, .slice A rows.length c] := by rw [hW]; exact (Blk.new w _ _).alloc _
  have hs' : Blk W (w.heap.size + 1) 48 #[.int .i64 0, .slice none 0 0] := by
    rw [hW]
    have := Blk.new (w.alloc (.cells #[.int .i64 parts, .slice A rows.length c] 48)) 48 #[.int .i64 0, .slice none 0 0]
    simpa using this
  have HC := Lib.hid (rcheckspectrum_any parts _ rows B W (Hv.out.below (hbW.mono hB)) (Nat.le_trans hB hbW.size))
  have HbW := Lib.hid hbW
  have HW := Lib.hid hW
  have s0 : W.cell? ⟨w.heap.size, 0, none⟩ = some (.int .i64 parts) := hs.cell 0
  have s1 : W.cell? ⟨w.heap.size, 1, none⟩ = some (.slice A rows.length c) := hs.cell 1
  have Hs := Lib.hid hs
  have Hs' := Lib.hid hs'
  clear hbW hW hs hs'
  have hle : Rk.liftErr (specErr parts rows) parts owner owners = if ∀ i, i < owner.length → 0 ≤ owner.getD i 0 ∧ owner.getD i 0 < owners then 0 else 1 := by
    unfold Rk.liftErr
    rw [if_neg (by omega), if_neg (by omega), if_neg (by omega), if_neg (by omega)]
  obtain ⟨er, her⟩ : ∃ er, Rk.liftErr (specErr parts rows) parts owner owners = er := ⟨_, rfl⟩
  rw [her] at hle ⊢
  have Her := Lib.hid hle
  obtain ⟨out, hout⟩ : ∃ out, rows.map (Rk.liftRow owner owners.toNat) = out := ⟨_, rfl⟩
  rw [hout]
  have Hout := Lib.hid hout
  clear hout her
  have Hse := Lib.hid he
  rw [he] at HC
  clear hle he
  have hlz : ((owner.length : Int) != parts) = false := by simpa using hlen
  have Hlen := Lib.hid hlen
  clear hlen
  go_enter Try.func38, Try.ntmps38
  go_wp2_with fail
  rw [← HW.out]
  go_wp2_with fail
  refine HC.out.mono ?_
  rintro e w1 ⟨rfl, hb⟩
  have z := Hs'.out.below hb Hs'.out.lt
  have y := Hs.out.below hb Hs.out.lt
  have HB := Lib.hid (HbW.out.trans (hb.mono HbW.out.size))
  have Z := Lib.hid z
  have Y := Lib.hid y
  have Hro := Lib.hid (Hor.out.below (HB.out.mono hB))
  have hlt := z.lt
  have hlt0 := y.lt
  have y0 := z.cell 0
  have y1 := z.cell 1
  have x0 := y.cell 0
  have x1 := y.cell 1
  have f0 := z.frozen 0
  have f1 := z.frozen 1
  simp only [List.getElem?_toArray, List.getElem?_cons_zero, List.getElem?_cons_succ] at y0 y1 x0 x1
  clear hb z y HC
  go_wp2
  go_loopg [9] owner.length (fun g i wr => ∃ k : Nat, k ≤ owner.length ∧ g = owner.length - k ∧ i = .int .i64 k ∧ wr = w1 ∧ Hid (∀ j, j < k → 0 ≤ owner.getD j 0 ∧ owner.getD j 0 < owners))
  case atStart => exact ⟨0, Nat.zero_le _, rfl, rfl, rfl, fun j h => by omega⟩
  case round =>
    obtain ⟨k, hk, hg, rfl, rfl, hok⟩ := hrel
    have Hg := Lib.hid hg
    clear hg
    by_cases hlt2 : k < owner.length
    · obtain ⟨ad, rfl, hadB, hc⟩ := ints_at Hro.out hlt2
      by_cases hin : 0 ≤ owner.getD k 0 ∧ owner.getD k 0 < owners
      · have Hok := Lib.hid (show ∀ j, j < k + 1 → 0 ≤ owner.getD j 0 ∧ owner.getD j 0 < owners from fun j hj => by
          by_cases e : j = k
          · rw [e]; exact hin
          · exact hok.out j (by omega))
        obtain ⟨i1, i2⟩ := hin
        clear hok
        generalize owner.getD k 0 = x at *
        go_wp2
        go_roundg (owner.length - (k + 1))
        case rel => exact ⟨k + 1, hlt2, rfl, by go_num, rfl, Hok⟩
        case measure => rw [Hg.out]; omega
      · obtain rfl : er = 1 := Her.out.trans (if_neg (fun h => hin (h k hlt2)))
        have hin2 : owner.getD k 0 < 0 ∨ 0 ≤ owner.getD k 0 ∧ owners ≤ owner.getD k 0 := by omega
        clear hin hok
        generalize owner.getD k 0 = x at *
        rcases hin2 with h1 | ⟨h1, h2⟩
        all_goals
          go_wp2
          have K := (st2 Z.out (.int .i64 0) (.slice none 0 0))
          have k0 := K.cell 0
          have k1 := K.cell 1
          simp only [List.getElem?_toArray, List.getElem?_cons_zero, List.getElem?_cons_succ] at k0 k1
          refine bodyPost_ret (v := .tuple #[.agg #[.int .i64 0, .slice none 0 0], .int .i64 1]) (by simp [results, Try.results38, go_sem, k0, k1]) rfl ⟨_, by rw [if_neg (by decide)], by rw [if_neg (by decide)]; exact rowsO_none _ _, ?_⟩
          exact below_st2 (g := w.heap.size + 1) HB.out (by omega) HB.out.size _ _
    · have Hok := Lib.hid (show ∀ j, j < owner.length → 0 ≤ owner.getD j 0 ∧ owner.getD j 0 < owners from fun j hj => hok.out j (by omega))
      obtain rfl : er = 0 := Her.out.trans (if_pos Hok.out)
      clear hok Her
      obtain ⟨wa, rfl⟩ : ∃ wa : World, wa = wr := ⟨_, rfl⟩
      obtain ⟨W2, hW2⟩ : ∃ W2, W2 = wa.alloc (.cells #[.int .i64 owners, .slice none 0 0] 48) := ⟨_, rfl⟩
      have H2 := Lib.hid (show SpB wa owners (.slice none 0 0) [] W2 by rw [hW2]; exact SpB.start wa owners)
      have HW2 := Lib.hid hW2
      clear hW2
      go_wp2
      rw [← HW2.out]
      go_loopg [11] rows.length (fun g i wx => ∃ (k : Nat) (u : Value), k ≤ rows.length ∧ g = rows.length - k ∧ i = .int .i64 k ∧ Hid (SpB wa owners u ((rows.take k).map (Rk.liftRow owner owners.toNat)) wx))
      case atStart => exact ⟨0, _, Nat.zero_le _, rfl, rfl, H2.out⟩
      case round =>
        obtain ⟨k2, u, hk2, hg, rfl, hsp⟩ := hrel
        have Hg := Lib.hid hg
        clear hg
        have hx0 := hsp.out.low.cell (p := ⟨w.heap.size, 0, none⟩) (by simpa using hlt0)
        have hx1 := hsp.out.low.cell (p := ⟨w.heap.size, 1, none⟩) (by simpa using hlt0)
        rw [x0] at hx0
        rw [x1] at hx1
        by_cases hlt3 : k2 < rows.length
        · obtain ⟨wo, rfl⟩ : ∃ wo : World, wo = wr := ⟨_, rfl⟩
          obtain ⟨A', c', vs', e1, _, _, hr, hi⟩ := Hv.out
          have hA : A = A' := by injection e1
          subst hA
          obtain ⟨ad, u0, rfl, hadb, hc0, hc1, hu⟩ := rows_at hr hi hlt3
          have hbw := HB.out.trans (hsp.out.low.mono HB.out.size)
          have c0 := ((hbw.mono hB).cell (p := ad.add (k2 * 2)) (by rw [block_of_add]; omega)).trans hc0
          have c1 := ((hbw.mono hB).cell (p := ad.add (k2 * 2 + 1)) (by rw [block_of_add]; omega)).trans hc1
          have hux := hu.below (hbw.mono hB)
          have c1' : wo.cell? ⟨(ad.add (k2 * 2)).block, (ad.add (k2 * 2)).off + 1, none⟩ = some (.bool (Rk.rowAt rows k2).2) := by
            have h := c1
            rw [← add_of_add] at h
            exact h
          obtain ⟨A1, cu1, rfl, hn1, hm1, hr1⟩ := hux
          have Hbw := Lib.hid hbw
          have Hr1 := Lib.hid hr1
          clear hr hi e1 hc0 hc1 hu hbw hr1 hn1
          have hin := (specErr_ok Hse.out).2.2.2 k2 hlt3
          have Hin := Lib.hid (show ∀ j, j < (Rk.rowAt rows k2).1.length → 0 ≤ (Rk.rowAt rows k2).1.getD j 0 ∧ (Rk.rowAt rows k2).1.getD j 0 < owner.length from fun j hj => by
            have := hin j hj
            have := Hlen.out
            omega)
          have Htake := Lib.hid (take_row hlt3)
          clear hin
          obtain ⟨hits, hhits⟩ : ∃ hits, (Rk.rowAt rows k2).1 = hits := ⟨_, rfl⟩
          obtain ⟨fb, hfb⟩ : ∃ fb, (Rk.rowAt rows k2).2 = fb := ⟨_, rfl⟩
          rw [hhits] at c0 Hin Hr1 hm1
          rw [hfb] at c1'
          have Hhf := Lib.hid (And.intro hhits hfb)
          clear hhits hfb c1
          obtain ⟨W3, hW3⟩ : ∃ W3, W3 = wo.alloc (.cells #[.slice none 0 0, .bool fb] 65) := ⟨_, rfl⟩
          have Hrow := Lib.hid (show Blk W3 wo.heap.size 65 #[.slice none 0 0, .bool fb] by rw [hW3]; exact Blk.new wo _ _)
          have HB3 := Lib.hid (show Below wo.heap.size wo W3 by rw [hW3]; exact below_alloc0 _ _)
          have HW3 := Lib.hid hW3
          clear hW3
          go_wp2
          rw [← HW3.out]
          go_loopg [13] owners.toNat (fun g i wy => ∃ (n : Nat) (v : Value), n ≤ owners.toNat ∧ g = owners.toNat - n ∧ i = .int .i64 n ∧ Hid (Blk wy wo.heap.size 65 #[v, .bool fb]) ∧ Hid (OwnInts wy (wo.heap.size + 1) v (Rk.chosenTo (Rk.lifted owner hits) n)) ∧ Hid (Below wo.heap.size wo wy))
          case atStart => exact ⟨0, _, Nat.zero_le _, rfl, rfl, Hrow.out, ⟨by simp [Rk.chosenTo], .inl ⟨rfl, by simp [Rk.chosenTo]⟩⟩, HB3.out⟩
          case round =>
            obtain ⟨n, v, hn, hgn, rfl, hrb, hro, hbn⟩ := hrel
            have Hgn := Lib.hid hgn
            clear hgn
            obtain ⟨wn, rfl⟩ : ∃ wn : World, wn = wr := ⟨_, rfl⟩
            by_cases hnl : n < owners.toNat
            · have d0 := hbn.out.cell (p := ad.add (k2 * 2)) (by rw [block_of_add]; have := Hbw.out.size; omega)
              rw [c0] at d0
              have y0' := hbn.out.cell (p := ⟨w.heap.size, 0, none⟩) (by have := hsp.out.low.size; simp; omega)
              have y1' := hbn.out.cell (p := ⟨w.heap.size, 1, none⟩) (by have := hsp.out.low.size; simp; omega)
              rw [hx0] at y0'
              rw [hx1] at y1'
              have hno : (n : Int) < owners := by omega
              go_wp2
              go_loopg [14, 15] hits.length (fun g b i wz => ∃ j : Nat, j ≤ hits.length ∧ g = hits.length - j ∧ i = .int .i64 j ∧ b = .bool (Rk.lifted owner (hits.take j) n) ∧ wz = wn)
              case atStart => exact ⟨0, Nat.zero_le _, rfl, rfl, rfl, rfl⟩
              case round =>
                obtain ⟨j, hj, hgj, rfl, rfl, rfl⟩ := hrel
                have Hgj := Lib.hid hgj
                clear hgj
                by_cases hjl : j < hits.length
                · obtain ⟨adn, en, hadnb, hcn⟩ := ints_at Hr1.out hjl
                  subst en
                  have hcn' := (hbn.out.cell (p := adn.add j) (by rw [block_of_add]; have := Hbw.out.size; omega)).trans hcn
                  obtain ⟨i1, i2⟩ := Hin.out j hjl
                  obtain ⟨x, hx⟩ : ∃ x : Nat, hits.getD j 0 = x := ⟨(hits.getD j 0).toNat, by omega⟩
                  have Htk := Lib.hid (Rk.lifted_take owner hits j n hjl)
                  rw [hx] at hcn' i2 Htk
                  have hxo : x < owner.length := by omega
                  obtain ⟨ado, eo, hadob, hco⟩ := ints_at Hor.out hxo
                  subst eo
                  have hco' := (((Hbw.out.trans (hbn.out.mono Hbw.out.size)).mono hB).cell (p := ado.add x) (by rw [block_of_add]; omega)).trans hco
                  rw [Int.toNat_natCast] at Htk
                  have hbe : (owner.getD x 0 == (n : Int)) = decide (owner.getD x 0 = (n : Int)) := rfl
                  obtain ⟨yb, hyb⟩ : ∃ yb, decide (owner.getD x 0 = (n : Int)) = yb := ⟨_, rfl⟩
                  rw [hyb] at Htk hbe
                  clear hcn hco hx hyb
                  generalize owner.getD x 0 = y at *
                  generalize Rk.lifted owner (hits.take j) n = bb at *
                  cases bb
                  all_goals
                    go_wp2
                    go_roundg (hits.length - (j + 1))
                    case rel => exact ⟨j + 1, hjl, rfl, by go_num, by rw [Htk.out]; rfl, rfl⟩
                    case measure => rw [Hgj.out]; omega
                · obtain rfl : j = hits.length := by omega
                  rw [List.take_length]
                  rcases Bool.eq_false_or_eq_true (Rk.lifted owner hits n) with hf | hf
                  rotate_left
                  · rw [hf]
                    have Ho := Lib.hid (show OwnInts wr (wo.heap.size + 1) v (Rk.chosenTo (Rk.lifted owner hits) (n + 1)) by rw [Rk.chosenTo_no hf]; exact hro.out)
                    clear hf
                    go_wp2
                    go_roundg (owners.toNat - (n + 1))
                    case rel => exact ⟨n + 1, v, hnl, rfl, by go_num, hrb, Ho.out, hbn.out⟩
                    case measure => rw [Hgn.out]; omega
                  · rw [hf]
                    have Hy := Lib.hid (Rk.chosenTo_yes hf)
                    have Hl := Lib.hid (Rk.chosenTo_len (Rk.lifted owner hits) n)
                    obtain ⟨i0, hi0, hz0, hz1, hz2⟩ := info_parts info_int
                    obtain ⟨Av, cv, ev, _, _, _⟩ := own_form hro.out
                    subst ev
                    have r0 := hrb.out.cell 0
                    have r1 := hrb.out.cell 1
                    simp only [List.getElem?_toArray, List.getElem?_cons_zero, List.getElem?_cons_succ] at r0 r1
                    have ltr := hrb.out.lt
                    clear hf
                    go_wp2_with (at_builtin; go_must (refine wpList_append_any _ rfl _ _ 37 rfl (wo.heap.size + 1) 3 i0 _ 1 8 Try.underlying37 hi0 hz0 hz1 hz2 rfl (by decide) _ (Rk.chosenTo (Rk.lifted owner hits) n).length _ rfl (own_kept hro.out (World.grownBy_alloc _ _ none) (fun g e => by cases e)) (wr.heap.size + 1) _ 1 _ [.int .i64 n] rfl (read1 (by omega) (cellNew _ _ _)) ?d2 ?d3 ?d4 ?d5 ?_))
                    case d2 => intro u hu; simp at hu; subst hu; rfl
                    case d3 => have := Hl.out; unfold maxLen; omega
                    case d4 => have := Hl.out; omega
                    case d5 => have := hbn.out.size; simp; omega
                    intro v2 w2 hown2 hg2 hat2
                    obtain ⟨A2, c2, ev2, _, _, _⟩ := own_form hown2
                    subst ev2
                    have hub := fun k e => (own_row_lt hro.out k e).1
                    have hblk : Blk w2 wo.heap.size 65 #[.slice Av (Rk.chosenTo (Rk.lifted owner hits) n).length cv, .bool fb] := (hrb.out.alloc _).grown hg2 (fun e => by have := hub _ e.symm; omega)
                    have q0 := hblk.cell 0
                    have qf := hblk.frozen 0
                    have ltq := hblk.lt
                    simp only [List.getElem?_toArray, List.getElem?_cons_zero] at q0
                    have Hblk := Lib.hid (hblk.set_ 0 (.slice A2 ((Rk.chosenTo (Rk.lifted owner hits) n).length + 1) c2))
                    have Hown := Lib.hid (own_kept (ownSnoc hown2) (grown_setCell w2 ⟨wo.heap.size, 0, none⟩ (.slice A2 ((Rk.chosenTo (Rk.lifted owner hits) n).length + 1) c2)) (fun g e e2 => by
                      have h1 := (own_row_lt hown2 _ e2).1
                      simp at e
                      omega))
                    have Hbel := Lib.hid (((hbn.out.alloc hbn.out.size _).grown hg2 (by have := hbn.out.size; simp; omega) (fun g e => by have := hub g e; omega)).grown (grown_setCell w2 ⟨wo.heap.size, 0, none⟩ (.slice A2 ((Rk.chosenTo (Rk.lifted owner hits) n).length + 1) c2)) (by have h1 := hg2.size; have h2 := hbn.out.size; simp at h1; omega) (fun g e => by simp at e; omega))
                    clear hown2 hg2 hat2 hblk
                    go_wp2
                    go_roundg (owners.toNat - (n + 1))
                    case rel => exact ⟨n + 1, _, hnl, rfl, by go_num, Hblk.out, by rw [Hy.out]; exact Hown.out, Hbel.out⟩
                    case measure => rw [Hgn.out]; omega
            · obtain rfl : n = owners.toNat := by omega
              have hspn := hsp.out.below hbn.out
              have hlk : ((rows.take k2).map (Rk.liftRow owner owners.toNat)).length = k2 := by simp; omega
              obtain ⟨us, hV⟩ := hspn.us
              obtain ⟨_, sp1, spf, splt, Au, cu, eu⟩ := hspn.facts
              rw [hlk] at eu
              subst eu
              obtain ⟨Av, cv, ev, _, _, _⟩ := own_form hro.out
              subst ev
              have r0 := hrb.out.cell 0
              have r1 := hrb.out.cell 1
              simp only [List.getElem?_toArray, List.getElem?_cons_zero, List.getElem?_cons_succ] at r0 r1
              have ltr := hrb.out.lt
              obtain ⟨i0, hi0, hz0, hz1, hz2⟩ := info_parts info_row
              have HV := Lib.hid hV
              have Hsp := Lib.hid hspn
              have hru := hV.1
              rw [hlk] at hru
              have Hru := Lib.hid hru
              have hso := hspn.low.size
              have Hro := Lib.hid (own_more hro.out (show wa.heap.size + 1 ≤ wo.heap.size + 1 by have := hsp.out.low.size; omega))
              have e : (rows.take (k2 + 1)).map (Rk.liftRow owner owners.toNat) = (rows.take k2).map (Rk.liftRow owner owners.toNat) ++ [(Rk.chosenTo (Rk.lifted owner hits) owners.toNat, fb)] := by
                rw [Htake.out, List.map_append]
                unfold Rk.liftRow
                rw [List.map_singleton, Hhf.out.1, Hhf.out.2]
              have He := Lib.hid e
              clear hV hspn hru hro e
              go_wp2_with (at_builtin; go_must (refine wpList_append_any _ rfl _ _ 46 rfl (wa.heap.size + 1) 65 i0 _ 2 32 Try.underlying46 hi0 hz0 hz1 hz2 rfl (by decide) _ k2 us rfl (own_kept Hru.out (World.grownBy_alloc _ _ none) (fun g e => by cases e)) (wn.heap.size + 1) _ 1 _ [.slice Av (Rk.chosenTo (Rk.lifted owner hits) owners.toNat).length cv, .bool fb] rfl (read_row2 (by omega)) ?d2 ?d3 ?d4 ?d5 ?_))
              case d2 => intro u hu; simp at hu; rcases hu with rfl | rfl <;> rfl
              case d3 => unfold maxLen; omega
              case d4 => omega
              case d5 => simp; omega
              intro v2 w2 hown2 hg2 hat2
              obtain ⟨A2, c2, ev2, _, _, _⟩ := own_form hown2
              subst ev2
              obtain ⟨⟨q1, qf, qlt⟩, hS⟩ := Hsp.out.snoc (r := (Rk.chosenTo (Rk.lifted owner hits) owners.toNat, fb)) HV.out Hro.out (by rw [hlk]; exact hown2) hg2
              rw [← He.out] at hS
              have HS := Lib.hid hS
              clear hS hown2 hg2 hat2
              go_wp2
              go_roundg (rows.length - (k2 + 1))
              case rel => exact ⟨k2 + 1, _, hlt3, rfl, by go_num, HS.out⟩
              case measure => rw [Hg.out]; omega
        · obtain rfl : k2 = rows.length := by omega
          rw [List.take_length, Hout.out] at hsp
          obtain ⟨Au, cu, rfl⟩ : ∃ Au cu, u = .slice Au out.length cu := by
            obtain ⟨us, hrow, _⟩ := hsp.out.own
            obtain ⟨Au, cu, e, _⟩ := own_form hrow
            exact ⟨Au, cu, e⟩
          have hbw := HB.out.trans (hsp.out.low.mono HB.out.size)
          have z := Z.out.below hsp.out.low hlt
          have hltg := hsp.out.blk.lt
          have hltz := z.lt
          have g0 := hsp.out.blk.cell 0
          have g1 := hsp.out.blk.cell 1
          have y0 := z.cell 0
          have y1 := z.cell 1
          have f0 := z.frozen 0
          have f1 := z.frozen 1
          simp only [List.getElem?_toArray, List.getElem?_cons_zero, List.getElem?_cons_succ] at g0 g1 y0 y1
          have hfin := Lib.hid (show RowsO w ((wr.setCell ⟨w.heap.size + 1, 0, none⟩ (.int .i64 owners)).setCell ⟨w.heap.size + 1, 1, none⟩ (.slice Au out.length cu)) (.slice Au out.length cu) out by
            have h1 := (hsp.out.own.kept (grown_setCell wr ⟨w.heap.size + 1, 0, none⟩ (.int .i64 owners)) (by intro g e; simp at e; omega)).kept (grown_setCell _ ⟨w.heap.size + 1, 1, none⟩ (.slice Au out.length cu)) (by intro g e; simp at e; omega)
            exact ⟨h1.reads (by rw [← Hout.out]; simp; omega) (fun r hr => by
              rw [← Hout.out] at hr
              obtain ⟨r0, _, rfl⟩ := List.mem_map.1 hr
              have := Rk.chosenTo_len (Rk.lifted owner r0.1) owners.toNat
              unfold Rk.liftRow
              simp
              omega), h1.more (by omega)⟩)
          have Hz := Lib.hid z
          have Hbw := Lib.hid hbw
          clear z hbw
          go_wp2
          have K := (st2 Hz.out (.int .i64 owners) (.slice Au out.length cu))
          have k0 := K.cell 0
          have k1 := K.cell 1
          simp only [List.getElem?_toArray, List.getElem?_cons_zero, List.getElem?_cons_succ] at k0 k1
          refine bodyPost_ret (v := .tuple #[.agg #[.int .i64 owners, .slice Au out.length cu], .int .i64 0]) (by simp [results, Try.results38, go_sem, k0, k1]) rfl ⟨_, by rw [if_pos rfl], by rw [if_pos rfl]; exact hfin.out, ?_⟩
          exact below_st2 (g := w.heap.size + 1) Hbw.out (by omega) Hbw.out.size _ _
end Go.Proofs.Ytfpmbjobieeidaa
