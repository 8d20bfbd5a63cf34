/-
  The walk of the reference's Join.
-/
import Derived.Test.YtfpmbjobieeidaaJoin
import Derived.Deep.RegionHeld3
namespace Go.Proofs.Ytfpmbjobieeidaa
open Go.RowKit

theorem cell_lt {w : World} {p : Addr} {u : Value} (h : w.cell? p = some u) : p.block < w.heap.size := by
  rcases Nat.lt_or_ge p.block w.heap.size with hlt | hge
  · exact hlt
  · exfalso
    unfold World.cell? at h
    rw [Array.getElem?_eq_none hge] at h
    simp at h
theorem blkB (w : World) (a : Obj) (t : TypeId) (cs : Array Value) : Blk ((w.alloc a).alloc (.cells cs t)) (w.heap.size + 1) t cs := by
  have := Blk.new (w.alloc a) t cs
  simpa using this
section
variable {w : World} {p q r : Addr} {a b d : Value}
theorem keep3_alloc (o : Obj) (h : w.cell? p = some a ∧ w.cell? q = some b ∧ w.cell? r = some d) : (w.alloc o).cell? p = some a ∧ (w.alloc o).cell? q = some b ∧ (w.alloc o).cell? r = some d :=
  ⟨(World.cell?_alloc_lt _ _ _ (cell_lt h.1)).trans h.1, (World.cell?_alloc_lt _ _ _ (cell_lt h.2.1)).trans h.2.1, (World.cell?_alloc_lt _ _ _ (cell_lt h.2.2)).trans h.2.2⟩
theorem keep3_set {N : Nat} (hp : p.block < N ∧ q.block < N ∧ r.block < N) {x : Addr} (hx : N ≤ x.block) (u : Value) (h : w.cell? p = some a ∧ w.cell? q = some b ∧ w.cell? r = some d) :
    (w.setCell x u).cell? p = some a ∧ (w.setCell x u).cell? q = some b ∧ (w.setCell x u).cell? r = some d :=
  ⟨(World.cell?_setCell_other _ _ _ _ (fun e => by subst e; omega)).trans h.1, (World.cell?_setCell_other _ _ _ _ (fun e => by subst e; omega)).trans h.2.1, (World.cell?_setCell_other _ _ _ _ (fun e => by subst e; omega)).trans h.2.2⟩
theorem keep3_grown {w' : World} {row : Option Nat} {N : Nat} (hp : p.block < N ∧ q.block < N ∧ r.block < N) (hg : w.grownBy w' row) (hr : ∀ g, row = some g → N ≤ g) (h : w.cell? p = some a ∧ w.cell? q = some b ∧ w.cell? r = some d) :
    w'.cell? p = some a ∧ w'.cell? q = some b ∧ w'.cell? r = some d :=
  ⟨(World.cell?_of_block (hg.block _ (cell_lt h.1) (fun e => by have := hr _ e.symm; omega))).trans h.1, (World.cell?_of_block (hg.block _ (cell_lt h.2.1) (fun e => by have := hr _ e.symm; omega))).trans h.2.1, (World.cell?_of_block (hg.block _ (cell_lt h.2.2) (fun e => by have := hr _ e.symm; omega))).trans h.2.2⟩
end

theorem own_ad {w : World} {base : Nat} {e : TypeId} {n s : Nat} {v : Value} {xs : List Value} (h : w.ownsRow base e s v n xs) (o : Obj) : ((w.alloc o).drew).ownsRow base e s v n xs := own_kept (w' := w.alloc o) (row := none) h (World.grownBy_alloc w o none) (fun g e => by cases e)
theorem own_made1 (wo : World) (o : Obj) : (((wo.alloc o).alloc (.cells #[] 3)).drew).ownsRow wo.heap.size 3 1 (.slice (some ⟨wo.heap.size + 1, 0, none⟩) 0 0) 0 [] := by
  have h := World.ownsRow_made (base := wo.heap.size) (e := 3) (size := 1) (wo.alloc o) #[] 0 (by simp) (Nat.zero_le _) rfl
  rw [World.size_alloc] at h
  exact h
/-- A row's block behind its two stores. -/
theorem row_fin {wo w' : World} {gr : Nat} {v x y : Value} {fb : Bool} {xs : List Int} (ho : OwnInts w' wo.heap.size v xs) (hb : Blk w' gr 65 #[x, y]) (hB : Below wo.heap.size wo w') (hgr : wo.heap.size ≤ gr) :
    Blk ((w'.setCell ⟨gr, 0, none⟩ v).setCell ⟨gr, 1, none⟩ (.bool fb)) gr 65 #[v, .bool fb] ∧ OwnInts ((w'.setCell ⟨gr, 0, none⟩ v).setCell ⟨gr, 1, none⟩ (.bool fb)) wo.heap.size v xs ∧ Below wo.heap.size wo ((w'.setCell ⟨gr, 0, none⟩ v).setCell ⟨gr, 1, none⟩ (.bool fb)) := by
  have hne : ∀ k, some gr = some k → v.ownBlock ≠ some k := fun k e e2 => by
    injection e with e
    subst e
    exact own_blk_ne ho hb (by decide) e2
  exact ⟨st2 hb _ _, own_kept (own_kept ho (grown_setCell w' ⟨gr, 0, none⟩ v) (fun k e => hne k e)) (grown_setCell _ ⟨gr, 1, none⟩ (.bool fb)) (fun k e => hne k e), below_st2 hB hgr hB.size _ _⟩

set_option maxRecDepth 100000 in
set_option maxHeartbeats 4000000 in
theorem rjoin_any (p1 p2 : Int) (v1 v2 : Value) (rows1 rows2 : List RowL) (B : Nat) (w : World) (hv1 : Rows w B v1 rows1) (hv2 : Rows w B v2 rows2) (hB : B ≤ w.heap.size) :
    Calls Try.prog 41 #[.agg #[.int .i64 p1, v1], .agg #[.int .i64 p2, v2]] w (SpPost (p1 + p2) (Rk.joinErr (specErr p1 rows1) (specErr p2 rows2) p1 p2 rows1 rows2) (Rk.joinRows p1 rows1 rows2 rows1.length) w) := by
  have HC1 := Lib.hid (fun W (hb : Below w.heap.size w W) => rcheckspectrum_any p1 v1 rows1 B W (hv1.below (hb.mono hB)) (by have := hb.size; omega))
  have HC2 := Lib.hid (fun W (hb : Below w.heap.size w W) => rcheckspectrum_any p2 v2 rows2 B W (hv2.below (hb.mono hB)) (by have := hb.size; omega))
  obtain ⟨A, c, vs, rfl, hn, hm, hr, hi⟩ := hv1
  obtain ⟨A', c', vs', rfl, hn', hm', hr', hi'⟩ := hv2
  have Hr := Lib.hid hr
  have Hi := Lib.hid hi
  have Hr' := Lib.hid hr'
  have Hi' := Lib.hid hi'
  clear hr hi hr' hi' hn hn'
  have Hje := Lib.hid (jerr (specErr p1 rows1) (specErr p2 rows2) p1 p2 rows1 rows2)
  generalize Rk.joinErr (specErr p1 rows1) (specErr p2 rows2) p1 p2 rows1 rows2 = je at *
  obtain ⟨W, hW⟩ : ∃ W, W = ((w.alloc (.cells #[.int .i64 p1, .slice A rows1.length c] 48)).alloc (.cells #[.int .i64 p2, .slice A' rows2.length c'] 48)).alloc (.cells #[.int .i64 0, .slice none 0 0] 48) := ⟨_, rfl⟩
  have hbW : Below w.heap.size w W := by rw [hW]; exact (((Below.refl _ _).alloc (Nat.le_refl _) _).alloc (by simp) _).alloc (by simp; omega) _
  have hs1 : Blk W w.heap.size 48 #[.int .i64 p1, .slice A rows1.length c] := by rw [hW]; exact ((Blk.new w _ _).alloc _).alloc _
  have hs2 : Blk W (w.heap.size + 1) 48 #[.int .i64 p2, .slice A' rows2.length c'] := by
    rw [hW]
    have := (Blk.new (w.alloc (.cells #[.int .i64 p1, .slice A rows1.length c] 48)) 48 #[.int .i64 p2, .slice A' rows2.length c']).alloc (.cells #[.int .i64 0, .slice none 0 0] 48)
    simpa using this
  have hs3 : Blk W (w.heap.size + 2) 48 #[.int .i64 0, .slice none 0 0] := by
    rw [hW]
    have := Blk.new ((w.alloc (.cells #[.int .i64 p1, .slice A rows1.length c] 48)).alloc (.cells #[.int .i64 p2, .slice A' rows2.length c'] 48)) 48 #[.int .i64 0, .slice none 0 0]
    simpa using this
  have s0 : W.cell? ⟨w.heap.size, 0, none⟩ = some (.int .i64 p1) := hs1.cell 0
  have s1 : W.cell? ⟨w.heap.size, 1, none⟩ = some (.slice A rows1.length c) := hs1.cell 1
  have HS1 := Lib.hid hs1
  have HS2 := Lib.hid hs2
  have HS3 := Lib.hid hs3
  have HbW := Lib.hid hbW
  have HW := Lib.hid hW
  clear hbW hW hs1 hs2 hs3
  go_enter Try.func41, Try.ntmps41
  go_wp2_with fail
  rw [← HW.out]
  go_wp2_with fail
  refine (HC1.out _ HbW.out).mono ?_
  rintro e w1 ⟨rfl, hb⟩
  have T1 := HS1.out.below hb HS1.out.lt
  have T2 := HS2.out.below hb HS2.out.lt
  have T3 := HS3.out.below hb HS3.out.lt
  have HB1 := Lib.hid (HbW.out.trans (hb.mono HbW.out.size))
  have lt3 := T3.lt
  have y0 := T3.cell 0
  have y1 := T3.cell 1
  have z0 := T2.cell 0
  have z1 := T2.cell 1
  have f0 := T3.frozen 0
  have f1 := T3.frozen 1
  simp only [List.getElem?_toArray, List.getElem?_cons_zero, List.getElem?_cons_succ] at y0 y1 z0 z1
  have HT1 := Lib.hid T1
  have HT2 := Lib.hid T2
  have HT3 := Lib.hid T3
  clear hb T1 T2 T3 HC1 HS1 HS2 HS3 s0 s1
  by_cases he1 : specErr p1 rows1 = 0
  rotate_left
  · have hne : (specErr p1 rows1 != 0) = true := by simpa using he1
    have Hne := Lib.hid he1
    have Heq := Lib.hid (Hje.out.a he1)
    clear he1
    go_wp2
    have K := st2 HT3.out (.int .i64 0) (.slice none 0 0)
    have k0 := K.cell 0
    have k1 := K.cell 1
    simp only [List.getElem?_toArray, List.getElem?_cons_zero, List.getElem?_cons_succ] at k0 k1
    refine bodyPost_ret (v := .tuple #[.agg #[.int .i64 0, .slice none 0 0], .int .i64 (specErr p1 rows1)]) (by simp [results, Try.results41, go_sem, k0, k1]) rfl ⟨_, by rw [Heq.out, if_neg Hne.out], by rw [Heq.out, if_neg Hne.out]; exact rowsO_none _ _, ?_⟩
    exact below_st2 (g := w.heap.size + 2) HB1.out (by omega) HB1.out.size _ _
  · rw [he1]
    go_wp2_with fail
    refine (HC2.out _ HB1.out).mono ?_
    rintro e w2 ⟨rfl, hb⟩
    have T1 := HT1.out.below hb HT1.out.lt
    have T2 := HT2.out.below hb HT2.out.lt
    have T3 := HT3.out.below hb HT3.out.lt
    have HB2 := Lib.hid (HB1.out.trans (hb.mono HB1.out.size))
    have lt3' := T3.lt
    have y0 := T3.cell 0
    have y1 := T3.cell 1
    have z0 := T2.cell 0
    have z1 := T2.cell 1
    have x0 := T1.cell 0
    have x1 := T1.cell 1
    have f0 := T3.frozen 0
    have f1 := T3.frozen 1
    simp only [List.getElem?_toArray, List.getElem?_cons_zero, List.getElem?_cons_succ] at y0 y1 z0 z1 x0 x1
    have HU1 := Lib.hid T1
    have HU2 := Lib.hid T2
    have HU3 := Lib.hid T3
    clear hb T1 T2 T3 HC2 HT1 HT2 HT3
    by_cases he2 : specErr p2 rows2 = 0
    rotate_left
    · have hne : (specErr p2 rows2 != 0) = true := by simpa using he2
      have Hne := Lib.hid he2
      have Heq := Lib.hid (Hje.out.b he1 he2)
      clear he2 he1
      go_wp2
      have K := st2 HU3.out (.int .i64 0) (.slice none 0 0)
      have k0 := K.cell 0
      have k1 := K.cell 1
      simp only [List.getElem?_toArray, List.getElem?_cons_zero, List.getElem?_cons_succ] at k0 k1
      refine bodyPost_ret (v := .tuple #[.agg #[.int .i64 0, .slice none 0 0], .int .i64 (specErr p2 rows2)]) (by simp [results, Try.results41, go_sem, k0, k1]) rfl ⟨_, by rw [Heq.out, if_neg Hne.out], by rw [Heq.out, if_neg Hne.out]; exact rowsO_none _ _, ?_⟩
      exact below_st2 (g := w.heap.size + 2) HB2.out (by omega) HB2.out.size _ _
    · rw [he2]
      have He12 := Lib.hid (And.intro he1 he2)
      have Hbt := Lib.hid (show ((rows1.length : Int) == (rows2.length : Int)) = true → rows1.length = rows2.length ∧ ∀ j, j < 0 → (Rk.rowAt rows1 j).2 = (Rk.rowAt rows2 j).2 from fun h => ⟨by simp at h; omega, fun j hj => by omega⟩)
      have Hbf := Lib.hid (show ((rows1.length : Int) == (rows2.length : Int)) = false → je = 12 from fun h => Hje.out.c he1 he2 (by simp at h; omega))
      obtain ⟨b0, hb0⟩ : ∃ b0, ((rows1.length : Int) == (rows2.length : Int)) = b0 := ⟨_, rfl⟩
      rw [hb0] at Hbt Hbf
      clear he1 he2
      go_wp2
      go_loopg [7, 8] rows1.length (fun g s i wr => ∃ (k q : Nat) (b : Bool), k ≤ rows1.length ∧ g = rows1.length - k ∧ s = .bool b ∧ i = .int .i64 k ∧ wr = w2.drewN q ∧ Hid (b = true → rows1.length = rows2.length ∧ ∀ j, j < k → (Rk.rowAt rows1 j).2 = (Rk.rowAt rows2 j).2) ∧ Hid (b = false → je = 12))
      case atStart => exact ⟨0, 0, b0, Nat.zero_le _, rfl, rfl, rfl, rfl, Hbt.out, Hbf.out⟩
      case round =>
        obtain ⟨k, q, b, hk, hg, rfl, rfl, rfl, hbt, hbf⟩ := hrel
        have Hg := Lib.hid hg
        clear hg Hbt Hbf hb0
        cases b
        · obtain rfl := hbf.out rfl
          have k0 := fun n => (st2 (HU3.out.drewN n) (.int .i64 0) (.slice none 0 0)).cell 0
          have k1 := fun n => (st2 (HU3.out.drewN n) (.int .i64 0) (.slice none 0 0)).cell 1
          simp only [List.getElem?_toArray, List.getElem?_cons_zero, List.getElem?_cons_succ] at k0 k1
          clear hbt hbf
          rcases (show k < rows1.length ∨ ¬ k < rows1.length by omega) with hlt | hlt
          all_goals
            go_wp2
            refine bodyPost_ret (v := .tuple #[.agg #[.int .i64 0, .slice none 0 0], .int .i64 12]) (by simp [results, Try.results41, go_sem, k0, k1]) rfl ⟨_, by rw [if_neg (by decide)], by rw [if_neg (by decide)]; exact rowsO_none _ _, ?_⟩
            exact below_st2 (g := w.heap.size + 2) (below_drewN HB2.out _) (by omega) HB2.out.size _ _
        · obtain ⟨hl, hsame⟩ := hbt.out rfl
          have Hl := Lib.hid hl
          have Hsame := Lib.hid hsame
          have hle : rows1.length ≤ rows2.length := by omega
          clear hbt hbf hl hsame
          by_cases hlt : k < rows1.length
          · obtain ⟨ad, u, rfl, hadb, hc0, hc1, hu⟩ := rows_at Hr.out Hi.out hlt
            obtain ⟨ad', u', rfl, hadb', hc0', hc1', hu'⟩ := rows_at Hr'.out Hi'.out (show k < rows2.length by omega)
            have hk2 : (k : Int) < (rows2.length : Int) := by omega
            have hq1 : w2.cell? ⟨(ad.add (k * 2)).block, (ad.add (k * 2)).off + 1, none⟩ = some (.bool (Rk.rowAt rows1 k).2) := by
              have h := ((HB2.out.mono hB).cell (p := ad.add (k * 2 + 1)) (by rw [block_of_add]; omega)).trans hc1
              rw [← add_of_add] at h
              exact h
            have hq2 : w2.cell? ⟨(ad'.add (k * 2)).block, (ad'.add (k * 2)).off + 1, none⟩ = some (.bool (Rk.rowAt rows2 k).2) := by
              have h := ((HB2.out.mono hB).cell (p := ad'.add (k * 2 + 1)) (by rw [block_of_add]; omega)).trans hc1'
              rw [← add_of_add] at h
              exact h
            have Hd := Lib.hid (Hje.out.d He12.out.1 He12.out.2 k hlt)
            have Hye := Lib.hid (show (Rk.rowAt rows1 k).2 = (Rk.rowAt rows2 k).2 → ∀ j, j < k + 1 → (Rk.rowAt rows1 j).2 = (Rk.rowAt rows2 j).2 from fun h j hj => by
              by_cases e : j = k
              · rw [e]; exact h
              · exact Hsame.out j (by omega))
            clear hu hu' hc0 hc1 hc0' hc1' Hsame
            generalize (Rk.rowAt rows1 k).2 = g1 at *
            generalize (Rk.rowAt rows2 k).2 = g2 at *
            have HyT := Lib.hid (show (g1 == g2) = true → ∀ j, j < k + 1 → (Rk.rowAt rows1 j).2 = (Rk.rowAt rows2 j).2 from fun h => Hye.out (by simpa using h))
            have HyF := Lib.hid (show (g1 == g2) = false → je = 12 from fun h => Hd.out (by simpa using h))
            clear Hye Hd
            cases g1 <;> cases g2
            all_goals
              go_wp2
              go_quiet (fail)
              go_wp2
              go_roundg (rows1.length - (k + 1))
              case rel => exact ⟨k + 1, _, _, hlt, rfl, rfl, by go_num, rfl, fun h => ⟨Hl.out, HyT.out h⟩, fun h => HyF.out h⟩
              case measure => rw [Hg.out]; omega
          · obtain rfl : k = rows1.length := by omega
            have hsame := Hsame
            obtain ⟨z1a, z1b, z1c, z1d⟩ := specErr_ok He12.out.1
            obtain ⟨z2a, z2b, z2c, z2d⟩ := specErr_ok He12.out.2
            have Hd1 := Lib.hid z1d
            have Hd2 := Lib.hid z2d
            have hje := Hje.out.e He12.out.1 He12.out.2 Hl.out hsame.out
            have hsum : IntKind.i64.wrap (p1 + p2) = p1 + p2 := by rw [IntKind.wrap_i64]; omega
            clear z1d z2d
            by_cases hbig : 256 < p1 + p2
            · rw [if_pos hbig] at hje
              subst hje
              have k0 := fun n => (st2 (HU3.out.drewN n) (.int .i64 0) (.slice none 0 0)).cell 0
              have k1 := fun n => (st2 (HU3.out.drewN n) (.int .i64 0) (.slice none 0 0)).cell 1
              simp only [List.getElem?_toArray, List.getElem?_cons_zero, List.getElem?_cons_succ] at k0 k1
              go_wp2
              refine bodyPost_ret (v := .tuple #[.agg #[.int .i64 0, .slice none 0 0], .int .i64 3]) (by simp [results, Try.results41, go_sem, k0, k1]) rfl ⟨_, by rw [if_neg (by decide)], by rw [if_neg (by decide)]; exact rowsO_none _ _, ?_⟩
              exact below_st2 (g := w.heap.size + 2) (below_drewN HB2.out _) (by omega) HB2.out.size _ _
            · rw [if_neg hbig] at hje
              subst hje
              obtain ⟨wa, hwa⟩ : ∃ wa, wa = w2.drewN q := ⟨_, rfl⟩
              have HBa := Lib.hid (show Below w.heap.size w wa by rw [hwa]; exact below_drewN HB2.out q)
              have HA1 := Lib.hid (show Blk wa w.heap.size 48 #[.int .i64 p1, .slice A rows1.length c] by rw [hwa]; exact HU1.out.drewN q)
              have HA2 := Lib.hid (show Blk wa (w.heap.size + 1) 48 #[.int .i64 p2, .slice A' rows2.length c'] by rw [hwa]; exact HU2.out.drewN q)
              have HA3 := Lib.hid (show Blk wa (w.heap.size + 2) 48 #[.int .i64 0, .slice none 0 0] by rw [hwa]; exact HU3.out.drewN q)
              have hlwa : w.heap.size < wa.heap.size := HA1.out.lt
              have hlwb : w.heap.size + 1 < wa.heap.size := HA2.out.lt
              have hlwc : w.heap.size + 2 < wa.heap.size := HA3.out.lt
              obtain ⟨W2, hW2⟩ : ∃ W2, W2 = wa.alloc (.cells #[.int .i64 (p1 + p2), .slice none 0 0] 48) := ⟨_, rfl⟩
              have H2 := Lib.hid (show SpB wa (p1 + p2) (.slice none 0 0) (Rk.joinRows p1 rows1 rows2 0) W2 by rw [hW2]; exact SpB.start wa (p1 + p2))
              have HW2 := Lib.hid hW2
              have g0 : W2.cell? ⟨w.heap.size, 0, none⟩ = some (.int .i64 p1) := by rw [hW2]; exact (HA1.out.alloc _).cell 0
              have g1 : W2.cell? ⟨w.heap.size, 1, none⟩ = some (.slice A rows1.length c) := by rw [hW2]; exact (HA1.out.alloc _).cell 1
              clear hW2 hsame Hsame HU1 HU2 HU3 x0 x1 y0 y1 z0 z1 f0 f1 Hje
              rw [← hwa]
              have q0 := HA1.out.cell 0
              have q1 := HA1.out.cell 1
              have q2 := HA2.out.cell 0
              simp only [List.getElem?_toArray, List.getElem?_cons_zero, List.getElem?_cons_succ] at q0 q1 q2
              have Hwa := Lib.hid hwa
              clear hwa
              go_wp2
              rw [← HW2.out]
              go_loopg [10] rows1.length (fun g i wx => ∃ (k : Nat) (u : Value), k ≤ rows1.length ∧ g = rows1.length - k ∧ i = .int .i64 k ∧ Hid (SpB wa (p1 + p2) u (Rk.joinRows p1 rows1 rows2 k) wx))
              case atStart => exact ⟨0, _, Nat.zero_le _, rfl, rfl, H2.out⟩
              case round =>
                obtain ⟨k2, u, hk2, hg2, rfl, hsp⟩ := hrel
                have Hg2 := Lib.hid hg2
                clear hg2
                by_cases hlt3 : k2 < rows1.length
                · obtain ⟨wo, rfl⟩ : ∃ wo : World, wo = wr := ⟨_, rfl⟩
                  obtain ⟨ad, u1, rfl, hadb, hc0, hc1, hu1⟩ := rows_at Hr.out Hi.out hlt3
                  obtain ⟨ad', u2, rfl, hadb', hc0', hc1', hu2⟩ := rows_at Hr'.out Hi'.out (show k2 < rows2.length by omega)
                  have Hbw := Lib.hid (HBa.out.trans (hsp.out.low.mono HBa.out.size))
                  have hle2 := Hbw.out.size
                  have hlo := hsp.out.low.size
                  have c0 := ((Hbw.out.mono hB).cell (p := ad.add (k2 * 2)) (by rw [block_of_add]; omega)).trans hc0
                  have c1 : wo.cell? ⟨(ad.add (k2 * 2)).block, (ad.add (k2 * 2)).off + 1, none⟩ = some (.bool (Rk.rowAt rows1 k2).2) := by
                    have h := ((Hbw.out.mono hB).cell (p := ad.add (k2 * 2 + 1)) (by rw [block_of_add]; omega)).trans hc1
                    rw [← add_of_add] at h
                    exact h
                  obtain ⟨A1, cu1, rfl, hn1, hm1, hr1⟩ := hu1
                  obtain ⟨A2, cu2, rfl, hn2, hm2, hr2⟩ := hu2
                  have hb1 := (Hd1.out k2 hlt3).length_le
                  have hb2 := (Hd2.out k2 (by omega)).length_le
                  have Hin2 := Lib.hid (show ∀ j, j < (Rk.rowAt rows2 k2).1.length → 0 ≤ (Rk.rowAt rows2 k2).1.getD j 0 ∧ (Rk.rowAt rows2 k2).1.getD j 0 < p2 from fun j hj => (Hd2.out k2 (by omega)).mem (Rk.getD_mem hj))
                  have Hsucc := Lib.hid (Rk.joinRows_succ p1 rows1 rows2 k2)
                  unfold Rk.joinRow at Hsucc
                  have Hr1 := Lib.hid (hr1.below (Hbw.out.mono hB))
                  have Hr2 := Lib.hid hr2
                  have hc0'' := ((Hbw.out.mono hB).cell (p := ad'.add (k2 * 2)) (by rw [block_of_add]; omega)).trans hc0'
                  have hsl := (hsp.out.blk).lt
                  have hk22 : (k2 : Int) < (rows2.length : Int) := by omega
                  clear hc0 hc1 hc0' hc1' hr1 hr2 hn1 hn2 hm1 hm2
                  generalize (Rk.rowAt rows1 k2).1 = h1 at *
                  generalize (Rk.rowAt rows1 k2).2 = fb at *
                  generalize (Rk.rowAt rows2 k2).1 = h2 at *
                  have p1' := (hsp.out.low.cell (p := ⟨w.heap.size, 1, none⟩) hlwa).trans q1
                  obtain ⟨i0, hi0, hz0, hz1, hz2⟩ := info_parts info_int
                  have Hone := Lib.hid (show ∀ u ∈ h1.map (Value.int .i64), u.oneCell' = true from fun u hu => by obtain ⟨x, _, rfl⟩ := List.mem_map.1 hu; rfl)
                  have hadw : ad.block < wo.heap.size := by omega
                  have c0d := c0
                  have hlw := Nat.lt_of_lt_of_le hlwa hlo
                  have hS0 : wo.cell? ⟨w.heap.size, 1, none⟩ = some (.slice (some ad) rows1.length c) ∧ wo.cell? (ad.add (k2 * 2)) = some (.slice A1 h1.length cu1) ∧ wo.cell? ⟨(ad.add (k2 * 2)).block, (ad.add (k2 * 2)).off + 1, none⟩ = some (.bool fb) := ⟨p1', c0, c1⟩
                  have hSN := Lib.hid (And.intro (cell_lt hS0.1) (And.intro (cell_lt hS0.2.1) (cell_lt hS0.2.2)))
                  have HS0 := Lib.hid hS0
                  have hBw : B ≤ wo.heap.size := by omega
                  have hmx : 0 + h1.length ≤ maxLen := by unfold maxLen; omega
                  have hby : (0 + h1.length) * 8 ≤ 140737488355328 := by omega
                  clear hS0
                  go_wp2
                  refine z_region (fun w' => w'.cell? ⟨w.heap.size, 1, none⟩ = some (.slice (some ad) rows1.length c) ∧ w'.cell? (ad.add (k2 * 2)) = some (.slice A1 h1.length cu1) ∧ w'.cell? ⟨(ad.add (k2 * 2)).block, (ad.add (k2 * 2)).off + 1, none⟩ = some (.bool fb)) 16 (by kernel_rfl) ?_
                  refine z_take (i := 0) (v := ?_) rfl (by kernel_rfl) (by kernel_rfl) (by kernel_rfl) (fun _ _ _ h => h) (by kernel_rfl) (by decide) (HS0.out) (by rfl) (by intro w hSw; obtain ⟨hSa, hSb, hSc⟩ := hSw; go_simp; rfl) ?_
                  refine z_take (i := 1) (v := ?_) rfl (by kernel_rfl) (by kernel_rfl) (by kernel_rfl) (fun _ _ _ h => h) (by kernel_rfl) (by decide) (HS0.out) (by rfl) (by intro w hSw; obtain ⟨hSa, hSb, hSc⟩ := hSw; go_simp; rfl) ?_
                  refine z_take (i := 2) (v := ?_) rfl (by kernel_rfl) (by kernel_rfl) (by kernel_rfl) (fun _ _ _ h => h) (by kernel_rfl) (by decide) (HS0.out) (by rfl) (by intro w hSw; obtain ⟨hSa, hSb, hSc⟩ := hSw; go_simp; rfl) ?_
                  refine z_take (i := 3) (v := ?_) rfl (by kernel_rfl) (by kernel_rfl) (by kernel_rfl) (fun _ _ _ h => h) (by kernel_rfl) (by decide) (HS0.out) (by rfl) (by intro w hSw; obtain ⟨hSa, hSb, hSc⟩ := hSw; go_simp; rfl) ?_
                  refine z_take (i := 4) (v := ?_) rfl (by kernel_rfl) (by kernel_rfl) (by kernel_rfl) (fun _ _ _ h => h) (by kernel_rfl) (by decide) (HS0.out) (by rfl) (by intro w hSw; obtain ⟨hSa, hSb, hSc⟩ := hSw; go_simp; rfl) ?_
                  refine z_take (i := 5) (v := ?_) rfl (by kernel_rfl) (by kernel_rfl) (by kernel_rfl) (fun _ _ _ h => h) (by kernel_rfl) (by decide) (HS0.out) (by rfl) (by intro w hSw; obtain ⟨hSa, hSb, hSc⟩ := hSw; go_simp; rfl) ?_
                  refine z_take (i := 7) (v := ?_) rfl (by kernel_rfl) (by kernel_rfl) (by kernel_rfl) (fun _ _ _ h => h) (by kernel_rfl) (by decide) (HS0.out) (by rfl) (by intro w hSw; obtain ⟨hSa, hSb, hSc⟩ := hSw; go_simp; rfl) ?_
                  refine z_take (i := 8) (v := ?_) rfl (by kernel_rfl) (by kernel_rfl) (by kernel_rfl) (fun _ _ _ h => h) (by kernel_rfl) (by decide) (HS0.out) (by rfl) (by intro w hSw; obtain ⟨hSa, hSb, hSc⟩ := hSw; go_simp; rfl) ?_
                  refine z_take (i := 9) (v := ?_) rfl (by kernel_rfl) (by kernel_rfl) (by kernel_rfl) (fun _ _ _ h => h) (by kernel_rfl) (by decide) (HS0.out) (by rfl) (by intro w hSw; obtain ⟨hSa, hSb, hSc⟩ := hSw; go_simp; rfl) ?_
                  refine z_take (i := 10) (v := ?_) rfl (by kernel_rfl) (by kernel_rfl) (by kernel_rfl) (fun _ _ _ h => h) (by kernel_rfl) (by decide) (HS0.out) (by rfl) (by intro w hSw; obtain ⟨hSa, hSb, hSc⟩ := hSw; go_simp; rfl) ?_
                  refine z_take (i := 11) (v := ?_) rfl (by kernel_rfl) (by kernel_rfl) (by kernel_rfl) (fun _ _ _ h => h) (by kernel_rfl) (by decide) (HS0.out) (by rfl) (by intro w hSw; obtain ⟨hSa, hSb, hSc⟩ := hSw; go_simp; rfl) ?_
                  refine z_take (i := 12) (v := ?_) rfl (by kernel_rfl) (by kernel_rfl) (by kernel_rfl) (fun _ _ _ h => h) (by kernel_rfl) (by decide) (HS0.out) (by rfl) (by intro w hSw; obtain ⟨hSa, hSb, hSc⟩ := hSw; go_simp; rfl) ?_
                  simp only [Act.put, List.setIfInBounds_toArray]
                  refine z_two (i := 6) (j := 15) rfl rfl (by kernel_rfl) (by rfl) (by rfl) (fun K hK => ?_) (fun K hK => ?_)
                  · go_simp
                    refine hK _ _ (fun _ => keep3_alloc _ HS0.out) ?_
                    clear hK K
                    refine z_two (i := 13) (j := 15) rfl rfl (by kernel_rfl) (by rfl) (by rfl) (fun K hK => ?_) (fun K hK => ?_)
                    · refine wp_append_any _ _ _ 37 rfl wo.heap.size 3 i0 _ 1 8 Try.underlying37 hi0 hz0 hz1 hz2 rfl (by decide) (.slice (some ⟨wo.heap.size, 0, none⟩) 0 0) 0 [] (by rfl) (World.ownsRow_made wo #[] 0 (Nat.le_refl _) (Nat.zero_le _) rfl) B A1 h1.length cu1 _ (by rfl) ((Hr1.out.alloc hBw _).drew) Hone.out hmx hby (by first | (simp; done) | (simp; omega)) ?_
                      intro v7 w7 hown7 hg7 hat7
                      obtain ⟨A7, c7, ev7, _, _, _⟩ := own_form hown7
                      rw [Nat.zero_add] at ev7
                      subst ev7
                      have hS7 := keep3_grown hSN.out hg7 (fun g e => by have e2 : some (wo.heap.size) = some g := e; injection e2 with e2; omega) (keep3_alloc _ HS0.out)
                      have Hown7 := Lib.hid (show OwnInts w7 wo.heap.size (.slice A7 h1.length c7) h1 by unfold OwnInts; simpa using hown7)
                      have Hg7 := Lib.hid hg7
                      have hsz7 : wo.heap.size + 1 ≤ w7.heap.size := Nat.le_trans (show wo.heap.size + 1 ≤ (wo.alloc (.cells #[] 3)).heap.size by simp) (Nat.le_trans (by simp) hg7.size)
                      clear hown7 hg7 hat7
                      refine hK _ _ (fun _ => hS7) ?_
                      clear hK K
                      refine z_take (i := 14) (v := ?_) rfl (by kernel_rfl) (by kernel_rfl) (by kernel_rfl) (fun _ _ _ h => h) (by kernel_rfl) (by decide) (hS7) (by rfl) (by intro w hSw; obtain ⟨hSa, hSb, hSc⟩ := hSw; go_simp; rfl) ?_
                      refine z_one (i := 15) rfl (by kernel_rfl) (by rfl) (fun K hK => ?_)
                      go_simp
                      refine hK _ _ (fun _ => keep3_alloc _ hS7) ?_
                      clear hK K
                      try simp only [Act.put, List.setIfInBounds_toArray]
                      refine z_one (i := 16) rfl (by kernel_rfl) (by rfl) (fun K hK => ?_)
                      go_simp
                      refine hK _ _ (fun h => absurd rfl h) ?_
                      clear hK K
                      refine z_done (by kernel_rfl) ?_ _
                      have HR7 := Lib.hid (Blk.new w7 65 #[.slice A7 h1.length c7, .bool fb])
                      have HO7 := Lib.hid (show OwnInts (w7.alloc (.cells #[.slice A7 h1.length c7, .bool fb] 65)) wo.heap.size (.slice A7 h1.length c7) h1 from own_kept (row := none) Hown7.out (World.grownBy_alloc w7 _ none) (fun g e => by cases e))
                      have HB7 := Lib.hid (show Below wo.heap.size wo (w7.alloc (.cells #[.slice A7 h1.length c7, .bool fb] 65)) from (((Below.refl wo.heap.size wo).alloc (Nat.le_refl _) _).drew.grown Hg7.out (by simp) (fun k e => by have e2 : some (wo.heap.size) = some k := e; injection e2 with e2; omega)).alloc (by omega) _)
                      generalize hwz : World.alloc w7 _ = wz at HR7 HO7 HB7 ⊢
                      clear hwz
                      obtain ⟨gr, hgr⟩ : ∃ gr, gr = w7.heap.size := ⟨_, rfl⟩
                      have hgrw : wo.heap.size ≤ gr := by rw [hgr]; omega
                      rw [← hgr] at HR7
                      rw [← hgr]
                      clear hgr
                      have F1 := (hsp.out.low.cell (p := ⟨w.heap.size, 0, none⟩) hlwa).trans q0
                      have F2 := (hsp.out.low.cell (p := ⟨w.heap.size + 1, 1, none⟩) hlwb).trans (HA2.out.cell 1)
                      simp only [List.getElem?_toArray, List.getElem?_cons_zero, List.getElem?_cons_succ] at F2
                      have HF := Lib.hid (And.intro F1 (And.intro F2 hc0''))
                      have hl1 : w.heap.size < wo.heap.size := by omega
                      have hl2 : w.heap.size + 1 < wo.heap.size := by omega
                      have hl3 : (ad'.add (k2 * 2)).block < wo.heap.size := by rw [block_of_add]; omega
                      clear F1 F2 p1' c0 c1 HS0 hSN
                      go_wp2
                      go_loopg [12] h2.length (fun g i wy => ∃ (j : Nat) (v : Value), j ≤ h2.length ∧ g = h2.length - j ∧ i = .int .i64 j ∧ Hid (Blk wy gr 65 #[v, .bool fb]) ∧ Hid (OwnInts wy wo.heap.size v (h1 ++ (h2.take j).map fun c => c + p1)) ∧ Hid (Below wo.heap.size wo wy))
                      case atStart => exact ⟨0, _, Nat.zero_le _, rfl, rfl, HR7.out, by rw [List.take_zero, List.map_nil, List.append_nil]; exact HO7.out, HB7.out⟩
                      case round =>
                        obtain ⟨j, v, hj, hgj, rfl, hrj, hoj, hbj⟩ := hrel
                        have Hgj := Lib.hid hgj
                        clear hgj
                        obtain ⟨Av, cv, ev, _, _, _⟩ := own_form hoj.out
                        subst ev
                        have y1 := (hbj.out.cell (p := ⟨w.heap.size + 1, 1, none⟩) hl2).trans HF.out.2.1
                        have y2 := (hbj.out.cell hl3).trans HF.out.2.2
                        by_cases hjl : j < h2.length
                        · obtain ⟨adn, en, hadnb, hcn⟩ := ints_at Hr2.out hjl
                          subst en
                          have F5 := ((Hbw.out.mono hB).cell (p := adn.add j) (by rw [block_of_add]; omega)).trans hcn
                          have hl5 : (adn.add j).block < wo.heap.size := by rw [block_of_add]; omega
                          obtain ⟨x0, x1⟩ := Hin2.out j hjl
                          have hlen : (h1 ++ (h2.take j).map fun c => c + p1).length = h1.length + j := by simp; omega
                          have Htj := Lib.hid (show (h2.take (j + 1)).map (fun c => c + p1) = (h2.take j).map (fun c => c + p1) ++ [p1 + h2.getD j 0] by
                            rw [List.take_succ_eq_append_getElem hjl, List.map_append, List.getD_eq_getElem?_getD, List.getElem?_eq_getElem hjl, Int.add_comm p1]; rfl)
                          have hwr : IntKind.i64.wrap (p1 + h2.getD j 0) = p1 + h2.getD j 0 := by rw [IntKind.wrap_i64]; omega
                          clear hcn
                          generalize h2.getD j 0 = x at *
                          rw [hlen] at hrj
                          have Hlen := Lib.hid hlen
                          have hu := hoj.out
                          unfold OwnInts at hu
                          rw [hlen] at hu
                          have Hu := Lib.hid hu
                          have HF5 := Lib.hid F5
                          clear hu hlen F5
                          have Hmk := Lib.hid (fun (wx : World) (hb : Blk wx gr 65 #[.slice Av (h1.length + j) cv, .bool fb]) (hB : Below wo.heap.size wo wx) => And.intro (show wx.cell? ⟨gr, 0, none⟩ = some (.slice Av (h1.length + j) cv) from hb.cell 0) (And.intro ((hB.cell (p := ⟨w.heap.size, 0, none⟩) hl1).trans HF.out.1) (And.intro ((hB.cell (p := ⟨w.heap.size + 1, 1, none⟩) hl2).trans HF.out.2.1) (And.intro ((hB.cell hl3).trans HF.out.2.2) ((hB.cell hl5).trans HF5.out)))))
                          have Hub := Lib.hid (fun k e => (own_row_lt Hu.out k e).1)
                          have HugR := Lib.hid (fun k (e : (Value.slice Av (h1.length + j) cv).ownBlock = some k) => (show k ≠ gr from fun h => own_blk_ne Hu.out hrj.out (by decide) (h ▸ e)))
                          go_wp2
                          refine z_region (fun w' => w'.cell? ⟨gr, 0, none⟩ = some (.slice Av (h1.length + j) cv) ∧ w'.cell? ⟨w.heap.size, 0, none⟩ = some (.int .i64 p1) ∧ w'.cell? ⟨w.heap.size + 1, 1, none⟩ = some (.slice (some ad') rows2.length c') ∧ w'.cell? (ad'.add (k2 * 2)) = some (.slice (some adn) h2.length cu2) ∧ w'.cell? (adn.add j) = some (.int .i64 x)) 17 (by kernel_rfl) ?_
                          have hS0 := Hmk.out wr hrj.out hbj.out
                          refine z_take (i := 0) (v := ?_) rfl (by kernel_rfl) (by kernel_rfl) (by kernel_rfl) (fun _ _ _ h => h) (by kernel_rfl) (by decide) hS0 (by rfl) (by intro w hSw; obtain ⟨hSa, hSb, hSc, hSd, hSe⟩ := hSw; go_simp; rfl) ?_
                          refine z_take (i := 1) (v := ?_) rfl (by kernel_rfl) (by kernel_rfl) (by kernel_rfl) (fun _ _ _ h => h) (by kernel_rfl) (by decide) hS0 (by rfl) (by intro w hSw; obtain ⟨hSa, hSb, hSc, hSd, hSe⟩ := hSw; go_simp; rfl) ?_
                          refine z_take (i := 2) (v := ?_) rfl (by kernel_rfl) (by kernel_rfl) (by kernel_rfl) (fun _ _ _ h => h) (by kernel_rfl) (by decide) hS0 (by rfl) (by intro w hSw; obtain ⟨hSa, hSb, hSc, hSd, hSe⟩ := hSw; go_simp; rfl) ?_
                          refine z_take (i := 3) (v := ?_) rfl (by kernel_rfl) (by kernel_rfl) (by kernel_rfl) (fun _ _ _ h => h) (by kernel_rfl) (by decide) hS0 (by rfl) (by intro w hSw; obtain ⟨hSa, hSb, hSc, hSd, hSe⟩ := hSw; go_simp; rfl) ?_
                          refine z_take (i := 4) (v := ?_) rfl (by kernel_rfl) (by kernel_rfl) (by kernel_rfl) (fun _ _ _ h => h) (by kernel_rfl) (by decide) hS0 (by rfl) (by intro w hSw; obtain ⟨hSa, hSb, hSc, hSd, hSe⟩ := hSw; go_simp; rfl) ?_
                          refine z_take (i := 5) (v := ?_) rfl (by kernel_rfl) (by kernel_rfl) (by kernel_rfl) (fun _ _ _ h => h) (by kernel_rfl) (by decide) hS0 (by rfl) (by intro w hSw; obtain ⟨hSa, hSb, hSc, hSd, hSe⟩ := hSw; go_simp; rfl) ?_
                          refine z_take (i := 6) (v := ?_) rfl (by kernel_rfl) (by kernel_rfl) (by kernel_rfl) (fun _ _ _ h => h) (by kernel_rfl) (by decide) hS0 (by rfl) (by intro w hSw; obtain ⟨hSa, hSb, hSc, hSd, hSe⟩ := hSw; go_simp; rfl) ?_
                          refine z_take (i := 7) (v := ?_) rfl (by kernel_rfl) (by kernel_rfl) (by kernel_rfl) (fun _ _ _ h => h) (by kernel_rfl) (by decide) hS0 (by rfl) (by intro w hSw; obtain ⟨hSa, hSb, hSc, hSd, hSe⟩ := hSw; go_simp; rfl) ?_
                          refine z_take (i := 8) (v := ?_) rfl (by kernel_rfl) (by kernel_rfl) (by kernel_rfl) (fun _ _ _ h => h) (by kernel_rfl) (by decide) hS0 (by rfl) (by intro w hSw; obtain ⟨hSa, hSb, hSc, hSd, hSe⟩ := hSw; go_simp; rfl) ?_
                          refine z_take (i := 9) (v := ?_) rfl (by kernel_rfl) (by kernel_rfl) (by kernel_rfl) (fun _ _ _ h => h) (by kernel_rfl) (by decide) hS0 (by rfl) (by intro w hSw; obtain ⟨hSa, hSb, hSc, hSd, hSe⟩ := hSw; go_simp; rfl) ?_
                          refine z_take (i := 10) (v := ?_) rfl (by kernel_rfl) (by kernel_rfl) (by kernel_rfl) (fun _ _ _ h => h) (by kernel_rfl) (by decide) hS0 (by rfl) (by intro w hSw; obtain ⟨hSa, hSb, hSc, hSd, hSe⟩ := hSw; go_simp; rfl) ?_
                          refine z_take (i := 11) (v := ?_) rfl (by kernel_rfl) (by kernel_rfl) (by kernel_rfl) (fun _ _ _ h => h) (by kernel_rfl) (by decide) hS0 (by rfl) (by intro w hSw; obtain ⟨hSa, hSb, hSc, hSd, hSe⟩ := hSw; go_simp; rfl) ?_
                          refine z_take (i := 12) (v := ?_) rfl (by kernel_rfl) (by kernel_rfl) (by kernel_rfl) (fun _ _ _ h => h) (by kernel_rfl) (by decide) hS0 (by rfl) (by intro w hSw; obtain ⟨hSa, hSb, hSc, hSd, hSe⟩ := hSw; go_simp; rfl) ?_
                          refine z_take (i := 13) (v := ?_) rfl (by kernel_rfl) (by kernel_rfl) (by kernel_rfl) (fun _ _ _ h => h) (by kernel_rfl) (by decide) hS0 (by rfl) (by intro w hSw; obtain ⟨hSa, hSb, hSc, hSd, hSe⟩ := hSw; go_simp; rfl) ?_
                          simp only [Act.put, List.setIfInBounds_toArray]
                          refine z_one (i := 14) rfl (by kernel_rfl) (by rfl) (fun K hK => ?_)
                          go_simp
                          refine hK _ _ (fun _ => Hmk.out _ (hrj.out.alloc _).drew (hbj.out.alloc hbj.out.size _).drew) ?_
                          clear hK K
                          refine z_one (i := 15) rfl (by kernel_rfl) (by rfl) (fun K hK => ?_)
                          refine wp_append_any _ _ _ 37 rfl wo.heap.size 3 i0 _ 1 8 Try.underlying37 hi0 hz0 hz1 hz2 rfl (by decide) (.slice Av (h1.length + j) cv) (h1.length + j) _ (by rfl) (own_ad Hu.out _) (wr.heap.size + 1) _ 1 _ [.int .i64 (p1 + x)] (by rfl) (read1 (by omega) (cellNew wr _ _)) (by intro u hu; simp at hu; subst hu; rfl) (by unfold maxLen; omega) (by omega) (by have := hbj.out.size; simp; omega) ?_
                          intro v9 w9 hown9 hg9 hat9
                          obtain ⟨A9, c9, ev9, _, _, _⟩ := own_form hown9
                          subst ev9
                          have hblk9 : Blk w9 gr 65 #[.slice Av (h1.length + j) cv, .bool fb] := (hrj.out.alloc _).drew.grown hg9 (fun e => HugR.out _ e.symm rfl)
                          have hB9 : Below wo.heap.size wo w9 := (hbj.out.alloc hbj.out.size _).drew.grown hg9 (by have := hbj.out.size; simp; omega) (fun k e => Hub.out k e)
                          have hS9 := Hmk.out w9 hblk9 hB9
                          have hf9 := hblk9.frozen 0
                          have hz9 := hblk9.lt
                          have hc9 := hblk9.cell 0
                          simp only [List.getElem?_toArray, List.getElem?_cons_zero] at hc9
                          have Ho9 := Lib.hid (show OwnInts w9 wo.heap.size (.slice A9 (h1.length + j + 1) c9) (h1 ++ (h2.take (j + 1)).map fun c => c + p1) by
                            rw [Htj.out, ← List.append_assoc]
                            refine ownSnoc ?_
                            rw [Hlen.out]
                            simpa using hown9)
                          have HB9 := Lib.hid hB9
                          have Hblk9 := Lib.hid hblk9
                          clear hown9 hg9 hat9 hblk9 hB9
                          refine hK _ _ (fun _ => hS9) ?_
                          clear hK K
                          refine z_take (i := 16) (v := ?_) rfl (by kernel_rfl) (by kernel_rfl) (by kernel_rfl) (fun _ _ _ h => h) (by kernel_rfl) (by decide) hS9 (by rfl) (by intro w hSw; obtain ⟨hSa, hSb, hSc, hSd, hSe⟩ := hSw; go_simp; rfl) ?_
                          try simp only [Act.put, List.setIfInBounds_toArray]
                          refine z_one (i := 17) rfl (by kernel_rfl) (by rfl) (fun K hK => ?_)
                          go_simp
                          refine hK _ _ (fun h => absurd rfl h) ?_
                          clear hK K
                          refine z_done (by kernel_rfl) ?_ _
                          have HX1 := Lib.hid (Hblk9.out.set_ 0 (.slice A9 (h1.length + j + 1) c9))
                          have HX2 := Lib.hid (own_kept Ho9.out (grown_setCell w9 ⟨gr, 0, none⟩ (.slice A9 (h1.length + j + 1) c9)) (fun k e e2 => by
                            have e3 : some gr = some k := e
                            injection e3 with e3
                            subst e3
                            exact own_blk_ne Ho9.out Hblk9.out (by decide) e2))
                          have HX3 := Lib.hid (HB9.out.grown (grown_setCell w9 ⟨gr, 0, none⟩ (.slice A9 (h1.length + j + 1) c9)) HB9.out.size (fun k e => by
                            have e3 : some gr = some k := e
                            injection e3 with e3
                            omega))
                          go_wp2
                          go_roundg (h2.length - (j + 1))
                          case rel => exact ⟨j + 1, _, hjl, rfl, by go_num, HX1.out, HX2.out, HX3.out⟩
                          case measure => rw [Hgj.out]; omega
                        · obtain rfl : j = h2.length := by omega
                          rw [List.take_length] at hoj hrj
                          have hspn := hsp.out.below hbj.out
                          have hlk := Rk.joinRows_len p1 rows1 rows2 k2
                          obtain ⟨us, hV⟩ := hspn.us
                          obtain ⟨_, sp1, spf, splt, Au, cu, eu⟩ := hspn.facts
                          rw [hlk] at eu
                          subst eu
                          have r0 := hrj.out.cell 0
                          have r1 := hrj.out.cell 1
                          simp only [List.getElem?_toArray, List.getElem?_cons_zero, List.getElem?_cons_succ] at r0 r1
                          have ltr := hrj.out.lt
                          obtain ⟨j0, hj0, yz0, yz1, yz2⟩ := info_parts info_row
                          have HV := Lib.hid hV
                          have Hsp := Lib.hid hspn
                          have hru := hV.1
                          rw [hlk] at hru
                          have Hru := Lib.hid hru
                          have hso := hspn.low.size
                          have Hro := Lib.hid (own_more hoj.out (show wa.heap.size + 1 ≤ wo.heap.size by omega))
                          clear hV hspn hru hoj
                          generalize h1 ++ (h2.map fun c => c + p1) = hh at *
                          go_wp2_with (at_builtin; go_must (refine wpList_append_any _ rfl _ _ 46 rfl (wa.heap.size + 1) 65 j0 _ 2 32 Try.underlying46 hj0 yz0 yz1 yz2 rfl (by decide) _ k2 us rfl (own_kept Hru.out (World.grownBy_alloc _ _ none) (fun g e => by cases e)) (wr.heap.size + 1) _ 1 _ [.slice Av hh.length cv, .bool fb] rfl (read_row2 (by omega)) ?d2 ?d6 ?d4 ?d5 ?_))
                          case d2 => intro u hu; simp at hu; rcases hu with rfl | rfl <;> rfl
                          case d6 => unfold maxLen; omega
                          case d4 => omega
                          case d5 => simp; omega
                          intro v9 w9 hown9 hg9 hat9
                          obtain ⟨A9, c9, ev9, _, _, _⟩ := own_form hown9
                          subst ev9
                          obtain ⟨⟨q1', qf, qlt⟩, hS⟩ := Hsp.out.snoc (r := (hh, fb)) HV.out Hro.out (by rw [hlk]; exact hown9) hg9
                          rw [← Hsucc.out] at hS
                          have HS := Lib.hid hS
                          clear hS hown9 hg9 hat9
                          go_wp2
                          go_roundg (rows1.length - (k2 + 1))
                          case rel => exact ⟨k2 + 1, _, hlt3, rfl, by go_num, HS.out⟩
                          case measure => rw [Hg2.out]; omega
                    · go_simp
                      refine hK _ _ (fun _ => keep3_alloc _ (keep3_alloc _ HS0.out)) ?_
                      clear hK K
                      refine z_one (i := 13) rfl (by kernel_rfl) (by rfl) (fun K hK => ?_)
                      refine wp_append_any _ _ _ 37 rfl wo.heap.size 3 i0 _ 1 8 Try.underlying37 hi0 hz0 hz1 hz2 rfl (by decide) (.slice (some ⟨wo.heap.size, 0, none⟩) 0 0) 0 [] (by rfl) (own_ad (World.ownsRow_made wo #[] 0 (Nat.le_refl _) (Nat.zero_le _) rfl) _) B A1 h1.length cu1 _ (by rfl) (((Hr1.out.alloc hBw _).alloc (by simp; omega) _).drew) Hone.out hmx hby (by first | (simp; done) | (simp; omega)) ?_
                      intro v7 w7 hown7 hg7 hat7
                      obtain ⟨A7, c7, ev7, _, _, _⟩ := own_form hown7
                      rw [Nat.zero_add] at ev7
                      subst ev7
                      have hS7 := keep3_grown hSN.out hg7 (fun g e => by have e2 : some (wo.heap.size) = some g := e; injection e2 with e2; omega) (keep3_alloc _ (keep3_alloc _ HS0.out))
                      have Hown7 := Lib.hid (show OwnInts w7 wo.heap.size (.slice A7 h1.length c7) h1 by unfold OwnInts; simpa using hown7)
                      have Hg7 := Lib.hid hg7
                      have hsz7 : wo.heap.size + 1 ≤ w7.heap.size := Nat.le_trans (show wo.heap.size + 1 ≤ (wo.alloc (.cells #[] 3)).heap.size by simp) (Nat.le_trans (by simp) hg7.size)
                      have hbq : Blk w7 (wo.heap.size + 1) 65 #[.slice none 0 0, .bool false] := (blkB wo _ _ _).drew.grown hg7 (fun e => Nat.succ_ne_self _ (Option.some.inj (show some (wo.heap.size + 1) = some wo.heap.size from e)))
                      have bq0 := hbq.cell 0
                      have bq1 := hbq.cell 1
                      have bf0 := hbq.frozen 0
                      have bf1 := hbq.frozen 1
                      have blt := hbq.lt
                      simp only [List.getElem?_toArray, List.getElem?_cons_zero, List.getElem?_cons_succ] at bq0 bq1
                      have Hbq := Lib.hid hbq
                      clear hbq
                      clear hown7 hg7 hat7
                      refine hK _ _ (fun _ => hS7) ?_
                      clear hK K
                      refine z_take (i := 14) (v := ?_) rfl (by kernel_rfl) (by kernel_rfl) (by kernel_rfl) (fun _ _ _ h => h) (by kernel_rfl) (by decide) (hS7) (by rfl) (by intro w hSw; obtain ⟨hSa, hSb, hSc⟩ := hSw; go_simp; rfl) ?_
                      try simp only [Act.put, List.setIfInBounds_toArray]
                      refine z_one (i := 16) rfl (by kernel_rfl) (by rfl) (fun K hK => ?_)
                      go_simp
                      refine hK _ _ (fun h => absurd rfl h) ?_
                      clear hK K
                      refine z_done (by kernel_rfl) ?_ _
                      obtain ⟨hR7, hO7, hB7⟩ := row_fin (fb := fb) (Hown7.out) (Hbq.out) (((((Below.refl wo.heap.size wo).alloc (Nat.le_refl _) _).alloc (by simp) _).drew.grown Hg7.out (by simp; omega) (fun k e => by have e2 : some (wo.heap.size) = some k := e; injection e2 with e2; omega))) (show wo.heap.size ≤ wo.heap.size + 1 by omega)
                      have HR7 := Lib.hid hR7
                      have HO7 := Lib.hid hO7
                      have HB7 := Lib.hid hB7
                      clear hR7 hO7 hB7
                      generalize hwz : World.setCell (World.setCell _ _ _) _ _ = wz at HR7 HO7 HB7 ⊢
                      clear hwz
                      obtain ⟨gr, hgr⟩ : ∃ gr, gr = wo.heap.size + 1 := ⟨_, rfl⟩
                      have hgrw : wo.heap.size ≤ gr := by rw [hgr]; omega
                      rw [← hgr] at HR7
                      rw [← hgr]
                      clear hgr
                      have F1 := (hsp.out.low.cell (p := ⟨w.heap.size, 0, none⟩) hlwa).trans q0
                      have F2 := (hsp.out.low.cell (p := ⟨w.heap.size + 1, 1, none⟩) hlwb).trans (HA2.out.cell 1)
                      simp only [List.getElem?_toArray, List.getElem?_cons_zero, List.getElem?_cons_succ] at F2
                      have HF := Lib.hid (And.intro F1 (And.intro F2 hc0''))
                      have hl1 : w.heap.size < wo.heap.size := by omega
                      have hl2 : w.heap.size + 1 < wo.heap.size := by omega
                      have hl3 : (ad'.add (k2 * 2)).block < wo.heap.size := by rw [block_of_add]; omega
                      clear F1 F2 p1' c0 c1 HS0 hSN
                      go_wp2
                      go_loopg [12] h2.length (fun g i wy => ∃ (j : Nat) (v : Value), j ≤ h2.length ∧ g = h2.length - j ∧ i = .int .i64 j ∧ Hid (Blk wy gr 65 #[v, .bool fb]) ∧ Hid (OwnInts wy wo.heap.size v (h1 ++ (h2.take j).map fun c => c + p1)) ∧ Hid (Below wo.heap.size wo wy))
                      case atStart => exact ⟨0, _, Nat.zero_le _, rfl, rfl, HR7.out, by rw [List.take_zero, List.map_nil, List.append_nil]; exact HO7.out, HB7.out⟩
                      case round =>
                        obtain ⟨j, v, hj, hgj, rfl, hrj, hoj, hbj⟩ := hrel
                        have Hgj := Lib.hid hgj
                        clear hgj
                        obtain ⟨Av, cv, ev, _, _, _⟩ := own_form hoj.out
                        subst ev
                        have y1 := (hbj.out.cell (p := ⟨w.heap.size + 1, 1, none⟩) hl2).trans HF.out.2.1
                        have y2 := (hbj.out.cell hl3).trans HF.out.2.2
                        by_cases hjl : j < h2.length
                        · obtain ⟨adn, en, hadnb, hcn⟩ := ints_at Hr2.out hjl
                          subst en
                          have F5 := ((Hbw.out.mono hB).cell (p := adn.add j) (by rw [block_of_add]; omega)).trans hcn
                          have hl5 : (adn.add j).block < wo.heap.size := by rw [block_of_add]; omega
                          obtain ⟨x0, x1⟩ := Hin2.out j hjl
                          have hlen : (h1 ++ (h2.take j).map fun c => c + p1).length = h1.length + j := by simp; omega
                          have Htj := Lib.hid (show (h2.take (j + 1)).map (fun c => c + p1) = (h2.take j).map (fun c => c + p1) ++ [p1 + h2.getD j 0] by
                            rw [List.take_succ_eq_append_getElem hjl, List.map_append, List.getD_eq_getElem?_getD, List.getElem?_eq_getElem hjl, Int.add_comm p1]; rfl)
                          have hwr : IntKind.i64.wrap (p1 + h2.getD j 0) = p1 + h2.getD j 0 := by rw [IntKind.wrap_i64]; omega
                          clear hcn
                          generalize h2.getD j 0 = x at *
                          rw [hlen] at hrj
                          have Hlen := Lib.hid hlen
                          have hu := hoj.out
                          unfold OwnInts at hu
                          rw [hlen] at hu
                          have Hu := Lib.hid hu
                          have HF5 := Lib.hid F5
                          clear hu hlen F5
                          have Hmk := Lib.hid (fun (wx : World) (hb : Blk wx gr 65 #[.slice Av (h1.length + j) cv, .bool fb]) (hB : Below wo.heap.size wo wx) => And.intro (show wx.cell? ⟨gr, 0, none⟩ = some (.slice Av (h1.length + j) cv) from hb.cell 0) (And.intro ((hB.cell (p := ⟨w.heap.size, 0, none⟩) hl1).trans HF.out.1) (And.intro ((hB.cell (p := ⟨w.heap.size + 1, 1, none⟩) hl2).trans HF.out.2.1) (And.intro ((hB.cell hl3).trans HF.out.2.2) ((hB.cell hl5).trans HF5.out)))))
                          have Hub := Lib.hid (fun k e => (own_row_lt Hu.out k e).1)
                          have HugR := Lib.hid (fun k (e : (Value.slice Av (h1.length + j) cv).ownBlock = some k) => (show k ≠ gr from fun h => own_blk_ne Hu.out hrj.out (by decide) (h ▸ e)))
                          go_wp2
                          refine z_region (fun w' => w'.cell? ⟨gr, 0, none⟩ = some (.slice Av (h1.length + j) cv) ∧ w'.cell? ⟨w.heap.size, 0, none⟩ = some (.int .i64 p1) ∧ w'.cell? ⟨w.heap.size + 1, 1, none⟩ = some (.slice (some ad') rows2.length c') ∧ w'.cell? (ad'.add (k2 * 2)) = some (.slice (some adn) h2.length cu2) ∧ w'.cell? (adn.add j) = some (.int .i64 x)) 17 (by kernel_rfl) ?_
                          have hS0 := Hmk.out wr hrj.out hbj.out
                          refine z_take (i := 0) (v := ?_) rfl (by kernel_rfl) (by kernel_rfl) (by kernel_rfl) (fun _ _ _ h => h) (by kernel_rfl) (by decide) hS0 (by rfl) (by intro w hSw; obtain ⟨hSa, hSb, hSc, hSd, hSe⟩ := hSw; go_simp; rfl) ?_
                          refine z_take (i := 1) (v := ?_) rfl (by kernel_rfl) (by kernel_rfl) (by kernel_rfl) (fun _ _ _ h => h) (by kernel_rfl) (by decide) hS0 (by rfl) (by intro w hSw; obtain ⟨hSa, hSb, hSc, hSd, hSe⟩ := hSw; go_simp; rfl) ?_
                          refine z_take (i := 2) (v := ?_) rfl (by kernel_rfl) (by kernel_rfl) (by kernel_rfl) (fun _ _ _ h => h) (by kernel_rfl) (by decide) hS0 (by rfl) (by intro w hSw; obtain ⟨hSa, hSb, hSc, hSd, hSe⟩ := hSw; go_simp; rfl) ?_
                          refine z_take (i := 3) (v := ?_) rfl (by kernel_rfl) (by kernel_rfl) (by kernel_rfl) (fun _ _ _ h => h) (by kernel_rfl) (by decide) hS0 (by rfl) (by intro w hSw; obtain ⟨hSa, hSb, hSc, hSd, hSe⟩ := hSw; go_simp; rfl) ?_
                          refine z_take (i := 4) (v := ?_) rfl (by kernel_rfl) (by kernel_rfl) (by kernel_rfl) (fun _ _ _ h => h) (by kernel_rfl) (by decide) hS0 (by rfl) (by intro w hSw; obtain ⟨hSa, hSb, hSc, hSd, hSe⟩ := hSw; go_simp; rfl) ?_
                          refine z_take (i := 5) (v := ?_) rfl (by kernel_rfl) (by kernel_rfl) (by kernel_rfl) (fun _ _ _ h => h) (by kernel_rfl) (by decide) hS0 (by rfl) (by intro w hSw; obtain ⟨hSa, hSb, hSc, hSd, hSe⟩ := hSw; go_simp; rfl) ?_
                          refine z_take (i := 6) (v := ?_) rfl (by kernel_rfl) (by kernel_rfl) (by kernel_rfl) (fun _ _ _ h => h) (by kernel_rfl) (by decide) hS0 (by rfl) (by intro w hSw; obtain ⟨hSa, hSb, hSc, hSd, hSe⟩ := hSw; go_simp; rfl) ?_
                          refine z_take (i := 7) (v := ?_) rfl (by kernel_rfl) (by kernel_rfl) (by kernel_rfl) (fun _ _ _ h => h) (by kernel_rfl) (by decide) hS0 (by rfl) (by intro w hSw; obtain ⟨hSa, hSb, hSc, hSd, hSe⟩ := hSw; go_simp; rfl) ?_
                          refine z_take (i := 8) (v := ?_) rfl (by kernel_rfl) (by kernel_rfl) (by kernel_rfl) (fun _ _ _ h => h) (by kernel_rfl) (by decide) hS0 (by rfl) (by intro w hSw; obtain ⟨hSa, hSb, hSc, hSd, hSe⟩ := hSw; go_simp; rfl) ?_
                          refine z_take (i := 9) (v := ?_) rfl (by kernel_rfl) (by kernel_rfl) (by kernel_rfl) (fun _ _ _ h => h) (by kernel_rfl) (by decide) hS0 (by rfl) (by intro w hSw; obtain ⟨hSa, hSb, hSc, hSd, hSe⟩ := hSw; go_simp; rfl) ?_
                          refine z_take (i := 10) (v := ?_) rfl (by kernel_rfl) (by kernel_rfl) (by kernel_rfl) (fun _ _ _ h => h) (by kernel_rfl) (by decide) hS0 (by rfl) (by intro w hSw; obtain ⟨hSa, hSb, hSc, hSd, hSe⟩ := hSw; go_simp; rfl) ?_
                          refine z_take (i := 11) (v := ?_) rfl (by kernel_rfl) (by kernel_rfl) (by kernel_rfl) (fun _ _ _ h => h) (by kernel_rfl) (by decide) hS0 (by rfl) (by intro w hSw; obtain ⟨hSa, hSb, hSc, hSd, hSe⟩ := hSw; go_simp; rfl) ?_
                          refine z_take (i := 12) (v := ?_) rfl (by kernel_rfl) (by kernel_rfl) (by kernel_rfl) (fun _ _ _ h => h) (by kernel_rfl) (by decide) hS0 (by rfl) (by intro w hSw; obtain ⟨hSa, hSb, hSc, hSd, hSe⟩ := hSw; go_simp; rfl) ?_
                          refine z_take (i := 13) (v := ?_) rfl (by kernel_rfl) (by kernel_rfl) (by kernel_rfl) (fun _ _ _ h => h) (by kernel_rfl) (by decide) hS0 (by rfl) (by intro w hSw; obtain ⟨hSa, hSb, hSc, hSd, hSe⟩ := hSw; go_simp; rfl) ?_
                          simp only [Act.put, List.setIfInBounds_toArray]
                          refine z_one (i := 14) rfl (by kernel_rfl) (by rfl) (fun K hK => ?_)
                          go_simp
                          refine hK _ _ (fun _ => Hmk.out _ (hrj.out.alloc _).drew (hbj.out.alloc hbj.out.size _).drew) ?_
                          clear hK K
                          refine z_one (i := 15) rfl (by kernel_rfl) (by rfl) (fun K hK => ?_)
                          refine wp_append_any _ _ _ 37 rfl wo.heap.size 3 i0 _ 1 8 Try.underlying37 hi0 hz0 hz1 hz2 rfl (by decide) (.slice Av (h1.length + j) cv) (h1.length + j) _ (by rfl) (own_ad Hu.out _) (wr.heap.size + 1) _ 1 _ [.int .i64 (p1 + x)] (by rfl) (read1 (by omega) (cellNew wr _ _)) (by intro u hu; simp at hu; subst hu; rfl) (by unfold maxLen; omega) (by omega) (by have := hbj.out.size; simp; omega) ?_
                          intro v9 w9 hown9 hg9 hat9
                          obtain ⟨A9, c9, ev9, _, _, _⟩ := own_form hown9
                          subst ev9
                          have hblk9 : Blk w9 gr 65 #[.slice Av (h1.length + j) cv, .bool fb] := (hrj.out.alloc _).drew.grown hg9 (fun e => HugR.out _ e.symm rfl)
                          have hB9 : Below wo.heap.size wo w9 := (hbj.out.alloc hbj.out.size _).drew.grown hg9 (by have := hbj.out.size; simp; omega) (fun k e => Hub.out k e)
                          have hS9 := Hmk.out w9 hblk9 hB9
                          have hf9 := hblk9.frozen 0
                          have hz9 := hblk9.lt
                          have hc9 := hblk9.cell 0
                          simp only [List.getElem?_toArray, List.getElem?_cons_zero] at hc9
                          have Ho9 := Lib.hid (show OwnInts w9 wo.heap.size (.slice A9 (h1.length + j + 1) c9) (h1 ++ (h2.take (j + 1)).map fun c => c + p1) by
                            rw [Htj.out, ← List.append_assoc]
                            refine ownSnoc ?_
                            rw [Hlen.out]
                            simpa using hown9)
                          have HB9 := Lib.hid hB9
                          have Hblk9 := Lib.hid hblk9
                          clear hown9 hg9 hat9 hblk9 hB9
                          refine hK _ _ (fun _ => hS9) ?_
                          clear hK K
                          refine z_take (i := 16) (v := ?_) rfl (by kernel_rfl) (by kernel_rfl) (by kernel_rfl) (fun _ _ _ h => h) (by kernel_rfl) (by decide) hS9 (by rfl) (by intro w hSw; obtain ⟨hSa, hSb, hSc, hSd, hSe⟩ := hSw; go_simp; rfl) ?_
                          try simp only [Act.put, List.setIfInBounds_toArray]
                          refine z_one (i := 17) rfl (by kernel_rfl) (by rfl) (fun K hK => ?_)
                          go_simp
                          refine hK _ _ (fun h => absurd rfl h) ?_
                          clear hK K
                          refine z_done (by kernel_rfl) ?_ _
                          have HX1 := Lib.hid (Hblk9.out.set_ 0 (.slice A9 (h1.length + j + 1) c9))
                          have HX2 := Lib.hid (own_kept Ho9.out (grown_setCell w9 ⟨gr, 0, none⟩ (.slice A9 (h1.length + j + 1) c9)) (fun k e e2 => by
                            have e3 : some gr = some k := e
                            injection e3 with e3
                            subst e3
                            exact own_blk_ne Ho9.out Hblk9.out (by decide) e2))
                          have HX3 := Lib.hid (HB9.out.grown (grown_setCell w9 ⟨gr, 0, none⟩ (.slice A9 (h1.length + j + 1) c9)) HB9.out.size (fun k e => by
                            have e3 : some gr = some k := e
                            injection e3 with e3
                            omega))
                          go_wp2
                          go_roundg (h2.length - (j + 1))
                          case rel => exact ⟨j + 1, _, hjl, rfl, by go_num, HX1.out, HX2.out, HX3.out⟩
                          case measure => rw [Hgj.out]; omega
                        · obtain rfl : j = h2.length := by omega
                          rw [List.take_length] at hoj hrj
                          have hspn := hsp.out.below hbj.out
                          have hlk := Rk.joinRows_len p1 rows1 rows2 k2
                          obtain ⟨us, hV⟩ := hspn.us
                          obtain ⟨_, sp1, spf, splt, Au, cu, eu⟩ := hspn.facts
                          rw [hlk] at eu
                          subst eu
                          have r0 := hrj.out.cell 0
                          have r1 := hrj.out.cell 1
                          simp only [List.getElem?_toArray, List.getElem?_cons_zero, List.getElem?_cons_succ] at r0 r1
                          have ltr := hrj.out.lt
                          obtain ⟨j0, hj0, yz0, yz1, yz2⟩ := info_parts info_row
                          have HV := Lib.hid hV
                          have Hsp := Lib.hid hspn
                          have hru := hV.1
                          rw [hlk] at hru
                          have Hru := Lib.hid hru
                          have hso := hspn.low.size
                          have Hro := Lib.hid (own_more hoj.out (show wa.heap.size + 1 ≤ wo.heap.size by omega))
                          clear hV hspn hru hoj
                          generalize h1 ++ (h2.map fun c => c + p1) = hh at *
                          go_wp2_with (at_builtin; go_must (refine wpList_append_any _ rfl _ _ 46 rfl (wa.heap.size + 1) 65 j0 _ 2 32 Try.underlying46 hj0 yz0 yz1 yz2 rfl (by decide) _ k2 us rfl (own_kept Hru.out (World.grownBy_alloc _ _ none) (fun g e => by cases e)) (wr.heap.size + 1) _ 1 _ [.slice Av hh.length cv, .bool fb] rfl (read_row2 (by omega)) ?d2 ?d6 ?d4 ?d5 ?_))
                          case d2 => intro u hu; simp at hu; rcases hu with rfl | rfl <;> rfl
                          case d6 => unfold maxLen; omega
                          case d4 => omega
                          case d5 => simp; omega
                          intro v9 w9 hown9 hg9 hat9
                          obtain ⟨A9, c9, ev9, _, _, _⟩ := own_form hown9
                          subst ev9
                          obtain ⟨⟨q1', qf, qlt⟩, hS⟩ := Hsp.out.snoc (r := (hh, fb)) HV.out Hro.out (by rw [hlk]; exact hown9) hg9
                          rw [← Hsucc.out] at hS
                          have HS := Lib.hid hS
                          clear hS hown9 hg9 hat9
                          go_wp2
                          go_roundg (rows1.length - (k2 + 1))
                          case rel => exact ⟨k2 + 1, _, hlt3, rfl, by go_num, HS.out⟩
                          case measure => rw [Hg2.out]; omega
                  · go_simp
                    refine hK _ _ (fun _ => keep3_alloc _ HS0.out) ?_
                    clear hK K
                    refine z_one (i := 6) rfl (by kernel_rfl) (by rfl) (fun K hK => ?_)
                    go_simp
                    refine hK _ _ (fun _ => keep3_alloc _ (keep3_alloc _ HS0.out)) ?_
                    clear hK K
                    refine z_one (i := 13) rfl (by kernel_rfl) (by rfl) (fun K hK => ?_)
                    refine wp_append_any _ _ _ 37 rfl wo.heap.size 3 i0 _ 1 8 Try.underlying37 hi0 hz0 hz1 hz2 rfl (by decide) (.slice (some ⟨wo.heap.size + 1, 0, none⟩) 0 0) 0 [] (by rfl) (by exact own_made1 wo _) B A1 h1.length cu1 _ (by rfl) (((Hr1.out.alloc hBw _).alloc (by simp; omega) _).drew) Hone.out hmx hby (by first | (simp; done) | (simp; omega)) ?_
                    intro v7 w7 hown7 hg7 hat7
                    obtain ⟨A7, c7, ev7, _, _, _⟩ := own_form hown7
                    rw [Nat.zero_add] at ev7
                    subst ev7
                    have hS7 := keep3_grown hSN.out hg7 (fun g e => by have e2 : some (wo.heap.size + 1) = some g := e; injection e2 with e2; omega) (keep3_alloc _ (keep3_alloc _ HS0.out))
                    have Hown7 := Lib.hid (show OwnInts w7 wo.heap.size (.slice A7 h1.length c7) h1 by unfold OwnInts; simpa using hown7)
                    have Hg7 := Lib.hid hg7
                    have hsz7 : wo.heap.size + 1 ≤ w7.heap.size := Nat.le_trans (show wo.heap.size + 1 ≤ (wo.alloc (.cells #[] 3)).heap.size by simp) (Nat.le_trans (by simp) hg7.size)
                    have hbq : Blk w7 wo.heap.size 65 #[.slice none 0 0, .bool false] := ((Blk.new wo _ _).alloc _).drew.grown hg7 (fun e => Nat.succ_ne_self _ (Option.some.inj (show some wo.heap.size = some (wo.heap.size + 1) from e)).symm)
                    have bq0 := hbq.cell 0
                    have bq1 := hbq.cell 1
                    have bf0 := hbq.frozen 0
                    have bf1 := hbq.frozen 1
                    have blt := hbq.lt
                    simp only [List.getElem?_toArray, List.getElem?_cons_zero, List.getElem?_cons_succ] at bq0 bq1
                    have Hbq := Lib.hid hbq
                    clear hbq
                    clear hown7 hg7 hat7
                    refine hK _ _ (fun _ => hS7) ?_
                    clear hK K
                    refine z_take (i := 14) (v := ?_) rfl (by kernel_rfl) (by kernel_rfl) (by kernel_rfl) (fun _ _ _ h => h) (by kernel_rfl) (by decide) (hS7) (by rfl) (by intro w hSw; obtain ⟨hSa, hSb, hSc⟩ := hSw; go_simp; rfl) ?_
                    try simp only [Act.put, List.setIfInBounds_toArray]
                    refine z_one (i := 16) rfl (by kernel_rfl) (by rfl) (fun K hK => ?_)
                    go_simp
                    refine hK _ _ (fun h => absurd rfl h) ?_
                    clear hK K
                    refine z_done (by kernel_rfl) ?_ _
                    obtain ⟨hR7, hO7, hB7⟩ := row_fin (fb := fb) (Hown7.out) (Hbq.out) (((((Below.refl wo.heap.size wo).alloc (Nat.le_refl _) _).alloc (by simp) _).drew.grown Hg7.out (by simp; omega) (fun k e => by have e2 : some (wo.heap.size + 1) = some k := e; injection e2 with e2; omega))) (show wo.heap.size ≤ wo.heap.size by omega)
                    have HR7 := Lib.hid hR7
                    have HO7 := Lib.hid hO7
                    have HB7 := Lib.hid hB7
                    clear hR7 hO7 hB7
                    generalize hwz : World.setCell (World.setCell _ _ _) _ _ = wz at HR7 HO7 HB7 ⊢
                    clear hwz
                    obtain ⟨gr, hgr⟩ : ∃ gr, gr = wo.heap.size := ⟨_, rfl⟩
                    have hgrw : wo.heap.size ≤ gr := by rw [hgr]; omega
                    rw [← hgr] at HR7
                    rw [← hgr]
                    clear hgr
                    have F1 := (hsp.out.low.cell (p := ⟨w.heap.size, 0, none⟩) hlwa).trans q0
                    have F2 := (hsp.out.low.cell (p := ⟨w.heap.size + 1, 1, none⟩) hlwb).trans (HA2.out.cell 1)
                    simp only [List.getElem?_toArray, List.getElem?_cons_zero, List.getElem?_cons_succ] at F2
                    have HF := Lib.hid (And.intro F1 (And.intro F2 hc0''))
                    have hl1 : w.heap.size < wo.heap.size := by omega
                    have hl2 : w.heap.size + 1 < wo.heap.size := by omega
                    have hl3 : (ad'.add (k2 * 2)).block < wo.heap.size := by rw [block_of_add]; omega
                    clear F1 F2 p1' c0 c1 HS0 hSN
                    go_wp2
                    go_loopg [12] h2.length (fun g i wy => ∃ (j : Nat) (v : Value), j ≤ h2.length ∧ g = h2.length - j ∧ i = .int .i64 j ∧ Hid (Blk wy gr 65 #[v, .bool fb]) ∧ Hid (OwnInts wy wo.heap.size v (h1 ++ (h2.take j).map fun c => c + p1)) ∧ Hid (Below wo.heap.size wo wy))
                    case atStart => exact ⟨0, _, Nat.zero_le _, rfl, rfl, HR7.out, by rw [List.take_zero, List.map_nil, List.append_nil]; exact HO7.out, HB7.out⟩
                    case round =>
                      obtain ⟨j, v, hj, hgj, rfl, hrj, hoj, hbj⟩ := hrel
                      have Hgj := Lib.hid hgj
                      clear hgj
                      obtain ⟨Av, cv, ev, _, _, _⟩ := own_form hoj.out
                      subst ev
                      have y1 := (hbj.out.cell (p := ⟨w.heap.size + 1, 1, none⟩) hl2).trans HF.out.2.1
                      have y2 := (hbj.out.cell hl3).trans HF.out.2.2
                      by_cases hjl : j < h2.length
                      · obtain ⟨adn, en, hadnb, hcn⟩ := ints_at Hr2.out hjl
                        subst en
                        have F5 := ((Hbw.out.mono hB).cell (p := adn.add j) (by rw [block_of_add]; omega)).trans hcn
                        have hl5 : (adn.add j).block < wo.heap.size := by rw [block_of_add]; omega
                        obtain ⟨x0, x1⟩ := Hin2.out j hjl
                        have hlen : (h1 ++ (h2.take j).map fun c => c + p1).length = h1.length + j := by simp; omega
                        have Htj := Lib.hid (show (h2.take (j + 1)).map (fun c => c + p1) = (h2.take j).map (fun c => c + p1) ++ [p1 + h2.getD j 0] by
                          rw [List.take_succ_eq_append_getElem hjl, List.map_append, List.getD_eq_getElem?_getD, List.getElem?_eq_getElem hjl, Int.add_comm p1]; rfl)
                        have hwr : IntKind.i64.wrap (p1 + h2.getD j 0) = p1 + h2.getD j 0 := by rw [IntKind.wrap_i64]; omega
                        clear hcn
                        generalize h2.getD j 0 = x at *
                        rw [hlen] at hrj
                        have Hlen := Lib.hid hlen
                        have hu := hoj.out
                        unfold OwnInts at hu
                        rw [hlen] at hu
                        have Hu := Lib.hid hu
                        have HF5 := Lib.hid F5
                        clear hu hlen F5
                        have Hmk := Lib.hid (fun (wx : World) (hb : Blk wx gr 65 #[.slice Av (h1.length + j) cv, .bool fb]) (hB : Below wo.heap.size wo wx) => And.intro (show wx.cell? ⟨gr, 0, none⟩ = some (.slice Av (h1.length + j) cv) from hb.cell 0) (And.intro ((hB.cell (p := ⟨w.heap.size, 0, none⟩) hl1).trans HF.out.1) (And.intro ((hB.cell (p := ⟨w.heap.size + 1, 1, none⟩) hl2).trans HF.out.2.1) (And.intro ((hB.cell hl3).trans HF.out.2.2) ((hB.cell hl5).trans HF5.out)))))
                        have Hub := Lib.hid (fun k e => (own_row_lt Hu.out k e).1)
                        have HugR := Lib.hid (fun k (e : (Value.slice Av (h1.length + j) cv).ownBlock = some k) => (show k ≠ gr from fun h => own_blk_ne Hu.out hrj.out (by decide) (h ▸ e)))
                        go_wp2
                        refine z_region (fun w' => w'.cell? ⟨gr, 0, none⟩ = some (.slice Av (h1.length + j) cv) ∧ w'.cell? ⟨w.heap.size, 0, none⟩ = some (.int .i64 p1) ∧ w'.cell? ⟨w.heap.size + 1, 1, none⟩ = some (.slice (some ad') rows2.length c') ∧ w'.cell? (ad'.add (k2 * 2)) = some (.slice (some adn) h2.length cu2) ∧ w'.cell? (adn.add j) = some (.int .i64 x)) 17 (by kernel_rfl) ?_
                        have hS0 := Hmk.out wr hrj.out hbj.out
                        refine z_take (i := 0) (v := ?_) rfl (by kernel_rfl) (by kernel_rfl) (by kernel_rfl) (fun _ _ _ h => h) (by kernel_rfl) (by decide) hS0 (by rfl) (by intro w hSw; obtain ⟨hSa, hSb, hSc, hSd, hSe⟩ := hSw; go_simp; rfl) ?_
                        refine z_take (i := 1) (v := ?_) rfl (by kernel_rfl) (by kernel_rfl) (by kernel_rfl) (fun _ _ _ h => h) (by kernel_rfl) (by decide) hS0 (by rfl) (by intro w hSw; obtain ⟨hSa, hSb, hSc, hSd, hSe⟩ := hSw; go_simp; rfl) ?_
                        refine z_take (i := 2) (v := ?_) rfl (by kernel_rfl) (by kernel_rfl) (by kernel_rfl) (fun _ _ _ h => h) (by kernel_rfl) (by decide) hS0 (by rfl) (by intro w hSw; obtain ⟨hSa, hSb, hSc, hSd, hSe⟩ := hSw; go_simp; rfl) ?_
                        refine z_take (i := 3) (v := ?_) rfl (by kernel_rfl) (by kernel_rfl) (by kernel_rfl) (fun _ _ _ h => h) (by kernel_rfl) (by decide) hS0 (by rfl) (by intro w hSw; obtain ⟨hSa, hSb, hSc, hSd, hSe⟩ := hSw; go_simp; rfl) ?_
                        refine z_take (i := 4) (v := ?_) rfl (by kernel_rfl) (by kernel_rfl) (by kernel_rfl) (fun _ _ _ h => h) (by kernel_rfl) (by decide) hS0 (by rfl) (by intro w hSw; obtain ⟨hSa, hSb, hSc, hSd, hSe⟩ := hSw; go_simp; rfl) ?_
                        refine z_take (i := 5) (v := ?_) rfl (by kernel_rfl) (by kernel_rfl) (by kernel_rfl) (fun _ _ _ h => h) (by kernel_rfl) (by decide) hS0 (by rfl) (by intro w hSw; obtain ⟨hSa, hSb, hSc, hSd, hSe⟩ := hSw; go_simp; rfl) ?_
                        refine z_take (i := 6) (v := ?_) rfl (by kernel_rfl) (by kernel_rfl) (by kernel_rfl) (fun _ _ _ h => h) (by kernel_rfl) (by decide) hS0 (by rfl) (by intro w hSw; obtain ⟨hSa, hSb, hSc, hSd, hSe⟩ := hSw; go_simp; rfl) ?_
                        refine z_take (i := 7) (v := ?_) rfl (by kernel_rfl) (by kernel_rfl) (by kernel_rfl) (fun _ _ _ h => h) (by kernel_rfl) (by decide) hS0 (by rfl) (by intro w hSw; obtain ⟨hSa, hSb, hSc, hSd, hSe⟩ := hSw; go_simp; rfl) ?_
                        refine z_take (i := 8) (v := ?_) rfl (by kernel_rfl) (by kernel_rfl) (by kernel_rfl) (fun _ _ _ h => h) (by kernel_rfl) (by decide) hS0 (by rfl) (by intro w hSw; obtain ⟨hSa, hSb, hSc, hSd, hSe⟩ := hSw; go_simp; rfl) ?_
                        refine z_take (i := 9) (v := ?_) rfl (by kernel_rfl) (by kernel_rfl) (by kernel_rfl) (fun _ _ _ h => h) (by kernel_rfl) (by decide) hS0 (by rfl) (by intro w hSw; obtain ⟨hSa, hSb, hSc, hSd, hSe⟩ := hSw; go_simp; rfl) ?_
                        refine z_take (i := 10) (v := ?_) rfl (by kernel_rfl) (by kernel_rfl) (by kernel_rfl) (fun _ _ _ h => h) (by kernel_rfl) (by decide) hS0 (by rfl) (by intro w hSw; obtain ⟨hSa, hSb, hSc, hSd, hSe⟩ := hSw; go_simp; rfl) ?_
                        refine z_take (i := 11) (v := ?_) rfl (by kernel_rfl) (by kernel_rfl) (by kernel_rfl) (fun _ _ _ h => h) (by kernel_rfl) (by decide) hS0 (by rfl) (by intro w hSw; obtain ⟨hSa, hSb, hSc, hSd, hSe⟩ := hSw; go_simp; rfl) ?_
                        refine z_take (i := 12) (v := ?_) rfl (by kernel_rfl) (by kernel_rfl) (by kernel_rfl) (fun _ _ _ h => h) (by kernel_rfl) (by decide) hS0 (by rfl) (by intro w hSw; obtain ⟨hSa, hSb, hSc, hSd, hSe⟩ := hSw; go_simp; rfl) ?_
                        refine z_take (i := 13) (v := ?_) rfl (by kernel_rfl) (by kernel_rfl) (by kernel_rfl) (fun _ _ _ h => h) (by kernel_rfl) (by decide) hS0 (by rfl) (by intro w hSw; obtain ⟨hSa, hSb, hSc, hSd, hSe⟩ := hSw; go_simp; rfl) ?_
                        simp only [Act.put, List.setIfInBounds_toArray]
                        refine z_one (i := 14) rfl (by kernel_rfl) (by rfl) (fun K hK => ?_)
                        go_simp
                        refine hK _ _ (fun _ => Hmk.out _ (hrj.out.alloc _).drew (hbj.out.alloc hbj.out.size _).drew) ?_
                        clear hK K
                        refine z_one (i := 15) rfl (by kernel_rfl) (by rfl) (fun K hK => ?_)
                        refine wp_append_any _ _ _ 37 rfl wo.heap.size 3 i0 _ 1 8 Try.underlying37 hi0 hz0 hz1 hz2 rfl (by decide) (.slice Av (h1.length + j) cv) (h1.length + j) _ (by rfl) (own_ad Hu.out _) (wr.heap.size + 1) _ 1 _ [.int .i64 (p1 + x)] (by rfl) (read1 (by omega) (cellNew wr _ _)) (by intro u hu; simp at hu; subst hu; rfl) (by unfold maxLen; omega) (by omega) (by have := hbj.out.size; simp; omega) ?_
                        intro v9 w9 hown9 hg9 hat9
                        obtain ⟨A9, c9, ev9, _, _, _⟩ := own_form hown9
                        subst ev9
                        have hblk9 : Blk w9 gr 65 #[.slice Av (h1.length + j) cv, .bool fb] := (hrj.out.alloc _).drew.grown hg9 (fun e => HugR.out _ e.symm rfl)
                        have hB9 : Below wo.heap.size wo w9 := (hbj.out.alloc hbj.out.size _).drew.grown hg9 (by have := hbj.out.size; simp; omega) (fun k e => Hub.out k e)
                        have hS9 := Hmk.out w9 hblk9 hB9
                        have hf9 := hblk9.frozen 0
                        have hz9 := hblk9.lt
                        have hc9 := hblk9.cell 0
                        simp only [List.getElem?_toArray, List.getElem?_cons_zero] at hc9
                        have Ho9 := Lib.hid (show OwnInts w9 wo.heap.size (.slice A9 (h1.length + j + 1) c9) (h1 ++ (h2.take (j + 1)).map fun c => c + p1) by
                          rw [Htj.out, ← List.append_assoc]
                          refine ownSnoc ?_
                          rw [Hlen.out]
                          simpa using hown9)
                        have HB9 := Lib.hid hB9
                        have Hblk9 := Lib.hid hblk9
                        clear hown9 hg9 hat9 hblk9 hB9
                        refine hK _ _ (fun _ => hS9) ?_
                        clear hK K
                        refine z_take (i := 16) (v := ?_) rfl (by kernel_rfl) (by kernel_rfl) (by kernel_rfl) (fun _ _ _ h => h) (by kernel_rfl) (by decide) hS9 (by rfl) (by intro w hSw; obtain ⟨hSa, hSb, hSc, hSd, hSe⟩ := hSw; go_simp; rfl) ?_
                        try simp only [Act.put, List.setIfInBounds_toArray]
                        refine z_one (i := 17) rfl (by kernel_rfl) (by rfl) (fun K hK => ?_)
                        go_simp
                        refine hK _ _ (fun h => absurd rfl h) ?_
                        clear hK K
                        refine z_done (by kernel_rfl) ?_ _
                        have HX1 := Lib.hid (Hblk9.out.set_ 0 (.slice A9 (h1.length + j + 1) c9))
                        have HX2 := Lib.hid (own_kept Ho9.out (grown_setCell w9 ⟨gr, 0, none⟩ (.slice A9 (h1.length + j + 1) c9)) (fun k e e2 => by
                          have e3 : some gr = some k := e
                          injection e3 with e3
                          subst e3
                          exact own_blk_ne Ho9.out Hblk9.out (by decide) e2))
                        have HX3 := Lib.hid (HB9.out.grown (grown_setCell w9 ⟨gr, 0, none⟩ (.slice A9 (h1.length + j + 1) c9)) HB9.out.size (fun k e => by
                          have e3 : some gr = some k := e
                          injection e3 with e3
                          omega))
                        go_wp2
                        go_roundg (h2.length - (j + 1))
                        case rel => exact ⟨j + 1, _, hjl, rfl, by go_num, HX1.out, HX2.out, HX3.out⟩
                        case measure => rw [Hgj.out]; omega
                      · obtain rfl : j = h2.length := by omega
                        rw [List.take_length] at hoj hrj
                        have hspn := hsp.out.below hbj.out
                        have hlk := Rk.joinRows_len p1 rows1 rows2 k2
                        obtain ⟨us, hV⟩ := hspn.us
                        obtain ⟨_, sp1, spf, splt, Au, cu, eu⟩ := hspn.facts
                        rw [hlk] at eu
                        subst eu
                        have r0 := hrj.out.cell 0
                        have r1 := hrj.out.cell 1
                        simp only [List.getElem?_toArray, List.getElem?_cons_zero, List.getElem?_cons_succ] at r0 r1
                        have ltr := hrj.out.lt
                        obtain ⟨j0, hj0, yz0, yz1, yz2⟩ := info_parts info_row
                        have HV := Lib.hid hV
                        have Hsp := Lib.hid hspn
                        have hru := hV.1
                        rw [hlk] at hru
                        have Hru := Lib.hid hru
                        have hso := hspn.low.size
                        have Hro := Lib.hid (own_more hoj.out (show wa.heap.size + 1 ≤ wo.heap.size by omega))
                        clear hV hspn hru hoj
                        generalize h1 ++ (h2.map fun c => c + p1) = hh at *
                        go_wp2_with (at_builtin; go_must (refine wpList_append_any _ rfl _ _ 46 rfl (wa.heap.size + 1) 65 j0 _ 2 32 Try.underlying46 hj0 yz0 yz1 yz2 rfl (by decide) _ k2 us rfl (own_kept Hru.out (World.grownBy_alloc _ _ none) (fun g e => by cases e)) (wr.heap.size + 1) _ 1 _ [.slice Av hh.length cv, .bool fb] rfl (read_row2 (by omega)) ?d2 ?d6 ?d4 ?d5 ?_))
                        case d2 => intro u hu; simp at hu; rcases hu with rfl | rfl <;> rfl
                        case d6 => unfold maxLen; omega
                        case d4 => omega
                        case d5 => simp; omega
                        intro v9 w9 hown9 hg9 hat9
                        obtain ⟨A9, c9, ev9, _, _, _⟩ := own_form hown9
                        subst ev9
                        obtain ⟨⟨q1', qf, qlt⟩, hS⟩ := Hsp.out.snoc (r := (hh, fb)) HV.out Hro.out (by rw [hlk]; exact hown9) hg9
                        rw [← Hsucc.out] at hS
                        have HS := Lib.hid hS
                        clear hS hown9 hg9 hat9
                        go_wp2
                        go_roundg (rows1.length - (k2 + 1))
                        case rel => exact ⟨k2 + 1, _, hlt3, rfl, by go_num, HS.out⟩
                        case measure => rw [Hg2.out]; omega
                · obtain rfl : k2 = rows1.length := by omega
                  have p1x := (hsp.out.low.cell (p := ⟨w.heap.size, 1, none⟩) hlwa).trans q1
                  obtain ⟨sp0, sp1, _, splt, Au, cu, eu⟩ := hsp.out.facts
                  rw [Rk.joinRows_len] at eu
                  subst eu
                  have z := HA3.out.below hsp.out.low hlwc
                  have Hz := Lib.hid z
                  have y0 := z.cell 0
                  have y1 := z.cell 1
                  have f0 := z.frozen 0
                  have f1 := z.frozen 1
                  have hltz := z.lt
                  simp only [List.getElem?_toArray, List.getElem?_cons_zero, List.getElem?_cons_succ] at y0 y1
                  have hbd : ∀ i, i < rows1.length → (Rk.rowAt rows1 i).1.length ≤ 256 ∧ (Rk.rowAt rows2 i).1.length ≤ 256 := fun i hi => by
                    have b1 := (Hd1.out i hi).length_le
                    have b2 := (Hd2.out i (by omega)).length_le
                    omega
                  have hfin := Lib.hid (show RowsO w ((wr.setCell ⟨w.heap.size + 2, 0, none⟩ (.int .i64 (p1 + p2))).setCell ⟨w.heap.size + 2, 1, none⟩ (.slice Au rows1.length cu)) (.slice Au rows1.length cu) (Rk.joinRows p1 rows1 rows2 rows1.length) by
                    have h1 := (hsp.out.own.kept (grown_setCell wr ⟨w.heap.size + 2, 0, none⟩ (.int .i64 (p1 + p2))) (by intro g e; simp at e; omega)).kept (grown_setCell _ ⟨w.heap.size + 2, 1, none⟩ (.slice Au rows1.length cu)) (by intro g e; simp at e; omega)
                    exact ⟨h1.reads (by rw [Rk.joinRows_len]; omega) (fun r hr => by
                      unfold Rk.joinRows at hr
                      obtain ⟨i, hi, rfl⟩ := List.mem_map.1 hr
                      have := hbd i (List.mem_range.1 hi)
                      unfold Rk.joinRow
                      simp
                      omega), h1.more (by omega)⟩)
                  have Hbw := Lib.hid (HBa.out.trans (hsp.out.low.mono HBa.out.size))
                  clear z
                  go_wp2
                  have K := (st2 Hz.out (.int .i64 (p1 + p2)) (.slice Au rows1.length cu))
                  have k0 := K.cell 0
                  have k1 := K.cell 1
                  simp only [List.getElem?_toArray, List.getElem?_cons_zero, List.getElem?_cons_succ] at k0 k1
                  refine bodyPost_ret (v := .tuple #[.agg #[.int .i64 (p1 + p2), .slice Au rows1.length cu], .int .i64 0]) (by simp [results, Try.results41, go_sem, k0, k1]) rfl ⟨_, by rw [if_pos rfl], by rw [if_pos rfl]; exact hfin.out, ?_⟩
                  exact below_st2 (g := w.heap.size + 2) Hbw.out (by omega) Hbw.out.size _ _
end Go.Proofs.Ytfpmbjobieeidaa
