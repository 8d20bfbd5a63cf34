/-
  The walk of the reference's Blame.
  Blame, of rank and of the reference, for every input.
-/
import Derived.Test.YtfpmbjobieeidaaGreatBlameB
import Derived.Deep.RegionHeld3
import Derived.Test.YtfpmbjobieeidaaGreatOpen
namespace Go.Proofs.YtfpmbjobieeidaaGreat
open Go.RowKit

theorem sets_one {w : World} {g B : Nat} {u : Value} {xs : List Int} (hc : w.cell? ⟨g, 0, none⟩ = some u) (hg : g < w.heap.size) (hu : Ints w B u xs) (hB : B ≤ w.heap.size) : Sets w w.heap.size (.slice (some ⟨g, 0, none⟩) 1 1) [xs] :=
  ⟨_, 1, [u], rfl, Nat.le_refl _, by simp, reads_one hg hc, fun i hi => by
    have : i = 0 := by simp at hi; omega
    subst this
    exact ⟨u, rfl, hu.more hB⟩⟩
theorem Rk.hits_one (G hs : List Int) : Rk.hits G [hs] = Rk.meets hs G := by
  rw [Bool.eq_iff_iff, Rk.meets_iff]
  unfold Rk.hits
  simp only [List.all_cons, List.all_nil, Bool.and_true]
  rw [Rk.meets_iff]
  exact ⟨fun ⟨x, a, b⟩ => ⟨x, b, a⟩, fun ⟨x, a, b⟩ => ⟨x, b, a⟩⟩

set_option maxRecDepth 100000 in
set_option maxHeartbeats 2000000 in
theorem rblame_good (parts : Int) (v : Value) (rows : List RowL) (u : Value) (xss : List (List Int)) (B : Nat) (w : World) (hv : Rows w B v rows) (hu : Sets w B u xss) (hB : B ≤ w.heap.size) (hs : specErr parts rows = 0) (hss : setsErr xss = 0) :
    Calls Tryz.prog 31 #[.agg #[.int .i64 parts, v], u] w (BlmPost parts rows xss w) := by
  have HC := Lib.hid (fun W (hb : Below w.heap.size w W) => rcheckspectrum_any parts v rows B W (hv.below (hb.mono hB)) (by have := hb.size; omega))
  have HD := Lib.hid (fun W (hb : Below w.heap.size w W) => rchecksets_any u xss B W (hu.below (hb.mono hB)))
  rw [hs] at HC
  rw [hss] at HD
  obtain ⟨hmany, hincr⟩ := setsErr_zero hss
  have hr64 := (spec_zero hs).2.2.1
  have Herr := Lib.hid (show (∀ i, i < xss.length → Rk.incr parts (xss.getD i []) = true) → blmErr parts rows xss = 0 from fun h => by unfold blmErr; rw [if_neg (by simpa using hs), if_neg (by simpa using hss), if_pos h])
  have Herr1 := Lib.hid (show ¬ (∀ i, i < xss.length → Rk.incr parts (xss.getD i []) = true) → blmErr parts rows xss = 1 from fun h => by unfold blmErr; rw [if_neg (by simpa using hs), if_neg (by simpa using hss), if_neg h])
  have HIn := Lib.hid (fun (u : Value) (xs : List Int) W (hx : Ints W B u xs) => set_any u xs parts B W hx)
  have HH := Lib.hid (fun (u : Value) (xs : List Int) (g : Nat) (uh : Value) (hs : List Int) W (hb : Below w.heap.size w W) (hx : Ints W B u xs) (hc : W.cell? ⟨g, 0, none⟩ = some uh) (hg : g < W.heap.size) (hh : Ints W B uh hs) => rhits_any u _ xs [hs] W.heap.size W (hx.more (Nat.le_trans hB hb.size)) (sets_one hc hg hh (Nat.le_trans hB hb.size)))
  obtain ⟨A, cv, vs, rfl, j1, j2, hr, hi⟩ := hv
  obtain ⟨Ax, cx, vx, rfl, k1, k2, hrx, hix⟩ := hu
  obtain ⟨i0, hi0, hz0, hz1, hz2⟩ := info_parts info_int
  have Hr := Lib.hid hr
  have Hi := Lib.hid hi
  have Hrx := Lib.hid hrx
  have Hix := Lib.hid hix
  have HB0 := Lib.hid hB
  clear j1 j2 k1 k2 hr hi hrx hix hB hs hss hincr
  go_enter Tryz.func31, Tryz.ntmps31
  go_wp2_with fail
  refine (HC.out _ ((Below.refl _ w).alloc (Nat.le_refl _) _)).mono ?_
  rintro e w1 ⟨rfl, hb⟩
  have S1 : Blk w1 w.heap.size 24 #[.int .i64 parts, .slice A rows.length cv] := (Blk.new w _ _).below hb (by simp)
  have HB := Lib.hid (show Below w.heap.size w w1 from ((Below.refl _ w).alloc (Nat.le_refl _) _).trans (hb.mono (by simp)))
  have HS1 := Lib.hid S1
  have ltw : w.heap.size < w1.heap.size := S1.lt
  clear hb HC S1
  go_wp2_with fail
  refine (HD.out _ HB.out).mono ?_
  rintro e w1' ⟨rfl, q0, rfl⟩
  have S1 := Lib.hid (HS1.out.below (below_drewN (Below.refl _ w1) q0) HS1.out.lt)
  have HBq := Lib.hid (show Below w.heap.size w (w1.drewN q0) from below_drewN HB.out q0)
  clear HS1 HB
  have HS1 := S1
  have HB := HBq
  obtain ⟨wq, hwq⟩ : ∃ wq, wq = w1.drewN q0 := ⟨_, rfl⟩
  rw [← hwq] at HS1 HB S1 HBq ⊢
  have hwz : w1.heap.size = wq.heap.size := by rw [hwq]; rfl
  rw [hwz] at ltw
  clear hwq S1 HBq HD hwz
  clear w1
  obtain ⟨w1, rfl⟩ : ∃ w1, w1 = wq := ⟨_, rfl⟩
  go_wp2
  go_loopg [7, 8] xss.length (fun g s8 s26 wr => ∃ i : Nat, i ≤ xss.length ∧ g = xss.length - i ∧ s26 = .int .i64 i ∧ Hid (∀ j, j < i → Rk.incr parts (xss.getD j []) = true) ∧ Hid (OwnInts wr w1.heap.size s8 ((xss.take i).map fun l => (Rk.blmCnt rows l : Int))) ∧ Hid (Below w1.heap.size w1 wr))
  case atStart => exact ⟨0, Nat.zero_le _, rfl, rfl, fun j h => absurd h (by omega), ⟨by simp, .inl ⟨rfl, by simp⟩⟩, Below.refl _ _⟩
  case round =>
    obtain ⟨i, hil, hg, rfl, hinc, hown, hL⟩ := hrel
    have Hg := Lib.hid hg
    clear hg
    have hLw := HB.out.trans (hL.out.mono HB.out.size)
    have S2 := HS1.out.below hL.out ltw
    have s0 := S2.cell 0
    have s1 := S2.cell 1
    have lt2 := S2.lt
    simp only [List.getElem?_toArray, List.getElem?_cons_zero, List.getElem?_cons_succ] at s0 s1
    clear S2
    by_cases hlt : i < xss.length
    · obtain ⟨ad, ui, rfl, hadb, hui, hcu⟩ := Hrx.out.at_ hlt
      obtain ⟨ui', hui', hxi⟩ := Hix.out i hlt
      obtain rfl : ui' = ui := by rw [hui] at hui'; exact (Option.some.inj hui').symm
      have ci := keepB hLw (p := ad.add i) (by rw [block_of_add]; exact Nat.lt_of_lt_of_le hadb HB0.out) hcu
      have Hxi := Lib.hid (fun W (hb : Below w.heap.size w W) => (hxi.keep (fun p hp => hb.cell (Nat.lt_of_lt_of_le hp HB0.out)) : Ints W B ui' (xss.getD i [])))
      have HInk := Lib.hid (fun W (hb : Below w.heap.size w W) => HIn.out ui' _ W (Hxi.out W hb))
      obtain ⟨bi, hbi⟩ : ∃ bi, bi = Rk.incr parts (xss.getD i []) := ⟨_, rfl⟩
      rw [← hbi] at HInk
      have Hmt := Lib.hid (Rk.map_take (fun l => (Rk.blmCnt rows l : Int)) xss hlt)
      have hiz : (i : Int) < (xss.length : Int) := by omega
      have HLw := Lib.hid hLw
      obtain ⟨G, hG⟩ : ∃ G, G = xss.getD i [] := ⟨_, rfl⟩
      rw [← hG] at Hxi Hmt
      have HGe := Lib.hid hG
      clear hG hLw hcu hui hui' hxi
      obtain ⟨Ag, cg, rfl, -, hgm, -⟩ := Hxi.out w (Below.refl _ _)
      obtain ⟨wo, rfl⟩ : ∃ wo : World, wo = wr := ⟨_, rfl⟩
      cases bi
      · have He := Lib.hid (Herr1.out (fun h => by have := h i hlt; rw [← hbi] at this; cases this))
        clear hbi
        go_wp2
        go_region_held3 (fun w' => w'.cell? ⟨w.heap.size, 0, none⟩ = some (.int .i64 parts) ∧ w'.cell? (ad.add i) = some (.slice Ag G.length cg))
          (first
            | exact ⟨s0, ci⟩
            | go_keep)
          (first
            | (go_at_call 38
               refine (HInk.out _ HLw.out.drew).mono ?_
               rintro e w2 ⟨rfl, q, rfl⟩))
        go_wp2
        go_ret2
        exact ⟨_, by rw [He.out]; rfl, by unfold blmOf; rw [He.out, if_neg (by decide)]; exact ints_nil _ _, below_drewN HLw.out _⟩
      · have Hinc2 := Lib.hid (show ∀ j, j < i + 1 → Rk.incr parts (xss.getD j []) = true from fun j h => by
          by_cases e : j = i
          · rw [e]; exact hbi.symm
          · exact hinc.out j (by omega))
        clear hbi hinc
        go_wp2
        go_region_held3 (fun w' => w'.cell? ⟨w.heap.size, 0, none⟩ = some (.int .i64 parts) ∧ w'.cell? (ad.add i) = some (.slice Ag G.length cg))
          (first
            | exact ⟨s0, ci⟩
            | go_keep)
          (first
            | (go_at_call 38
               refine (HInk.out _ HLw.out.drew).mono ?_
               rintro e w2 ⟨rfl, q, rfl⟩))
        go_wp2
        go_loopg [9, 10] rows.length (fun g s11 s38 wy => ∃ (k n : Nat), k ≤ rows.length ∧ g = rows.length - k ∧ s11 = .int .i64 n ∧ s38 = .int .i64 k ∧ n ≤ k ∧ Hid (Rk.blmCnt (rows.take k) G = n) ∧ Hid (Below wo.heap.size wo wy))
        case atStart => exact ⟨0, 0, Nat.zero_le _, rfl, rfl, rfl, Nat.le_refl _, rfl, Lib.hid (below_drewN (Below.refl _ _) _)⟩
        case round =>
          obtain ⟨k, n, hk, hg2, rfl, rfl, hnk, hcnt, hL2⟩ := hrel
          have Hg2 := Lib.hid hg2
          clear hg2
          have hLw2 := HLw.out.trans (hL2.out.mono HLw.out.size)
          have HLw2 := Lib.hid hLw2
          by_cases hkl : k < rows.length
          · obtain ⟨ad2, uh, rfl, had2, hc0, hc1, hu⟩ := rows_at Hr.out Hi.out hkl
            have had2w : ad2.block < w.heap.size := Nat.lt_of_lt_of_le had2 HB0.out
            have x0 := keepB hLw2 (p := ad2.add (k * 2)) (by rw [block_of_add]; exact had2w) hc0
            have x1 := keepB hLw2 (p := ad2.add (k * 2 + 1)) (by rw [block_of_add]; exact had2w) hc1
            have hsu := Rk.blm_succ hkl G
            rw [hcnt.out] at hsu
            obtain ⟨fb, hfb⟩ : ∃ fb, fb = (Rk.rowAt rows k).2 := ⟨_, rfl⟩
            rw [← hfb] at hsu
            rw [← hfb, ← add_of_add] at x1
            have x1 : wr.cell? ⟨(ad2.add (k * 2)).block, (ad2.add (k * 2)).off + 1, none⟩ = some (.bool fb) := x1
            have Hu := Lib.hid (fun W (hb : Below w.heap.size w W) => (hu.keep (fun p hp => hb.cell (Nat.lt_of_lt_of_le hp HB0.out)) : Ints W B uh (Rk.rowAt rows k).1))
            obtain ⟨Ah, ch, rfl, -, -, -⟩ := hu
            obtain ⟨mb, hmb⟩ : ∃ mb, mb = Rk.meets (Rk.rowAt rows k).1 G := ⟨_, rfl⟩
            rw [← hmb] at hsu
            have Hsu := Lib.hid hsu
            have hkz : (k : Int) < (rows.length : Int) := by omega
            have ltr : w.heap.size < wr.heap.size := Nat.lt_of_lt_of_le lt2 hL2.out.size
            have t1 := keepB hL2.out lt2 s1
            have ci2 := keepB hL2.out (lt_of_cell ci) ci
            have Hmb := Lib.hid hmb
            have Hbl := Lib.hid hL2.out
            clear hc0 hc1 had2 hfb hmb hsu hLw2
            obtain ⟨wi, rfl⟩ : ∃ wi : World, wi = wr := ⟨_, rfl⟩
            cases fb
            · by_cases hG0 : G.length = 0
              · have Hn := Lib.hid (show Rk.blmCnt (rows.take (k + 1)) G = n by
                  have hm0 : mb = false := by
                    rw [Hmb.out, List.eq_nil_of_length_eq_zero hG0]; rfl
                  rw [Hsu.out, hm0]; simp)
                have z1 : decide ((0 : Int) < (G.length : Int)) = false := decide_eq_false (by omega)
                have z2 : decide (0 < G.length) = false := decide_eq_false (by omega)
                clear hG0 Hsu hcnt
                go_wp2
                go_quiet (fail)
                go_wp2
                go_roundg (rows.length - (k + 1))
                case rel => exact ⟨k + 1, n, hkl, rfl, rfl, by go_num, by omega, Hn, Lib.hid (below_drewN Hbl.out _)⟩
                case measure => rw [Hg2.out]; omega
              · have z1 : decide ((0 : Int) < (G.length : Int)) = true := decide_eq_true (by omega)
                have z2 : decide (0 < G.length) = true := decide_eq_true (by omega)
                clear hG0
                cases mb
                · have Hn := Lib.hid (show Rk.blmCnt (rows.take (k + 1)) G = n by rw [Hsu.out]; simp)
                  clear Hsu hcnt
                  have hB1 : Below wi.heap.size wi ((wi.alloc (Obj.cells #[.slice Ah (Rk.rowAt rows k).1.length ch] 26)).drew) := ((Below.refl _ wi).alloc (Nat.le_refl _) _).drew
                  go_wp2
                  go_region_held3 (fun w' => w'.cell? ⟨w.heap.size, 1, none⟩ = some (.slice (some ad2) rows.length cv) ∧ w'.cell? (ad.add i) = some (.slice Ag G.length cg) ∧ w'.cell? (ad2.add (k * 2)) = some (.slice Ah (Rk.rowAt rows k).1.length ch) ∧ w'.cell? ⟨(ad2.add (k * 2)).block, (ad2.add (k * 2)).off + 1, none⟩ = some (.bool false))
                    (first
                      | exact ⟨keepB hB1 ltr t1, keepB hB1 (lt_of_cell ci2) ci2, keepB hB1 (lt_of_cell x0) x0, keepB hB1 (lt_of_cell x1) x1⟩
                      | go_keep)
                    (first
                      | (go_at_call 70
                         have hL5 : Below w.heap.size w ((wi.alloc (Obj.cells #[.slice Ah (Rk.rowAt rows k).1.length ch] 26)).drew) := (HLw2.out.alloc HLw2.out.size _).drew
                         have H3 := HH.out (.slice Ag G.length cg) G wi.heap.size (.slice Ah (Rk.rowAt rows k).1.length ch) (Rk.rowAt rows k).1 _ hL5 (Hxi.out _ hL5) (by exact (Blk.new wi _ _).cell 0) (by simp) (Hu.out _ hL5)
                         rw [Rk.hits_one, ← Hmb.out] at H3
                         refine H3.mono ?_
                         clear H3
                         rintro e w6 ⟨rfl, rfl⟩))
                  go_wp2
                  go_roundg (rows.length - (k + 1))
                  case rel => exact ⟨k + 1, n, hkl, rfl, rfl, by go_num, by omega, Hn, Lib.hid (Hbl.out.trans (hB1.mono Hbl.out.size))⟩
                  case measure => rw [Hg2.out]; omega
                · have Hn := Lib.hid (show Rk.blmCnt (rows.take (k + 1)) G = n + 1 by rw [Hsu.out]; simp)
                  clear Hsu hcnt
                  have hB1 : Below wi.heap.size wi ((wi.alloc (Obj.cells #[.slice Ah (Rk.rowAt rows k).1.length ch] 26)).drew) := ((Below.refl _ wi).alloc (Nat.le_refl _) _).drew
                  go_wp2
                  go_region_held3 (fun w' => w'.cell? ⟨w.heap.size, 1, none⟩ = some (.slice (some ad2) rows.length cv) ∧ w'.cell? (ad.add i) = some (.slice Ag G.length cg) ∧ w'.cell? (ad2.add (k * 2)) = some (.slice Ah (Rk.rowAt rows k).1.length ch) ∧ w'.cell? ⟨(ad2.add (k * 2)).block, (ad2.add (k * 2)).off + 1, none⟩ = some (.bool false))
                    (first
                      | exact ⟨keepB hB1 ltr t1, keepB hB1 (lt_of_cell ci2) ci2, keepB hB1 (lt_of_cell x0) x0, keepB hB1 (lt_of_cell x1) x1⟩
                      | go_keep)
                    (first
                      | (go_at_call 70
                         have hL5 : Below w.heap.size w ((wi.alloc (Obj.cells #[.slice Ah (Rk.rowAt rows k).1.length ch] 26)).drew) := (HLw2.out.alloc HLw2.out.size _).drew
                         have H3 := HH.out (.slice Ag G.length cg) G wi.heap.size (.slice Ah (Rk.rowAt rows k).1.length ch) (Rk.rowAt rows k).1 _ hL5 (Hxi.out _ hL5) (by exact (Blk.new wi _ _).cell 0) (by simp) (Hu.out _ hL5)
                         rw [Rk.hits_one, ← Hmb.out] at H3
                         refine H3.mono ?_
                         clear H3
                         rintro e w6 ⟨rfl, rfl⟩))
                  go_wp2
                  go_roundg (rows.length - (k + 1))
                  case rel => exact ⟨k + 1, n + 1, hkl, rfl, by go_num, by go_num, by omega, Hn, Lib.hid (Hbl.out.trans (hB1.mono Hbl.out.size))⟩
                  case measure => rw [Hg2.out]; omega
            · have Hn := Lib.hid (show Rk.blmCnt (rows.take (k + 1)) G = n by rw [Hsu.out]; simp)
              clear Hsu hcnt
              go_wp2
              go_quiet (fail)
              go_wp2
              go_roundg (rows.length - (k + 1))
              case rel => exact ⟨k + 1, n, hkl, rfl, rfl, by go_num, by omega, Hn, Lib.hid (below_drewN Hbl.out _)⟩
              case measure => rw [Hg2.out]; omega
          · obtain rfl : k = rows.length := by omega
            have hcn := hcnt.out
            rw [List.take_length] at hcn
            have Hcn := Lib.hid hcn
            have HO := Lib.hid (own_below hown.out hL2.out (Nat.le_refl _))
            have HLn := Lib.hid (show Below w1.heap.size w1 wr from hL.out.trans (hL2.out.mono hL.out.size))
            have hsn := HLn.out.size
            have hlt2 : ((xss.take i).map fun l => (Rk.blmCnt rows l : Int)).length = i := by rw [List.length_map, List.length_take]; omega
            obtain ⟨ML, hML⟩ : ∃ ML, ML = (xss.take i).map fun l => (Rk.blmCnt rows l : Int) := ⟨_, rfl⟩
            rw [← hML] at hlt2 HO Hmt
            replace hlt2 : ML.length ≤ xss.length := by omega
            have t1 := keepB hL2.out lt2 s1
            clear hcn hcnt hML
            go_wp2_with (at_builtin; go_must (refine wpList_append_any _ rfl _ _ 26 rfl w1.heap.size 3 i0 _ 1 8 Tryz.underlying26 hi0 hz0 hz1 hz2 rfl (by decide) _ ML.length _ rfl (own_kept HO.out (World.grownBy_alloc _ _ none) (fun g e => by cases e)) (wr.heap.size + 1) _ 1 _ [.int .i64 n] rfl (reads_one (by omega) (cell_new0 _ _ _)) ?d2 ?d3 ?d4 ?d5 ?_))
            case d2 => first | rfl | (intro u hu; simp at hu; subst hu; rfl)
            case d3 => unfold maxLen; omega
            case d4 => omega
            case d5 => simp; omega
            intro v2 w7 hown2 hg7 hat2
            have Ho := Lib.hid (show OwnInts w7 w1.heap.size v2 ((xss.take (i + 1)).map fun l => (Rk.blmCnt rows l : Int)) by rw [Hmt.out, Hcn.out]; exact own_snoc hown2)
            have Hb := Lib.hid (show Below w1.heap.size w1 w7 from (HLn.out.alloc HLn.out.size _).grown hg7 (by simp; omega) (fun k hk => own_row_ge HO.out k hk))
            clear hown2 hg7 hat2
            go_wp2
            go_roundg (xss.length - (i + 1))
            case rel => exact ⟨i + 1, hlt, rfl, by go_num, Hinc2, Ho, Hb⟩
            case measure => rw [Hg.out]; omega
    · obtain rfl : i = xss.length := by omega
      have He := Lib.hid (Herr.out hinc.out)
      have ho := hown.out
      rw [List.take_length] at ho
      have HI := Lib.hid (ho.reads (by rw [List.length_map]; omega))
      have HLw := Lib.hid hLw
      have Hbo := Lib.hid (show blmOf parts rows xss = xss.map fun l => (Rk.blmCnt rows l : Int) by unfold blmOf; rw [He.out, if_pos rfl])
      rw [List.take_length] at hown
      clear ho hLw hown
      go_wp2
      go_ret2
      exact ⟨_, by rw [He.out]; rfl, by rw [Hbo.out]; simpa using HI.out, HLw.out⟩
end Go.Proofs.YtfpmbjobieeidaaGreat
namespace Go.Proofs.YtfpmbjobieeidaaGreat
open Go.RowKit
set_option maxRecDepth 100000 in
set_option maxHeartbeats 1000000 in
theorem blame_any (parts : Int) (v : Value) (rows : List RowL) (u : Value) (xss : List (List Int)) (B : Nat) (w : World) (hv : Rows w B v rows) (hu : Sets w B u xss) (hB : B ≤ w.heap.size) :
    Calls Tryz.prog 30 #[.agg #[.int .i64 parts, v], u] w (BlmPost parts rows xss w) := by
  have HC := Lib.hid (fun W (hb : Below w.heap.size w W) => checkspectrum_any parts v rows B W (hv.below (hb.mono hB)) (by have := hb.size; omega))
  have HD := Lib.hid (fun W (hb : Below w.heap.size w W) => checksets_any u xss B W (hu.below (hb.mono hB)))
  by_cases h : specErr parts rows = 0
  · by_cases h2 : setsErr xss = 0
    · exact blame_good parts v rows u xss B w hv hu hB h h2
    have hne : (setsErr xss != 0) = true := by simpa using h2
    have Hp := Lib.hid (show blmErr parts rows xss = setsErr xss ∧ blmOf parts rows xss = [] by
      have e1 : blmErr parts rows xss = setsErr xss := by unfold blmErr; rw [if_neg (by simpa using h), if_pos h2]
      exact ⟨e1, by unfold blmOf; rw [e1, if_neg h2]⟩)
    rw [h] at HC
    obtain ⟨A, cv, vs, rfl, j1, j2, j3, j4⟩ := hv
    obtain ⟨Ax, cx, vx, rfl, k1, k2, k3, k4⟩ := hu
    clear j1 j2 j3 j4 k1 k2 k3 k4 h h2 hB
    obtain ⟨err, herr⟩ : ∃ err, setsErr xss = err := ⟨_, rfl⟩
    rw [herr] at hne HD Hp
    clear herr
    go_enter Tryz.func30, Tryz.ntmps30
    go_wp2_with fail
    refine (HC.out _ ((Below.refl _ w).alloc (Nat.le_refl _) _)).mono ?_
    rintro e w1 ⟨rfl, hb⟩
    have HB := Lib.hid (show Below w.heap.size w w1 from ((Below.refl _ w).alloc (Nat.le_refl _) _).trans (hb.mono (by simp)))
    clear hb
    go_wp2_with fail
    refine (HD.out _ HB.out).mono ?_
    rintro e w2 ⟨rfl, rfl⟩
    have HBq := HB
    go_wp2
    go_ret2
    exact ⟨_, by rw [Hp.out.1]; rfl, by rw [Hp.out.2]; exact ints_nil _ _, HBq.out⟩
  · have hne : (specErr parts rows != 0) = true := by simpa using h
    have Hp := Lib.hid (show blmErr parts rows xss = specErr parts rows ∧ blmOf parts rows xss = [] by
      have e1 : blmErr parts rows xss = specErr parts rows := if_pos h
      exact ⟨e1, by unfold blmOf; rw [e1, if_neg h]⟩)
    obtain ⟨A, cv, vs, rfl, j1, j2, j3, j4⟩ := hv
    clear j1 j2 j3 j4 h hB
    obtain ⟨err, herr⟩ : ∃ err, specErr parts rows = err := ⟨_, rfl⟩
    rw [herr] at hne HC Hp
    clear herr HD
    go_enter Tryz.func30, Tryz.ntmps30
    go_wp2_with fail
    refine (HC.out _ ((Below.refl _ w).alloc (Nat.le_refl _) _)).mono ?_
    rintro e w1 ⟨rfl, hb⟩
    have HB := Lib.hid (show Below w.heap.size w w1 from ((Below.refl _ w).alloc (Nat.le_refl _) _).trans (hb.mono (by simp)))
    clear hb
    go_wp2
    go_ret2
    exact ⟨_, by rw [Hp.out.1]; rfl, by rw [Hp.out.2]; exact ints_nil _ _, HB.out⟩

set_option maxRecDepth 100000 in
set_option maxHeartbeats 1000000 in
theorem rblame_any (parts : Int) (v : Value) (rows : List RowL) (u : Value) (xss : List (List Int)) (B : Nat) (w : World) (hv : Rows w B v rows) (hu : Sets w B u xss) (hB : B ≤ w.heap.size) :
    Calls Tryz.prog 31 #[.agg #[.int .i64 parts, v], u] w (BlmPost parts rows xss w) := by
  have HC := Lib.hid (fun W (hb : Below w.heap.size w W) => rcheckspectrum_any parts v rows B W (hv.below (hb.mono hB)) (by have := hb.size; omega))
  have HD := Lib.hid (fun W (hb : Below w.heap.size w W) => rchecksets_any u xss B W (hu.below (hb.mono hB)))
  by_cases h : specErr parts rows = 0
  · by_cases h2 : setsErr xss = 0
    · exact rblame_good parts v rows u xss B w hv hu hB h h2
    have hne : (setsErr xss != 0) = true := by simpa using h2
    have Hp := Lib.hid (show blmErr parts rows xss = setsErr xss ∧ blmOf parts rows xss = [] by
      have e1 : blmErr parts rows xss = setsErr xss := by unfold blmErr; rw [if_neg (by simpa using h), if_pos h2]
      exact ⟨e1, by unfold blmOf; rw [e1, if_neg h2]⟩)
    rw [h] at HC
    obtain ⟨A, cv, vs, rfl, j1, j2, j3, j4⟩ := hv
    obtain ⟨Ax, cx, vx, rfl, k1, k2, k3, k4⟩ := hu
    clear j1 j2 j3 j4 k1 k2 k3 k4 h h2 hB
    obtain ⟨err, herr⟩ : ∃ err, setsErr xss = err := ⟨_, rfl⟩
    rw [herr] at hne HD Hp
    clear herr
    go_enter Tryz.func31, Tryz.ntmps31
    go_wp2_with fail
    refine (HC.out _ ((Below.refl _ w).alloc (Nat.le_refl _) _)).mono ?_
    rintro e w1 ⟨rfl, hb⟩
    have HB := Lib.hid (show Below w.heap.size w w1 from ((Below.refl _ w).alloc (Nat.le_refl _) _).trans (hb.mono (by simp)))
    clear hb
    go_wp2_with fail
    refine (HD.out _ HB.out).mono ?_
    rintro e w2 ⟨rfl, q, rfl⟩
    have HBq := Lib.hid (below_drewN HB.out q)
    go_wp2
    go_ret2
    exact ⟨_, by rw [Hp.out.1]; rfl, by rw [Hp.out.2]; exact ints_nil _ _, HBq.out⟩
  · have hne : (specErr parts rows != 0) = true := by simpa using h
    have Hp := Lib.hid (show blmErr parts rows xss = specErr parts rows ∧ blmOf parts rows xss = [] by
      have e1 : blmErr parts rows xss = specErr parts rows := if_pos h
      exact ⟨e1, by unfold blmOf; rw [e1, if_neg h]⟩)
    obtain ⟨A, cv, vs, rfl, j1, j2, j3, j4⟩ := hv
    clear j1 j2 j3 j4 h hB
    obtain ⟨err, herr⟩ : ∃ err, specErr parts rows = err := ⟨_, rfl⟩
    rw [herr] at hne HC Hp
    clear herr HD
    go_enter Tryz.func31, Tryz.ntmps31
    go_wp2_with fail
    refine (HC.out _ ((Below.refl _ w).alloc (Nat.le_refl _) _)).mono ?_
    rintro e w1 ⟨rfl, hb⟩
    have HB := Lib.hid (show Below w.heap.size w w1 from ((Below.refl _ w).alloc (Nat.le_refl _) _).trans (hb.mono (by simp)))
    clear hb
    go_wp2
    go_ret2
    exact ⟨_, by rw [Hp.out.1]; rfl, by rw [Hp.out.2]; exact ints_nil _ _, HB.out⟩
end Go.Proofs.YtfpmbjobieeidaaGreat
