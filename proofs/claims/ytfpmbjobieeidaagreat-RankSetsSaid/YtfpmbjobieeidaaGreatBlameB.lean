/-
  The walk of Blame.
-/
import Derived.Test.YtfpmbjobieeidaaGreatBlame
namespace Go.Proofs.YtfpmbjobieeidaaGreat
open Go.RowKit

def Rk.blmCnt (rows : List RowL) (l : List Int) : Nat := rows.countP fun r => !r.2 && Rk.meets r.1 l
def blmErr (parts : Int) (rows : List RowL) (xss : List (List Int)) : Int := if specErr parts rows ≠ 0 then specErr parts rows else if setsErr xss ≠ 0 then setsErr xss else if ∀ i, i < xss.length → Rk.incr parts (xss.getD i []) = true then 0 else 1
def blmOf (parts : Int) (rows : List RowL) (xss : List (List Int)) : List Int := if blmErr parts rows xss = 0 then xss.map fun l => (Rk.blmCnt rows l : Int) else []
def BlmPost (parts : Int) (rows : List RowL) (xss : List (List Int)) (w : World) (e : Ending) (w' : World) : Prop :=
  ∃ v', e = .returned (.tuple #[v', .int .i64 (blmErr parts rows xss)]) ∧ Ints w' w'.heap.size v' (blmOf parts rows xss) ∧ Below w.heap.size w w'
theorem Rk.blm_succ {rows : List RowL} {k : Nat} (hk : k < rows.length) (l : List Int) : Rk.blmCnt (rows.take (k + 1)) l = Rk.blmCnt (rows.take k) l + if (!(Rk.rowAt rows k).2 && Rk.meets (Rk.rowAt rows k).1 l) = true then 1 else 0 := by
  unfold Rk.blmCnt Rk.rowAt
  rw [List.take_succ_eq_append_getElem hk, List.countP_append, List.countP_singleton, List.getD_eq_getElem?_getD, List.getElem?_eq_getElem hk]
  rfl
theorem Rk.blm_len (rows : List RowL) (l : List Int) : Rk.blmCnt rows l ≤ rows.length := List.countP_le_length
theorem ints_nil (w : World) (B : Nat) : Ints w B (.slice none 0 0) [] := ⟨none, 0, rfl, Nat.le_refl _, Nat.zero_le _, Reads.none_⟩
theorem Rk.map_take (f : List Int → Int) (xss : List (List Int)) {i : Nat} (hi : i < xss.length) : (xss.take (i + 1)).map f = (xss.take i).map f ++ [f (xss.getD i [])] := by
  rw [List.take_succ_eq_append_getElem hi, List.map_append, List.getD_eq_getElem?_getD, List.getElem?_eq_getElem hi]; rfl

set_option maxRecDepth 100000 in
set_option maxHeartbeats 2000000 in
theorem blame_good (parts : Int) (v : Value) (rows : List RowL) (u : Value) (xss : List (List Int)) (B : Nat) (w : World) (hv : Rows w B v rows) (hu : Sets w B u xss) (hB : B ≤ w.heap.size) (hs : specErr parts rows = 0) (hss : setsErr xss = 0) :
    Calls Tryz.prog 30 #[.agg #[.int .i64 parts, v], u] w (BlmPost parts rows xss w) := by
  have HC := Lib.hid (fun W (hb : Below w.heap.size w W) => checkspectrum_any parts v rows B W (hv.below (hb.mono hB)) (by have := hb.size; omega))
  have HD := Lib.hid (fun W (hb : Below w.heap.size w W) => checksets_any u xss B W (hu.below (hb.mono hB)))
  rw [hs] at HC
  rw [hss] at HD
  obtain ⟨hmany, hincr⟩ := setsErr_zero hss
  have hr64 := (spec_zero hs).2.2.1
  have Herr := Lib.hid (show (∀ i, i < xss.length → Rk.incr parts (xss.getD i []) = true) → blmErr parts rows xss = 0 from fun h => by unfold blmErr; rw [if_neg (by simpa using hs), if_neg (by simpa using hss), if_pos h])
  have Herr1 := Lib.hid (show ¬ (∀ i, i < xss.length → Rk.incr parts (xss.getD i []) = true) → blmErr parts rows xss = 1 from fun h => by unfold blmErr; rw [if_neg (by simpa using hs), if_neg (by simpa using hss), if_neg h])
  have HIn := Lib.hid (fun (u : Value) (xs : List Int) W (hx : Ints W B u xs) => increasing_any u xs parts B W hx)
  obtain ⟨A, cv, vs, rfl, j1, j2, hr, hi⟩ := hv
  obtain ⟨Ax, cx, vx, rfl, k1, k2, hrx, hix⟩ := hu
  obtain ⟨i0, hi0, hz0, hz1, hz2⟩ := info_parts info_int
  have Hr := Lib.hid hr
  have Hi := Lib.hid hi
  have Hrx := Lib.hid hrx
  have Hix := Lib.hid hix
  have HB0 := Lib.hid hB
  clear j1 j2 k1 k2 hr hi hrx hix hB hs hss hincr
  go_enter Tryz.func30, Tryz.ntmps30
  go_wp2_with fail
  refine (HC.out _ ((Below.refl _ w).alloc (Nat.le_refl _) _)).mono ?_
  rintro e w1 ⟨rfl, hb⟩
  have S1 : Blk w1 w.heap.size 24 #[.int .i64 parts, .slice A rows.length cv] := (Blk.new w _ _).below hb (by simp)
  have HB := Lib.hid (show Below w.heap.size w w1 from ((Below.refl _ w).alloc (Nat.le_refl _) _).trans (hb.mono (by simp)))
  have HS1 := Lib.hid S1
  have ltw : w.heap.size < w1.heap.size := S1.lt
  clear hb HC S1
  go_wp2_with fail
  refine (HD.out _ HB.out).mono ?_
  rintro e w1' ⟨rfl, rfl⟩
  clear HD
  go_wp2
  go_loopg [8, 26] xss.length (fun g s8 s26 wr => ∃ i : Nat, i ≤ xss.length ∧ g = xss.length - i ∧ s26 = .int .i64 i ∧ Hid (∀ j, j < i → Rk.incr parts (xss.getD j []) = true) ∧ Hid (OwnInts wr w1.heap.size s8 ((xss.take i).map fun l => (Rk.blmCnt rows l : Int))) ∧ Hid (Below w1.heap.size w1 wr))
  case atStart => exact ⟨0, Nat.zero_le _, rfl, rfl, fun j h => absurd h (by omega), ⟨by simp, .inl ⟨rfl, by simp⟩⟩, Below.refl _ _⟩
  case round =>
    obtain ⟨i, hil, hg, rfl, hinc, hown, hL⟩ := hrel
    have Hg := Lib.hid hg
    clear hg
    have hLw := HB.out.trans (hL.out.mono HB.out.size)
    have S2 := HS1.out.below hL.out ltw
    have s0 := S2.cell 0
    have s1 := S2.cell 1
    have lt2 := S2.lt
    simp only [List.getElem?_toArray, List.getElem?_cons_zero, List.getElem?_cons_succ] at s0 s1
    clear S2
    by_cases hlt : i < xss.length
    · obtain ⟨ad, ui, rfl, hadb, hui, hcu⟩ := Hrx.out.at_ hlt
      obtain ⟨ui', hui', hxi⟩ := Hix.out i hlt
      obtain rfl : ui' = ui := by rw [hui] at hui'; exact (Option.some.inj hui').symm
      have ci := keepB hLw (p := ad.add i) (by rw [block_of_add]; exact Nat.lt_of_lt_of_le hadb HB0.out) hcu
      have Hxi := Lib.hid (fun W (hb : Below w.heap.size w W) => (hxi.keep (fun p hp => hb.cell (Nat.lt_of_lt_of_le hp HB0.out)) : Ints W B ui' (xss.getD i [])))
      have HInk := Lib.hid (HIn.out ui' _ wr (Hxi.out wr hLw))
      obtain ⟨bi, hbi⟩ : ∃ bi, bi = Rk.incr parts (xss.getD i []) := ⟨_, rfl⟩
      rw [← hbi] at HInk
      have Hmt := Lib.hid (Rk.map_take (fun l => (Rk.blmCnt rows l : Int)) xss hlt)
      have hiz : (i : Int) < (xss.length : Int) := by omega
      have HLw := Lib.hid hLw
      obtain ⟨G, hG⟩ : ∃ G, G = xss.getD i [] := ⟨_, rfl⟩
      rw [← hG] at Hxi Hmt
      have HGe := Lib.hid hG
      clear hG hLw hcu hui hui' hxi
      obtain ⟨wo, rfl⟩ : ∃ wo : World, wo = wr := ⟨_, rfl⟩
      cases bi
      · have He := Lib.hid (Herr1.out (fun h => by have := h i hlt; rw [← hbi] at this; cases this))
        clear hbi
        go_wp2_with fail
        refine HInk.out.mono ?_
        rintro e w2 ⟨rfl, rfl⟩
        go_wp2
        go_ret2
        exact ⟨_, by rw [He.out]; rfl, by unfold blmOf; rw [He.out, if_neg (by decide)]; exact ints_nil _ _, HLw.out⟩
      · have Hinc2 := Lib.hid (show ∀ j, j < i + 1 → Rk.incr parts (xss.getD j []) = true from fun j h => by
          by_cases e : j = i
          · rw [e]; exact hbi.symm
          · exact hinc.out j (by omega))
        clear hbi hinc
        go_wp2_with fail
        refine HInk.out.mono ?_
        rintro e w2 ⟨rfl, rfl⟩
        go_wp2
        go_loopg [11, 38] rows.length (fun g s11 s38 wy => ∃ (k n : Nat), k ≤ rows.length ∧ g = rows.length - k ∧ s11 = .int .i64 n ∧ s38 = .int .i64 k ∧ n ≤ k ∧ Hid (Rk.blmCnt (rows.take k) G = n) ∧ Hid (Below wo.heap.size wo wy))
        case atStart => exact ⟨0, 0, Nat.zero_le _, rfl, rfl, rfl, Nat.le_refl _, rfl, Below.refl _ _⟩
        case round =>
          obtain ⟨k, n, hk, hg2, rfl, rfl, hnk, hcnt, hL2⟩ := hrel
          have Hg2 := Lib.hid hg2
          clear hg2
          have hLw2 := HLw.out.trans (hL2.out.mono HLw.out.size)
          have HLw2 := Lib.hid hLw2
          by_cases hkl : k < rows.length
          · obtain ⟨ad2, uh, rfl, had2, hc0, hc1, hu⟩ := rows_at Hr.out Hi.out hkl
            have had2w : ad2.block < w.heap.size := Nat.lt_of_lt_of_le had2 HB0.out
            have x0 := keepB hLw2 (p := ad2.add (k * 2)) (by rw [block_of_add]; exact had2w) hc0
            have x1 := keepB hLw2 (p := ad2.add (k * 2 + 1)) (by rw [block_of_add]; exact had2w) hc1
            have hsu := Rk.blm_succ hkl G
            rw [hcnt.out] at hsu
            obtain ⟨fb, hfb⟩ : ∃ fb, fb = (Rk.rowAt rows k).2 := ⟨_, rfl⟩
            rw [← hfb] at hsu
            rw [← hfb, ← add_of_add] at x1
            have x1 : wr.cell? ⟨(ad2.add (k * 2)).block, (ad2.add (k * 2)).off + 1, none⟩ = some (.bool fb) := x1
            have Hu := Lib.hid (fun W (hb : Below w.heap.size w W) => (hu.keep (fun p hp => hb.cell (Nat.lt_of_lt_of_le hp HB0.out)) : Ints W B uh (Rk.rowAt rows k).1))
            obtain ⟨Ah, ch, rfl, -, -, -⟩ := hu
            obtain ⟨mb, hmb⟩ : ∃ mb, mb = Rk.meets (Rk.rowAt rows k).1 G := ⟨_, rfl⟩
            rw [← hmb] at hsu
            obtain ⟨W5, hW5⟩ : ∃ W5, W5 = wr.alloc (.cells #[.slice Ah (Rk.rowAt rows k).1.length ch, .bool fb] 59) := ⟨_, rfl⟩
            have hb5 : Below wr.heap.size wr W5 := by rw [hW5]; exact (Below.refl _ wr).alloc (Nat.le_refl _) _
            have hL5 := HLw2.out.trans (hb5.mono HLw2.out.size)
            have HCF := Lib.hid (containsF_any ui' G wr.heap.size (.slice Ah (Rk.rowAt rows k).1.length ch) (Rk.rowAt rows k).1 B W5 (Hxi.out W5 hL5) (by rw [hW5]; exact (Blk.new wr _ _).cell 0) (Hu.out W5 hL5))
            rw [← hmb] at HCF
            have HB5 := Lib.hid (show Below wo.heap.size wo W5 from hL2.out.trans (hb5.mono hL2.out.size))
            have HW5 := Lib.hid hW5
            have Hsu := Lib.hid hsu
            have hkz : (k : Int) < (rows.length : Int) := by omega
            clear hc0 hc1 had2 hfb hmb hW5 hb5 hL5 hsu hLw2
            cases fb
            · cases mb
              · have Hn := Lib.hid (show Rk.blmCnt (rows.take (k + 1)) G = n by rw [Hsu.out]; simp)
                clear Hsu hcnt
                go_wp2_with fail
                rw [← HW5.out]
                refine HCF.out.mono ?_
                rintro e w6 ⟨rfl, rfl⟩
                go_wp2
                go_roundg (rows.length - (k + 1))
                case rel => exact ⟨k + 1, n, hkl, rfl, rfl, by go_num, by omega, Hn, HB5⟩
                case measure => rw [Hg2.out]; omega
              · have Hn := Lib.hid (show Rk.blmCnt (rows.take (k + 1)) G = n + 1 by rw [Hsu.out]; simp)
                clear Hsu hcnt
                go_wp2_with fail
                rw [← HW5.out]
                refine HCF.out.mono ?_
                rintro e w6 ⟨rfl, rfl⟩
                go_wp2
                go_roundg (rows.length - (k + 1))
                case rel => exact ⟨k + 1, n + 1, hkl, rfl, by go_num, by go_num, by omega, Hn, HB5⟩
                case measure => rw [Hg2.out]; omega
            · have Hn := Lib.hid (show Rk.blmCnt (rows.take (k + 1)) G = n by rw [Hsu.out]; simp)
              clear Hsu hcnt
              go_wp2
              try rw [← HW5.out]
              go_roundg (rows.length - (k + 1))
              case rel => exact ⟨k + 1, n, hkl, rfl, rfl, by go_num, by omega, Hn, by first | exact HB5 | (rw [← HW5.out]; exact HB5)⟩
              case measure => rw [Hg2.out]; omega
          · obtain rfl : k = rows.length := by omega
            have hcn := hcnt.out
            rw [List.take_length] at hcn
            have Hcn := Lib.hid hcn
            have HO := Lib.hid (own_below hown.out hL2.out (Nat.le_refl _))
            have HLn := Lib.hid (show Below w1.heap.size w1 wr from hL.out.trans (hL2.out.mono hL.out.size))
            have hsn := HLn.out.size
            have hlt2 : ((xss.take i).map fun l => (Rk.blmCnt rows l : Int)).length = i := by rw [List.length_map, List.length_take]; omega
            obtain ⟨ML, hML⟩ : ∃ ML, ML = (xss.take i).map fun l => (Rk.blmCnt rows l : Int) := ⟨_, rfl⟩
            rw [← hML] at hlt2 HO Hmt
            replace hlt2 : ML.length ≤ xss.length := by omega
            clear hcn hcnt hML
            go_wp2_with (at_builtin; go_must (refine wpList_append_any _ rfl _ _ 26 rfl w1.heap.size 3 i0 _ 1 8 Tryz.underlying26 hi0 hz0 hz1 hz2 rfl (by decide) _ ML.length _ rfl (own_kept HO.out (World.grownBy_alloc _ _ none) (fun g e => by cases e)) (wr.heap.size + 1) _ 1 _ [.int .i64 n] rfl (reads_one (by omega) (cell_new0 _ _ _)) ?d2 ?d3 ?d4 ?d5 ?_))
            case d2 => first | rfl | (intro u hu; simp at hu; subst hu; rfl)
            case d3 => unfold maxLen; omega
            case d4 => omega
            case d5 => simp; omega
            intro v2 w7 hown2 hg7 hat2
            have Ho := Lib.hid (show OwnInts w7 w1.heap.size v2 ((xss.take (i + 1)).map fun l => (Rk.blmCnt rows l : Int)) by rw [Hmt.out, Hcn.out]; exact own_snoc hown2)
            have Hb := Lib.hid (show Below w1.heap.size w1 w7 from (HLn.out.alloc HLn.out.size _).grown hg7 (by simp; omega) (fun k hk => own_row_ge HO.out k hk))
            clear hown2 hg7 hat2
            go_wp2
            go_roundg (xss.length - (i + 1))
            case rel => exact ⟨i + 1, hlt, rfl, by go_num, Hinc2, Ho, Hb⟩
            case measure => rw [Hg.out]; omega
    · obtain rfl : i = xss.length := by omega
      have He := Lib.hid (Herr.out hinc.out)
      have ho := hown.out
      rw [List.take_length] at ho
      have HI := Lib.hid (ho.reads (by rw [List.length_map]; omega))
      have HLw := Lib.hid hLw
      have Hbo := Lib.hid (show blmOf parts rows xss = xss.map fun l => (Rk.blmCnt rows l : Int) by unfold blmOf; rw [He.out, if_pos rfl])
      rw [List.take_length] at hown
      clear ho hLw hown
      go_wp2
      go_ret2
      exact ⟨_, by rw [He.out]; rfl, by rw [Hbo.out]; simpa using HI.out, HLw.out⟩
end Go.Proofs.YtfpmbjobieeidaaGreat
