/-
  RankAgree: FoDice ranks as FoJaccard, FoTarantula as FoBarinel; who is at the top by every formula.
-/
import Derived.Test.YtfpmbjobieeidaaExam
import Derived.Test.YtfpmbjobieeidaaRankM
import Derived.Test.YtfpmbjobieeidaaWide
import Derived.Test.YtfpmbjobieeidaaTals
import Derived.Test.YtfpmbjobieeidaaPlainL
namespace Go.Proofs.Ytfpmbjobieeidaa
open Go.RowKit

theorem below_x {W0 W w1 : World} (h : Below W0.heap.size W0 W) (hb : Below W.heap.size W w1) : Below W0.heap.size W0 w1 := h.trans (hb.mono h.size)
theorem stns_form {w : World} {B : Nat} {v : Value} {l : List Rk.Stn} (h : Stns w B v l) (h0 : 0 < l.length) :
    ∃ g c, v = .slice (some ⟨g, 0, none⟩) l.length c ∧ g < B ∧ ∀ p j, p < l.length → j < 5 → w.cell? ⟨g, p * 5 + j, none⟩ = some (.int .i64 (fld (l.getD p (0, (0, 0), 0, 0)) j)) := by
  obtain ⟨A, c, e, _, hc⟩ := h
  obtain ⟨g, rfl, hg, hk⟩ := hc h0
  exact ⟨g, c, e, hg, hk⟩
/-- The pairs of formulas: the cells of the array. -/
def pairA (i : Nat) : Nat := if i = 0 then 4 else 1
def pairB (i : Nat) : Nat := if i = 0 then 3 else 8
theorem pair_agree (rows : List RowL) (i : Nat) (hi : i < 2) (a b : Nat) : Rk.cmpF (Rk.scoreAt (pairA i) rows a) (Rk.scoreAt (pairA i) rows b) = Rk.cmpF (Rk.scoreAt (pairB i) rows a) (Rk.scoreAt (pairB i) rows b) := by
  rcases (show i = 0 ∨ i = 1 by omega) with rfl | rfl
  · exact Rk.agree_jac rows a b
  · exact Rk.agree_bar rows a b
theorem rank_ok {n f : Nat} {rows : List RowL} (h : specErr n rows = 0) (f0 : 1 ≤ f) (f1 : f ≤ 14) : rankErr n f rows = 0 ∧ rankOf n f rows = Rk.ranking (Rk.scoreAt f rows) n := by
  have e : rankErr n f rows = 0 := by unfold rankErr; rw [if_neg (by simpa using h), if_pos ⟨f0, f1⟩]
  exact ⟨e, by unfold rankOf; rw [e, if_pos rfl]; rfl⟩

set_option maxRecDepth 100000 in
set_option maxHeartbeats 2000000 in
theorem rankAgree_any (parts : Int) (v : Value) (rows : List RowL) (f : Nat) (hf : f < 256) (B : Nat) (w : World) (hv : Rows w B v rows) (hB : B ≤ w.heap.size) :
    Calls Try.prog 7 #[.agg #[.int .i64 parts, v], .int .u8 f] w fun e w' => e = .returned (.bool true) ∧ Below w.heap.size w w' := by
  have HR := Lib.hid ranks_any
  have HWd := Lib.hid (fun W (hb : Below w.heap.size w W) => wide_any parts v rows B W (hv.below (hb.mono hB)) (by have := hb.size; omega))
  have HCk := Lib.hid (fun W (hb : Below w.heap.size w W) => rcheckspectrum_any parts v rows B W (hv.below (hb.mono hB)) (by have := hb.size; omega))
  have HRk := Lib.hid (fun (k : Nat) (hk : k < 256) W (hb : Below w.heap.size w W) => rank_any parts k hk v rows B W (hv.below (hb.mono hB)) (by have := hb.size; omega))
  have HTl := Lib.hid (fun W (hb : Below w.heap.size w W) => tals_any parts v rows B W (hv.below (hb.mono hB)) (by have := hb.size; omega))
  obtain ⟨A, c, vs, rfl, j1, j2, j3, j4⟩ := hv
  clear j1 j2 j3 j4 hB
  go_enter Try.func7, Try.ntmps7
  go_wp2_with fail
  refine (HWd.out _ (al1' _ _)).mono ?_
  rintro e w1 ⟨⟨b, rfl⟩, hb⟩
  have S1 : Blk w1 w.heap.size 48 #[.int .i64 parts, .slice A rows.length c] := (Blk.new w _ _).below hb (by simp)
  have HB := Lib.hid (below_x (al1' w _) hb)
  have lt1 : w.heap.size < w1.heap.size := S1.lt
  have s0 := S1.cell 0
  have s1 := S1.cell 1
  have HS1 := Lib.hid S1
  simp only [List.getElem?_toArray, List.getElem?_cons_zero, List.getElem?_cons_succ] at s0 s1
  clear hb HWd S1
  cases b
  · by_cases he : specErr parts rows = 0
    · have HC := HCk.out w1 HB.out
      rw [he] at HC
      have HC := Lib.hid HC
      clear HCk
      go_wp2_with fail
      refine HC.out.mono ?_
      rintro e w2 ⟨rfl, hb⟩
      have HB2 := Lib.hid (below_x HB.out hb)
      have S2 := HS1.out.below hb lt1
      have lt2 : w.heap.size < w2.heap.size := S2.lt
      have s0 := S2.cell 0
      have s1 := S2.cell 1
      have HS2 := Lib.hid S2
      simp only [List.getElem?_toArray, List.getElem?_cons_zero, List.getElem?_cons_succ] at s0 s1
      clear hb S2 HC HS1
      by_cases hff : 1 ≤ f ∧ f ≤ 14
      · obtain ⟨f0, f1⟩ := hff
        obtain ⟨n, rfl⟩ : ∃ n : Nat, parts = n := ⟨parts.toNat, by have := (specErr_zero he).1; omega⟩
        have hn1 : 1 ≤ n := by have := (specErr_zero he).1; omega
        have hn2 : n ≤ 256 := by have := (specErr_zero he).2.1; omega
        have Hk := Lib.hid (fun k (k0 : 1 ≤ k) (k1 : k ≤ 14) => rank_ok (f := k) he k0 k1)
        have He := Lib.hid he
        clear he
        obtain ⟨W3, hW3⟩ : ∃ W3, W3 = w2.alloc (.cells #[.int .u8 4, .int .u8 3, .int .u8 1, .int .u8 8] 52) := ⟨_, rfl⟩
        have HB3 := Lib.hid (show Below w.heap.size w W3 by rw [hW3]; exact HB2.out.alloc HB2.out.size _)
        have HP3 := Lib.hid (show Blk W3 w2.heap.size 52 #[.int .u8 4, .int .u8 3, .int .u8 1, .int .u8 8] by rw [hW3]; exact Blk.new _ _ _)
        have HS3 := Lib.hid (show Blk W3 w.heap.size 48 #[.int .i64 n, .slice A rows.length c] by rw [hW3]; exact HS2.out.alloc _)
        have HW3 := Lib.hid hW3
        clear hW3
        go_wp2
        rw [← HW3.out]
        go_loopg [6] 2 (fun g s wr => ∃ i : Nat, i ≤ 2 ∧ g = 2 - i ∧ s = .int .i64 i ∧ Hid (Below w.heap.size w wr) ∧ Hid (Blk wr w2.heap.size 52 #[.int .u8 4, .int .u8 3, .int .u8 1, .int .u8 8]) ∧ Hid (Blk wr w.heap.size 48 #[.int .i64 n, .slice A rows.length c]))
        case atStart => exact ⟨0, by decide, rfl, rfl, HB3.out, HP3.out, HS3.out⟩
        case round =>
          obtain ⟨i, hi, hg, rfl, hb, hp, hs⟩ := hrel
          have Hg := Lib.hid hg
          clear hg HB3 HP3 HS3
          by_cases hi2 : i < 2
          · have hpa : 1 ≤ pairA i ∧ pairA i ≤ 14 := by unfold pairA; split <;> omega
            have hpb : 1 ≤ pairB i ∧ pairB i ≤ 14 := by unfold pairB; split <;> omega
            have p0 : wr.cell? ⟨w2.heap.size, i * 2, none⟩ = some (.int .u8 (pairA i)) := by
              rw [hp.out.cell]
              rcases (show i = 0 ∨ i = 1 by omega) with rfl | rfl <;> rfl
            have p1 : wr.cell? ⟨w2.heap.size, i * 2 + 1, none⟩ = some (.int .u8 (pairB i)) := by
              rw [hp.out.cell]
              rcases (show i = 0 ∨ i = 1 by omega) with rfl | rfl <;> rfl
            have s0 := hs.out.cell 0
            have s1 := hs.out.cell 1
            simp only [List.getElem?_toArray, List.getElem?_cons_zero, List.getElem?_cons_succ] at s0 s1
            have Hal := Lib.hid (fun (k : Nat) (hk : k < n) => Rk.ranking_alike (sc := Rk.scoreAt (pairA i) rows) (sc' := Rk.scoreAt (pairB i) rows) (n := n) (p := k) (fun a b _ _ => pair_agree rows i hi2 a b) hk)
            have HA := Lib.hid (fun W hb => HRk.out (pairA i) (by omega) W hb)
            have HBk := Lib.hid (fun W hb => HRk.out (pairB i) (by omega) W hb)
            unfold RankPost at HA HBk
            rw [(Hk.out _ hpa.1 hpa.2).1, (Hk.out _ hpa.1 hpa.2).2] at HA
            rw [(Hk.out _ hpb.1 hpb.2).1, (Hk.out _ hpb.1 hpb.2).2] at HBk
            generalize pairA i = ka at *
            generalize pairB i = kb at *
            obtain ⟨wo, rfl⟩ : ∃ wo : World, wo = wr := ⟨_, rfl⟩
            have hlo := HB2.out.size
            have hls := hs.out.lt
            have hlp := hp.out.lt
            have HbO := Lib.hid hb.out
            go_wp2_with fail
            go_region_held3 (fun w' => w'.cell? ⟨w.heap.size, 0, none⟩ = some (.int .i64 n) ∧ w'.cell? ⟨w.heap.size, 1, none⟩ = some (.slice A rows.length c) ∧ w'.cell? ⟨w2.heap.size, i * 2, none⟩ = some (.int .u8 ka))
              (first
                | exact ⟨keepB hbA hls s0, keepB hbA hls s1, keepB hbA hlp p0⟩
                | go_keep)
              (first
                | (go_at_call 29
                   refine (HA.out _ (below_x HbO.out (by repeat (first | exact Below.refl _ _ | apply Below.drew)))).mono ?_
                   rintro e w4 ⟨va, rfl, hst, hbA0⟩
                   have hbA : Below wo.heap.size wo w4 := below_x (by repeat (first | exact Below.refl _ _ | apply Below.drew)) hbA0
                   obtain ⟨ga, ca, rfl, hga, hka⟩ := stns_form hst (by rw [Rk.ranking_length]; omega)
                   rw [Rk.ranking_length] at hka ⊢
                   have HkA := Lib.hid hka
                   clear hst hbA0 hka))
            have t0 := keepB hbA hls s0
            have t1 := keepB hbA hls s1
            have tp := keepB hbA hlp p1
            have hlsA : w.heap.size < w4.heap.size := Nat.lt_of_lt_of_le hls hbA.size
            have hlpA : w2.heap.size < w4.heap.size := Nat.lt_of_lt_of_le hlp hbA.size
            have HbA := Lib.hid (below_x HbO.out hbA)
            clear s0 s1 p0 p1
            go_wp2_with fail
            go_region_held3 (fun w' => w'.cell? ⟨w.heap.size, 0, none⟩ = some (.int .i64 n) ∧ w'.cell? ⟨w.heap.size, 1, none⟩ = some (.slice A rows.length c) ∧ w'.cell? ⟨w2.heap.size, i * 2 + 1, none⟩ = some (.int .u8 kb))
              (first
                | exact ⟨keepB hbB hlsA t0, keepB hbB hlsA t1, keepB hbB hlpA tp⟩
                | go_keep)
              (first
                | (go_at_call 29
                   refine (HBk.out _ (below_x HbA.out (by repeat (first | exact Below.refl _ _ | apply Below.drew)))).mono ?_
                   rintro e w5 ⟨vb, rfl, hst, hbB0⟩
                   have hbB : Below w4.heap.size w4 w5 := below_x (by repeat (first | exact Below.refl _ _ | apply Below.drew)) hbB0
                   obtain ⟨gb, cb, rfl, hgb, hkb⟩ := stns_form hst (by rw [Rk.ranking_length]; omega)
                   rw [Rk.ranking_length] at hkb ⊢
                   have HkB := Lib.hid hkb
                   clear hst hbB0 hkb))
            have u0 := keepB hbB hlsA t0
            have u1 := keepB hbB hlsA t1
            have HkA5 := Lib.hid (fun (p j : Nat) (hp : p < n) (hj : j < 5) => keepB hbB hga (HkA.out p j hp hj))
            have Hs5 := Lib.hid ((hs.out.below hbA hls).below hbB hlsA)
            have Hp5 := Lib.hid ((hp.out.below hbA hlp).below hbB hlpA)
            have HbB := Lib.hid (below_x HbA.out hbB)
            clear HkA t0 t1 tp
            go_wp2
            go_loopg [11] n (fun g s wr => ∃ k q : Nat, k ≤ n ∧ g = n - k ∧ s = .int .i64 k ∧ wr = w5.drewN q)
            case atStart => exact ⟨0, 0, Nat.zero_le _, rfl, rfl, rfl⟩
            case round =>
              obtain ⟨k, q, hk, hg2, rfl, rfl⟩ := hrel
              have Hg2 := Lib.hid hg2
              clear hg2
              by_cases hlt : k < n
              · obtain ⟨f0', f2'⟩ := Hal.out k hlt
                have e0 : fld ((Rk.ranking (Rk.scoreAt kb rows) n).getD k (0, (0, 0), 0, 0)) 0 = fld ((Rk.ranking (Rk.scoreAt ka rows) n).getD k (0, (0, 0), 0, 0)) 0 := (congrArg (fun x : Nat => (x : Int)) f0').symm
                have e3 : fld ((Rk.ranking (Rk.scoreAt kb rows) n).getD k (0, (0, 0), 0, 0)) 3 = fld ((Rk.ranking (Rk.scoreAt ka rows) n).getD k (0, (0, 0), 0, 0)) 3 := (congrArg Prod.fst f2').symm
                have e4 : fld ((Rk.ranking (Rk.scoreAt kb rows) n).getD k (0, (0, 0), 0, 0)) 4 = fld ((Rk.ranking (Rk.scoreAt ka rows) n).getD k (0, (0, 0), 0, 0)) 4 := (congrArg Prod.snd f2').symm
                have a0 := HkA5.out k 0 hlt (by decide)
                have a3 := HkA5.out k 3 hlt (by decide)
                have a4 := HkA5.out k 4 hlt (by decide)
                have b0 := HkB.out k 0 hlt (by decide)
                have b3 := HkB.out k 3 hlt (by decide)
                have b4 := HkB.out k 4 hlt (by decide)
                rw [e0] at b0
                rw [e3] at b3
                rw [e4] at b4
                rw [Nat.add_zero] at a0 b0
                clear e0 e3 e4 f0' f2'
                generalize fld ((Rk.ranking (Rk.scoreAt ka rows) n).getD k (0, (0, 0), 0, 0)) 0 = x0 at *
                generalize fld ((Rk.ranking (Rk.scoreAt ka rows) n).getD k (0, (0, 0), 0, 0)) 3 = x3 at *
                generalize fld ((Rk.ranking (Rk.scoreAt ka rows) n).getD k (0, (0, 0), 0, 0)) 4 = x4 at *
                have hkk : (k : Int) < (n : Int) := by omega
                go_wp2
                go_quiet (fail)
                go_wp2
                go_roundg (n - (k + 1))
                case rel => exact ⟨k + 1, _, hlt, rfl, by go_num, rfl⟩
                case measure => rw [Hg2.out]; omega
              · obtain rfl : k = n := by omega
                go_wp2
                go_roundg (2 - (i + 1))
                case rel => exact ⟨i + 1, hi2, rfl, by go_num, below_drewN HbB.out _, Hp5.out.drewN _, Hs5.out.drewN _⟩
                case measure => rw [Hg.out]; omega
          · obtain rfl : i = 2 := by omega
            have s0 := hs.out.cell 0
            have s1 := hs.out.cell 1
            simp only [List.getElem?_toArray, List.getElem?_cons_zero, List.getElem?_cons_succ] at s0 s1
            obtain ⟨wo, rfl⟩ : ∃ wo : World, wo = wr := ⟨_, rfl⟩
            have HT := Lib.hid (HTl.out wo hb.out)
            unfold TlsPost at HT
            rw [He.out, Int.toNat_natCast] at HT
            have HF := Lib.hid (fun W hb => HRk.out f hf W hb)
            unfold RankPost at HF
            rw [(Hk.out _ f0 f1).1, (Hk.out _ f0 f1).2] at HF
            have hls := hs.out.lt
            clear HRk HTl
            go_wp2_with fail
            refine HT.out.mono ?_
            rintro e w4 ⟨vt, rfl, hb4, _, ht4⟩
            obtain ⟨gt, rfl, hgt, ht⟩ := ht4 trivial
            have t0 := keepB hb4 hls s0
            have t1 := keepB hb4 hls s1
            have hls4 : w.heap.size < w4.heap.size := Nat.lt_of_lt_of_le hls hb4.size
            have Hb4 := Lib.hid (below_x hb.out hb4)
            have Ht := Lib.hid ht
            clear hb4 ht4 ht s0 s1 HT
            go_wp2_with fail
            refine (HF.out _ Hb4.out).mono ?_
            rintro e w5 ⟨va, rfl, hst, hb5⟩
            obtain ⟨ga, ca, rfl, hga, hka⟩ := stns_form hst (by rw [Rk.ranking_length]; omega)
            rw [Rk.ranking_length] at hka ⊢
            have HkA := Lib.hid hka
            have u0 := keepB hb5 hls4 t0
            have u1 := keepB hb5 hls4 t1
            have Hb5 := Lib.hid (below_x Hb4.out hb5)
            have Ht5 := Lib.hid (Ht.out.below hb5 Ht.out.lt)
            clear hst hka hb5 t0 t1 HF Ht
            go_wp2
            go_loopg [16] n (fun g s wr => ∃ k q : Nat, k ≤ n ∧ g = n - k ∧ s = .int .i64 k ∧ wr = w5.drewN q)
            case atStart => exact ⟨0, 0, Nat.zero_le _, rfl, rfl, rfl⟩
            case round =>
              obtain ⟨k, q, hk, hg2, rfl, rfl⟩ := hrel
              have Hg2 := Lib.hid hg2
              clear hg2
              by_cases hlt : k < n
              · obtain ⟨hcn, hgd⟩ := Rk.ranking_getD (sc := Rk.scoreAt f rows) hlt
                have a0 := HkA.out k 0 hlt (by decide)
                have a3 := HkA.out k 3 hlt (by decide)
                rw [Nat.add_zero] at a0
                have e0 : fld ((Rk.ranking (Rk.scoreAt f rows) n).getD k (0, (0, 0), 0, 0)) 0 = (((Rk.order (Rk.scoreAt f rows) n).getD k 0 : Nat) : Int) := congrArg (fun x : Rk.Stn => ((x.1 : Nat) : Int)) hgd
                have e3 : fld ((Rk.ranking (Rk.scoreAt f rows) n).getD k (0, (0, 0), 0, 0)) 3 = 1 + (Rk.gtN (Rk.scoreAt f rows) n ((Rk.order (Rk.scoreAt f rows) n).getD k 0) : Int) := congrArg (fun x : Rk.Stn => x.2.2.1) hgd
                rw [e0] at a0
                rw [e3] at a3
                have Htop := Lib.hid (Rk.top_first f0 f1 rows n ((Rk.order (Rk.scoreAt f rows) n).getD k 0))
                clear e0 e3 hgd
                generalize (Rk.order (Rk.scoreAt f rows) n).getD k 0 = c at *
                have x0 : w5.cell? ⟨gt, c * 4, none⟩ = some (.int .i64 (Rk.tal rows c 0)) := Ht5.out.cell hcn (j := 0) (by decide)
                have x1 := Ht5.out.cell hcn (j := 1) (by decide)
                have x2 := Ht5.out.cell hcn (j := 2) (by decide)
                have hkk : (k : Int) < (n : Int) := by omega
                have hcc : (c : Int) < (n : Int) := by omega
                have hbest : (Rk.tal rows c 2 = 0 ∧ Rk.tal rows c 1 = 0 ∧ 0 < Rk.tal rows c 0 ∧ Rk.gtN (Rk.scoreAt f rows) n c = 0) ∨ (Rk.tal rows c 2 = 0 ∧ Rk.tal rows c 1 = 0 ∧ ¬ 0 < Rk.tal rows c 0) ∨ (Rk.tal rows c 2 = 0 ∧ Rk.tal rows c 1 ≠ 0) ∨ Rk.tal rows c 2 ≠ 0 := by
                  by_cases h2 : Rk.tal rows c 2 = 0
                  · by_cases h1 : Rk.tal rows c 1 = 0
                    · by_cases h0 : 0 < Rk.tal rows c 0
                      · exact .inl ⟨h2, h1, h0, Htop.out h2 h1 h0⟩
                      · exact .inr (.inl ⟨h2, h1, h0⟩)
                    · exact .inr (.inr (.inl ⟨h2, h1⟩))
                  · exact .inr (.inr (.inr h2))
                generalize Rk.tal rows c 0 = y0 at *
                generalize Rk.tal rows c 1 = y1 at *
                generalize Rk.tal rows c 2 = y2 at *
                generalize Rk.gtN (Rk.scoreAt f rows) n c = gn at *
                rcases hbest with ⟨rfl, rfl, h0, rfl⟩ | ⟨rfl, rfl, h0⟩ | ⟨rfl, h1⟩ | h2
                · have h0b : decide (0 < y0) = true := decide_eq_true h0
                  rw [show (1 : Int) + ((0 : Nat) : Int) = 1 from rfl] at a3
                  go_wp2
                  go_roundg (n - (k + 1))
                  case rel => exact ⟨k + 1, _, hlt, rfl, by go_num, rfl⟩
                  case measure => rw [Hg2.out]; omega
                · have h0b : decide (0 < y0) = false := decide_eq_false h0
                  go_wp2
                  go_roundg (n - (k + 1))
                  case rel => exact ⟨k + 1, _, hlt, rfl, by go_num, rfl⟩
                  case measure => rw [Hg2.out]; omega
                · have h1b : (y1 == 0) = false := by simpa using h1
                  go_wp2
                  go_roundg (n - (k + 1))
                  case rel => exact ⟨k + 1, _, hlt, rfl, by go_num, rfl⟩
                  case measure => rw [Hg2.out]; omega
                · have h2b : (y2 == 0) = false := by simpa using h2
                  go_wp2
                  go_roundg (n - (k + 1))
                  case rel => exact ⟨k + 1, _, hlt, rfl, by go_num, rfl⟩
                  case measure => rw [Hg2.out]; omega
              · go_wp2_with fail
                refine (HR.out _).mono ?_
                rintro e w6 ⟨rfl, hb6⟩
                go_wp2
                go_ret
                exact ⟨rfl, below_x (below_drewN Hb5.out q) hb6⟩
      · rcases (show f < 1 ∨ 1 ≤ f ∧ 14 < f by omega) with h1 | ⟨h1, h2⟩
        all_goals
          clear he
          go_wp2_with fail
          refine (HR.out _).mono ?_
          rintro e w3 ⟨rfl, hb⟩
          go_wp2
          go_ret
          exact ⟨rfl, below_x HB2.out hb⟩
    · have HC := HCk.out w1 HB.out
      have hne : (specErr parts rows != 0) = true := by simpa using he
      have HC := Lib.hid HC
      clear HCk he
      generalize specErr parts rows = er at *
      go_wp2_with fail
      refine HC.out.mono ?_
      rintro e w2 ⟨rfl, hb⟩
      have HB2 := Lib.hid (below_x HB.out hb)
      go_wp2_with fail
      refine (HR.out _).mono ?_
      rintro e w3 ⟨rfl, hb3⟩
      go_wp2
      go_ret
      exact ⟨rfl, below_x HB2.out hb3⟩
  · go_wp2_with fail
    refine (HR.out _).mono ?_
    rintro e w2 ⟨rfl, hb⟩
    go_wp2
    go_ret
    exact ⟨rfl, below_x HB.out hb⟩
end Go.Proofs.Ytfpmbjobieeidaa
