/-
  The walk of the reference's Effort.
  RankSpectra: valid spectra, tallies, rankings, groups and efforts, against the reference's.
  RankSpectra holds, for every input: the row.
-/
import Derived.Test.YtfpmbjobieeidaaGreatContains
import Derived.Test.YtfpmbjobieeidaaGreatRRank
import Derived.Test.YtfpmbjobieeidaaGreatHas
import Derived.Test.YtfpmbjobieeidaaGreatRTally
import Derived.Test.YtfpmbjobieeidaaGreatTals
import Derived.Test.YtfpmbjobieeidaaGreatSameRank
import Derived.Test.YtfpmbjobieeidaaGreatRSets
import Derived.Test.YtfpmbjobieeidaaGreatOpen
import Derived.Test.YtfpmbjobieeidaaGreatBw
import Derived.Lib.SmallJoins
namespace Go.Proofs.YtfpmbjobieeidaaGreat
open Go.RowKit

theorem Rk.order_getD {sc : Nat → Rk.Fr} {n i : Nat} (hi : i < n) : (Rk.order sc n).take (i + 1) = (Rk.order sc n).take i ++ [(Rk.order sc n).getD i 0] := by
  have hl : i < (Rk.order sc n).length := by rw [Rk.order_length]; exact hi
  rw [← List.take_append_getElem hl, List.getD_eq_getElem?_getD, List.getElem?_eq_getElem hl]
  rfl
theorem Rk.first_at {sc : Nat → Rk.Fr} {n i : Nat} {F : Nat → Bool} (hi : i < n) (h : ∀ p, p < i → F ((Rk.order sc n).getD p 0) = false) (hF : F ((Rk.order sc n).getD i 0) = true) : Rk.Top sc n F ((Rk.order sc n).getD i 0) := by
  have hl : i < (Rk.order sc n).length := by rw [Rk.order_length]; exact hi
  have e0 : ((Rk.order sc n).take i).filter F = [] := by
    rw [List.filter_eq_nil_iff]
    intro a ha
    obtain ⟨p, hp, rfl⟩ := List.mem_take_iff_getElem.1 ha
    have := h p (by omega)
    rw [List.getD_eq_getElem?_getD, List.getElem?_eq_getElem (by omega)] at this
    simp only [Option.getD_some] at this
    rw [this]; decide
  refine Rk.first_top (r := ((Rk.order sc n).drop (i + 1)).filter F) ?_
  have e : Rk.order sc n = (Rk.order sc n).take (i + 1) ++ (Rk.order sc n).drop (i + 1) := (List.take_append_drop _ _).symm
  rw [congrArg (List.filter F) e, List.filter_append, Rk.order_getD hi, List.filter_append, e0, List.filter_cons_of_pos hF]
  rfl
def Rk.cntE (sc : Nat → Rk.Fr) (n : Nat) (F : Nat → Bool) (c i : Nat) : Nat := ((Rk.order sc n).take i).countP fun k => decide (Rk.gtN sc n k = Rk.gtN sc n c) && F k
theorem Rk.cntE_succ {sc : Nat → Rk.Fr} {n i : Nat} (F : Nat → Bool) (c : Nat) (hi : i < n) : Rk.cntE sc n F c (i + 1) = Rk.cntE sc n F c i + if (decide (Rk.gtN sc n ((Rk.order sc n).getD i 0) = Rk.gtN sc n c) && F ((Rk.order sc n).getD i 0)) = true then 1 else 0 := by
  unfold Rk.cntE
  rw [Rk.order_getD hi, List.countP_append, List.countP_singleton]
theorem Rk.cntE_full {sc : Nat → Rk.Fr} {n c : Nat} {F : Nat → Bool} (h : Rk.Top sc n F c) : Rk.cntE sc n F c n = Rk.eqF sc n F c := by
  unfold Rk.cntE
  rw [List.take_of_length_le (by rw [Rk.order_length]; exact Nat.le_refl _), ← Rk.many_eq h, List.countP_filter]
theorem Rk.fault_at {sc : Nat → Rk.Fr} {n : Nat} {xs : List Int} (h0 : 0 < xs.length) (hi : Rk.Incr n xs) : ∃ i, i < n ∧ Rk.faultF xs ((Rk.order sc n).getD i 0) = true := by
  have ht := Rk.effC_top (sc := sc) h0 hi
  have hm : Rk.effC sc n (Rk.faultF xs) ∈ Rk.order sc n := by rw [(Rk.order_perm sc n).mem_iff, List.mem_range]; exact ht.1
  obtain ⟨i, hi, e⟩ := Rk.mem_getD (d := 0) hm
  exact ⟨i, by rw [Rk.order_length] at hi; exact hi, by rw [e]; exact ht.2.1⟩

theorem stns_form_ {w : World} {B : Nat} {v : Value} {l : List Rk.Stn} (h : Stns w B v l) (h0 : 0 < l.length) :
    ∃ g c, v = .slice (some ⟨g, 0, none⟩) l.length c ∧ g < B ∧ ∀ p j, p < l.length → j < 5 → w.cell? ⟨g, p * 5 + j, none⟩ = some (.int .i64 (fld (l.getD p (0, (0, 0), 0, 0)) j)) := by
  obtain ⟨A, c, e, _, hc⟩ := h
  obtain ⟨g, rfl, hg, hk⟩ := hc h0
  exact ⟨g, c, e, hg, hk⟩

set_option maxRecDepth 100000 in
set_option maxHeartbeats 2000000 in
theorem reffort_good (n f : Nat) (v : Value) (rows : List RowL) (u : Value) (xs : List Int) (B : Nat) (w : World) (hv : Rows w B v rows) (hu : Ints w B u xs) (hB : B ≤ w.heap.size) (hok : effOk n f rows xs) :
    Calls Tryz.prog 18 #[.agg #[.int .i64 n, v], .int .u8 f, u] w fun e w' => e = .returned (effV n f rows xs) ∧ Below w.heap.size w w' := by
  have Hok := Lib.hid hok
  obtain ⟨he, ⟨f0, f1⟩, hx0, hxi⟩ := hok
  obtain ⟨z0, z1, z2, z3⟩ := specErr_zero he
  have hn1 : 1 ≤ n := by omega
  have hn2 : n ≤ 256 := by omega
  have HR := Lib.hid (fun W (hb : Below w.heap.size w W) => rrank_any n f (by omega) v rows B W (hv.below (hb.mono hB)) (by have := hb.size; omega))
  unfold RankPost at HR
  have hre : rankErr n f rows = 0 := by unfold rankErr; rw [if_neg (by simpa using he), if_pos ⟨f0, f1⟩]
  have hro : rankOf n f rows = Rk.ranking (Rk.scoreAt f rows) n := by unfold rankOf; rw [hre, if_pos rfl]; rfl
  rw [hre, hro] at HR
  have HSt := Lib.hid (fun (m : Int) W (hb : Below w.heap.size w W) => set_any u xs m B W (hu.below (hb.mono hB)))
  have HSt2 := Lib.hid (fun W hb => HSt.out n W hb)
  rw [hxi] at HSt2
  have HH := Lib.hid (fun (c : Int) W (hb : Below w.heap.size w W) => has_any u xs c B W (hu.below (hb.mono hB)))
  have Hex := Lib.hid (Rk.fault_at (sc := Rk.scoreAt f rows) hx0 (of_decide_eq_true hxi))
  have hxn : ¬ xs = [] := by intro e; rw [e] at hx0; simp at hx0
  have hxz : ((xs.length : Int) == 0) = false := by simpa using hxn
  obtain ⟨A, cv, vs, rfl, j1, j2, j3, j4⟩ := hv
  obtain ⟨Ax, cx, rfl, k1, k2, hrx⟩ := hu
  have hxl : xs.length ≤ 17592186043904 := by omega
  clear j1 j2 j3 j4 k1 k2 hrx hB he z0 z1 z2 z3 hre hro HSt hxi
  obtain ⟨W0, hW0⟩ : ∃ W0, W0 = (w.alloc (.cells #[.int .i64 n, .slice A rows.length cv] 24)).alloc (.cells #[.int .i64 0, .int .i64 0] 45) := ⟨_, rfl⟩
  have HS0 := Lib.hid (show Blk W0 w.heap.size 24 #[.int .i64 n, .slice A rows.length cv] by rw [hW0]; exact (Blk.new w _ _).alloc _)
  have HR0 := Lib.hid (show Blk W0 (w.heap.size + 1) 45 #[.int .i64 0, .int .i64 0] by rw [hW0]; exact newBlk (by simp) _ _)
  have HL0 := Lib.hid (show Below w.heap.size w W0 by rw [hW0]; exact al2 w _ _)
  have HW0 := Lib.hid hW0
  have ltS := HS0.out.lt
  have ltR := HR0.out.lt
  clear hW0
  go_enter Tryz.func18, Tryz.ntmps18
  go_wp2_with fail
  rw [← HW0.out]
  refine (HR.out _ HL0.out).mono ?_
  rintro e w1 ⟨vl, rfl, hst, hb⟩
  obtain ⟨gl, cl, rfl, hgl, hkl⟩ := stns_form_ hst (by rw [Rk.ranking_length]; omega)
  rw [Rk.ranking_length] at hkl ⊢
  have HS1 := Lib.hid (HS0.out.below hb ltS)
  have HR1 := Lib.hid (HR0.out.below hb ltR)
  have HL1 := Lib.hid (below_x' HL0.out hb)
  have s0 := HS1.out.cell 0
  have lt1 := HS1.out.lt
  have ltr1 := HR1.out.lt
  simp only [List.getElem?_toArray, List.getElem?_cons_zero] at s0
  have HK := Lib.hid hkl
  clear hb hst hkl HR
  go_wp2_with fail
  refine (HSt2.out _ HL1.out).mono ?_
  rintro e w2 ⟨rfl, q, hq⟩
  have HS2 := Lib.hid (show Blk w2 w.heap.size 24 #[.int .i64 n, .slice A rows.length cv] by rw [hq]; exact HS1.out)
  have HR2 := Lib.hid (show Blk w2 (w.heap.size + 1) 45 #[.int .i64 0, .int .i64 0] by rw [hq]; exact HR1.out)
  have HL2 := Lib.hid (show Below w.heap.size w w2 by rw [hq]; exact below_drewN HL1.out q)
  have HK2 := Lib.hid (show ∀ p j, p < n → j < 5 → w2.cell? ⟨gl, p * 5 + j, none⟩ = some (.int .i64 (fld ((Rk.ranking (Rk.scoreAt f rows) n).getD p (0, (0, 0), 0, 0)) j)) by rw [hq]; exact HK.out)
  have ltr2 := HR2.out.lt
  clear hq HS1 HR1 HL1 HK s0 lt1 ltr1 hgl
  generalize hsc : Rk.scoreAt f rows = sc at *
  have Hsc := Lib.hid hsc
  clear hsc
  have HK3 := Lib.hid (fun (p : Nat) (hp : p < n) => show w2.cell? ⟨gl, p * 5, none⟩ = some (.int .i64 (((Rk.order sc n).getD p 0 : Nat) : Int)) ∧ w2.cell? ⟨gl, p * 5 + 2 + 1, none⟩ = some (.int .i64 (1 + (Rk.gtN sc n ((Rk.order sc n).getD p 0) : Int))) ∧ w2.cell? ⟨gl, p * 5 + 2 + 1 + 1, none⟩ = some (.int .i64 (Rk.geN sc n ((Rk.order sc n).getD p 0) : Int)) by
    have h := (Rk.ranking_getD (sc := sc) hp).2
    have h' : (Rk.ranking sc n).getD p (0, (0, 0), 0, 0) = Rk.stnOf sc n ((Rk.order sc n).getD p 0) := h
    have a0 := HK2.out p 0 hp (by decide)
    have a3 := HK2.out p 3 hp (by decide)
    have a4 := HK2.out p 4 hp (by decide)
    rw [h'] at a0 a3 a4
    exact ⟨a0, a3, a4⟩)
  clear HK2
  go_wp2
  go_loopg [12] n (fun g s wr => ∃ i : Nat, i < n ∧ g = n - i ∧ s = .int .i64 i ∧ Hid (∀ p, p < i → Rk.faultF xs ((Rk.order sc n).getD p 0) = false) ∧ wr = w2)
  case atStart => exact ⟨0, by omega, rfl, rfl, fun p h => absurd h (by omega), rfl⟩
  case round =>
    obtain ⟨i, hi, hg, rfl, hno, rfl⟩ := hrel
    have Hg := Lib.hid hg
    clear hg
    obtain ⟨a0, a3, a4⟩ := HK3.out i hi
    have HHi := Lib.hid (HH.out (((Rk.order sc n).getD i 0 : Nat) : Int) wr HL2.out)
    obtain ⟨bb, hbb⟩ : ∃ bb, bb = Rk.faultF xs ((Rk.order sc n).getD i 0) := ⟨_, rfl⟩
    rw [show decide ((((Rk.order sc n).getD i 0 : Nat) : Int) ∈ xs) = bb from hbb.symm] at HHi
    have hiz : (i : Int) < (n : Int) := by omega
    cases bb
    · have Hn := Lib.hid (show i + 1 < n ∧ ∀ p, p < i + 1 → Rk.faultF xs ((Rk.order sc n).getD p 0) = false by
        have h2 : ∀ p, p < i + 1 → Rk.faultF xs ((Rk.order sc n).getD p 0) = false := fun p h => by
          by_cases e : p = i
          · rw [e]; exact hbb.symm
          · exact hno.out p (by omega)
        obtain ⟨i0, h3, h4⟩ := Hex.out
        refine ⟨?_, h2⟩
        rcases Nat.lt_or_ge i0 (i + 1) with h | h
        · rw [h2 i0 h] at h4; cases h4
        · omega)
      clear hbb hno a3 a4
      generalize (Rk.order sc n).getD i 0 = pt at *
      go_wp2_with fail
      refine HHi.out.mono ?_
      rintro e w3 ⟨rfl, rfl⟩
      go_wp2
      go_roundg (n - (i + 1))
      case rel => exact ⟨i + 1, Hn.out.1, rfl, by go_num, Hn.out.2, rfl⟩
      case measure => rw [Hg.out]; omega
    · have Ht := Lib.hid (Rk.first_at hi hno.out hbb.symm)
      obtain ⟨c, hc⟩ : ∃ c, c = (Rk.order sc n).getD i 0 := ⟨_, rfl⟩
      rw [← hc] at Ht a0 a3 a4 HHi
      have hge := Rk.geN_eq sc n c
      have hle := Rk.geN_le sc n c
      obtain ⟨b, hb⟩ : ∃ b, b = Rk.gtN sc n c := ⟨_, rfl⟩
      obtain ⟨t, ht⟩ : ∃ t, t = Rk.eqN sc n c := ⟨_, rfl⟩
      have HQ := Lib.hid (And.intro hb ht)
      rw [← hb] at a3
      rw [hge, ← hb, ← ht] at a4
      have hbt : b + t ≤ n := by omega
      obtain ⟨X3, hX3⟩ : ∃ X3 : Int, X3 = 1 + (b : Int) := ⟨_, rfl⟩
      obtain ⟨X4, hX4⟩ : ∃ X4 : Int, X4 = ((b + t : Nat) : Int) := ⟨_, rfl⟩
      rw [← hX3] at a3
      rw [← hX4] at a4
      have HX := Lib.hid (And.intro hX3 hX4)
      have x1 : 1 ≤ X3 := by omega
      have x2 : X3 ≤ 257 := by omega
      have x3 : 0 ≤ X4 := by omega
      have x4 : X4 ≤ 256 := by omega
      have Hc := Lib.hid hc
      clear hge hle hb ht hX3 hX4 hc hbb hno
      go_wp2_with fail
      refine HHi.out.mono ?_
      rintro e w3 ⟨rfl, rfl⟩
      go_wp2
      go_quiet (fail)
      go_wp2
      rw [show X3 - 1 = (b : Int) by have := HX.out.1; omega, show X4 - X3 + 1 = (t : Int) by have := HX.out; omega]
      go_loopg [15, 16] n (fun g s15 s16 wy => ∃ (j k q : Nat), j ≤ n ∧ g = n - j ∧ s15 = .int .i64 k ∧ s16 = .int .i64 j ∧ k ≤ j ∧ Hid (Rk.cntE sc n (Rk.faultF xs) c j = k) ∧ wy = wr.drewN q)
      case atStart => exact ⟨0, 0, _, Nat.zero_le _, rfl, rfl, rfl, Nat.le_refl _, by simp [Rk.cntE, Lib.hid], rfl⟩
      case round =>
        obtain ⟨j, k, q, hj, hg2, rfl, rfl, hkj, hcnt, rfl⟩ := hrel
        have Hg2 := Lib.hid hg2
        clear hg2
        by_cases hjn : j < n
        · obtain ⟨d0, d3, d4⟩ := HK3.out j hjn
          have hsu := Rk.cntE_succ (sc := sc) (Rk.faultF xs) c hjn
          rw [hcnt.out] at hsu
          have HHj := Lib.hid (fun m => HH.out (((Rk.order sc n).getD j 0 : Nat) : Int) (wr.drewN m) (below_drewN HL2.out m))
          obtain ⟨eb, heb⟩ : ∃ eb, eb = decide (Rk.gtN sc n ((Rk.order sc n).getD j 0) = Rk.gtN sc n c) := ⟨_, rfl⟩
          obtain ⟨fb, hfb⟩ : ∃ fb, fb = Rk.faultF xs ((Rk.order sc n).getD j 0) := ⟨_, rfl⟩
          rw [← heb, ← hfb] at hsu
          rw [show decide ((((Rk.order sc n).getD j 0 : Nat) : Int) ∈ xs) = fb from hfb.symm] at HHj
          have heb' : ((1 + (Rk.gtN sc n ((Rk.order sc n).getD j 0) : Int)) == X3) = eb := by
            rw [heb, HX.out.1, HQ.out.1]
            exact decide_eq_decide.2 (by omega)
          have Hsu := Lib.hid hsu
          have hjz : (j : Int) < (n : Int) := by omega
          clear heb hfb hsu d4
          generalize 1 + (Rk.gtN sc n ((Rk.order sc n).getD j 0) : Int) = X5 at *
          generalize (Rk.order sc n).getD j 0 = pt at *
          cases eb
          · have hk0 := Hsu.out
            simp only [Bool.false_and, Bool.false_eq_true, if_false] at hk0
            have Hk := Lib.hid hk0
            clear hk0 Hsu
            go_wp2
            go_quiet ((go_at_call 51; refine (HHj.out _).mono ?_; rintro e w2 ⟨h1, h2⟩; exact ⟨h1, _, h2.symm⟩))
            go_wp2
            go_roundg (n - (j + 1))
            case rel => exact ⟨j + 1, k, _, hjn, rfl, rfl, by go_num, by omega, Hk, rfl⟩
            case measure => rw [Hg2.out]; omega
          · cases fb
            · have hk0 := Hsu.out
              simp only [Bool.and_false, Bool.false_eq_true, if_false] at hk0
              have Hk := Lib.hid hk0
              clear hk0 Hsu
              go_wp2
              go_quiet ((go_at_call 51; refine (HHj.out _).mono ?_; rintro e w2 ⟨h1, h2⟩; exact ⟨h1, _, h2.symm⟩))
              go_wp2
              go_roundg (n - (j + 1))
              case rel => exact ⟨j + 1, k, _, hjn, rfl, rfl, by go_num, by omega, Hk, rfl⟩
              case measure => rw [Hg2.out]; omega
            · have hk0 := Hsu.out
              simp only [Bool.and_true, if_true] at hk0
              have Hk := Lib.hid hk0
              clear hk0 Hsu
              go_wp2
              go_quiet ((go_at_call 51; refine (HHj.out _).mono ?_; rintro e w2 ⟨h1, h2⟩; exact ⟨h1, _, h2.symm⟩))
              go_wp2
              go_roundg (n - (j + 1))
              case rel => exact ⟨j + 1, k + 1, _, hjn, rfl, by go_num, by go_num, by omega, Hk, rfl⟩
              case measure => rw [Hg2.out]; omega
        · obtain rfl : j = n := by omega
          have hcn := hcnt.out
          rw [Rk.cntE_full Ht.out] at hcn
          have hkt : k ≤ t := by have h1 := Rk.eqF_le sc j (Rk.faultF xs) c; rw [hcn] at h1; have := HQ.out.2; omega
          have Hcn := Lib.hid hcn
          clear hcn hcnt
          have HO1 := Lib.hid (fun W => rby_any (b : Int) 1 W (by omega) (by omega))
          have HO2 := Lib.hid (fun W => rby_any ((t : Int) + 1) ((k : Int) + 1) W (by omega) (by omega))
          have HPl := Lib.hid (fun W => rplus_any (Rk.ov (b : Int) 1) (Rk.ov ((t : Int) + 1) ((k : Int) + 1)) (Rk.ov_sm (by omega) (by omega)) (Rk.ov_sm (by omega) (by omega)) W)
          unfold FvPost at HO1 HO2 HPl
          obtain ⟨w5, hw5⟩ : ∃ w5, w5 = wr.drewN q := ⟨_, rfl⟩
          have HR5 := Lib.hid (show Blk w5 (w.heap.size + 1) 45 #[.int .i64 0, .int .i64 0] by rw [hw5]; exact HR2.out)
          have HL5 := Lib.hid (show Below w.heap.size w w5 by rw [hw5]; exact below_drewN HL2.out q)
          rw [← hw5]
          clear hw5
          go_wp2_with fail
          refine (HO1.out _).mono ?_
          rintro e w8 ⟨rfl, hb8⟩
          have Hb8 := Lib.hid (below_x' HL5.out hb8)
          have HR9 := Lib.hid (HR5.out.below hb8 HR5.out.lt)
          clear hb8
          go_wp2_with fail
          refine (HO2.out _).mono ?_
          rintro e w9 ⟨rfl, hb9⟩
          have Hb9 := Lib.hid (below_x' Hb8.out hb9)
          have HR10 := Lib.hid (HR9.out.below hb9 HR9.out.lt)
          clear hb9 HR9
          go_wp2_with fail
          refine (HPl.out _).mono ?_
          rintro e w10 ⟨rfl, hb10⟩
          have Hb10 := Lib.hid (below_x' Hb9.out hb10)
          have HR11 := Lib.hid (HR10.out.below hb10 HR10.out.lt)
          clear hb10 HR10 HO1 HO2 HPl
          have Hm := Lib.hid (show Rk.pl (Rk.ov (b : Int) 1) (Rk.ov ((t : Int) + 1) ((k : Int) + 1)) = Rk.mean b t k from rfl)
          rw [Hm.out]
          obtain ⟨m1, m2, hm⟩ : ∃ m1 m2, Rk.mean b t k = (m1, m2) := ⟨_, _, rfl⟩
          rw [hm]
          have HM := Lib.hid hm
          clear hm
          unfold fv
          have c0 := HR11.out.cell 0
          have c1 := HR11.out.cell 1
          have f0' := HR11.out.frozen 0
          have f1' := HR11.out.frozen 1
          have lt11 := HR11.out.lt
          simp only [List.getElem?_toArray, List.getElem?_cons_zero, List.getElem?_cons_succ] at c0 c1
          go_wp2
          have K := st2 HR11.out (.int .i64 m1) (.int .i64 m2)
          have k0 := K.cell 0
          have k1 := K.cell 1
          simp only [List.getElem?_toArray, List.getElem?_cons_zero, List.getElem?_cons_succ] at k0 k1
          refine bodyPost_ret (v := .tuple #[.int .i64 ((b : Int) + 1), .int .i64 ((b : Int) + (t : Int) - (k : Int) + 1), .agg #[.int .i64 m1, .int .i64 m2], .int .i64 0]) (by simp [results, Tryz.results18, go_sem, k0, k1]) rfl ⟨?_, below_st2 Hb10.out (by omega) Hb10.out.size _ _⟩
          rw [effV_yes Hok.out (c := c) (by rw [Hsc.out]; exact Ht.out)]
          unfold effYes
          rw [Hsc.out, ← HQ.out.1, ← HQ.out.2, Hcn.out, HM.out]
          rfl

set_option maxRecDepth 100000 in
set_option maxHeartbeats 1000000 in
theorem reffort_all (parts : Int) (f : Nat) (hf : f < 256) (v : Value) (rows : List RowL) (u : Value) (xs : List Int) (B : Nat) (w : World) (hv : Rows w B v rows) (hu : Ints w B u xs) (hB : B ≤ w.heap.size) :
    Calls Tryz.prog 18 #[.agg #[.int .i64 parts, v], .int .u8 f, u] w fun e w' => e = .returned (effV parts f rows xs) ∧ Below w.heap.size w w' := by
  by_cases hok : effOk parts f rows xs
  · obtain ⟨n, rfl⟩ : ∃ n : Nat, parts = n := ⟨parts.toNat, by have := (specErr_zero hok.1).1; omega⟩
    exact reffort_good n f v rows u xs B w hv hu hB hok
  have HR := Lib.hid (fun W (hb : Below w.heap.size w W) => rrank_any parts f hf v rows B W (hv.below (hb.mono hB)) (by have := hb.size; omega))
  unfold RankPost at HR
  have HSt := Lib.hid (fun (m : Int) W (hb : Below w.heap.size w W) => set_any u xs m B W (hu.below (hb.mono hB)))
  have Hv := Lib.hid (show effV parts f rows xs = .tuple #[.int .i64 0, .int .i64 0, .agg #[.int .i64 0, .int .i64 0], .int .i64 (effErr parts f rows xs)] from if_neg hok)
  rw [Hv.out]
  obtain ⟨A, cv, vs, rfl, j1, j2, j3, j4⟩ := hv
  obtain ⟨Ax, cx, rfl, k1, k2, hrx⟩ := hu
  have hxl : xs.length ≤ 17592186043904 := by omega
  clear j1 j2 j3 j4 k1 k2 hrx hB
  obtain ⟨W0, hW0⟩ : ∃ W0, W0 = (w.alloc (.cells #[.int .i64 parts, .slice A rows.length cv] 24)).alloc (.cells #[.int .i64 0, .int .i64 0] 45) := ⟨_, rfl⟩
  have HS0 := Lib.hid (show Blk W0 w.heap.size 24 #[.int .i64 parts, .slice A rows.length cv] by rw [hW0]; exact (Blk.new w _ _).alloc _)
  have HR0 := Lib.hid (show Blk W0 (w.heap.size + 1) 45 #[.int .i64 0, .int .i64 0] by rw [hW0]; exact newBlk (by simp) _ _)
  have HL0 := Lib.hid (show Below w.heap.size w W0 by rw [hW0]; exact al2 w _ _)
  have HW0 := Lib.hid hW0
  have ltS := HS0.out.lt
  have ltR := HR0.out.lt
  clear hW0
  by_cases h : rankErr parts f rows = 0
  · have hs : specErr parts rows = 0 := by
      unfold rankErr at h
      by_cases h2 : specErr parts rows = 0
      · exact h2
      · rw [if_pos h2] at h; exact absurd h h2
    have hff : 1 ≤ f ∧ f ≤ 14 := by
      unfold rankErr at h
      rw [if_neg (by simpa using hs)] at h
      by_cases h2 : 1 ≤ f ∧ f ≤ 14
      · exact h2
      · rw [if_neg h2] at h; cases h
    have Her := Lib.hid (show effErr parts f rows xs = 1 by unfold effErr; rw [if_neg (by simpa using hs), if_neg hok])
    have Hno := Lib.hid (show xs.length = 0 ∨ 0 < xs.length ∧ Rk.incr parts xs = false by
      by_cases h2 : 0 < xs.length
      · refine .inr ⟨h2, ?_⟩
        cases h3 : Rk.incr parts xs
        · rfl
        · exact absurd ⟨hs, hff, h2, h3⟩ hok
      · exact .inl (by omega))
    rw [h] at HR
    clear h hok hs
    rw [Her.out]
    rcases Hno.out with hx | ⟨hx, hxi⟩
    · have hxz : ((xs.length : Int) == 0) = true := by rw [hx]; rfl
      have hxn : xs = [] := List.eq_nil_of_length_eq_zero hx
      clear hx
      go_enter Tryz.func18, Tryz.ntmps18
      go_wp2_with fail
      rw [← HW0.out]
      refine (HR.out _ HL0.out).mono ?_
      rintro e w1 ⟨vl, rfl, hst, hb⟩
      have HR1 := Lib.hid (HR0.out.below hb ltR)
      have HL1 := Lib.hid (below_x' HL0.out hb)
      clear hb hst HR
      have c0 := HR1.out.cell 0
      have c1 := HR1.out.cell 1
      have b2 := HR1.out.frozen 0
      have b3 := HR1.out.frozen 1
      have b4 := HR1.out.lt
      simp only [List.getElem?_toArray, List.getElem?_cons_zero, List.getElem?_cons_succ] at c0 c1
      go_wp2
      have K := st2 HR1.out (.int .i64 0) (.int .i64 0)
      have k0 := K.cell 0
      have k1 := K.cell 1
      simp only [List.getElem?_toArray, List.getElem?_cons_zero, List.getElem?_cons_succ] at k0 k1
      refine bodyPost_ret (v := .tuple #[.int .i64 0, .int .i64 0, .agg #[.int .i64 0, .int .i64 0], .int .i64 1]) (by simp [results, Tryz.results18, go_sem, k0, k1]) rfl ⟨rfl, below_st2 HL1.out (by omega) HL1.out.size _ _⟩
    · have hxn : ¬ xs = [] := by intro e; rw [e] at hx; simp at hx
      have hxz : ((xs.length : Int) == 0) = false := by simpa using hxn
      have HSt2 := Lib.hid (fun W hb => HSt.out parts W hb)
      rw [hxi] at HSt2
      clear hxi
      go_enter Tryz.func18, Tryz.ntmps18
      go_wp2_with fail
      rw [← HW0.out]
      refine (HR.out _ HL0.out).mono ?_
      rintro e w1 ⟨vl, rfl, hst, hb⟩
      have HS1 := Lib.hid (HS0.out.below hb ltS)
      have HR1 := Lib.hid (HR0.out.below hb ltR)
      have HL1 := Lib.hid (below_x' HL0.out hb)
      have s0 := HS1.out.cell 0
      have lt1 := HS1.out.lt
      simp only [List.getElem?_toArray, List.getElem?_cons_zero] at s0
      clear hb hst HR
      go_wp2_with fail
      refine (HSt2.out _ HL1.out).mono ?_
      rintro e w2 ⟨rfl, q, hq⟩
      have HR2 := Lib.hid (show Blk w2 (w.heap.size + 1) 45 #[.int .i64 0, .int .i64 0] by rw [hq]; exact HR1.out)
      have HL2 := Lib.hid (show Below w.heap.size w w2 by rw [hq]; exact below_drewN HL1.out q)
      clear hq s0 lt1 HR1 HS1
      have c0 := HR2.out.cell 0
      have c1 := HR2.out.cell 1
      have b2 := HR2.out.frozen 0
      have b3 := HR2.out.frozen 1
      have b4 := HR2.out.lt
      simp only [List.getElem?_toArray, List.getElem?_cons_zero, List.getElem?_cons_succ] at c0 c1
      go_wp2
      have K := st2 HR2.out (.int .i64 0) (.int .i64 0)
      have k0 := K.cell 0
      have k1 := K.cell 1
      simp only [List.getElem?_toArray, List.getElem?_cons_zero, List.getElem?_cons_succ] at k0 k1
      refine bodyPost_ret (v := .tuple #[.int .i64 0, .int .i64 0, .agg #[.int .i64 0, .int .i64 0], .int .i64 1]) (by simp [results, Tryz.results18, go_sem, k0, k1]) rfl ⟨rfl, below_st2 HL2.out (by omega) HL2.out.size _ _⟩
  · have Her := Lib.hid (show effErr parts f rows xs = rankErr parts f rows by
      unfold effErr
      by_cases h2 : specErr parts rows = 0
      · have hff : ¬ (1 ≤ f ∧ f ≤ 14) := fun h3 => h (by unfold rankErr; rw [if_neg (by simpa using h2), if_pos h3])
        rw [if_neg (by simpa using h2), if_neg hok]
        unfold rankErr
        rw [if_neg (by simpa using h2), if_neg hff]
      · rw [if_pos h2]; unfold rankErr; rw [if_pos h2])
    have hne : (rankErr parts f rows != 0) = true := by simpa using h
    rw [Her.out]
    obtain ⟨err, herr⟩ : ∃ err, rankErr parts f rows = err := ⟨_, rfl⟩
    rw [herr] at hne HR ⊢
    clear h hok herr
    go_enter Tryz.func18, Tryz.ntmps18
    go_wp2_with fail
    rw [← HW0.out]
    refine (HR.out _ HL0.out).mono ?_
    rintro e w1 ⟨vl, rfl, hst, hb⟩
    have HR1 := Lib.hid (HR0.out.below hb ltR)
    have HL1 := Lib.hid (below_x' HL0.out hb)
    clear hb hst HR
    have c0 := HR1.out.cell 0
    have c1 := HR1.out.cell 1
    have b2 := HR1.out.frozen 0
    have b3 := HR1.out.frozen 1
    have b4 := HR1.out.lt
    simp only [List.getElem?_toArray, List.getElem?_cons_zero, List.getElem?_cons_succ] at c0 c1
    go_wp2
    have K := st2 HR1.out (.int .i64 0) (.int .i64 0)
    have k0 := K.cell 0
    have k1 := K.cell 1
    simp only [List.getElem?_toArray, List.getElem?_cons_zero, List.getElem?_cons_succ] at k0 k1
    refine bodyPost_ret (v := .tuple #[.int .i64 0, .int .i64 0, .agg #[.int .i64 0, .int .i64 0], .int .i64 err]) (by simp [results, Tryz.results18, go_sem, k0, k1]) rfl ⟨rfl, below_st2 HL1.out (by omega) HL1.out.size _ _⟩
end Go.Proofs.YtfpmbjobieeidaaGreat
namespace Go.Proofs.YtfpmbjobieeidaaGreat
open Go.RowKit

theorem stns_more' {w w' : World} {v : Value} {l : List Rk.Stn} (h : Stns w w.heap.size v l) (hb : Below w.heap.size w w') : Stns w' w'.heap.size v l := by
  obtain ⟨A, c, e, hl, hc⟩ := h
  refine ⟨A, c, e, hl, fun h0 => ?_⟩
  obtain ⟨g, e, hg, hk⟩ := hc h0
  exact ⟨g, e, Nat.lt_of_lt_of_le hg hb.size, fun p j hp hj => (hb.cell hg).trans (hk p j hp hj)⟩
theorem effV_form (parts : Int) (f : Nat) (rows : List RowL) (xs : List Int) : ∃ a b m1 m2 er : Int, effV parts f rows xs = .tuple #[.int .i64 a, .int .i64 b, .agg #[.int .i64 m1, .int .i64 m2], .int .i64 er] := by
  unfold effV
  split
  · exact ⟨_, _, _, _, _, rfl⟩
  · exact ⟨_, _, _, _, _, rfl⟩
/-- The value reads as so many tallies. -/
def Tlys (w : World) (m : Nat) (rows : List RowL) (v : Value) : Prop := ∃ A c, v = .slice A m c ∧ ∀ i, i < m → ∃ g, A = some ⟨g, 0, none⟩ ∧ g < w.heap.size ∧ ∀ j, j < 4 → w.cell? ⟨g, i * 4 + j, none⟩ = some (.int .i64 (Rk.tal rows i j))
theorem Tlys.below {w w' : World} {m : Nat} {rows : List RowL} {v : Value} (h : Tlys w m rows v) (hb : Below w.heap.size w w') : Tlys w' m rows v := by
  obtain ⟨A, c, e, hc⟩ := h
  refine ⟨A, c, e, fun i hi => ?_⟩
  obtain ⟨g, e, hg, hk⟩ := hc i hi
  exact ⟨g, e, Nat.lt_of_lt_of_le hg hb.size, fun j hj => (hb.cell hg).trans (hk j hj)⟩
def howMany (parts : Int) (rows : List RowL) : Nat := if specErr parts rows = 0 then parts.toNat else 0

set_option maxRecDepth 100000 in
set_option maxHeartbeats 2000000 in
theorem rankSpectra_any (parts : Int) (v : Value) (rows : List RowL) (f : Nat) (hf : f < 256) (u : Value) (xs : List Int) (B : Nat) (w : World) (hv : Rows w B v rows) (hu : Ints w B u xs) (hB : B ≤ w.heap.size) :
    Calls Tryz.prog 3 #[.agg #[.int .i64 parts, v], .int .u8 f, u] w fun e w' => e = .returned (.bool true) ∧ Below w.heap.size w w' := by
  have HR := Lib.hid ranks_any
  have HWd := Lib.hid (fun W (hb : Below w.heap.size w W) => wide_any parts v rows B W (hv.below (hb.mono hB)) (by have := hb.size; omega))
  have HC1 := Lib.hid (fun W (hb : Below w.heap.size w W) => checkspectrum_any parts v rows B W (hv.below (hb.mono hB)) (by have := hb.size; omega))
  have HC2 := Lib.hid (fun W (hb : Below w.heap.size w W) => rcheckspectrum_any parts v rows B W (hv.below (hb.mono hB)) (by have := hb.size; omega))
  have HT1 := Lib.hid (fun W (hb : Below w.heap.size w W) => show Calls Tryz.prog 7 #[.agg #[.int .i64 parts, v]] W fun e w' => ∃ v', e = .returned (.tuple #[v', .int .i64 (specErr parts rows)]) ∧ Tlys w' (howMany parts rows) rows v' ∧ Below W.heap.size W w' from
    (tals_any parts v rows B W (hv.below (hb.mono hB)) (by have := hb.size; omega)).mono (by
      rintro e w' ⟨v', he, hb', h0, h1⟩
      refine ⟨v', he, ?_, hb'⟩
      unfold howMany
      by_cases hs : specErr parts rows = 0
      · obtain ⟨g, e1, _, ht⟩ := h1 hs
        rw [if_pos hs]
        exact ⟨_, _, e1, fun i hi => ⟨g, rfl, ht.lt, fun j hj => ht.cell hi hj⟩⟩
      · rw [if_neg hs]
        exact ⟨_, _, h0 hs, fun i hi => absurd hi (by omega)⟩))
  have HT2 := Lib.hid (fun W (hb : Below w.heap.size w W) => show Calls Tryz.prog 8 #[.agg #[.int .i64 parts, v]] W fun e w' => ∃ v', e = .returned (.tuple #[v', .int .i64 (specErr parts rows)]) ∧ Tlys w' (howMany parts rows) rows v' ∧ Below W.heap.size W w' from
    (rtals_any parts v rows B W (hv.below (hb.mono hB)) (by have := hb.size; omega)).mono (by
      rintro e w' ⟨v', he, hb', h0, h1⟩
      refine ⟨v', he, ?_, hb'⟩
      unfold howMany
      by_cases hs : specErr parts rows = 0
      · obtain ⟨g, c, e1, _, hg, ht⟩ := h1 hs
        rw [if_pos hs]
        exact ⟨_, _, e1, fun i hi => ⟨g, rfl, hg, fun j hj => ht i j hi hj⟩⟩
      · rw [if_neg hs]
        exact ⟨_, _, h0 hs, fun i hi => absurd hi (by omega)⟩))
  have HRk1 := Lib.hid (fun W (hb : Below w.heap.size w W) => rank_any parts f hf v rows B W (hv.below (hb.mono hB)) (by have := hb.size; omega))
  have HRk2 := Lib.hid (fun W (hb : Below w.heap.size w W) => rrank_any parts f hf v rows B W (hv.below (hb.mono hB)) (by have := hb.size; omega))
  have HA1 := Lib.hid (fun W (hb : Below w.heap.size w W) => alike_any parts v rows B W (hv.below (hb.mono hB)) (by have := hb.size; omega))
  have HA2 := Lib.hid (fun W (hb : Below w.heap.size w W) => ralike_any parts v rows B W (hv.below (hb.mono hB)) (by have := hb.size; omega))
  have HE1 := Lib.hid (fun W (hb : Below w.heap.size w W) => effort_all parts f hf v rows u xs B W (hv.below (hb.mono hB)) (hu.below (hb.mono hB)) (by have := hb.size; omega))
  have HE2 := Lib.hid (fun W (hb : Below w.heap.size w W) => reffort_all parts f hf v rows u xs B W (hv.below (hb.mono hB)) (hu.below (hb.mono hB)) (by have := hb.size; omega))
  unfold RankPost at HRk1 HRk2
  unfold AlkPost at HA1 HA2
  have hm : howMany parts rows ≤ 256 := by
    unfold howMany
    by_cases hs : specErr parts rows = 0
    · rw [if_pos hs]; have := (specErr_zero hs).2.1; omega
    · rw [if_neg hs]; omega
  obtain ⟨a, b, m1, m2, er, hev⟩ := effV_form parts f rows xs
  rw [hev] at HE1 HE2
  obtain ⟨A, c, vs, rfl, j1, j2, j3, j4⟩ := hv
  obtain ⟨Ax, cx, rfl, k1, k2, hrx⟩ := hu
  have hxl : xs.length ≤ 17592186043904 := by omega
  clear j1 j2 j3 j4 k1 k2 hrx hB hev
  generalize howMany parts rows = m at *
  generalize specErr parts rows = err at *
  generalize rankErr parts f rows = rerr at *
  generalize rankOf parts f rows = rl at *
  generalize alkOf parts rows = G at *
  go_enter Tryz.func3, Tryz.ntmps3
  go_wp2_with fail
  refine (HWd.out _ (al1r _ _)).mono ?_
  rintro e w1 ⟨⟨b0, rfl⟩, hb⟩
  have S1 : Blk w1 w.heap.size 24 #[.int .i64 parts, .slice A rows.length c] := (Blk.new w _ _).below hb (by simp)
  have HB1 := Lib.hid (below_x' (al1r w _) hb)
  have lt1 : w.heap.size < w1.heap.size := S1.lt
  have s0 := S1.cell 0
  have s1 := S1.cell 1
  have HS1 := Lib.hid S1
  simp only [List.getElem?_toArray, List.getElem?_cons_zero, List.getElem?_cons_succ] at s0 s1
  clear hb HWd S1
  cases b0
  rotate_left
  · go_wp2_with fail
    refine (HR.out _).mono ?_
    rintro e w2 ⟨rfl, hb⟩
    go_wp2
    go_ret
    exact ⟨rfl, below_x' HB1.out hb⟩
  by_cases h60 : 60 < xs.length
  · have z1 : decide ((60 : Int) < (xs.length : Int)) = true := decide_eq_true (by omega)
    go_wp2_with fail
    refine (HR.out _).mono ?_
    rintro e w2 ⟨rfl, hb⟩
    go_wp2
    go_ret
    exact ⟨rfl, below_x' HB1.out hb⟩
  have z1 : decide ((60 : Int) < (xs.length : Int)) = false := decide_eq_false (by omega)
  go_wp2_with fail
  refine (HT1.out _ HB1.out).mono ?_
  rintro e w2 ⟨v7, rfl, ht7, hb⟩
  have HS2 := Lib.hid (HS1.out.below hb lt1)
  have HB2 := Lib.hid (below_x' HB1.out hb)
  have HT7 := Lib.hid ht7
  have lt2 := HS2.out.lt
  have s0 := HS2.out.cell 0
  have s1 := HS2.out.cell 1
  simp only [List.getElem?_toArray, List.getElem?_cons_zero, List.getElem?_cons_succ] at s0 s1
  clear hb ht7 HT1 HS1
  go_wp2_with fail
  refine (HT2.out _ HB2.out).mono ?_
  rintro e w3 ⟨v9, rfl, ht9, hb⟩
  have HS3 := Lib.hid (HS2.out.below hb lt2)
  have HB3 := Lib.hid (below_x' HB2.out hb)
  obtain ⟨A7, c7, rfl, hc7⟩ := HT7.out.below hb
  obtain ⟨A9, c9, rfl, hc9⟩ := ht9
  have Hc7 := Lib.hid hc7
  have Hc9 := Lib.hid hc9
  have lt3 := HS3.out.lt
  have k0 := fun p : BW w3 => cell_bw lt3 (HS3.out.cell 0) p
  have k1 := fun p : BW w3 => cell_bw lt3 (HS3.out.cell 1) p
  have HD1 := Lib.hid (fun p : BW w3 => HC1.out p.to (below_x' HB3.out p.ok))
  have HD2 := Lib.hid (fun p : BW w3 => HC2.out p.to (below_x' HB3.out p.ok))
  clear hb hc7 hc9 HT7 HT2 HS2 HB1 s0 s1
  go_wp2_with fail
  refine wp_region_bw (by kernel_rfl) (by kernel_rfl) ?_
  repeat (go_big_quiet_step (first | (go_at_call 9; with_reducible exact calls_bw (HD1.out _)) | (go_at_call 10; with_reducible exact calls_bw (HD2.out _))))
  refine wpQuiet_nil ?_
  intro _ hw'
  obtain ⟨p, hw''⟩ := hw'
  subst hw''
  have HS4 := Lib.hid (HS3.out.below p.ok lt3)
  have HB4 := Lib.hid (below_x' HB3.out p.ok)
  have Hd7 := Lib.hid (fun i (hi : i < m) => show ∃ g, A7 = some ⟨g, 0, none⟩ ∧ ∀ j, j < 4 → p.to.cell? ⟨g, i * 4 + j, none⟩ = some (.int .i64 (Rk.tal rows i j)) from by
    obtain ⟨g, e, hg, hk⟩ := Hc7.out i hi
    exact ⟨g, e, fun j hj => (p.ok.cell hg).trans (hk j hj)⟩)
  have Hd9 := Lib.hid (fun i (hi : i < m) => show ∃ g, A9 = some ⟨g, 0, none⟩ ∧ ∀ j, j < 4 → p.to.cell? ⟨g, i * 4 + j, none⟩ = some (.int .i64 (Rk.tal rows i j)) from by
    obtain ⟨g, e, hg, hk⟩ := Hc9.out i hi
    exact ⟨g, e, fun j hj => (p.ok.cell hg).trans (hk j hj)⟩)
  clear HS3 HB3 Hc7 Hc9 HD1 HD2 k0 k1
  obtain ⟨w4, hw4⟩ : ∃ w4, w4 = p.to := ⟨_, rfl⟩
  rw [← hw4] at HS4 HB4 Hd7 Hd9 ⊢
  clear hw4 lt3 p lt2 lt1 z1
  go_wp2
  go_loopg [11] m (fun g s wr => ∃ i q : Nat, i ≤ m ∧ g = m - i ∧ s = .int .i64 i ∧ wr = w4.drewN q)
  case atStart => exact ⟨0, 0, Nat.zero_le _, rfl, rfl, rfl⟩
  case round =>
    obtain ⟨i, q, hi, hg, rfl, rfl⟩ := hrel
    have Hg := Lib.hid hg
    clear hg
    by_cases him : i < m
    · obtain ⟨g7, rfl, h7⟩ := Hd7.out i him
      obtain ⟨g9, rfl, h9⟩ := Hd9.out i him
      have x0 := h7 0 (by decide)
      have x1 := h7 1 (by decide)
      have x2 := h7 2 (by decide)
      have x3 := h7 3 (by decide)
      have y0 := h9 0 (by decide)
      have y1 := h9 1 (by decide)
      have y2 := h9 2 (by decide)
      have y3 := h9 3 (by decide)
      rw [Nat.add_zero] at x0 y0
      clear h7 h9
      generalize Rk.tal rows i 0 = T0 at *
      generalize Rk.tal rows i 1 = T1 at *
      generalize Rk.tal rows i 2 = T2 at *
      generalize Rk.tal rows i 3 = T3 at *
      have he := fun W => neq_tally (w := W) T0 T1 T2 T3 T0 T1 T2 T3
      have hgd := fun (x y : Operand) W => gd_tally (w := W) .neq x y #[.int .i64 T0, .int .i64 T1, .int .i64 T2, .int .i64 T3] #[.int .i64 T0, .int .i64 T1, .int .i64 T2, .int .i64 T3]
      have htt : (!(T0 == T0 && (T1 == T1 && (T2 == T2 && T3 == T3)))) = false := by simp
      rw [htt] at he
      have hiz : (i : Int) < (m : Int) := by omega
      clear htt
      go_wp2
      go_quiet (fail)
      go_wp2
      go_roundg (m - (i + 1))
      case rel => exact ⟨i + 1, _, him, rfl, by go_num, rfl⟩
      case measure => rw [Hg.out]; omega
    · obtain rfl : i = m := by omega
      obtain ⟨w5, hw5⟩ : ∃ w5, w5 = w4.drewN q := ⟨_, rfl⟩
      have HS5 := Lib.hid (show Blk w5 w.heap.size 24 #[.int .i64 parts, .slice A rows.length c] by rw [hw5]; exact HS4.out)
      have HB5 := Lib.hid (show Below w.heap.size w w5 by rw [hw5]; exact below_drewN HB4.out q)
      rw [← hw5]
      clear hw5 HS4 HB4 Hd7 Hd9
      have lt5 := HS5.out.lt
      have s0 := HS5.out.cell 0
      have s1 := HS5.out.cell 1
      simp only [List.getElem?_toArray, List.getElem?_cons_zero, List.getElem?_cons_succ] at s0 s1
      go_wp2_with fail
      refine (HRk1.out _ HB5.out).mono ?_
      rintro e w6 ⟨va, rfl, hsa, hb⟩
      have HS6 := Lib.hid (HS5.out.below hb lt5)
      have HB6 := Lib.hid (below_x' HB5.out hb)
      have HStA := Lib.hid hsa
      have lt6 := HS6.out.lt
      have s0 := HS6.out.cell 0
      have s1 := HS6.out.cell 1
      simp only [List.getElem?_toArray, List.getElem?_cons_zero, List.getElem?_cons_succ] at s0 s1
      clear hb hsa HRk1 HS5
      go_wp2_with fail
      refine (HRk2.out _ HB6.out).mono ?_
      rintro e w7 ⟨vb, rfl, hsb, hb⟩
      have HS7 := Lib.hid (HS6.out.below hb lt6)
      have HB7 := Lib.hid (below_x' HB6.out hb)
      have HSR := Lib.hid (samerank_yes va vb rl w7.heap.size w7 (stns_more' HStA.out hb) hsb)
      have lt7 := HS7.out.lt
      clear hb hsb HRk2 HS6 HStA s0 s1
      go_wp2_with fail
      refine HSR.out.mono ?_
      rintro e w8 ⟨rfl, q8, hq8⟩
      have HS8 := Lib.hid (show Blk w8 w.heap.size 24 #[.int .i64 parts, .slice A rows.length c] by rw [hq8]; exact HS7.out)
      have HB8 := Lib.hid (show Below w.heap.size w w8 by rw [hq8]; exact below_drewN HB7.out q8)
      have lt8 := HS8.out.lt
      have s0 := HS8.out.cell 0
      have s1 := HS8.out.cell 1
      simp only [List.getElem?_toArray, List.getElem?_cons_zero, List.getElem?_cons_succ] at s0 s1
      clear hq8 HSR HS7
      go_wp2_with fail
      refine (HA1.out _ HB8.out).mono ?_
      rintro e w9 ⟨vg, rfl, hga, hb⟩
      have HS9 := Lib.hid (HS8.out.below hb lt8)
      have HB9 := Lib.hid (below_x' HB8.out hb)
      have HGa := Lib.hid hga
      have lt9 := HS9.out.lt
      have s0 := HS9.out.cell 0
      have s1 := HS9.out.cell 1
      simp only [List.getElem?_toArray, List.getElem?_cons_zero, List.getElem?_cons_succ] at s0 s1
      clear hb hga HA1 HS8
      go_wp2_with fail
      refine (HA2.out _ HB9.out).mono ?_
      rintro e w10 ⟨vh, rfl, hgb, hb⟩
      have HS10 := Lib.hid (HS9.out.below hb lt9)
      have HB10 := Lib.hid (below_x' HB9.out hb)
      have HSS := Lib.hid (rsets_any vg vh G G w10.heap.size w10 ((HGa.out.below hb).more hb.size) hgb)
      rw [show decide (G = G) = true from decide_eq_true rfl] at HSS
      clear hb hgb HA2 HS9 HGa s0 s1
      go_wp2_with fail
      refine HSS.out.mono ?_
      rintro e w11 ⟨rfl, q11, hq11⟩
      have HS11 := Lib.hid (show Blk w11 w.heap.size 24 #[.int .i64 parts, .slice A rows.length c] by rw [hq11]; exact HS10.out)
      have HB11 := Lib.hid (show Below w.heap.size w w11 by rw [hq11]; exact below_drewN HB10.out q11)
      have lt11 := HS11.out.lt
      have s0 := HS11.out.cell 0
      have s1 := HS11.out.cell 1
      simp only [List.getElem?_toArray, List.getElem?_cons_zero, List.getElem?_cons_succ] at s0 s1
      clear hq11 HSS HS10
      go_wp2_with fail
      refine (HE1.out _ HB11.out).mono ?_
      rintro e w12 ⟨rfl, hb⟩
      obtain ⟨W12, hW12⟩ : ∃ W12, W12 = w12.alloc (.cells #[.int .i64 m1, .int .i64 m2] 45) := ⟨_, rfl⟩
      have HM12 := Lib.hid (show Blk W12 w12.heap.size 45 #[.int .i64 m1, .int .i64 m2] by rw [hW12]; exact Blk.new _ _ _)
      have HS12 := Lib.hid (show Blk W12 w.heap.size 24 #[.int .i64 parts, .slice A rows.length c] by rw [hW12]; exact (HS11.out.below hb lt11).alloc _)
      have HB12 := Lib.hid (show Below w.heap.size w W12 by rw [hW12]; exact below_x' (below_x' HB11.out hb) (al1r _ _))
      have s0 := (HS11.out.below hb lt11).cell 0
      have s1 := (HS11.out.below hb lt11).cell 1
      have lt12 := (HS11.out.below hb lt11).lt
      simp only [List.getElem?_toArray, List.getElem?_cons_zero, List.getElem?_cons_succ] at s0 s1
      have HW12 := Lib.hid hW12
      clear hb HE1 HS11 hW12
      go_wp2_with fail
      rw [← HW12.out]
      refine (HE2.out _ HB12.out).mono ?_
      rintro e w13 ⟨rfl, hb⟩
      have HM13 := Lib.hid (HM12.out.below hb HM12.out.lt)
      have HB13 := Lib.hid (below_x' HB12.out hb)
      have p0 := HM13.out.cell 0
      have p1 := HM13.out.cell 1
      have ltm := HM13.out.lt
      simp only [List.getElem?_toArray, List.getElem?_cons_zero, List.getElem?_cons_succ] at p0 p1
      have he := fun W => eq_ratio (w := W) m1 m2 m1 m2
      have hgd := fun (x y : Operand) W => gd_ratio (w := W) .eql x y #[.int .i64 m1, .int .i64 m2] #[.int .i64 m1, .int .i64 m2]
      have htt : (m1 == m1 && m2 == m2) = true := by simp
      rw [htt] at he
      clear hb HE2 HM12 HS12 htt s0 s1
      go_wp2_with fail
      refine (HR.out _).mono ?_
      rintro e w14 ⟨rfl, hb⟩
      have HB14 := Lib.hid (below_x' (below_x' HB13.out (al1r _ _)) hb)
      go_wp2
      go_ret
      exact ⟨rfl, HB14.out⟩
end Go.Proofs.YtfpmbjobieeidaaGreat
namespace Go.Proofs.YtfpmbjobieeidaaGreat
open Go.ChangeShapes Go.WideShapes Go.ChangeAt Go.RowKit Go.Joins

theorem ownSp : ownKnob Tryz.prog.godebug = none := by kernel_rfl

set_option maxRecDepth 100000 in
theorem rankSpectra_lifted (os : Os) (started : os.Started) (H : Type) (enc : TypeId × Value → H) :
    ReturnsInHanded {} Tryz.checked os 3 .any (Rows.rankSpectraSpec.pre6 enc Tryz.prog Tryz.f3 Rows.rankSpectraRow.domain false) (Rows.rankSpectraSpec.post enc Tryz.prog Tryz.f3 false true false false) := by
  refine returnsInHanded_of_change_sized (C := Tryz.checked) ownSp started (by kernel_rfl) Tryz.func3
    (ChangeSpec.witness6 (enc := enc) (C := Tryz.checked) false ⟨#[], #[.agg #[.int .i64 0, .slice none 0 0], .int .u8 0, .slice none 0 0], []⟩ 8 (by kernel_rfl) (by kernel_rfl) (by kernel_rfl) (by kernel_rfl)) ?_
  intro W base args ds gs before hval0 hW _ hsz0 _
  have hsz : (DataW.weightsEach Tryz.prog (Tryz.f3.params.toList ++ Rows.rankSpectraSpec.plain.varTypes Tryz.prog) (ds ++ gs)).all (· ≤ reachBytes) = true := hsz0
  have hval : ∀ (j : Nat) t v, Tryz.f3.params[j]? = some t → args[j]? = some v → Value.okWide Tryz.prog W .any base t v := hval0
  have hW' := hW
  obtain ⟨p, q, hA0, hV, rfl, hfz, hnd⟩ := hW
  have hA : DataW.TrodAll enc Tryz.prog W 0 (fun _ => true) true Tryz.f3.params.toList args.toList ds p := hA0
  rw [Tryz.params3] at hA hval hsz
  obtain ⟨v0, v1, v2, e0, e1, e2, p0, p1, p2, rfl, rfl, rfl, h0, h1, h2⟩ := trodAll_three hA
  have hpost := fun W' (hb : Below W.heap.size W W') => law_post (tb := 4) laidOut (by rw [Tryz.params3]; intro t ht; simp at ht; rcases ht with rfl | rfl | rfl <;> exact ⟨by kernel_rfl, of_decide_eq_true (by kernel_rfl)⟩) hW' rfl rfl Tryz.underlying4 (by kernel_rfl) hb
  obtain ⟨parts0, u0, rows0, rfl, rlo0, rhi0, hr0⟩ := open_spec (hval 0 24 v0 rfl rfl) h0 (sized_one hsz (j := 0) rfl rfl)
  obtain ⟨k1, rfl, -, -, w1⟩ := open_int Tryz.underlying25 (hval 1 25 v1 rfl rfl) h1
  have rk1 := u8_of_wf w1
  obtain ⟨n1, rfl⟩ : ∃ n : Nat, k1 = n := ⟨k1.toNat, by omega⟩
  obtain ⟨xs2, hs2⟩ := open_set h2 (sized_one hsz (j := 2) rfl rfl) (okWide_slice Tryz.underlying26 (hval 2 26 v2 rfl rfl))
  refine (rankSpectra_any parts0 u0 rows0 n1 (by omega) v2 xs2 W.heap.size W hr0 hs2 (Nat.le_refl _)).mono fun r W' ⟨he, hb⟩ => ?_
  subst he
  exact ⟨_, rfl, hpost W' hb⟩

theorem rankSpectra_holds : Rows.RankSpectraSaid :=
  OpenClaim.holds_of_wide 3 Tryz.f3 rfl rfl rfl rfl rfl rfl rfl ⟨rfl, rfl, rfl, rfl, rfl⟩ rfl rfl rfl rfl rfl (by kernel_rfl) Tryz.func3 (by kernel_rfl)
    (of_decide_eq_true (by kernel_rfl)) (by unfold Func.isWrapper; first | (rw [if_pos (by decide +kernel)]; kernel_rfl) | (rw [if_neg (by decide +kernel)]; exact ⟨rfl, rfl⟩))
    (fun os started H enc _ => rankSpectra_lifted os started H enc)
#print axioms rankSpectra_holds
end Go.Proofs.YtfpmbjobieeidaaGreat
