/-
  The walk of the reference's Rank.
-/
import Derived.Test.YtfpmbjobieeidaaGreatRTally
import Derived.Test.YtfpmbjobieeidaaGreatRScore
import Derived.Test.YtfpmbjobieeidaaGreatRankM
import Derived.Test.YtfpmbjobieeidaaGreatRCmp
import Derived.Test.YtfpmbjobieeidaaGreatBw
import Derived.Test.YtfpmbjobieeidaaGreatPlainL
import Derived.Test.YtfpmbjobieeidaaGreatRegZ
import Derived.BigQuiet
namespace Go.Proofs.YtfpmbjobieeidaaGreat
open Go.RowKit

theorem own_two {w : World} {base : Nat} {e : TypeId} {n s c : Nat} {A : Option Addr} {xs : List Value} (h : w.ownsRow base e s (.slice A n c) n xs) : (A = none ∧ n = 0 ∧ c = 0) ∨ ∃ g, A = some ⟨g, 0, none⟩ := by
  rcases h.2 with ⟨e, _⟩ | ⟨g, cap, cur, e, _⟩
  · injection e with e1 e2 e3
    exact .inl ⟨e1, e2, e3⟩
  · injection e with e1 e2 e3
    exact .inr ⟨g, e1⟩
theorem own_lt {w : World} {base g : Nat} {e : TypeId} {n s c : Nat} {xs : List Value} (h : w.ownsRow base e s (.slice (some ⟨g, 0, none⟩) n c) n xs) : g < w.heap.size := by
  rcases h.2 with ⟨e, _⟩ | ⟨g', cap, cur, e, _, hh, _⟩
  · cases e
  · injection e with e1 e2 e3
    injection e1 with e1
    injection e1 with e1
    subst e1
    rcases Nat.lt_or_ge g w.heap.size with h | h
    · exact h
    · rw [Array.getElem?_eq_none h] at hh; cases hh
/-- The cells of standings. -/
def stOf (sc : Nat → Rk.Fr) (n c : Nat) : List Value := [.int .i64 c, .int .i64 (sc c).1, .int .i64 (sc c).2, .int .i64 (1 + Rk.gtN sc n c), .int .i64 (Rk.geN sc n c)]
def stCl (sc : Nat → Rk.Fr) (n : Nat) (l : List Nat) : List Value := l.flatMap (stOf sc n)
theorem stCl_cons (sc : Nat → Rk.Fr) (n c : Nat) (l : List Nat) : stCl sc n (c :: l) = stOf sc n c ++ stCl sc n l := by unfold stCl; rw [List.flatMap_cons]
theorem stCl_append (sc : Nat → Rk.Fr) (n : Nat) (a b : List Nat) : stCl sc n (a ++ b) = stCl sc n a ++ stCl sc n b := by unfold stCl; rw [List.flatMap_append]
theorem stCl_length (sc : Nat → Rk.Fr) (n : Nat) (l : List Nat) : (stCl sc n l).length = l.length * 5 := by
  induction l with
  | nil => rfl
  | cons c l ih => rw [stCl_cons, List.length_append, ih, List.length_cons]; simp [stOf]; omega
theorem stCl_get (sc : Nat → Rk.Fr) (n : Nat) : ∀ (l : List Nat) (p j : Nat), p < l.length → j < 5 → (stCl sc n l)[p * 5 + j]? = some (.int .i64 (fld (Rk.stnOf sc n (l.getD p 0)) j))
  | c :: l, 0, j, _, hj => by
    rw [stCl_cons, List.getElem?_append_left (by simp [stOf]; omega)]
    rcases (show j = 0 ∨ j = 1 ∨ j = 2 ∨ j = 3 ∨ j = 4 by omega) with rfl | rfl | rfl | rfl | rfl <;> simp [stOf, fld, Rk.stnOf]
  | c :: l, p + 1, j, hp, hj => by
    have ih := stCl_get sc n l p j (by simpa using hp) hj
    rw [stCl_cons, List.getElem?_append_right (by simp [stOf]; omega)]
    simp only [stOf, List.length_cons, List.length_nil]
    rw [show (p + 1) * 5 + j - (0 + 1 + 1 + 1 + 1 + 1) = p * 5 + j by omega]
    exact ih
theorem stCl_take (sc : Nat → Rk.Fr) (n : Nat) (l : List Nat) {i : Nat} (hi : i ≤ l.length) : (stCl sc n l).take (i * 5) = stCl sc n (l.take i) := by
  have h : stCl sc n l = stCl sc n (l.take i) ++ stCl sc n (l.drop i) := by rw [← stCl_append, List.take_append_drop]
  have hl : (stCl sc n (l.take i)).length = i * 5 := by rw [stCl_length, List.length_take]; omega
  rw [h, List.take_append_of_le_length (by omega), List.take_of_length_le (by omega)]
theorem stCl_drop (sc : Nat → Rk.Fr) (n : Nat) (l : List Nat) {i : Nat} (hi : i ≤ l.length) : (stCl sc n l).drop (i * 5) = stCl sc n (l.drop i) := by
  have h : stCl sc n l = stCl sc n (l.take i) ++ stCl sc n (l.drop i) := by rw [← stCl_append, List.take_append_drop]
  have hl : (stCl sc n (l.take i)).length = i * 5 := by rw [stCl_length, List.length_take]; omega
  rw [h, List.drop_append_of_le_length (by omega), List.drop_of_length_le (by omega), List.nil_append]
theorem stCl_one (sc : Nat → Rk.Fr) (n : Nat) (l : List Nat) : ∀ u ∈ stCl sc n l, u.oneCell' = true := by
  intro u hu
  unfold stCl at hu
  obtain ⟨c, _, h⟩ := List.mem_flatMap.1 hu
  simp [stOf] at h
  rcases h with rfl | rfl | rfl | rfl | rfl <;> rfl

theorem reads_take5 {w : World} {B n k : Nat} {A : Option Addr} {xs : List Value} (h : Reads w B 5 A n xs) (hk : k ≤ n) : Reads w B 5 A k (xs.take (k * 5)) :=
  ⟨by have := h.1; simp; omega, fun h0 => by
    obtain ⟨ad, e, hb, hc⟩ := h.2 (by omega)
    exact ⟨ad, e, hb, fun j u hj => hc j u (by
      have hjk : j < k * 5 := by
        rcases Nat.lt_or_ge j (k * 5) with h | h
        · exact h
        · rw [List.getElem?_eq_none (by simp; omega)] at hj; cases hj
      rw [← hj, List.getElem?_take_of_lt hjk])⟩⟩
theorem made_next (w : World) (o : Obj) : ((w.alloc o).alloc (.cells #[] 64)).ownsRow w.heap.size 64 5 (.slice (some ⟨w.heap.size + 1, 0, none⟩) 0 0) 0 [] := by
  have h := World.ownsRow_made (base := w.heap.size) (e := 64) (size := 5) (w.alloc o) #[] 0 (by simp) (Nat.zero_le _) rfl
  rw [World.size_alloc] at h
  exact h
theorem ins_own {w : World} {base base' : Nat} {sc : Nat → Rk.Fr} {n k a m : Nat} {v : Value} {l : List Nat} {r1 r2 x y : Int} (hb : base' ≤ base) (hm : m = k - a) (ha : a ≤ k) (hl : l.length = k) (hr : sc k = (r1, r2)) (hx : x = 1 + Rk.gtN sc n k) (hy : y = Rk.geN sc n k)
    (h : w.ownsRow base 64 5 v (a + 1 + m) (stCl sc n (l.take a) ++ [.int .i64 k, .int .i64 r1, .int .i64 r2, .int .i64 x, .int .i64 y] ++ stCl sc n (l.drop a))) :
    w.ownsRow base' 64 5 v (k + 1) (stCl sc n (l.take a ++ k :: l.drop a)) := by
  have e : stCl sc n (l.take a ++ k :: l.drop a) = stCl sc n (l.take a) ++ [.int .i64 k, .int .i64 r1, .int .i64 r2, .int .i64 x, .int .i64 y] ++ stCl sc n (l.drop a) := by
    rw [stCl_append, stCl_cons, List.append_assoc]
    unfold stOf
    rw [hr, hx, hy]
  rw [e]
  rw [show a + 1 + m = k + 1 by omega] at h
  exact own_more h hb
theorem st_cell {w : World} {base : Nat} {sc : Nat → Rk.Fr} {n k g cap : Nat} {l : List Nat} (h : w.ownsRow base 64 5 (.slice (some ⟨g, 0, none⟩) k cap) k (stCl sc n l)) (hl : l.length = k) {p j : Nat} (hp : p < k) (hj : j < 5) :
    w.cell? ⟨g, p * 5 + j, none⟩ = some (.int .i64 (fld (Rk.stnOf sc n (l.getD p 0)) j)) := by
  have h := h.cells (g := g) rfl _ _ (stCl_get sc n l p j (by omega) hj)
  have a : (⟨g, 0, none⟩ : Addr).add (p * 5 + j) = ⟨g, p * 5 + j, none⟩ := by
    unfold Addr.add; split
    · rename_i h0; simp_all
    · simp
  rw [a] at h
  exact h
theorem st2' {w : World} {g : Nat} {t : TypeId} {a b c d e : Value} (h : Blk w g t #[a, b, c, d, e]) (x y : Int) : Blk ((w.setCell ⟨g, 3, none⟩ (.int .i64 x)).setCell ⟨g, 4, none⟩ (.int .i64 y)) g t #[a, b, c, .int .i64 x, .int .i64 y] := (h.set_ 3 _).set_ 4 _

set_option maxRecDepth 100000 in
set_option maxHeartbeats 2000000 in
theorem rrank_good (n f : Nat) (f0 : 1 ≤ f) (f1 : f ≤ 14) (v : Value) (rows : List RowL) (B : Nat) (w : World) (hv : Rows w B v rows) (hB : B ≤ w.heap.size) (h : specErr n rows = 0) :
    Calls Tryz.prog 12 #[.agg #[.int .i64 n, v], .int .u8 f] w (RankPost n f rows w) := by
  obtain ⟨z0, z1, z2, z3⟩ := specErr_zero h
  have hn1 : 1 ≤ n := by omega
  have hn2 : n ≤ 256 := by omega
  have HT := Lib.hid (fun W (hb : Below w.heap.size w W) => rtals_any n v rows B W (hv.below (hb.mono hB)) (by have := hb.size; omega))
  unfold RTlsPost at HT
  rw [h, Int.toNat_natCast] at HT
  have Hp := Lib.hid (show rankErr n f rows = 0 ∧ rankOf n f rows = Rk.ranking (Rk.scoreAt f rows) n by
    have e : rankErr n f rows = 0 := by unfold rankErr; rw [if_neg (by simpa using h), if_pos ⟨f0, f1⟩]
    exact ⟨e, by unfold rankOf; rw [e, if_pos rfl]; rfl⟩)
  have Hbd := Lib.hid (score_bounds z2 f)
  have HSc := Lib.hid (fun (c : Nat) W => rscoreAll f f0 f1 (Rk.tal rows c 0) (Rk.tal rows c 1) (Rk.tal rows c 2) (Rk.tal rows c 3) (by have := Rk.tal_bounds rows c 0; omega) (by have := Rk.tal_bounds rows c 1; omega) (by have := Rk.tal_bounds rows c 2; omega) (by have := Rk.tal_bounds rows c 3; omega) W)
  have HSc2 := Lib.hid (fun (c : Nat) W => show Calls Tryz.prog 44 #[.int .u8 f, .agg #[.int .i64 (Rk.tal rows c 0), .int .i64 (Rk.tal rows c 1), .int .i64 (Rk.tal rows c 2), .int .i64 (Rk.tal rows c 3)]] W (FvPost (Rk.scoreAt f rows c) W) from HSc.out c W)
  unfold FvPost at HSc2
  obtain ⟨A, cv, vs, rfl, j1, j2, j3, j4⟩ := hv
  clear j1 j2 j3 j4 h hB z0 z1 z2 z3 HSc
  have d1 : decide ((f : Int) < 1) = false := decide_eq_false (by omega)
  have d2 : decide (14 < (f : Int)) = false := decide_eq_false (by omega)
  have d3 : decide (f < 1) = false := decide_eq_false (by omega)
  have d4 : decide (14 < f) = false := decide_eq_false (by omega)
  obtain ⟨i0, hi0, hz0, hz1, hz2⟩ := info_parts info_stn
  go_enter Tryz.func12, Tryz.ntmps12
  go_wp2_with fail
  refine (HT.out _ (al1 _ _)).mono ?_
  rintro e w2 ⟨vT, rfl, hb, _, hT⟩
  obtain ⟨gT, cT, rfl, hgT, hgT2, hcT⟩ := hT trivial
  have HB := Lib.hid ((al1 w _).trans (hb.mono (by simp)))
  have HcT := Lib.hid hcT
  clear hb hcT hT HT hgT
  go_wp2
  go_loopg [8, 9] n (fun g s8 s9 wr => ∃ (k : Nat) (l : List Nat), k ≤ n ∧ g = n - k ∧ s9 = .int .i64 k ∧ Hid (Rk.RefOrd (Rk.scoreAt f rows) k l) ∧ Hid (wr.ownsRow w2.heap.size 64 5 s8 k (stCl (Rk.scoreAt f rows) n l)) ∧ Hid (Below w2.heap.size w2 wr))
  case atStart => exact ⟨0, [], Nat.zero_le _, rfl, rfl, Rk.refOrd_zero, ⟨rfl, .inl ⟨rfl, rfl⟩⟩, Below.refl _ _⟩
  case round =>
    obtain ⟨k, l, hk, hg, rfl, hord, hown, hL⟩ := hrel
    have Hg := Lib.hid hg
    have hll := hord.out.length
    clear hg
    obtain ⟨A8, c8, hv8, hc8, -, -⟩ := own_form hown.out
    subst hv8
    by_cases hlt : k < n
    · have k0 := keepB hL.out hgT2 (HcT.out k 0 hlt (by decide))
      have k1 := keepB hL.out hgT2 (HcT.out k 1 hlt (by decide))
      have k2 := keepB hL.out hgT2 (HcT.out k 2 hlt (by decide))
      have k3 := keepB hL.out hgT2 (HcT.out k 3 hlt (by decide))
      rw [Nat.add_zero] at k0
      have hkn : (k : Int) < (n : Int) := by omega
      have HSk := Lib.hid (HSc2.out k)
      obtain ⟨r1, r2, hr⟩ : ∃ r1 r2, Rk.scoreAt f rows k = (r1, r2) := ⟨_, _, rfl⟩
      rw [hr] at HSk
      unfold fv at HSk
      have Hr := Lib.hid hr
      clear hr
      go_wp2_with fail
      refine (HSk.out _).mono ?_
      rintro e w3 ⟨rfl, hb⟩
      have HL3 := Lib.hid (show Below w2.heap.size w2 w3 from hL.out.trans (hb.mono hL.out.size))
      have HO3 := Lib.hid (own_below hown.out hb (Nat.le_refl _))
      have hs3 := HL3.out.size
      have HcT3 := Lib.hid (fun c j (hc : c < n) (hj : j < 4) => keepB HL3.out hgT2 (HcT.out c j hc hj))
      have hgT3 : gT < w3.heap.size := by omega
      have HX0 := Lib.hid (Blk.new w3 64 #[.int .i64 k, .int .i64 r1, .int .i64 r2, .int .i64 1, .int .i64 0])
      have HL0 := Lib.hid (al1 w3 (.cells #[.int .i64 k, .int .i64 r1, .int .i64 r2, .int .i64 1, .int .i64 0] 64))
      clear hb hL hown k0 k1 k2 k3 HSk
      go_wp2
      go_loopg [11] n (fun g s wr => ∃ (j : Nat) (x y : Int), j ≤ n ∧ g = n - j ∧ s = .int .i64 j ∧ (1 ≤ x ∧ x ≤ 1 + j ∧ 0 ≤ y ∧ y ≤ j) ∧ Hid (x = 1 + Rk.gtN (Rk.scoreAt f rows) j k ∧ y = Rk.geN (Rk.scoreAt f rows) j k) ∧ Hid (Blk wr w3.heap.size 64 #[.int .i64 k, .int .i64 r1, .int .i64 r2, .int .i64 x, .int .i64 y]) ∧ Hid (Below w3.heap.size w3 wr))
      case atStart => exact ⟨0, 1, 0, Nat.zero_le _, rfl, rfl, by omega, ⟨rfl, rfl⟩, HX0.out, HL0.out⟩
      case round =>
        obtain ⟨j, x, y, hj, hg, rfl, ⟨x1, x2, y1, y2⟩, hxy, hX, hLL⟩ := hrel
        have Hg2 := Lib.hid hg
        clear hg HX0 HL0
        by_cases hjn : j < n
        · have hgw : gT < wr.heap.size := Nat.lt_of_lt_of_le hgT3 hLL.out.size
          have q0 := fun p : BW wr => cell_bw hgw (keepB hLL.out hgT3 (HcT3.out j 0 hjn (by decide))) p
          have q1 := fun p : BW wr => cell_bw hgw (keepB hLL.out hgT3 (HcT3.out j 1 hjn (by decide))) p
          have q2 := fun p : BW wr => cell_bw hgw (keepB hLL.out hgT3 (HcT3.out j 2 hjn (by decide))) p
          have q3 := fun p : BW wr => cell_bw hgw (keepB hLL.out hgT3 (HcT3.out j 3 hjn (by decide))) p
          have hXl := hX.out.lt
          have u1 := fun p : BW wr => cell_bw hXl (hX.out.cell 1) p
          have u2 := fun p : BW wr => cell_bw hXl (hX.out.cell 2) p
          rw [Nat.add_zero] at q0
          have HSj := Lib.hid (HSc2.out j)
          obtain ⟨o1, o2, ho⟩ : ∃ o1 o2, Rk.scoreAt f rows j = (o1, o2) := ⟨_, _, rfl⟩
          rw [ho] at HSj
          unfold fv at HSj
          obtain ⟨⟨a0, a1⟩, a2, a3⟩ := Hbd.out j
          obtain ⟨⟨b0, b1⟩, b2, b3⟩ := Hbd.out k
          rw [ho] at a0 a1 a2 a3
          rw [Hr.out] at b0 b1 b2 b3
          have HCm := Lib.hid (fun W => rcompare_any o1 o2 r1 r2 a0 a1 a3 b0 b1 b3 W)
          unfold CmpPost at HCm
          obtain ⟨r, hre⟩ : ∃ r, r = Rk.cmpF (Rk.scoreAt f rows j) (Rk.scoreAt f rows k) := ⟨_, rfl⟩
          have hre' : Rk.cmp o1 o2 r1 r2 = r := by rw [hre, ho, Hr.out]; rfl
          rw [hre'] at HCm
          have Hre := Lib.hid hre
          have hjz : (j : Int) < (n : Int) := by omega
          clear ho hre hre' a0 a1 a2 a3 b0 b1 b2 b3
          go_wp2_with fail
          refine wp_region_bw (by kernel_rfl) (by kernel_rfl) ?_
          repeat (quiet_step (first | (go_at_call 44; with_reducible exact calls_bw (HSj.out _)) | (go_at_call 45; with_reducible exact calls_bw (HCm.out _))))
          refine wpQuiet_nil ?_
          intro _ hw'
          obtain ⟨p, hw''⟩ := hw'
          subst hw''
          have HX6 := Lib.hid (hX.out.below p.ok hXl)
          have HL6 := Lib.hid (show Below w3.heap.size w3 p.to from hLL.out.trans (p.ok.mono hLL.out.size))
          have hXl6 := HX6.out.lt
          have t3 := HX6.out.cell 3
          have t4 := HX6.out.cell 4
          have g3 := HX6.out.frozen 3
          have g4 := HX6.out.frozen 4
          simp only [List.getElem?_toArray, List.getElem?_cons_zero, List.getElem?_cons_succ] at t3 t4
          obtain ⟨x5, x6⟩ := hxy.out
          have e1 := Rk.gtN_succ (Rk.scoreAt f rows) j k
          have e2 := Rk.geN_succ (Rk.scoreAt f rows) j k
          rw [← Hre.out] at e1 e2
          clear q0 q1 q2 q3 u1 u2 HSj HCm hX hLL hXl hgw
          rcases (show 0 < r ∨ r = 0 ∨ r < 0 by omega) with h | h | h
          · rw [if_pos h] at e1
            rw [if_pos (by omega)] at e2
            have Hn := Lib.hid (show x + 1 = 1 + (Rk.gtN (Rk.scoreAt f rows) (j + 1) k : Int) ∧ y + 1 = (Rk.geN (Rk.scoreAt f rows) (j + 1) k : Int) by omega)
            have HX7 := Lib.hid (st2' HX6.out (x + 1) (y + 1))
            have HL7 := Lib.hid (below_s1 (below_s1 HL6.out (Nat.le_refl w3.heap.size) HL6.out.size 3 (.int .i64 (x + 1))) (Nat.le_refl w3.heap.size) (by simpa using HL6.out.size) 4 (.int .i64 (y + 1)))
            have z1 : decide (0 < r) = true := decide_eq_true h
            have z2 : decide (0 ≤ r) = true := decide_eq_true (by omega)
            have t4' : (p.to.setCell ⟨w3.heap.size, 3, none⟩ (.int .i64 (x + 1))).cell? ⟨w3.heap.size, 4, none⟩ = some (.int .i64 y) := (World.cell?_setCell_other _ _ _ _ (by simp)).trans t4
            clear e1 e2 x5 x6
            go_wp2
            go_roundg (n - (j + 1))
            case rel => exact ⟨j + 1, x + 1, y + 1, hjn, rfl, by go_num, by omega, Hn, HX7.out, HL7.out⟩
            case measure => rw [Hg2.out]; omega
          · rw [if_neg (by omega)] at e1
            rw [if_pos (by omega)] at e2
            have Hn := Lib.hid (show x = 1 + (Rk.gtN (Rk.scoreAt f rows) (j + 1) k : Int) ∧ y + 1 = (Rk.geN (Rk.scoreAt f rows) (j + 1) k : Int) by omega)
            have HX7 := Lib.hid (show Blk (p.to.setCell ⟨w3.heap.size, 4, none⟩ (.int .i64 (y + 1))) w3.heap.size 64 #[.int .i64 k, .int .i64 r1, .int .i64 r2, .int .i64 x, .int .i64 (y + 1)] from HX6.out.set_ 4 _)
            have HL7 := Lib.hid (below_s1 HL6.out (Nat.le_refl w3.heap.size) HL6.out.size 4 (.int .i64 (y + 1)))
            have z1 : decide (0 < r) = false := decide_eq_false (by omega)
            have z2 : decide (0 ≤ r) = true := decide_eq_true (by omega)
            clear e1 e2 x5 x6
            subst h
            go_wp2
            go_roundg (n - (j + 1))
            case rel => exact ⟨j + 1, x, y + 1, hjn, rfl, by go_num, by omega, Hn, HX7.out, HL7.out⟩
            case measure => rw [Hg2.out]; omega
          · rw [if_neg (by omega)] at e1
            rw [if_neg (by omega)] at e2
            have Hn := Lib.hid (show x = 1 + (Rk.gtN (Rk.scoreAt f rows) (j + 1) k : Int) ∧ y = (Rk.geN (Rk.scoreAt f rows) (j + 1) k : Int) by omega)
            have z1 : decide (0 < r) = false := decide_eq_false (by omega)
            have z2 : decide (0 ≤ r) = false := decide_eq_false (by omega)
            clear e1 e2 x5 x6
            go_wp2
            go_roundg (n - (j + 1))
            case rel => exact ⟨j + 1, x, y, hjn, rfl, by go_num, by omega, Hn, HX6.out, HL6.out⟩
            case measure => rw [Hg2.out]; omega
        · obtain rfl : j = n := by omega
          obtain ⟨x5, x6⟩ := hxy.out
          have Hx5 := Lib.hid x5
          have Hx6 := Lib.hid x6
          have HOo := Lib.hid (own_below HO3.out hLL.out (Nat.le_refl _))
          have HXo := Lib.hid hX.out
          have HLo := Lib.hid hLL.out
          have hXl := hX.out.lt
          have x3c := hX.out.cell 3
          simp only [List.getElem?_toArray, List.getElem?_cons_zero, List.getElem?_cons_succ] at x3c
          clear x5 x6 hX hLL hxy
          obtain ⟨wo, rfl⟩ : ∃ wo : World, wo = wr := ⟨_, rfl⟩
          go_wp2
          go_loopg [13] k (fun g s wy => ∃ (a q : Nat), a ≤ k ∧ g = a ∧ s = .int .i64 a ∧ wy = wo.drewN q ∧ Hid (∀ p, a ≤ p → p < k → Rk.gtN (Rk.scoreAt f rows) j k < Rk.gtN (Rk.scoreAt f rows) j (l.getD p 0)))
          case atStart => exact ⟨k, 0, Nat.le_refl _, rfl, rfl, rfl, fun p h1 h2 => absurd h1 (by omega)⟩
          case round =>
            obtain ⟨a, q, ha, hg3, rfl, rfl, hab⟩ := hrel
            have Hg3 := Lib.hid hg3
            clear hg3
            have hdone : (a = 0 ∨ Rk.gtN (Rk.scoreAt f rows) j (l.getD (a - 1) 0) ≤ Rk.gtN (Rk.scoreAt f rows) j k) ∨ ∃ b, a = b + 1 ∧ Rk.gtN (Rk.scoreAt f rows) j k < Rk.gtN (Rk.scoreAt f rows) j (l.getD b 0) := by
              rcases a with _ | b
              · exact .inl (.inl rfl)
              · rcases Nat.lt_or_ge (Rk.gtN (Rk.scoreAt f rows) j k) (Rk.gtN (Rk.scoreAt f rows) j (l.getD b 0)) with h | h
                · exact .inr ⟨b, rfl, h⟩
                · exact .inl (.inr h)
            rcases hdone with hdone | ⟨b, rfl, hgt⟩
            rotate_left
            · obtain ⟨gO, rfl⟩ : ∃ g, A8 = some ⟨g, 0, none⟩ := (own_two HOo.out).resolve_left (by omega)
              have c3 : wo.cell? ⟨gO, b * 5 + 3, none⟩ = some (.int .i64 (1 + (Rk.gtN (Rk.scoreAt f rows) j (l.getD b 0) : Int))) := st_cell HOo.out hll (by omega) (by decide)
              have Hab := Lib.hid (show ∀ p, b ≤ p → p < k → Rk.gtN (Rk.scoreAt f rows) j k < Rk.gtN (Rk.scoreAt f rows) j (l.getD p 0) from fun p h1 h2 => by
                by_cases e : p = b
                · rw [e]; exact hgt
                · exact hab.out p (by omega) h2)
              have hu : x < 1 + (Rk.gtN (Rk.scoreAt f rows) j (l.getD b 0) : Int) := by have := Hx5.out; omega
              generalize 1 + (Rk.gtN (Rk.scoreAt f rows) j (l.getD b 0) : Int) = u at *
              have z1 : decide (x < u) = true := decide_eq_true hu
              have hbk : (b : Int) < (k : Int) := by omega
              have z3 : decide ((0 : Int) < (b : Int) + 1) = true := decide_eq_true (by omega)
              clear hgt hab
              go_wp2
              go_quiet (fail)
              go_wp2
              go_roundg b
              case rel => exact ⟨b, _, by omega, rfl, by go_num, rfl, Hab⟩
              case measure => rw [Hg3.out]; omega
            have Hd := Lib.hid (hord.out.ins (n := j) hlt (i := a) (by omega) (fun p h1 h2 => hab.out p h1 (by omega)) hdone)
            rcases a with _ | b
            · clear hdone hab
              go_wp2
              go_quiet (fail)
              go_wp2
              -- REGION22 A
              have v3 : (k : Int) ≤ (c8 : Int) := by omega
              have v4 : (0 : Int) ≤ (c8 : Int) := by omega
              have v5 : (0 : Int) ≤ (k : Int) := by omega
              rcases own_two HOo.out with ⟨rfl, rfl, rfl⟩ | ⟨gO, rfl⟩
              · obtain ⟨wz, hwz⟩ : ∃ wz, wz = ((wo.drewN q).drewN nq).drew := ⟨_, rfl⟩
                have HSz := Lib.hid (show Blk wz w3.heap.size 64 #[.int .i64 0, .int .i64 r1, .int .i64 r2, .int .i64 x, .int .i64 y] by rw [hwz]; exact HXo.out)
                have HOz := Lib.hid (show wz.ownsRow w2.heap.size 64 5 (.slice none 0 0) 0 (stCl (Rk.scoreAt f rows) j l) by rw [hwz]; exact HOo.out)
                have HLz := Lib.hid (show Below w3.heap.size w3 wz by rw [hwz]; exact below_drewN (below_drewN HLo.out _) (nq + 1))
                have Hwz := Lib.hid hwz
                have hsz := HLz.out.size
                have hXlz := HSz.out.lt
                clear hwz
                have Hrd := Lib.hid (Reads.of_own HOz.out)
                have Hrd1 := Lib.hid (show Reads wz wz.heap.size 5 none 0 (stCl (Rk.scoreAt f rows) j (l.take 0)) by rw [← stCl_take _ _ _ (by omega)]; exact reads_take5 Hrd.out (by omega))
                have Hrd2 := Lib.hid (show Reads wz wz.heap.size 5 (if 0 = 0 then (none : Option Addr) else (none : Option Addr).map (fun z => z.add (0 * 5))) (0 - 0) (stCl (Rk.scoreAt f rows) j (l.drop 0)) by rw [← stCl_drop _ _ _ (by omega)]; exact Hrd.out.cut (k := 0) (cap := 0) (by omega) hc8)
                have Hrd3 := Lib.hid (show Reads wz wz.heap.size 5 none 0 (stCl (Rk.scoreAt f rows) j (l.drop 0)) by have h := Hrd2.out; rw [if_pos rfl] at h; exact h)
                refine z_region (fun w' => Blk w' w3.heap.size 64 #[.int .i64 0, .int .i64 r1, .int .i64 r2, .int .i64 x, .int .i64 y]) 12 (by kernel_rfl) ?_
                rw [← Hwz.out]
                refine z_take (i := 1) (v := ?_) rfl (by kernel_rfl) (by kernel_rfl) (by kernel_rfl) (fun _ _ _ h => h) (by kernel_rfl) (by decide) (HSz.out) (by rfl) (by intro w hSw; go_simp; rfl) ?_
                refine z_take (i := 2) (v := ?_) rfl (by kernel_rfl) (by kernel_rfl) (by kernel_rfl) (fun _ _ _ h => h) (by kernel_rfl) (by decide) (HSz.out) (by rfl) (by intro w hSw; go_simp; rfl) ?_
                refine z_take (i := 3) (v := .slice none 0 0) rfl (by kernel_rfl) (by kernel_rfl) (by kernel_rfl) (fun _ _ _ h => h) (by kernel_rfl) (by decide) (HSz.out) (by rfl) (by intro w hSw; go_simp) ?_
                refine z_take (i := 5) (v := .agg #[.int .i64 0, .int .i64 r1, .int .i64 r2, .int .i64 x, .int .i64 y]) rfl (by kernel_rfl) (by kernel_rfl) (by kernel_rfl) (fun _ _ _ h => h) (by kernel_rfl) (by decide) (HSz.out) (by rfl) (by intro w hSw; have q0 := hSw.cell 0; have q1 := hSw.cell 1; have q2 := hSw.cell 2; have q3 := hSw.cell 3; have q4 := hSw.cell 4; simp only [List.getElem?_toArray, List.getElem?_cons_zero, List.getElem?_cons_succ] at q0 q1 q2 q3 q4; go_simp) ?_
                refine z_take (i := 8) (v := ?_) rfl (by kernel_rfl) (by kernel_rfl) (by kernel_rfl) (fun _ _ _ h => h) (by kernel_rfl) (by decide) (HSz.out) (by rfl) (by intro w hSw; go_simp; rfl) ?_
                refine z_take (i := 9) (v := ?_) rfl (by kernel_rfl) (by kernel_rfl) (by kernel_rfl) (fun _ _ _ h => h) (by kernel_rfl) (by decide) (HSz.out) (by rfl) (by intro w hSw; go_simp; rfl) ?_
                refine z_take (i := 10) (v := .slice none 0 0) rfl (by kernel_rfl) (by kernel_rfl) (by kernel_rfl) (fun _ _ _ h => h) (by kernel_rfl) (by decide) (HSz.out) (by rfl) (by intro w hSw; go_simp) ?_
                simp only [Act.put, List.setIfInBounds_toArray]
                refine z_two (i := 0) (j := 6) rfl rfl (by kernel_rfl) (by rfl) (by rfl) (fun K hK => ?_) (fun K hK => ?_)
                · go_simp
                  refine hK _ _ (fun _ => HSz.out.alloc _) ?_
                  clear hK K
                  refine z_two (i := 4) (j := 6) rfl rfl (by kernel_rfl) (by rfl) (by rfl) (fun K hK => ?_) (fun K hK => ?_)
                  · refine wp_append_any _ _ _ 36 rfl wz.heap.size 64 i0 _ 5 40 Tryz.underlying36 hi0 hz0 hz1 hz2 rfl (by decide) (.slice (some ⟨wz.heap.size, 0, none⟩) 0 0) 0 [] (by rfl) (World.ownsRow_made wz #[] 0 (Nat.le_refl _) (Nat.zero_le _) rfl) wz.heap.size none 0 0 _ (by rfl) (Hrd1.out.alloc (Nat.le_refl _) _) (stCl_one _ _ _) (by unfold maxLen; omega) (by omega) (by first | (simp; done) | (simp; omega)) ?_
                    intro v7 w7 hown7 hg7 hat7
                    obtain ⟨A7, c7, ev7, _, _, _⟩ := own_form hown7
                    rw [Nat.zero_add] at ev7
                    subst ev7
                    have HO7 := Lib.hid (show w7.ownsRow wz.heap.size 64 5 (.slice A7 0 c7) 0 (stCl (Rk.scoreAt f rows) j (l.take 0)) by simpa using hown7)
                    have HS7 := Lib.hid ((HSz.out.alloc _).grown hg7 (fun g => by have e2 : some w3.heap.size = some (wz.heap.size) := g; injection e2 with e2; omega))
                    have hB7 : Below wz.heap.size wz w7 := ((Below.refl wz.heap.size wz).alloc (Nat.le_refl _) _).grown hg7 (by simp; try omega) (fun b e => by have e2 : some (wz.heap.size) = some b := e; injection e2 with e2; omega)
                    have HB7 := Lib.hid hB7
                    have hs7 := hB7.size
                    clear hown7 hg7 hat7 hB7
                    refine hK _ _ (fun _ => HS7.out) ?_
                    clear hK K
                    refine z_one (i := 6) rfl (by kernel_rfl) (by rfl) (fun K hK => ?_)
                    go_simp
                    refine hK _ _ (fun _ => HS7.out.alloc _) ?_
                    clear hK K
                    have HX8 := Lib.hid (Blk.new w7 64 #[.int .i64 0, .int .i64 r1, .int .i64 r2, .int .i64 x, .int .i64 y])
                    have HO8 := Lib.hid (own_kept (w' := w7.alloc (.cells #[.int .i64 0, .int .i64 r1, .int .i64 r2, .int .i64 x, .int .i64 y] 64)) (row := none) HO7.out (World.grownBy_alloc w7 _ none) (fun g e => by cases e))
                    have HS8 := Lib.hid (HS7.out.alloc (.cells #[.int .i64 0, .int .i64 r1, .int .i64 r2, .int .i64 x, .int .i64 y] 64))
                    have HB8 := Lib.hid (HB7.out.alloc HB7.out.size (.cells #[.int .i64 0, .int .i64 r1, .int .i64 r2, .int .i64 x, .int .i64 y] 64))
                    have hs8 := HB8.out.size
                    refine z_one (i := 7) rfl (by kernel_rfl) (by rfl) (fun K hK => ?_)
                    refine wp_append_any _ _ _ 36 rfl wz.heap.size 64 i0 _ 5 40 Tryz.underlying36 hi0 hz0 hz1 hz2 rfl (by decide) (.slice A7 0 c7) 0 _ (by rfl) (HO8.out) (w7.heap.size + 1) (some ⟨w7.heap.size, 0, none⟩) 1 1 [.int .i64 0, .int .i64 r1, .int .i64 r2, .int .i64 x, .int .i64 y] (by rfl) (reads_blk HX8.out (Nat.lt_succ_self _) rfl) (by intro u hu; simp at hu; rcases hu with rfl | rfl | rfl | rfl | rfl <;> rfl) (by unfold maxLen; omega) (by omega) (hs8) ?_
                    intro v9 w9 hown9 hg9 hat9
                    have HO9 := Lib.hid hown9
                    have hge9 : ∀ bk, (Value.slice A7 0 c7).ownBlock = some bk → wz.heap.size ≤ bk := own_row_ge HO8.out
                    have HS9 := Lib.hid (HS8.out.grown hg9 (fun g => by have := hge9 _ g.symm; omega))
                    have hB9 := HB8.out.grown hg9 HB8.out.size hge9
                    have HB9 := Lib.hid hB9
                    have hs9 := hB9.size
                    obtain ⟨A9, c9, ev9, _, _, _⟩ := own_form hown9
                    subst ev9
                    clear hown9 hg9 hat9 hB9 hge9
                    refine hK _ _ (fun _ => HS9.out) ?_
                    clear hK K
                    try simp only [Act.put, List.setIfInBounds_toArray]
                    refine z_one (i := 11) rfl (by kernel_rfl) (by rfl) (fun K hK => ?_)
                    refine wp_append_any _ _ _ 36 rfl wz.heap.size 64 i0 _ 5 40 Tryz.underlying36 hi0 hz0 hz1 hz2 rfl (by decide) (.slice A9 (0 + 1) c9) (0 + 1) _ (by rfl) (HO9.out) wz.heap.size _ 0 _ _ (by rfl) (by first | exact Hrd2.out.below HB9.out | exact Hrd3.out.below HB9.out) (stCl_one _ _ _) (by unfold maxLen; omega) (by omega) (hs9) ?_
                    intro v10 w10 hown10 hg10 hat10
                    have hge10 : ∀ bk, (Value.slice A9 (0 + 1) c9).ownBlock = some bk → wz.heap.size ≤ bk := own_row_ge HO9.out
                    have HS10 := Lib.hid (HS9.out.grown hg10 (fun g => by have := hge10 _ g.symm; omega))
                    have HB10 := Lib.hid (HB9.out.grown hg10 HB9.out.size hge10)
                    have HO10 := Lib.hid (ins_own (base' := w2.heap.size) (m := 0) (by omega) (by omega) (show 0 ≤ 0 by omega) hll Hr.out Hx5.out Hx6.out hown10)
                    have HL10 := Lib.hid (show Below w2.heap.size w2 w10 from HL3.out.trans (HLz.out.trans ((HB10.out).mono HLz.out.size) |>.mono hs3))
                    clear hown10 hg10 hat10 hge10
                    refine hK _ _ (fun _ => HS10.out) ?_
                    clear hK K
                    refine z_one (i := 12) rfl (by kernel_rfl) (by rfl) (fun K hK => ?_)
                    go_simp
                    refine hK _ _ (fun h => absurd rfl h) ?_
                    clear hK K
                    refine z_done (by kernel_rfl) ?_ _
                    go_wp2
                    go_roundg (j - (0 + 1))
                    case rel => exact ⟨0 + 1, _, hlt, rfl, by go_num, Hd.out, HO10.out, HL10.out⟩
                    case measure => rw [Hg.out]; omega
                  · go_simp
                    refine hK _ _ (fun _ => (HSz.out.alloc _).alloc _) ?_
                    clear hK K
                    refine z_one (i := 4) rfl (by kernel_rfl) (by rfl) (fun K hK => ?_)
                    refine wp_append_any _ _ _ 36 rfl wz.heap.size 64 i0 _ 5 40 Tryz.underlying36 hi0 hz0 hz1 hz2 rfl (by decide) (.slice (some ⟨wz.heap.size, 0, none⟩) 0 0) 0 [] (by rfl) (own_kept (row := none) (World.ownsRow_made wz #[] 0 (Nat.le_refl _) (Nat.zero_le _) rfl) (World.grownBy_alloc _ _ none) (fun g e => by cases e)) wz.heap.size none 0 0 _ (by rfl) (Hrd1.out.alloc (Nat.le_refl _) _ |>.alloc (by simp) _) (stCl_one _ _ _) (by unfold maxLen; omega) (by omega) (by first | (simp; done) | (simp; omega)) ?_
                    intro v7 w7 hown7 hg7 hat7
                    obtain ⟨A7, c7, ev7, _, _, _⟩ := own_form hown7
                    rw [Nat.zero_add] at ev7
                    subst ev7
                    have HO7 := Lib.hid (show w7.ownsRow wz.heap.size 64 5 (.slice A7 0 c7) 0 (stCl (Rk.scoreAt f rows) j (l.take 0)) by simpa using hown7)
                    have HS7 := Lib.hid (((HSz.out.alloc _).alloc _).grown hg7 (fun g => by have e2 : some w3.heap.size = some (wz.heap.size) := g; injection e2 with e2; omega))
                    have hB7 : Below wz.heap.size wz w7 := (((Below.refl wz.heap.size wz).alloc (Nat.le_refl _) _).alloc (by simp) _).grown hg7 (by simp; try omega) (fun b e => by have e2 : some (wz.heap.size) = some b := e; injection e2 with e2; omega)
                    have HX7 : Blk w7 (wz.heap.size + 1) 64 #[.int .i64 0, .int .i64 r1, .int .i64 r2, .int .i64 x, .int .i64 y] := (newBlk (by simp) _ _).grown hg7 (fun e => by have e2 : some (wz.heap.size + 1) = some wz.heap.size := e; injection e2 with e2; omega)
                    have HB7 := Lib.hid hB7
                    have hs7 := hB7.size
                    clear hown7 hg7 hat7 hB7
                    refine hK _ _ (fun _ => HS7.out) ?_
                    clear hK K
                    have HX8 := Lib.hid HX7
                    have HO8 := HO7
                    have HS8 := HS7
                    have HB8 := HB7
                    have hs8 := HB8.out.size
                    refine z_one (i := 7) rfl (by kernel_rfl) (by rfl) (fun K hK => ?_)
                    refine wp_append_any _ _ _ 36 rfl wz.heap.size 64 i0 _ 5 40 Tryz.underlying36 hi0 hz0 hz1 hz2 rfl (by decide) (.slice A7 0 c7) 0 _ (by rfl) (HO8.out) ((wz.heap.size + 1) + 1) (some ⟨(wz.heap.size + 1), 0, none⟩) 1 1 [.int .i64 0, .int .i64 r1, .int .i64 r2, .int .i64 x, .int .i64 y] (by rfl) (reads_blk HX8.out (Nat.lt_succ_self _) rfl) (by intro u hu; simp at hu; rcases hu with rfl | rfl | rfl | rfl | rfl <;> rfl) (by unfold maxLen; omega) (by omega) (hs8) ?_
                    intro v9 w9 hown9 hg9 hat9
                    have HO9 := Lib.hid hown9
                    have hge9 : ∀ bk, (Value.slice A7 0 c7).ownBlock = some bk → wz.heap.size ≤ bk := own_row_ge HO8.out
                    have HS9 := Lib.hid (HS8.out.grown hg9 (fun g => by have := hge9 _ g.symm; omega))
                    have hB9 := HB8.out.grown hg9 HB8.out.size hge9
                    have HB9 := Lib.hid hB9
                    have hs9 := hB9.size
                    obtain ⟨A9, c9, ev9, _, _, _⟩ := own_form hown9
                    subst ev9
                    clear hown9 hg9 hat9 hB9 hge9
                    refine hK _ _ (fun _ => HS9.out) ?_
                    clear hK K
                    try simp only [Act.put, List.setIfInBounds_toArray]
                    refine z_one (i := 11) rfl (by kernel_rfl) (by rfl) (fun K hK => ?_)
                    refine wp_append_any _ _ _ 36 rfl wz.heap.size 64 i0 _ 5 40 Tryz.underlying36 hi0 hz0 hz1 hz2 rfl (by decide) (.slice A9 (0 + 1) c9) (0 + 1) _ (by rfl) (HO9.out) wz.heap.size _ 0 _ _ (by rfl) (by first | exact Hrd2.out.below HB9.out | exact Hrd3.out.below HB9.out) (stCl_one _ _ _) (by unfold maxLen; omega) (by omega) (hs9) ?_
                    intro v10 w10 hown10 hg10 hat10
                    have hge10 : ∀ bk, (Value.slice A9 (0 + 1) c9).ownBlock = some bk → wz.heap.size ≤ bk := own_row_ge HO9.out
                    have HS10 := Lib.hid (HS9.out.grown hg10 (fun g => by have := hge10 _ g.symm; omega))
                    have HB10 := Lib.hid (HB9.out.grown hg10 HB9.out.size hge10)
                    have HO10 := Lib.hid (ins_own (base' := w2.heap.size) (m := 0) (by omega) (by omega) (show 0 ≤ 0 by omega) hll Hr.out Hx5.out Hx6.out hown10)
                    have HL10 := Lib.hid (show Below w2.heap.size w2 w10 from HL3.out.trans (HLz.out.trans ((HB10.out).mono HLz.out.size) |>.mono hs3))
                    clear hown10 hg10 hat10 hge10
                    refine hK _ _ (fun _ => HS10.out) ?_
                    clear hK K
                    refine z_one (i := 12) rfl (by kernel_rfl) (by rfl) (fun K hK => ?_)
                    go_simp
                    refine hK _ _ (fun h => absurd rfl h) ?_
                    clear hK K
                    refine z_done (by kernel_rfl) ?_ _
                    go_wp2
                    go_roundg (j - (0 + 1))
                    case rel => exact ⟨0 + 1, _, hlt, rfl, by go_num, Hd.out, HO10.out, HL10.out⟩
                    case measure => rw [Hg.out]; omega
                · go_simp
                  refine hK _ _ (fun _ => HSz.out.alloc _) ?_
                  clear hK K
                  refine z_one (i := 0) rfl (by kernel_rfl) (by rfl) (fun K hK => ?_)
                  go_simp
                  refine hK _ _ (fun _ => (HSz.out.alloc _).alloc _) ?_
                  clear hK K
                  refine z_one (i := 4) rfl (by kernel_rfl) (by rfl) (fun K hK => ?_)
                  refine wp_append_any _ _ _ 36 rfl wz.heap.size 64 i0 _ 5 40 Tryz.underlying36 hi0 hz0 hz1 hz2 rfl (by decide) (.slice (some ⟨wz.heap.size + 1, 0, none⟩) 0 0) 0 [] (by rfl) (made_next wz _) wz.heap.size none 0 0 _ (by rfl) (Hrd1.out.alloc (Nat.le_refl _) _ |>.alloc (by simp) _) (stCl_one _ _ _) (by unfold maxLen; omega) (by omega) (by first | (simp; done) | (simp; omega)) ?_
                  intro v7 w7 hown7 hg7 hat7
                  obtain ⟨A7, c7, ev7, _, _, _⟩ := own_form hown7
                  rw [Nat.zero_add] at ev7
                  subst ev7
                  have HO7 := Lib.hid (show w7.ownsRow wz.heap.size 64 5 (.slice A7 0 c7) 0 (stCl (Rk.scoreAt f rows) j (l.take 0)) by simpa using hown7)
                  have HS7 := Lib.hid (((HSz.out.alloc _).alloc _).grown hg7 (fun g => by have e2 : some w3.heap.size = some (wz.heap.size + 1) := g; injection e2 with e2; omega))
                  have hB7 : Below wz.heap.size wz w7 := (((Below.refl wz.heap.size wz).alloc (Nat.le_refl _) _).alloc (by simp) _).grown hg7 (by simp; try omega) (fun b e => by have e2 : some (wz.heap.size + 1) = some b := e; injection e2 with e2; omega)
                  have HX7 : Blk w7 wz.heap.size 64 #[.int .i64 0, .int .i64 r1, .int .i64 r2, .int .i64 x, .int .i64 y] := ((Blk.new wz _ _).alloc _).grown hg7 (fun e => by have e2 : some wz.heap.size = some (wz.heap.size + 1) := e; injection e2 with e2; omega)
                  have HB7 := Lib.hid hB7
                  have hs7 := hB7.size
                  clear hown7 hg7 hat7 hB7
                  refine hK _ _ (fun _ => HS7.out) ?_
                  clear hK K
                  have HX8 := Lib.hid HX7
                  have HO8 := HO7
                  have HS8 := HS7
                  have HB8 := HB7
                  have hs8 := HB8.out.size
                  refine z_one (i := 7) rfl (by kernel_rfl) (by rfl) (fun K hK => ?_)
                  refine wp_append_any _ _ _ 36 rfl wz.heap.size 64 i0 _ 5 40 Tryz.underlying36 hi0 hz0 hz1 hz2 rfl (by decide) (.slice A7 0 c7) 0 _ (by rfl) (HO8.out) (wz.heap.size + 1) (some ⟨wz.heap.size, 0, none⟩) 1 1 [.int .i64 0, .int .i64 r1, .int .i64 r2, .int .i64 x, .int .i64 y] (by rfl) (reads_blk HX8.out (Nat.lt_succ_self _) rfl) (by intro u hu; simp at hu; rcases hu with rfl | rfl | rfl | rfl | rfl <;> rfl) (by unfold maxLen; omega) (by omega) (hs8) ?_
                  intro v9 w9 hown9 hg9 hat9
                  have HO9 := Lib.hid hown9
                  have hge9 : ∀ bk, (Value.slice A7 0 c7).ownBlock = some bk → wz.heap.size ≤ bk := own_row_ge HO8.out
                  have HS9 := Lib.hid (HS8.out.grown hg9 (fun g => by have := hge9 _ g.symm; omega))
                  have hB9 := HB8.out.grown hg9 HB8.out.size hge9
                  have HB9 := Lib.hid hB9
                  have hs9 := hB9.size
                  obtain ⟨A9, c9, ev9, _, _, _⟩ := own_form hown9
                  subst ev9
                  clear hown9 hg9 hat9 hB9 hge9
                  refine hK _ _ (fun _ => HS9.out) ?_
                  clear hK K
                  try simp only [Act.put, List.setIfInBounds_toArray]
                  refine z_one (i := 11) rfl (by kernel_rfl) (by rfl) (fun K hK => ?_)
                  refine wp_append_any _ _ _ 36 rfl wz.heap.size 64 i0 _ 5 40 Tryz.underlying36 hi0 hz0 hz1 hz2 rfl (by decide) (.slice A9 (0 + 1) c9) (0 + 1) _ (by rfl) (HO9.out) wz.heap.size _ 0 _ _ (by rfl) (by first | exact Hrd2.out.below HB9.out | exact Hrd3.out.below HB9.out) (stCl_one _ _ _) (by unfold maxLen; omega) (by omega) (hs9) ?_
                  intro v10 w10 hown10 hg10 hat10
                  have hge10 : ∀ bk, (Value.slice A9 (0 + 1) c9).ownBlock = some bk → wz.heap.size ≤ bk := own_row_ge HO9.out
                  have HS10 := Lib.hid (HS9.out.grown hg10 (fun g => by have := hge10 _ g.symm; omega))
                  have HB10 := Lib.hid (HB9.out.grown hg10 HB9.out.size hge10)
                  have HO10 := Lib.hid (ins_own (base' := w2.heap.size) (m := 0) (by omega) (by omega) (show 0 ≤ 0 by omega) hll Hr.out Hx5.out Hx6.out hown10)
                  have HL10 := Lib.hid (show Below w2.heap.size w2 w10 from HL3.out.trans (HLz.out.trans ((HB10.out).mono HLz.out.size) |>.mono hs3))
                  clear hown10 hg10 hat10 hge10
                  refine hK _ _ (fun _ => HS10.out) ?_
                  clear hK K
                  refine z_one (i := 12) rfl (by kernel_rfl) (by rfl) (fun K hK => ?_)
                  go_simp
                  refine hK _ _ (fun h => absurd rfl h) ?_
                  clear hK K
                  refine z_done (by kernel_rfl) ?_ _
                  go_wp2
                  go_roundg (j - (0 + 1))
                  case rel => exact ⟨0 + 1, _, hlt, rfl, by go_num, Hd.out, HO10.out, HL10.out⟩
                  case measure => rw [Hg.out]; omega
              · rcases Classical.em (c8 = 0) with rfl | hne
                · obtain rfl : k = 0 := by omega
                  obtain ⟨wz, hwz⟩ : ∃ wz, wz = ((wo.drewN q).drewN nq).drew := ⟨_, rfl⟩
                  have HSz := Lib.hid (show Blk wz w3.heap.size 64 #[.int .i64 0, .int .i64 r1, .int .i64 r2, .int .i64 x, .int .i64 y] by rw [hwz]; exact HXo.out)
                  have HOz := Lib.hid (show wz.ownsRow w2.heap.size 64 5 (.slice (some ⟨gO, 0, none⟩) 0 0) 0 (stCl (Rk.scoreAt f rows) j l) by rw [hwz]; exact HOo.out)
                  have HLz := Lib.hid (show Below w3.heap.size w3 wz by rw [hwz]; exact below_drewN (below_drewN HLo.out _) (nq + 1))
                  have Hwz := Lib.hid hwz
                  have hsz := HLz.out.size
                  have hXlz := HSz.out.lt
                  clear hwz
                  have Hrd := Lib.hid (Reads.of_own HOz.out)
                  have Hrd1 := Lib.hid (show Reads wz wz.heap.size 5 (some ⟨gO, 0, none⟩) 0 (stCl (Rk.scoreAt f rows) j (l.take 0)) by rw [← stCl_take _ _ _ (by omega)]; exact reads_take5 Hrd.out (by omega))
                  have Hrd2 := Lib.hid (show Reads wz wz.heap.size 5 (if 0 = 0 then ((some ⟨gO, 0, none⟩) : Option Addr) else ((some ⟨gO, 0, none⟩) : Option Addr).map (fun z => z.add (0 * 5))) (0 - 0) (stCl (Rk.scoreAt f rows) j (l.drop 0)) by rw [← stCl_drop _ _ _ (by omega)]; exact Hrd.out.cut (k := 0) (cap := 0) (by omega) hc8)
                  have Hrd3 := Lib.hid (show Reads wz wz.heap.size 5 (some ⟨gO, 0, none⟩) 0 (stCl (Rk.scoreAt f rows) j (l.drop 0)) by have h := Hrd2.out; rw [if_pos rfl] at h; exact h)
                  refine z_region (fun w' => Blk w' w3.heap.size 64 #[.int .i64 0, .int .i64 r1, .int .i64 r2, .int .i64 x, .int .i64 y]) 12 (by kernel_rfl) ?_
                  rw [← Hwz.out]
                  refine z_take (i := 1) (v := ?_) rfl (by kernel_rfl) (by kernel_rfl) (by kernel_rfl) (fun _ _ _ h => h) (by kernel_rfl) (by decide) (HSz.out) (by rfl) (by intro w hSw; go_simp; rfl) ?_
                  refine z_take (i := 2) (v := ?_) rfl (by kernel_rfl) (by kernel_rfl) (by kernel_rfl) (fun _ _ _ h => h) (by kernel_rfl) (by decide) (HSz.out) (by rfl) (by intro w hSw; go_simp; rfl) ?_
                  refine z_take (i := 3) (v := .slice (some ⟨gO, 0, none⟩) 0 0) rfl (by kernel_rfl) (by kernel_rfl) (by kernel_rfl) (fun _ _ _ h => h) (by kernel_rfl) (by decide) (HSz.out) (by rfl) (by intro w hSw; go_simp) ?_
                  refine z_take (i := 5) (v := .agg #[.int .i64 0, .int .i64 r1, .int .i64 r2, .int .i64 x, .int .i64 y]) rfl (by kernel_rfl) (by kernel_rfl) (by kernel_rfl) (fun _ _ _ h => h) (by kernel_rfl) (by decide) (HSz.out) (by rfl) (by intro w hSw; have q0 := hSw.cell 0; have q1 := hSw.cell 1; have q2 := hSw.cell 2; have q3 := hSw.cell 3; have q4 := hSw.cell 4; simp only [List.getElem?_toArray, List.getElem?_cons_zero, List.getElem?_cons_succ] at q0 q1 q2 q3 q4; go_simp) ?_
                  refine z_take (i := 8) (v := ?_) rfl (by kernel_rfl) (by kernel_rfl) (by kernel_rfl) (fun _ _ _ h => h) (by kernel_rfl) (by decide) (HSz.out) (by rfl) (by intro w hSw; go_simp; rfl) ?_
                  refine z_take (i := 9) (v := ?_) rfl (by kernel_rfl) (by kernel_rfl) (by kernel_rfl) (fun _ _ _ h => h) (by kernel_rfl) (by decide) (HSz.out) (by rfl) (by intro w hSw; go_simp; rfl) ?_
                  refine z_take (i := 10) (v := .slice (some ⟨gO, 0, none⟩) 0 0) rfl (by kernel_rfl) (by kernel_rfl) (by kernel_rfl) (fun _ _ _ h => h) (by kernel_rfl) (by decide) (HSz.out) (by rfl) (by intro w hSw; go_simp) ?_
                  simp only [Act.put, List.setIfInBounds_toArray]
                  refine z_two (i := 0) (j := 6) rfl rfl (by kernel_rfl) (by rfl) (by rfl) (fun K hK => ?_) (fun K hK => ?_)
                  · go_simp
                    refine hK _ _ (fun _ => HSz.out.alloc _) ?_
                    clear hK K
                    refine z_two (i := 4) (j := 6) rfl rfl (by kernel_rfl) (by rfl) (by rfl) (fun K hK => ?_) (fun K hK => ?_)
                    · refine wp_append_any _ _ _ 36 rfl wz.heap.size 64 i0 _ 5 40 Tryz.underlying36 hi0 hz0 hz1 hz2 rfl (by decide) (.slice (some ⟨wz.heap.size, 0, none⟩) 0 0) 0 [] (by rfl) (World.ownsRow_made wz #[] 0 (Nat.le_refl _) (Nat.zero_le _) rfl) wz.heap.size (some ⟨gO, 0, none⟩) 0 0 _ (by rfl) (Hrd1.out.alloc (Nat.le_refl _) _) (stCl_one _ _ _) (by unfold maxLen; omega) (by omega) (by first | (simp; done) | (simp; omega)) ?_
                      intro v7 w7 hown7 hg7 hat7
                      obtain ⟨A7, c7, ev7, _, _, _⟩ := own_form hown7
                      rw [Nat.zero_add] at ev7
                      subst ev7
                      have HO7 := Lib.hid (show w7.ownsRow wz.heap.size 64 5 (.slice A7 0 c7) 0 (stCl (Rk.scoreAt f rows) j (l.take 0)) by simpa using hown7)
                      have HS7 := Lib.hid ((HSz.out.alloc _).grown hg7 (fun g => by have e2 : some w3.heap.size = some (wz.heap.size) := g; injection e2 with e2; omega))
                      have hB7 : Below wz.heap.size wz w7 := ((Below.refl wz.heap.size wz).alloc (Nat.le_refl _) _).grown hg7 (by simp; try omega) (fun b e => by have e2 : some (wz.heap.size) = some b := e; injection e2 with e2; omega)
                      have HB7 := Lib.hid hB7
                      have hs7 := hB7.size
                      clear hown7 hg7 hat7 hB7
                      refine hK _ _ (fun _ => HS7.out) ?_
                      clear hK K
                      refine z_one (i := 6) rfl (by kernel_rfl) (by rfl) (fun K hK => ?_)
                      go_simp
                      refine hK _ _ (fun _ => HS7.out.alloc _) ?_
                      clear hK K
                      have HX8 := Lib.hid (Blk.new w7 64 #[.int .i64 0, .int .i64 r1, .int .i64 r2, .int .i64 x, .int .i64 y])
                      have HO8 := Lib.hid (own_kept (w' := w7.alloc (.cells #[.int .i64 0, .int .i64 r1, .int .i64 r2, .int .i64 x, .int .i64 y] 64)) (row := none) HO7.out (World.grownBy_alloc w7 _ none) (fun g e => by cases e))
                      have HS8 := Lib.hid (HS7.out.alloc (.cells #[.int .i64 0, .int .i64 r1, .int .i64 r2, .int .i64 x, .int .i64 y] 64))
                      have HB8 := Lib.hid (HB7.out.alloc HB7.out.size (.cells #[.int .i64 0, .int .i64 r1, .int .i64 r2, .int .i64 x, .int .i64 y] 64))
                      have hs8 := HB8.out.size
                      refine z_one (i := 7) rfl (by kernel_rfl) (by rfl) (fun K hK => ?_)
                      refine wp_append_any _ _ _ 36 rfl wz.heap.size 64 i0 _ 5 40 Tryz.underlying36 hi0 hz0 hz1 hz2 rfl (by decide) (.slice A7 0 c7) 0 _ (by rfl) (HO8.out) (w7.heap.size + 1) (some ⟨w7.heap.size, 0, none⟩) 1 1 [.int .i64 0, .int .i64 r1, .int .i64 r2, .int .i64 x, .int .i64 y] (by rfl) (reads_blk HX8.out (Nat.lt_succ_self _) rfl) (by intro u hu; simp at hu; rcases hu with rfl | rfl | rfl | rfl | rfl <;> rfl) (by unfold maxLen; omega) (by omega) (hs8) ?_
                      intro v9 w9 hown9 hg9 hat9
                      have HO9 := Lib.hid hown9
                      have hge9 : ∀ bk, (Value.slice A7 0 c7).ownBlock = some bk → wz.heap.size ≤ bk := own_row_ge HO8.out
                      have HS9 := Lib.hid (HS8.out.grown hg9 (fun g => by have := hge9 _ g.symm; omega))
                      have hB9 := HB8.out.grown hg9 HB8.out.size hge9
                      have HB9 := Lib.hid hB9
                      have hs9 := hB9.size
                      obtain ⟨A9, c9, ev9, _, _, _⟩ := own_form hown9
                      subst ev9
                      clear hown9 hg9 hat9 hB9 hge9
                      refine hK _ _ (fun _ => HS9.out) ?_
                      clear hK K
                      try simp only [Act.put, List.setIfInBounds_toArray]
                      refine z_one (i := 11) rfl (by kernel_rfl) (by rfl) (fun K hK => ?_)
                      refine wp_append_any _ _ _ 36 rfl wz.heap.size 64 i0 _ 5 40 Tryz.underlying36 hi0 hz0 hz1 hz2 rfl (by decide) (.slice A9 (0 + 1) c9) (0 + 1) _ (by rfl) (HO9.out) wz.heap.size _ 0 _ _ (by rfl) (by first | exact Hrd2.out.below HB9.out | exact Hrd3.out.below HB9.out) (stCl_one _ _ _) (by unfold maxLen; omega) (by omega) (hs9) ?_
                      intro v10 w10 hown10 hg10 hat10
                      have hge10 : ∀ bk, (Value.slice A9 (0 + 1) c9).ownBlock = some bk → wz.heap.size ≤ bk := own_row_ge HO9.out
                      have HS10 := Lib.hid (HS9.out.grown hg10 (fun g => by have := hge10 _ g.symm; omega))
                      have HB10 := Lib.hid (HB9.out.grown hg10 HB9.out.size hge10)
                      have HO10 := Lib.hid (ins_own (base' := w2.heap.size) (m := 0) (by omega) (by omega) (show 0 ≤ 0 by omega) hll Hr.out Hx5.out Hx6.out hown10)
                      have HL10 := Lib.hid (show Below w2.heap.size w2 w10 from HL3.out.trans (HLz.out.trans ((HB10.out).mono HLz.out.size) |>.mono hs3))
                      clear hown10 hg10 hat10 hge10
                      refine hK _ _ (fun _ => HS10.out) ?_
                      clear hK K
                      refine z_one (i := 12) rfl (by kernel_rfl) (by rfl) (fun K hK => ?_)
                      go_simp
                      refine hK _ _ (fun h => absurd rfl h) ?_
                      clear hK K
                      refine z_done (by kernel_rfl) ?_ _
                      go_wp2
                      go_roundg (j - (0 + 1))
                      case rel => exact ⟨0 + 1, _, hlt, rfl, by go_num, Hd.out, HO10.out, HL10.out⟩
                      case measure => rw [Hg.out]; omega
                    · go_simp
                      refine hK _ _ (fun _ => (HSz.out.alloc _).alloc _) ?_
                      clear hK K
                      refine z_one (i := 4) rfl (by kernel_rfl) (by rfl) (fun K hK => ?_)
                      refine wp_append_any _ _ _ 36 rfl wz.heap.size 64 i0 _ 5 40 Tryz.underlying36 hi0 hz0 hz1 hz2 rfl (by decide) (.slice (some ⟨wz.heap.size, 0, none⟩) 0 0) 0 [] (by rfl) (own_kept (row := none) (World.ownsRow_made wz #[] 0 (Nat.le_refl _) (Nat.zero_le _) rfl) (World.grownBy_alloc _ _ none) (fun g e => by cases e)) wz.heap.size (some ⟨gO, 0, none⟩) 0 0 _ (by rfl) (Hrd1.out.alloc (Nat.le_refl _) _ |>.alloc (by simp) _) (stCl_one _ _ _) (by unfold maxLen; omega) (by omega) (by first | (simp; done) | (simp; omega)) ?_
                      intro v7 w7 hown7 hg7 hat7
                      obtain ⟨A7, c7, ev7, _, _, _⟩ := own_form hown7
                      rw [Nat.zero_add] at ev7
                      subst ev7
                      have HO7 := Lib.hid (show w7.ownsRow wz.heap.size 64 5 (.slice A7 0 c7) 0 (stCl (Rk.scoreAt f rows) j (l.take 0)) by simpa using hown7)
                      have HS7 := Lib.hid (((HSz.out.alloc _).alloc _).grown hg7 (fun g => by have e2 : some w3.heap.size = some (wz.heap.size) := g; injection e2 with e2; omega))
                      have hB7 : Below wz.heap.size wz w7 := (((Below.refl wz.heap.size wz).alloc (Nat.le_refl _) _).alloc (by simp) _).grown hg7 (by simp; try omega) (fun b e => by have e2 : some (wz.heap.size) = some b := e; injection e2 with e2; omega)
                      have HX7 : Blk w7 (wz.heap.size + 1) 64 #[.int .i64 0, .int .i64 r1, .int .i64 r2, .int .i64 x, .int .i64 y] := (newBlk (by simp) _ _).grown hg7 (fun e => by have e2 : some (wz.heap.size + 1) = some wz.heap.size := e; injection e2 with e2; omega)
                      have HB7 := Lib.hid hB7
                      have hs7 := hB7.size
                      clear hown7 hg7 hat7 hB7
                      refine hK _ _ (fun _ => HS7.out) ?_
                      clear hK K
                      have HX8 := Lib.hid HX7
                      have HO8 := HO7
                      have HS8 := HS7
                      have HB8 := HB7
                      have hs8 := HB8.out.size
                      refine z_one (i := 7) rfl (by kernel_rfl) (by rfl) (fun K hK => ?_)
                      refine wp_append_any _ _ _ 36 rfl wz.heap.size 64 i0 _ 5 40 Tryz.underlying36 hi0 hz0 hz1 hz2 rfl (by decide) (.slice A7 0 c7) 0 _ (by rfl) (HO8.out) ((wz.heap.size + 1) + 1) (some ⟨(wz.heap.size + 1), 0, none⟩) 1 1 [.int .i64 0, .int .i64 r1, .int .i64 r2, .int .i64 x, .int .i64 y] (by rfl) (reads_blk HX8.out (Nat.lt_succ_self _) rfl) (by intro u hu; simp at hu; rcases hu with rfl | rfl | rfl | rfl | rfl <;> rfl) (by unfold maxLen; omega) (by omega) (hs8) ?_
                      intro v9 w9 hown9 hg9 hat9
                      have HO9 := Lib.hid hown9
                      have hge9 : ∀ bk, (Value.slice A7 0 c7).ownBlock = some bk → wz.heap.size ≤ bk := own_row_ge HO8.out
                      have HS9 := Lib.hid (HS8.out.grown hg9 (fun g => by have := hge9 _ g.symm; omega))
                      have hB9 := HB8.out.grown hg9 HB8.out.size hge9
                      have HB9 := Lib.hid hB9
                      have hs9 := hB9.size
                      obtain ⟨A9, c9, ev9, _, _, _⟩ := own_form hown9
                      subst ev9
                      clear hown9 hg9 hat9 hB9 hge9
                      refine hK _ _ (fun _ => HS9.out) ?_
                      clear hK K
                      try simp only [Act.put, List.setIfInBounds_toArray]
                      refine z_one (i := 11) rfl (by kernel_rfl) (by rfl) (fun K hK => ?_)
                      refine wp_append_any _ _ _ 36 rfl wz.heap.size 64 i0 _ 5 40 Tryz.underlying36 hi0 hz0 hz1 hz2 rfl (by decide) (.slice A9 (0 + 1) c9) (0 + 1) _ (by rfl) (HO9.out) wz.heap.size _ 0 _ _ (by rfl) (by first | exact Hrd2.out.below HB9.out | exact Hrd3.out.below HB9.out) (stCl_one _ _ _) (by unfold maxLen; omega) (by omega) (hs9) ?_
                      intro v10 w10 hown10 hg10 hat10
                      have hge10 : ∀ bk, (Value.slice A9 (0 + 1) c9).ownBlock = some bk → wz.heap.size ≤ bk := own_row_ge HO9.out
                      have HS10 := Lib.hid (HS9.out.grown hg10 (fun g => by have := hge10 _ g.symm; omega))
                      have HB10 := Lib.hid (HB9.out.grown hg10 HB9.out.size hge10)
                      have HO10 := Lib.hid (ins_own (base' := w2.heap.size) (m := 0) (by omega) (by omega) (show 0 ≤ 0 by omega) hll Hr.out Hx5.out Hx6.out hown10)
                      have HL10 := Lib.hid (show Below w2.heap.size w2 w10 from HL3.out.trans (HLz.out.trans ((HB10.out).mono HLz.out.size) |>.mono hs3))
                      clear hown10 hg10 hat10 hge10
                      refine hK _ _ (fun _ => HS10.out) ?_
                      clear hK K
                      refine z_one (i := 12) rfl (by kernel_rfl) (by rfl) (fun K hK => ?_)
                      go_simp
                      refine hK _ _ (fun h => absurd rfl h) ?_
                      clear hK K
                      refine z_done (by kernel_rfl) ?_ _
                      go_wp2
                      go_roundg (j - (0 + 1))
                      case rel => exact ⟨0 + 1, _, hlt, rfl, by go_num, Hd.out, HO10.out, HL10.out⟩
                      case measure => rw [Hg.out]; omega
                  · go_simp
                    refine hK _ _ (fun _ => HSz.out.alloc _) ?_
                    clear hK K
                    refine z_one (i := 0) rfl (by kernel_rfl) (by rfl) (fun K hK => ?_)
                    go_simp
                    refine hK _ _ (fun _ => (HSz.out.alloc _).alloc _) ?_
                    clear hK K
                    refine z_one (i := 4) rfl (by kernel_rfl) (by rfl) (fun K hK => ?_)
                    refine wp_append_any _ _ _ 36 rfl wz.heap.size 64 i0 _ 5 40 Tryz.underlying36 hi0 hz0 hz1 hz2 rfl (by decide) (.slice (some ⟨wz.heap.size + 1, 0, none⟩) 0 0) 0 [] (by rfl) (made_next wz _) wz.heap.size (some ⟨gO, 0, none⟩) 0 0 _ (by rfl) (Hrd1.out.alloc (Nat.le_refl _) _ |>.alloc (by simp) _) (stCl_one _ _ _) (by unfold maxLen; omega) (by omega) (by first | (simp; done) | (simp; omega)) ?_
                    intro v7 w7 hown7 hg7 hat7
                    obtain ⟨A7, c7, ev7, _, _, _⟩ := own_form hown7
                    rw [Nat.zero_add] at ev7
                    subst ev7
                    have HO7 := Lib.hid (show w7.ownsRow wz.heap.size 64 5 (.slice A7 0 c7) 0 (stCl (Rk.scoreAt f rows) j (l.take 0)) by simpa using hown7)
                    have HS7 := Lib.hid (((HSz.out.alloc _).alloc _).grown hg7 (fun g => by have e2 : some w3.heap.size = some (wz.heap.size + 1) := g; injection e2 with e2; omega))
                    have hB7 : Below wz.heap.size wz w7 := (((Below.refl wz.heap.size wz).alloc (Nat.le_refl _) _).alloc (by simp) _).grown hg7 (by simp; try omega) (fun b e => by have e2 : some (wz.heap.size + 1) = some b := e; injection e2 with e2; omega)
                    have HX7 : Blk w7 wz.heap.size 64 #[.int .i64 0, .int .i64 r1, .int .i64 r2, .int .i64 x, .int .i64 y] := ((Blk.new wz _ _).alloc _).grown hg7 (fun e => by have e2 : some wz.heap.size = some (wz.heap.size + 1) := e; injection e2 with e2; omega)
                    have HB7 := Lib.hid hB7
                    have hs7 := hB7.size
                    clear hown7 hg7 hat7 hB7
                    refine hK _ _ (fun _ => HS7.out) ?_
                    clear hK K
                    have HX8 := Lib.hid HX7
                    have HO8 := HO7
                    have HS8 := HS7
                    have HB8 := HB7
                    have hs8 := HB8.out.size
                    refine z_one (i := 7) rfl (by kernel_rfl) (by rfl) (fun K hK => ?_)
                    refine wp_append_any _ _ _ 36 rfl wz.heap.size 64 i0 _ 5 40 Tryz.underlying36 hi0 hz0 hz1 hz2 rfl (by decide) (.slice A7 0 c7) 0 _ (by rfl) (HO8.out) (wz.heap.size + 1) (some ⟨wz.heap.size, 0, none⟩) 1 1 [.int .i64 0, .int .i64 r1, .int .i64 r2, .int .i64 x, .int .i64 y] (by rfl) (reads_blk HX8.out (Nat.lt_succ_self _) rfl) (by intro u hu; simp at hu; rcases hu with rfl | rfl | rfl | rfl | rfl <;> rfl) (by unfold maxLen; omega) (by omega) (hs8) ?_
                    intro v9 w9 hown9 hg9 hat9
                    have HO9 := Lib.hid hown9
                    have hge9 : ∀ bk, (Value.slice A7 0 c7).ownBlock = some bk → wz.heap.size ≤ bk := own_row_ge HO8.out
                    have HS9 := Lib.hid (HS8.out.grown hg9 (fun g => by have := hge9 _ g.symm; omega))
                    have hB9 := HB8.out.grown hg9 HB8.out.size hge9
                    have HB9 := Lib.hid hB9
                    have hs9 := hB9.size
                    obtain ⟨A9, c9, ev9, _, _, _⟩ := own_form hown9
                    subst ev9
                    clear hown9 hg9 hat9 hB9 hge9
                    refine hK _ _ (fun _ => HS9.out) ?_
                    clear hK K
                    try simp only [Act.put, List.setIfInBounds_toArray]
                    refine z_one (i := 11) rfl (by kernel_rfl) (by rfl) (fun K hK => ?_)
                    refine wp_append_any _ _ _ 36 rfl wz.heap.size 64 i0 _ 5 40 Tryz.underlying36 hi0 hz0 hz1 hz2 rfl (by decide) (.slice A9 (0 + 1) c9) (0 + 1) _ (by rfl) (HO9.out) wz.heap.size _ 0 _ _ (by rfl) (by first | exact Hrd2.out.below HB9.out | exact Hrd3.out.below HB9.out) (stCl_one _ _ _) (by unfold maxLen; omega) (by omega) (hs9) ?_
                    intro v10 w10 hown10 hg10 hat10
                    have hge10 : ∀ bk, (Value.slice A9 (0 + 1) c9).ownBlock = some bk → wz.heap.size ≤ bk := own_row_ge HO9.out
                    have HS10 := Lib.hid (HS9.out.grown hg10 (fun g => by have := hge10 _ g.symm; omega))
                    have HB10 := Lib.hid (HB9.out.grown hg10 HB9.out.size hge10)
                    have HO10 := Lib.hid (ins_own (base' := w2.heap.size) (m := 0) (by omega) (by omega) (show 0 ≤ 0 by omega) hll Hr.out Hx5.out Hx6.out hown10)
                    have HL10 := Lib.hid (show Below w2.heap.size w2 w10 from HL3.out.trans (HLz.out.trans ((HB10.out).mono HLz.out.size) |>.mono hs3))
                    clear hown10 hg10 hat10 hge10
                    refine hK _ _ (fun _ => HS10.out) ?_
                    clear hK K
                    refine z_one (i := 12) rfl (by kernel_rfl) (by rfl) (fun K hK => ?_)
                    go_simp
                    refine hK _ _ (fun h => absurd rfl h) ?_
                    clear hK K
                    refine z_done (by kernel_rfl) ?_ _
                    go_wp2
                    go_roundg (j - (0 + 1))
                    case rel => exact ⟨0 + 1, _, hlt, rfl, by go_num, Hd.out, HO10.out, HL10.out⟩
                    case measure => rw [Hg.out]; omega
                · obtain ⟨wz, hwz⟩ : ∃ wz, wz = ((wo.drewN q).drewN nq).drew := ⟨_, rfl⟩
                  have HSz := Lib.hid (show Blk wz w3.heap.size 64 #[.int .i64 k, .int .i64 r1, .int .i64 r2, .int .i64 x, .int .i64 y] by rw [hwz]; exact HXo.out)
                  have HOz := Lib.hid (show wz.ownsRow w2.heap.size 64 5 (.slice (some ⟨gO, 0, none⟩) k c8) k (stCl (Rk.scoreAt f rows) j l) by rw [hwz]; exact HOo.out)
                  have HLz := Lib.hid (show Below w3.heap.size w3 wz by rw [hwz]; exact below_drewN (below_drewN HLo.out _) (nq + 1))
                  have Hwz := Lib.hid hwz
                  have hsz := HLz.out.size
                  have hXlz := HSz.out.lt
                  clear hwz
                  have Hrd := Lib.hid (Reads.of_own HOz.out)
                  have Hrd1 := Lib.hid (show Reads wz wz.heap.size 5 (some ⟨gO, 0, none⟩) 0 (stCl (Rk.scoreAt f rows) j (l.take 0)) by rw [← stCl_take _ _ _ (by omega)]; exact reads_take5 Hrd.out (by omega))
                  have Hrd2 := Lib.hid (show Reads wz wz.heap.size 5 (if c8 = 0 then ((some ⟨gO, 0, none⟩) : Option Addr) else ((some ⟨gO, 0, none⟩) : Option Addr).map (fun z => z.add (0 * 5))) (k - 0) (stCl (Rk.scoreAt f rows) j (l.drop 0)) by rw [← stCl_drop _ _ _ (by omega)]; exact Hrd.out.cut (k := 0) (cap := c8) (by omega) hc8)
                  have Hrd3 := Lib.hid (show Reads wz wz.heap.size 5 (some ⟨gO, 0, none⟩) k (stCl (Rk.scoreAt f rows) j (l.drop 0)) by have h := Hrd2.out; rw [if_neg hne] at h; simpa [Addr.add] using h)
                  refine z_region (fun w' => Blk w' w3.heap.size 64 #[.int .i64 k, .int .i64 r1, .int .i64 r2, .int .i64 x, .int .i64 y]) 12 (by kernel_rfl) ?_
                  rw [← Hwz.out]
                  refine z_take (i := 1) (v := ?_) rfl (by kernel_rfl) (by kernel_rfl) (by kernel_rfl) (fun _ _ _ h => h) (by kernel_rfl) (by decide) (HSz.out) (by rfl) (by intro w hSw; go_simp; rfl) ?_
                  refine z_take (i := 2) (v := ?_) rfl (by kernel_rfl) (by kernel_rfl) (by kernel_rfl) (fun _ _ _ h => h) (by kernel_rfl) (by decide) (HSz.out) (by rfl) (by intro w hSw; go_simp; rfl) ?_
                  refine z_take (i := 3) (v := .slice (some ⟨gO, 0, none⟩) 0 c8) rfl (by kernel_rfl) (by kernel_rfl) (by kernel_rfl) (fun _ _ _ h => h) (by kernel_rfl) (by decide) (HSz.out) (by rfl) (by intro w hSw; go_simp) ?_
                  refine z_take (i := 5) (v := .agg #[.int .i64 k, .int .i64 r1, .int .i64 r2, .int .i64 x, .int .i64 y]) rfl (by kernel_rfl) (by kernel_rfl) (by kernel_rfl) (fun _ _ _ h => h) (by kernel_rfl) (by decide) (HSz.out) (by rfl) (by intro w hSw; have q0 := hSw.cell 0; have q1 := hSw.cell 1; have q2 := hSw.cell 2; have q3 := hSw.cell 3; have q4 := hSw.cell 4; simp only [List.getElem?_toArray, List.getElem?_cons_zero, List.getElem?_cons_succ] at q0 q1 q2 q3 q4; go_simp) ?_
                  refine z_take (i := 8) (v := ?_) rfl (by kernel_rfl) (by kernel_rfl) (by kernel_rfl) (fun _ _ _ h => h) (by kernel_rfl) (by decide) (HSz.out) (by rfl) (by intro w hSw; go_simp; rfl) ?_
                  refine z_take (i := 9) (v := ?_) rfl (by kernel_rfl) (by kernel_rfl) (by kernel_rfl) (fun _ _ _ h => h) (by kernel_rfl) (by decide) (HSz.out) (by rfl) (by intro w hSw; go_simp; rfl) ?_
                  refine z_take (i := 10) (v := .slice (some ⟨gO, 0, none⟩) k c8) rfl (by kernel_rfl) (by kernel_rfl) (by kernel_rfl) (fun _ _ _ h => h) (by kernel_rfl) (by decide) (HSz.out) (by rfl) (by intro w hSw; go_simp) ?_
                  simp only [Act.put, List.setIfInBounds_toArray]
                  refine z_two (i := 0) (j := 6) rfl rfl (by kernel_rfl) (by rfl) (by rfl) (fun K hK => ?_) (fun K hK => ?_)
                  · go_simp
                    refine hK _ _ (fun _ => HSz.out.alloc _) ?_
                    clear hK K
                    refine z_two (i := 4) (j := 6) rfl rfl (by kernel_rfl) (by rfl) (by rfl) (fun K hK => ?_) (fun K hK => ?_)
                    · refine wp_append_any _ _ _ 36 rfl wz.heap.size 64 i0 _ 5 40 Tryz.underlying36 hi0 hz0 hz1 hz2 rfl (by decide) (.slice (some ⟨wz.heap.size, 0, none⟩) 0 0) 0 [] (by rfl) (World.ownsRow_made wz #[] 0 (Nat.le_refl _) (Nat.zero_le _) rfl) wz.heap.size (some ⟨gO, 0, none⟩) 0 c8 _ (by rfl) (Hrd1.out.alloc (Nat.le_refl _) _) (stCl_one _ _ _) (by unfold maxLen; omega) (by omega) (by first | (simp; done) | (simp; omega)) ?_
                      intro v7 w7 hown7 hg7 hat7
                      obtain ⟨A7, c7, ev7, _, _, _⟩ := own_form hown7
                      rw [Nat.zero_add] at ev7
                      subst ev7
                      have HO7 := Lib.hid (show w7.ownsRow wz.heap.size 64 5 (.slice A7 0 c7) 0 (stCl (Rk.scoreAt f rows) j (l.take 0)) by simpa using hown7)
                      have HS7 := Lib.hid ((HSz.out.alloc _).grown hg7 (fun g => by have e2 : some w3.heap.size = some (wz.heap.size) := g; injection e2 with e2; omega))
                      have hB7 : Below wz.heap.size wz w7 := ((Below.refl wz.heap.size wz).alloc (Nat.le_refl _) _).grown hg7 (by simp; try omega) (fun b e => by have e2 : some (wz.heap.size) = some b := e; injection e2 with e2; omega)
                      have HB7 := Lib.hid hB7
                      have hs7 := hB7.size
                      clear hown7 hg7 hat7 hB7
                      refine hK _ _ (fun _ => HS7.out) ?_
                      clear hK K
                      refine z_one (i := 6) rfl (by kernel_rfl) (by rfl) (fun K hK => ?_)
                      go_simp
                      refine hK _ _ (fun _ => HS7.out.alloc _) ?_
                      clear hK K
                      have HX8 := Lib.hid (Blk.new w7 64 #[.int .i64 k, .int .i64 r1, .int .i64 r2, .int .i64 x, .int .i64 y])
                      have HO8 := Lib.hid (own_kept (w' := w7.alloc (.cells #[.int .i64 k, .int .i64 r1, .int .i64 r2, .int .i64 x, .int .i64 y] 64)) (row := none) HO7.out (World.grownBy_alloc w7 _ none) (fun g e => by cases e))
                      have HS8 := Lib.hid (HS7.out.alloc (.cells #[.int .i64 k, .int .i64 r1, .int .i64 r2, .int .i64 x, .int .i64 y] 64))
                      have HB8 := Lib.hid (HB7.out.alloc HB7.out.size (.cells #[.int .i64 k, .int .i64 r1, .int .i64 r2, .int .i64 x, .int .i64 y] 64))
                      have hs8 := HB8.out.size
                      refine z_one (i := 7) rfl (by kernel_rfl) (by rfl) (fun K hK => ?_)
                      refine wp_append_any _ _ _ 36 rfl wz.heap.size 64 i0 _ 5 40 Tryz.underlying36 hi0 hz0 hz1 hz2 rfl (by decide) (.slice A7 0 c7) 0 _ (by rfl) (HO8.out) (w7.heap.size + 1) (some ⟨w7.heap.size, 0, none⟩) 1 1 [.int .i64 k, .int .i64 r1, .int .i64 r2, .int .i64 x, .int .i64 y] (by rfl) (reads_blk HX8.out (Nat.lt_succ_self _) rfl) (by intro u hu; simp at hu; rcases hu with rfl | rfl | rfl | rfl | rfl <;> rfl) (by unfold maxLen; omega) (by omega) (hs8) ?_
                      intro v9 w9 hown9 hg9 hat9
                      have HO9 := Lib.hid hown9
                      have hge9 : ∀ bk, (Value.slice A7 0 c7).ownBlock = some bk → wz.heap.size ≤ bk := own_row_ge HO8.out
                      have HS9 := Lib.hid (HS8.out.grown hg9 (fun g => by have := hge9 _ g.symm; omega))
                      have hB9 := HB8.out.grown hg9 HB8.out.size hge9
                      have HB9 := Lib.hid hB9
                      have hs9 := hB9.size
                      obtain ⟨A9, c9, ev9, _, _, _⟩ := own_form hown9
                      subst ev9
                      clear hown9 hg9 hat9 hB9 hge9
                      refine hK _ _ (fun _ => HS9.out) ?_
                      clear hK K
                      try simp only [Act.put, List.setIfInBounds_toArray]
                      refine z_one (i := 11) rfl (by kernel_rfl) (by rfl) (fun K hK => ?_)
                      refine wp_append_any _ _ _ 36 rfl wz.heap.size 64 i0 _ 5 40 Tryz.underlying36 hi0 hz0 hz1 hz2 rfl (by decide) (.slice A9 (0 + 1) c9) (0 + 1) _ (by rfl) (HO9.out) wz.heap.size _ k _ _ (by rfl) (by first | exact Hrd2.out.below HB9.out | exact Hrd3.out.below HB9.out) (stCl_one _ _ _) (by unfold maxLen; omega) (by omega) (hs9) ?_
                      intro v10 w10 hown10 hg10 hat10
                      have hge10 : ∀ bk, (Value.slice A9 (0 + 1) c9).ownBlock = some bk → wz.heap.size ≤ bk := own_row_ge HO9.out
                      have HS10 := Lib.hid (HS9.out.grown hg10 (fun g => by have := hge10 _ g.symm; omega))
                      have HB10 := Lib.hid (HB9.out.grown hg10 HB9.out.size hge10)
                      have HO10 := Lib.hid (ins_own (base' := w2.heap.size) (m := k) (by omega) (by omega) (show 0 ≤ k by omega) hll Hr.out Hx5.out Hx6.out hown10)
                      have HL10 := Lib.hid (show Below w2.heap.size w2 w10 from HL3.out.trans (HLz.out.trans ((HB10.out).mono HLz.out.size) |>.mono hs3))
                      clear hown10 hg10 hat10 hge10
                      refine hK _ _ (fun _ => HS10.out) ?_
                      clear hK K
                      refine z_one (i := 12) rfl (by kernel_rfl) (by rfl) (fun K hK => ?_)
                      go_simp
                      refine hK _ _ (fun h => absurd rfl h) ?_
                      clear hK K
                      refine z_done (by kernel_rfl) ?_ _
                      go_wp2
                      go_roundg (j - (k + 1))
                      case rel => exact ⟨k + 1, _, hlt, rfl, by go_num, Hd.out, HO10.out, HL10.out⟩
                      case measure => rw [Hg.out]; omega
                    · go_simp
                      refine hK _ _ (fun _ => (HSz.out.alloc _).alloc _) ?_
                      clear hK K
                      refine z_one (i := 4) rfl (by kernel_rfl) (by rfl) (fun K hK => ?_)
                      refine wp_append_any _ _ _ 36 rfl wz.heap.size 64 i0 _ 5 40 Tryz.underlying36 hi0 hz0 hz1 hz2 rfl (by decide) (.slice (some ⟨wz.heap.size, 0, none⟩) 0 0) 0 [] (by rfl) (own_kept (row := none) (World.ownsRow_made wz #[] 0 (Nat.le_refl _) (Nat.zero_le _) rfl) (World.grownBy_alloc _ _ none) (fun g e => by cases e)) wz.heap.size (some ⟨gO, 0, none⟩) 0 c8 _ (by rfl) (Hrd1.out.alloc (Nat.le_refl _) _ |>.alloc (by simp) _) (stCl_one _ _ _) (by unfold maxLen; omega) (by omega) (by first | (simp; done) | (simp; omega)) ?_
                      intro v7 w7 hown7 hg7 hat7
                      obtain ⟨A7, c7, ev7, _, _, _⟩ := own_form hown7
                      rw [Nat.zero_add] at ev7
                      subst ev7
                      have HO7 := Lib.hid (show w7.ownsRow wz.heap.size 64 5 (.slice A7 0 c7) 0 (stCl (Rk.scoreAt f rows) j (l.take 0)) by simpa using hown7)
                      have HS7 := Lib.hid (((HSz.out.alloc _).alloc _).grown hg7 (fun g => by have e2 : some w3.heap.size = some (wz.heap.size) := g; injection e2 with e2; omega))
                      have hB7 : Below wz.heap.size wz w7 := (((Below.refl wz.heap.size wz).alloc (Nat.le_refl _) _).alloc (by simp) _).grown hg7 (by simp; try omega) (fun b e => by have e2 : some (wz.heap.size) = some b := e; injection e2 with e2; omega)
                      have HX7 : Blk w7 (wz.heap.size + 1) 64 #[.int .i64 k, .int .i64 r1, .int .i64 r2, .int .i64 x, .int .i64 y] := (newBlk (by simp) _ _).grown hg7 (fun e => by have e2 : some (wz.heap.size + 1) = some wz.heap.size := e; injection e2 with e2; omega)
                      have HB7 := Lib.hid hB7
                      have hs7 := hB7.size
                      clear hown7 hg7 hat7 hB7
                      refine hK _ _ (fun _ => HS7.out) ?_
                      clear hK K
                      have HX8 := Lib.hid HX7
                      have HO8 := HO7
                      have HS8 := HS7
                      have HB8 := HB7
                      have hs8 := HB8.out.size
                      refine z_one (i := 7) rfl (by kernel_rfl) (by rfl) (fun K hK => ?_)
                      refine wp_append_any _ _ _ 36 rfl wz.heap.size 64 i0 _ 5 40 Tryz.underlying36 hi0 hz0 hz1 hz2 rfl (by decide) (.slice A7 0 c7) 0 _ (by rfl) (HO8.out) ((wz.heap.size + 1) + 1) (some ⟨(wz.heap.size + 1), 0, none⟩) 1 1 [.int .i64 k, .int .i64 r1, .int .i64 r2, .int .i64 x, .int .i64 y] (by rfl) (reads_blk HX8.out (Nat.lt_succ_self _) rfl) (by intro u hu; simp at hu; rcases hu with rfl | rfl | rfl | rfl | rfl <;> rfl) (by unfold maxLen; omega) (by omega) (hs8) ?_
                      intro v9 w9 hown9 hg9 hat9
                      have HO9 := Lib.hid hown9
                      have hge9 : ∀ bk, (Value.slice A7 0 c7).ownBlock = some bk → wz.heap.size ≤ bk := own_row_ge HO8.out
                      have HS9 := Lib.hid (HS8.out.grown hg9 (fun g => by have := hge9 _ g.symm; omega))
                      have hB9 := HB8.out.grown hg9 HB8.out.size hge9
                      have HB9 := Lib.hid hB9
                      have hs9 := hB9.size
                      obtain ⟨A9, c9, ev9, _, _, _⟩ := own_form hown9
                      subst ev9
                      clear hown9 hg9 hat9 hB9 hge9
                      refine hK _ _ (fun _ => HS9.out) ?_
                      clear hK K
                      try simp only [Act.put, List.setIfInBounds_toArray]
                      refine z_one (i := 11) rfl (by kernel_rfl) (by rfl) (fun K hK => ?_)
                      refine wp_append_any _ _ _ 36 rfl wz.heap.size 64 i0 _ 5 40 Tryz.underlying36 hi0 hz0 hz1 hz2 rfl (by decide) (.slice A9 (0 + 1) c9) (0 + 1) _ (by rfl) (HO9.out) wz.heap.size _ k _ _ (by rfl) (by first | exact Hrd2.out.below HB9.out | exact Hrd3.out.below HB9.out) (stCl_one _ _ _) (by unfold maxLen; omega) (by omega) (hs9) ?_
                      intro v10 w10 hown10 hg10 hat10
                      have hge10 : ∀ bk, (Value.slice A9 (0 + 1) c9).ownBlock = some bk → wz.heap.size ≤ bk := own_row_ge HO9.out
                      have HS10 := Lib.hid (HS9.out.grown hg10 (fun g => by have := hge10 _ g.symm; omega))
                      have HB10 := Lib.hid (HB9.out.grown hg10 HB9.out.size hge10)
                      have HO10 := Lib.hid (ins_own (base' := w2.heap.size) (m := k) (by omega) (by omega) (show 0 ≤ k by omega) hll Hr.out Hx5.out Hx6.out hown10)
                      have HL10 := Lib.hid (show Below w2.heap.size w2 w10 from HL3.out.trans (HLz.out.trans ((HB10.out).mono HLz.out.size) |>.mono hs3))
                      clear hown10 hg10 hat10 hge10
                      refine hK _ _ (fun _ => HS10.out) ?_
                      clear hK K
                      refine z_one (i := 12) rfl (by kernel_rfl) (by rfl) (fun K hK => ?_)
                      go_simp
                      refine hK _ _ (fun h => absurd rfl h) ?_
                      clear hK K
                      refine z_done (by kernel_rfl) ?_ _
                      go_wp2
                      go_roundg (j - (k + 1))
                      case rel => exact ⟨k + 1, _, hlt, rfl, by go_num, Hd.out, HO10.out, HL10.out⟩
                      case measure => rw [Hg.out]; omega
                  · go_simp
                    refine hK _ _ (fun _ => HSz.out.alloc _) ?_
                    clear hK K
                    refine z_one (i := 0) rfl (by kernel_rfl) (by rfl) (fun K hK => ?_)
                    go_simp
                    refine hK _ _ (fun _ => (HSz.out.alloc _).alloc _) ?_
                    clear hK K
                    refine z_one (i := 4) rfl (by kernel_rfl) (by rfl) (fun K hK => ?_)
                    refine wp_append_any _ _ _ 36 rfl wz.heap.size 64 i0 _ 5 40 Tryz.underlying36 hi0 hz0 hz1 hz2 rfl (by decide) (.slice (some ⟨wz.heap.size + 1, 0, none⟩) 0 0) 0 [] (by rfl) (made_next wz _) wz.heap.size (some ⟨gO, 0, none⟩) 0 c8 _ (by rfl) (Hrd1.out.alloc (Nat.le_refl _) _ |>.alloc (by simp) _) (stCl_one _ _ _) (by unfold maxLen; omega) (by omega) (by first | (simp; done) | (simp; omega)) ?_
                    intro v7 w7 hown7 hg7 hat7
                    obtain ⟨A7, c7, ev7, _, _, _⟩ := own_form hown7
                    rw [Nat.zero_add] at ev7
                    subst ev7
                    have HO7 := Lib.hid (show w7.ownsRow wz.heap.size 64 5 (.slice A7 0 c7) 0 (stCl (Rk.scoreAt f rows) j (l.take 0)) by simpa using hown7)
                    have HS7 := Lib.hid (((HSz.out.alloc _).alloc _).grown hg7 (fun g => by have e2 : some w3.heap.size = some (wz.heap.size + 1) := g; injection e2 with e2; omega))
                    have hB7 : Below wz.heap.size wz w7 := (((Below.refl wz.heap.size wz).alloc (Nat.le_refl _) _).alloc (by simp) _).grown hg7 (by simp; try omega) (fun b e => by have e2 : some (wz.heap.size + 1) = some b := e; injection e2 with e2; omega)
                    have HX7 : Blk w7 wz.heap.size 64 #[.int .i64 k, .int .i64 r1, .int .i64 r2, .int .i64 x, .int .i64 y] := ((Blk.new wz _ _).alloc _).grown hg7 (fun e => by have e2 : some wz.heap.size = some (wz.heap.size + 1) := e; injection e2 with e2; omega)
                    have HB7 := Lib.hid hB7
                    have hs7 := hB7.size
                    clear hown7 hg7 hat7 hB7
                    refine hK _ _ (fun _ => HS7.out) ?_
                    clear hK K
                    have HX8 := Lib.hid HX7
                    have HO8 := HO7
                    have HS8 := HS7
                    have HB8 := HB7
                    have hs8 := HB8.out.size
                    refine z_one (i := 7) rfl (by kernel_rfl) (by rfl) (fun K hK => ?_)
                    refine wp_append_any _ _ _ 36 rfl wz.heap.size 64 i0 _ 5 40 Tryz.underlying36 hi0 hz0 hz1 hz2 rfl (by decide) (.slice A7 0 c7) 0 _ (by rfl) (HO8.out) (wz.heap.size + 1) (some ⟨wz.heap.size, 0, none⟩) 1 1 [.int .i64 k, .int .i64 r1, .int .i64 r2, .int .i64 x, .int .i64 y] (by rfl) (reads_blk HX8.out (Nat.lt_succ_self _) rfl) (by intro u hu; simp at hu; rcases hu with rfl | rfl | rfl | rfl | rfl <;> rfl) (by unfold maxLen; omega) (by omega) (hs8) ?_
                    intro v9 w9 hown9 hg9 hat9
                    have HO9 := Lib.hid hown9
                    have hge9 : ∀ bk, (Value.slice A7 0 c7).ownBlock = some bk → wz.heap.size ≤ bk := own_row_ge HO8.out
                    have HS9 := Lib.hid (HS8.out.grown hg9 (fun g => by have := hge9 _ g.symm; omega))
                    have hB9 := HB8.out.grown hg9 HB8.out.size hge9
                    have HB9 := Lib.hid hB9
                    have hs9 := hB9.size
                    obtain ⟨A9, c9, ev9, _, _, _⟩ := own_form hown9
                    subst ev9
                    clear hown9 hg9 hat9 hB9 hge9
                    refine hK _ _ (fun _ => HS9.out) ?_
                    clear hK K
                    try simp only [Act.put, List.setIfInBounds_toArray]
                    refine z_one (i := 11) rfl (by kernel_rfl) (by rfl) (fun K hK => ?_)
                    refine wp_append_any _ _ _ 36 rfl wz.heap.size 64 i0 _ 5 40 Tryz.underlying36 hi0 hz0 hz1 hz2 rfl (by decide) (.slice A9 (0 + 1) c9) (0 + 1) _ (by rfl) (HO9.out) wz.heap.size _ k _ _ (by rfl) (by first | exact Hrd2.out.below HB9.out | exact Hrd3.out.below HB9.out) (stCl_one _ _ _) (by unfold maxLen; omega) (by omega) (hs9) ?_
                    intro v10 w10 hown10 hg10 hat10
                    have hge10 : ∀ bk, (Value.slice A9 (0 + 1) c9).ownBlock = some bk → wz.heap.size ≤ bk := own_row_ge HO9.out
                    have HS10 := Lib.hid (HS9.out.grown hg10 (fun g => by have := hge10 _ g.symm; omega))
                    have HB10 := Lib.hid (HB9.out.grown hg10 HB9.out.size hge10)
                    have HO10 := Lib.hid (ins_own (base' := w2.heap.size) (m := k) (by omega) (by omega) (show 0 ≤ k by omega) hll Hr.out Hx5.out Hx6.out hown10)
                    have HL10 := Lib.hid (show Below w2.heap.size w2 w10 from HL3.out.trans (HLz.out.trans ((HB10.out).mono HLz.out.size) |>.mono hs3))
                    clear hown10 hg10 hat10 hge10
                    refine hK _ _ (fun _ => HS10.out) ?_
                    clear hK K
                    refine z_one (i := 12) rfl (by kernel_rfl) (by rfl) (fun K hK => ?_)
                    go_simp
                    refine hK _ _ (fun h => absurd rfl h) ?_
                    clear hK K
                    refine z_done (by kernel_rfl) ?_ _
                    go_wp2
                    go_roundg (j - (k + 1))
                    case rel => exact ⟨k + 1, _, hlt, rfl, by go_num, Hd.out, HO10.out, HL10.out⟩
                    case measure => rw [Hg.out]; omega
              -- END22 A
            · obtain ⟨gO, rfl⟩ : ∃ g, A8 = some ⟨g, 0, none⟩ := (own_two HOo.out).resolve_left (by omega)
              have c3 : wo.cell? ⟨gO, b * 5 + 3, none⟩ = some (.int .i64 (1 + (Rk.gtN (Rk.scoreAt f rows) j (l.getD b 0) : Int))) := st_cell HOo.out hll (by omega) (by decide)
              have hu : ¬ x < 1 + (Rk.gtN (Rk.scoreAt f rows) j (l.getD b 0) : Int) := by
                have := Hx5.out
                rcases hdone with h | h
                · omega
                · have h : Rk.gtN (Rk.scoreAt f rows) j (l.getD b 0) ≤ Rk.gtN (Rk.scoreAt f rows) j k := h
                  omega
              generalize 1 + (Rk.gtN (Rk.scoreAt f rows) j (l.getD b 0) : Int) = u at *
              have z1 : decide (x < u) = false := decide_eq_false hu
              have hbk : (b : Int) < (k : Int) := by omega
              have z3 : decide ((0 : Int) < (b : Int) + 1) = true := decide_eq_true (by omega)
              have v1 : (0 : Int) ≤ (b : Int) + 1 := by omega
              have v2 : (b : Int) + 1 ≤ (k : Int) := by omega
              have v3 : (k : Int) ≤ (c8 : Int) := by omega
              have v4 : (b : Int) + 1 ≤ (c8 : Int) := by omega
              clear hdone hab
              go_wp2
              go_quiet (fail)
              go_wp2
              -- REGION22 B
              obtain ⟨wz, hwz⟩ : ∃ wz, wz = ((wo.drewN q).drewN nq).drew := ⟨_, rfl⟩
              have HSz := Lib.hid (show Blk wz w3.heap.size 64 #[.int .i64 k, .int .i64 r1, .int .i64 r2, .int .i64 x, .int .i64 y] by rw [hwz]; exact HXo.out)
              have HOz := Lib.hid (show wz.ownsRow w2.heap.size 64 5 (.slice (some ⟨gO, 0, none⟩) k c8) k (stCl (Rk.scoreAt f rows) j l) by rw [hwz]; exact HOo.out)
              have HLz := Lib.hid (show Below w3.heap.size w3 wz by rw [hwz]; exact below_drewN (below_drewN HLo.out _) (nq + 1))
              have Hwz := Lib.hid hwz
              have hsz := HLz.out.size
              have hXlz := HSz.out.lt
              clear hwz
              have Hrd := Lib.hid (Reads.of_own HOz.out)
              have Hrd1 := Lib.hid (show Reads wz wz.heap.size 5 (some ⟨gO, 0, none⟩) (b + 1) (stCl (Rk.scoreAt f rows) j (l.take (b + 1))) by rw [← stCl_take _ _ _ (by omega)]; exact reads_take5 Hrd.out (by omega))
              have Hrd2 := Lib.hid (show Reads wz wz.heap.size 5 (if c8 = (b + 1) then ((some ⟨gO, 0, none⟩) : Option Addr) else ((some ⟨gO, 0, none⟩) : Option Addr).map (fun z => z.add ((b + 1) * 5))) (k - (b + 1)) (stCl (Rk.scoreAt f rows) j (l.drop (b + 1))) by rw [← stCl_drop _ _ _ (by omega)]; exact Hrd.out.cut (k := (b + 1)) (cap := c8) (by omega) hc8)
              rcases Classical.em (c8 = b + 1) with rfl | hne
              · have Hrd3 := Lib.hid (show Reads wz wz.heap.size 5 (some ⟨gO, 0, none⟩) 0 (stCl (Rk.scoreAt f rows) j (l.drop (b + 1))) by have h := Hrd2.out; rw [if_pos rfl, show k - (b + 1) = 0 by omega] at h; exact h)
                have v5 : (k : Int) ≤ (b : Int) + 1 := by omega
                have v6 : (b : Int) + 1 ≤ (b : Int) + 1 := by omega
                refine z_region (fun w' => Blk w' w3.heap.size 64 #[.int .i64 k, .int .i64 r1, .int .i64 r2, .int .i64 x, .int .i64 y]) 12 (by kernel_rfl) ?_
                rw [← Hwz.out]
                refine z_take (i := 1) (v := ?_) rfl (by kernel_rfl) (by kernel_rfl) (by kernel_rfl) (fun _ _ _ h => h) (by kernel_rfl) (by decide) (HSz.out) (by rfl) (by intro w hSw; go_simp; rfl) ?_
                refine z_take (i := 2) (v := ?_) rfl (by kernel_rfl) (by kernel_rfl) (by kernel_rfl) (fun _ _ _ h => h) (by kernel_rfl) (by decide) (HSz.out) (by rfl) (by intro w hSw; go_simp; rfl) ?_
                refine z_take (i := 3) (v := .slice (some ⟨gO, 0, none⟩) (b + 1) (b + 1)) rfl (by kernel_rfl) (by kernel_rfl) (by kernel_rfl) (fun _ _ _ h => h) (by kernel_rfl) (by decide) (HSz.out) (by rfl) (by intro w hSw; go_simp) ?_
                refine z_take (i := 5) (v := .agg #[.int .i64 k, .int .i64 r1, .int .i64 r2, .int .i64 x, .int .i64 y]) rfl (by kernel_rfl) (by kernel_rfl) (by kernel_rfl) (fun _ _ _ h => h) (by kernel_rfl) (by decide) (HSz.out) (by rfl) (by intro w hSw; have q0 := hSw.cell 0; have q1 := hSw.cell 1; have q2 := hSw.cell 2; have q3 := hSw.cell 3; have q4 := hSw.cell 4; simp only [List.getElem?_toArray, List.getElem?_cons_zero, List.getElem?_cons_succ] at q0 q1 q2 q3 q4; go_simp) ?_
                refine z_take (i := 8) (v := ?_) rfl (by kernel_rfl) (by kernel_rfl) (by kernel_rfl) (fun _ _ _ h => h) (by kernel_rfl) (by decide) (HSz.out) (by rfl) (by intro w hSw; go_simp; rfl) ?_
                refine z_take (i := 9) (v := ?_) rfl (by kernel_rfl) (by kernel_rfl) (by kernel_rfl) (fun _ _ _ h => h) (by kernel_rfl) (by decide) (HSz.out) (by rfl) (by intro w hSw; go_simp; rfl) ?_
                refine z_take (i := 10) (v := .slice (some ⟨gO, 0, none⟩) 0 0) rfl (by kernel_rfl) (by kernel_rfl) (by kernel_rfl) (fun _ _ _ h => h) (by kernel_rfl) (by decide) (HSz.out) (by rfl) (by intro w hSw; go_simp) ?_
                simp only [Act.put, List.setIfInBounds_toArray]
                refine z_two (i := 0) (j := 6) rfl rfl (by kernel_rfl) (by rfl) (by rfl) (fun K hK => ?_) (fun K hK => ?_)
                · go_simp
                  refine hK _ _ (fun _ => HSz.out.alloc _) ?_
                  clear hK K
                  refine z_two (i := 4) (j := 6) rfl rfl (by kernel_rfl) (by rfl) (by rfl) (fun K hK => ?_) (fun K hK => ?_)
                  · refine wp_append_any _ _ _ 36 rfl wz.heap.size 64 i0 _ 5 40 Tryz.underlying36 hi0 hz0 hz1 hz2 rfl (by decide) (.slice (some ⟨wz.heap.size, 0, none⟩) 0 0) 0 [] (by rfl) (World.ownsRow_made wz #[] 0 (Nat.le_refl _) (Nat.zero_le _) rfl) wz.heap.size (some ⟨gO, 0, none⟩) (b + 1) (b + 1) _ (by rfl) (Hrd1.out.alloc (Nat.le_refl _) _) (stCl_one _ _ _) (by unfold maxLen; omega) (by omega) (by first | (simp; done) | (simp; omega)) ?_
                    intro v7 w7 hown7 hg7 hat7
                    obtain ⟨A7, c7, ev7, _, _, _⟩ := own_form hown7
                    rw [Nat.zero_add] at ev7
                    subst ev7
                    have HO7 := Lib.hid (show w7.ownsRow wz.heap.size 64 5 (.slice A7 (b + 1) c7) (b + 1) (stCl (Rk.scoreAt f rows) j (l.take (b + 1))) by simpa using hown7)
                    have HS7 := Lib.hid ((HSz.out.alloc _).grown hg7 (fun g => by have e2 : some w3.heap.size = some (wz.heap.size) := g; injection e2 with e2; omega))
                    have hB7 : Below wz.heap.size wz w7 := ((Below.refl wz.heap.size wz).alloc (Nat.le_refl _) _).grown hg7 (by simp; try omega) (fun b e => by have e2 : some (wz.heap.size) = some b := e; injection e2 with e2; omega)
                    have HB7 := Lib.hid hB7
                    have hs7 := hB7.size
                    clear hown7 hg7 hat7 hB7
                    refine hK _ _ (fun _ => HS7.out) ?_
                    clear hK K
                    refine z_one (i := 6) rfl (by kernel_rfl) (by rfl) (fun K hK => ?_)
                    go_simp
                    refine hK _ _ (fun _ => HS7.out.alloc _) ?_
                    clear hK K
                    have HX8 := Lib.hid (Blk.new w7 64 #[.int .i64 k, .int .i64 r1, .int .i64 r2, .int .i64 x, .int .i64 y])
                    have HO8 := Lib.hid (own_kept (w' := w7.alloc (.cells #[.int .i64 k, .int .i64 r1, .int .i64 r2, .int .i64 x, .int .i64 y] 64)) (row := none) HO7.out (World.grownBy_alloc w7 _ none) (fun g e => by cases e))
                    have HS8 := Lib.hid (HS7.out.alloc (.cells #[.int .i64 k, .int .i64 r1, .int .i64 r2, .int .i64 x, .int .i64 y] 64))
                    have HB8 := Lib.hid (HB7.out.alloc HB7.out.size (.cells #[.int .i64 k, .int .i64 r1, .int .i64 r2, .int .i64 x, .int .i64 y] 64))
                    have hs8 := HB8.out.size
                    refine z_one (i := 7) rfl (by kernel_rfl) (by rfl) (fun K hK => ?_)
                    refine wp_append_any _ _ _ 36 rfl wz.heap.size 64 i0 _ 5 40 Tryz.underlying36 hi0 hz0 hz1 hz2 rfl (by decide) (.slice A7 (b + 1) c7) (b + 1) _ (by rfl) (HO8.out) (w7.heap.size + 1) (some ⟨w7.heap.size, 0, none⟩) 1 1 [.int .i64 k, .int .i64 r1, .int .i64 r2, .int .i64 x, .int .i64 y] (by rfl) (reads_blk HX8.out (Nat.lt_succ_self _) rfl) (by intro u hu; simp at hu; rcases hu with rfl | rfl | rfl | rfl | rfl <;> rfl) (by unfold maxLen; omega) (by omega) (hs8) ?_
                    intro v9 w9 hown9 hg9 hat9
                    have HO9 := Lib.hid hown9
                    have hge9 : ∀ bk, (Value.slice A7 (b + 1) c7).ownBlock = some bk → wz.heap.size ≤ bk := own_row_ge HO8.out
                    have HS9 := Lib.hid (HS8.out.grown hg9 (fun g => by have := hge9 _ g.symm; omega))
                    have hB9 := HB8.out.grown hg9 HB8.out.size hge9
                    have HB9 := Lib.hid hB9
                    have hs9 := hB9.size
                    obtain ⟨A9, c9, ev9, _, _, _⟩ := own_form hown9
                    subst ev9
                    clear hown9 hg9 hat9 hB9 hge9
                    refine hK _ _ (fun _ => HS9.out) ?_
                    clear hK K
                    try simp only [Act.put, List.setIfInBounds_toArray]
                    refine z_one (i := 11) rfl (by kernel_rfl) (by rfl) (fun K hK => ?_)
                    refine wp_append_any _ _ _ 36 rfl wz.heap.size 64 i0 _ 5 40 Tryz.underlying36 hi0 hz0 hz1 hz2 rfl (by decide) (.slice A9 ((b + 1) + 1) c9) ((b + 1) + 1) _ (by rfl) (HO9.out) wz.heap.size _ 0 _ _ (by rfl) (by first | exact Hrd2.out.below HB9.out | exact Hrd3.out.below HB9.out) (stCl_one _ _ _) (by unfold maxLen; omega) (by omega) (hs9) ?_
                    intro v10 w10 hown10 hg10 hat10
                    have hge10 : ∀ bk, (Value.slice A9 ((b + 1) + 1) c9).ownBlock = some bk → wz.heap.size ≤ bk := own_row_ge HO9.out
                    have HS10 := Lib.hid (HS9.out.grown hg10 (fun g => by have := hge10 _ g.symm; omega))
                    have HB10 := Lib.hid (HB9.out.grown hg10 HB9.out.size hge10)
                    have HO10 := Lib.hid (ins_own (base' := w2.heap.size) (m := 0) (by omega) (by omega) (show (b + 1) ≤ k by omega) hll Hr.out Hx5.out Hx6.out hown10)
                    have HL10 := Lib.hid (show Below w2.heap.size w2 w10 from HL3.out.trans (HLz.out.trans ((HB10.out).mono HLz.out.size) |>.mono hs3))
                    clear hown10 hg10 hat10 hge10
                    refine hK _ _ (fun _ => HS10.out) ?_
                    clear hK K
                    refine z_one (i := 12) rfl (by kernel_rfl) (by rfl) (fun K hK => ?_)
                    go_simp
                    refine hK _ _ (fun h => absurd rfl h) ?_
                    clear hK K
                    refine z_done (by kernel_rfl) ?_ _
                    go_wp2
                    go_roundg (j - (k + 1))
                    case rel => exact ⟨k + 1, _, hlt, rfl, by go_num, Hd.out, HO10.out, HL10.out⟩
                    case measure => rw [Hg.out]; omega
                  · go_simp
                    refine hK _ _ (fun _ => (HSz.out.alloc _).alloc _) ?_
                    clear hK K
                    refine z_one (i := 4) rfl (by kernel_rfl) (by rfl) (fun K hK => ?_)
                    refine wp_append_any _ _ _ 36 rfl wz.heap.size 64 i0 _ 5 40 Tryz.underlying36 hi0 hz0 hz1 hz2 rfl (by decide) (.slice (some ⟨wz.heap.size, 0, none⟩) 0 0) 0 [] (by rfl) (own_kept (row := none) (World.ownsRow_made wz #[] 0 (Nat.le_refl _) (Nat.zero_le _) rfl) (World.grownBy_alloc _ _ none) (fun g e => by cases e)) wz.heap.size (some ⟨gO, 0, none⟩) (b + 1) (b + 1) _ (by rfl) (Hrd1.out.alloc (Nat.le_refl _) _ |>.alloc (by simp) _) (stCl_one _ _ _) (by unfold maxLen; omega) (by omega) (by first | (simp; done) | (simp; omega)) ?_
                    intro v7 w7 hown7 hg7 hat7
                    obtain ⟨A7, c7, ev7, _, _, _⟩ := own_form hown7
                    rw [Nat.zero_add] at ev7
                    subst ev7
                    have HO7 := Lib.hid (show w7.ownsRow wz.heap.size 64 5 (.slice A7 (b + 1) c7) (b + 1) (stCl (Rk.scoreAt f rows) j (l.take (b + 1))) by simpa using hown7)
                    have HS7 := Lib.hid (((HSz.out.alloc _).alloc _).grown hg7 (fun g => by have e2 : some w3.heap.size = some (wz.heap.size) := g; injection e2 with e2; omega))
                    have hB7 : Below wz.heap.size wz w7 := (((Below.refl wz.heap.size wz).alloc (Nat.le_refl _) _).alloc (by simp) _).grown hg7 (by simp; try omega) (fun b e => by have e2 : some (wz.heap.size) = some b := e; injection e2 with e2; omega)
                    have HX7 : Blk w7 (wz.heap.size + 1) 64 #[.int .i64 k, .int .i64 r1, .int .i64 r2, .int .i64 x, .int .i64 y] := (newBlk (by simp) _ _).grown hg7 (fun e => by have e2 : some (wz.heap.size + 1) = some wz.heap.size := e; injection e2 with e2; omega)
                    have HB7 := Lib.hid hB7
                    have hs7 := hB7.size
                    clear hown7 hg7 hat7 hB7
                    refine hK _ _ (fun _ => HS7.out) ?_
                    clear hK K
                    have HX8 := Lib.hid HX7
                    have HO8 := HO7
                    have HS8 := HS7
                    have HB8 := HB7
                    have hs8 := HB8.out.size
                    refine z_one (i := 7) rfl (by kernel_rfl) (by rfl) (fun K hK => ?_)
                    refine wp_append_any _ _ _ 36 rfl wz.heap.size 64 i0 _ 5 40 Tryz.underlying36 hi0 hz0 hz1 hz2 rfl (by decide) (.slice A7 (b + 1) c7) (b + 1) _ (by rfl) (HO8.out) ((wz.heap.size + 1) + 1) (some ⟨(wz.heap.size + 1), 0, none⟩) 1 1 [.int .i64 k, .int .i64 r1, .int .i64 r2, .int .i64 x, .int .i64 y] (by rfl) (reads_blk HX8.out (Nat.lt_succ_self _) rfl) (by intro u hu; simp at hu; rcases hu with rfl | rfl | rfl | rfl | rfl <;> rfl) (by unfold maxLen; omega) (by omega) (hs8) ?_
                    intro v9 w9 hown9 hg9 hat9
                    have HO9 := Lib.hid hown9
                    have hge9 : ∀ bk, (Value.slice A7 (b + 1) c7).ownBlock = some bk → wz.heap.size ≤ bk := own_row_ge HO8.out
                    have HS9 := Lib.hid (HS8.out.grown hg9 (fun g => by have := hge9 _ g.symm; omega))
                    have hB9 := HB8.out.grown hg9 HB8.out.size hge9
                    have HB9 := Lib.hid hB9
                    have hs9 := hB9.size
                    obtain ⟨A9, c9, ev9, _, _, _⟩ := own_form hown9
                    subst ev9
                    clear hown9 hg9 hat9 hB9 hge9
                    refine hK _ _ (fun _ => HS9.out) ?_
                    clear hK K
                    try simp only [Act.put, List.setIfInBounds_toArray]
                    refine z_one (i := 11) rfl (by kernel_rfl) (by rfl) (fun K hK => ?_)
                    refine wp_append_any _ _ _ 36 rfl wz.heap.size 64 i0 _ 5 40 Tryz.underlying36 hi0 hz0 hz1 hz2 rfl (by decide) (.slice A9 ((b + 1) + 1) c9) ((b + 1) + 1) _ (by rfl) (HO9.out) wz.heap.size _ 0 _ _ (by rfl) (by first | exact Hrd2.out.below HB9.out | exact Hrd3.out.below HB9.out) (stCl_one _ _ _) (by unfold maxLen; omega) (by omega) (hs9) ?_
                    intro v10 w10 hown10 hg10 hat10
                    have hge10 : ∀ bk, (Value.slice A9 ((b + 1) + 1) c9).ownBlock = some bk → wz.heap.size ≤ bk := own_row_ge HO9.out
                    have HS10 := Lib.hid (HS9.out.grown hg10 (fun g => by have := hge10 _ g.symm; omega))
                    have HB10 := Lib.hid (HB9.out.grown hg10 HB9.out.size hge10)
                    have HO10 := Lib.hid (ins_own (base' := w2.heap.size) (m := 0) (by omega) (by omega) (show (b + 1) ≤ k by omega) hll Hr.out Hx5.out Hx6.out hown10)
                    have HL10 := Lib.hid (show Below w2.heap.size w2 w10 from HL3.out.trans (HLz.out.trans ((HB10.out).mono HLz.out.size) |>.mono hs3))
                    clear hown10 hg10 hat10 hge10
                    refine hK _ _ (fun _ => HS10.out) ?_
                    clear hK K
                    refine z_one (i := 12) rfl (by kernel_rfl) (by rfl) (fun K hK => ?_)
                    go_simp
                    refine hK _ _ (fun h => absurd rfl h) ?_
                    clear hK K
                    refine z_done (by kernel_rfl) ?_ _
                    go_wp2
                    go_roundg (j - (k + 1))
                    case rel => exact ⟨k + 1, _, hlt, rfl, by go_num, Hd.out, HO10.out, HL10.out⟩
                    case measure => rw [Hg.out]; omega
                · go_simp
                  refine hK _ _ (fun _ => HSz.out.alloc _) ?_
                  clear hK K
                  refine z_one (i := 0) rfl (by kernel_rfl) (by rfl) (fun K hK => ?_)
                  go_simp
                  refine hK _ _ (fun _ => (HSz.out.alloc _).alloc _) ?_
                  clear hK K
                  refine z_one (i := 4) rfl (by kernel_rfl) (by rfl) (fun K hK => ?_)
                  refine wp_append_any _ _ _ 36 rfl wz.heap.size 64 i0 _ 5 40 Tryz.underlying36 hi0 hz0 hz1 hz2 rfl (by decide) (.slice (some ⟨wz.heap.size + 1, 0, none⟩) 0 0) 0 [] (by rfl) (made_next wz _) wz.heap.size (some ⟨gO, 0, none⟩) (b + 1) (b + 1) _ (by rfl) (Hrd1.out.alloc (Nat.le_refl _) _ |>.alloc (by simp) _) (stCl_one _ _ _) (by unfold maxLen; omega) (by omega) (by first | (simp; done) | (simp; omega)) ?_
                  intro v7 w7 hown7 hg7 hat7
                  obtain ⟨A7, c7, ev7, _, _, _⟩ := own_form hown7
                  rw [Nat.zero_add] at ev7
                  subst ev7
                  have HO7 := Lib.hid (show w7.ownsRow wz.heap.size 64 5 (.slice A7 (b + 1) c7) (b + 1) (stCl (Rk.scoreAt f rows) j (l.take (b + 1))) by simpa using hown7)
                  have HS7 := Lib.hid (((HSz.out.alloc _).alloc _).grown hg7 (fun g => by have e2 : some w3.heap.size = some (wz.heap.size + 1) := g; injection e2 with e2; omega))
                  have hB7 : Below wz.heap.size wz w7 := (((Below.refl wz.heap.size wz).alloc (Nat.le_refl _) _).alloc (by simp) _).grown hg7 (by simp; try omega) (fun b e => by have e2 : some (wz.heap.size + 1) = some b := e; injection e2 with e2; omega)
                  have HX7 : Blk w7 wz.heap.size 64 #[.int .i64 k, .int .i64 r1, .int .i64 r2, .int .i64 x, .int .i64 y] := ((Blk.new wz _ _).alloc _).grown hg7 (fun e => by have e2 : some wz.heap.size = some (wz.heap.size + 1) := e; injection e2 with e2; omega)
                  have HB7 := Lib.hid hB7
                  have hs7 := hB7.size
                  clear hown7 hg7 hat7 hB7
                  refine hK _ _ (fun _ => HS7.out) ?_
                  clear hK K
                  have HX8 := Lib.hid HX7
                  have HO8 := HO7
                  have HS8 := HS7
                  have HB8 := HB7
                  have hs8 := HB8.out.size
                  refine z_one (i := 7) rfl (by kernel_rfl) (by rfl) (fun K hK => ?_)
                  refine wp_append_any _ _ _ 36 rfl wz.heap.size 64 i0 _ 5 40 Tryz.underlying36 hi0 hz0 hz1 hz2 rfl (by decide) (.slice A7 (b + 1) c7) (b + 1) _ (by rfl) (HO8.out) (wz.heap.size + 1) (some ⟨wz.heap.size, 0, none⟩) 1 1 [.int .i64 k, .int .i64 r1, .int .i64 r2, .int .i64 x, .int .i64 y] (by rfl) (reads_blk HX8.out (Nat.lt_succ_self _) rfl) (by intro u hu; simp at hu; rcases hu with rfl | rfl | rfl | rfl | rfl <;> rfl) (by unfold maxLen; omega) (by omega) (hs8) ?_
                  intro v9 w9 hown9 hg9 hat9
                  have HO9 := Lib.hid hown9
                  have hge9 : ∀ bk, (Value.slice A7 (b + 1) c7).ownBlock = some bk → wz.heap.size ≤ bk := own_row_ge HO8.out
                  have HS9 := Lib.hid (HS8.out.grown hg9 (fun g => by have := hge9 _ g.symm; omega))
                  have hB9 := HB8.out.grown hg9 HB8.out.size hge9
                  have HB9 := Lib.hid hB9
                  have hs9 := hB9.size
                  obtain ⟨A9, c9, ev9, _, _, _⟩ := own_form hown9
                  subst ev9
                  clear hown9 hg9 hat9 hB9 hge9
                  refine hK _ _ (fun _ => HS9.out) ?_
                  clear hK K
                  try simp only [Act.put, List.setIfInBounds_toArray]
                  refine z_one (i := 11) rfl (by kernel_rfl) (by rfl) (fun K hK => ?_)
                  refine wp_append_any _ _ _ 36 rfl wz.heap.size 64 i0 _ 5 40 Tryz.underlying36 hi0 hz0 hz1 hz2 rfl (by decide) (.slice A9 ((b + 1) + 1) c9) ((b + 1) + 1) _ (by rfl) (HO9.out) wz.heap.size _ 0 _ _ (by rfl) (by first | exact Hrd2.out.below HB9.out | exact Hrd3.out.below HB9.out) (stCl_one _ _ _) (by unfold maxLen; omega) (by omega) (hs9) ?_
                  intro v10 w10 hown10 hg10 hat10
                  have hge10 : ∀ bk, (Value.slice A9 ((b + 1) + 1) c9).ownBlock = some bk → wz.heap.size ≤ bk := own_row_ge HO9.out
                  have HS10 := Lib.hid (HS9.out.grown hg10 (fun g => by have := hge10 _ g.symm; omega))
                  have HB10 := Lib.hid (HB9.out.grown hg10 HB9.out.size hge10)
                  have HO10 := Lib.hid (ins_own (base' := w2.heap.size) (m := 0) (by omega) (by omega) (show (b + 1) ≤ k by omega) hll Hr.out Hx5.out Hx6.out hown10)
                  have HL10 := Lib.hid (show Below w2.heap.size w2 w10 from HL3.out.trans (HLz.out.trans ((HB10.out).mono HLz.out.size) |>.mono hs3))
                  clear hown10 hg10 hat10 hge10
                  refine hK _ _ (fun _ => HS10.out) ?_
                  clear hK K
                  refine z_one (i := 12) rfl (by kernel_rfl) (by rfl) (fun K hK => ?_)
                  go_simp
                  refine hK _ _ (fun h => absurd rfl h) ?_
                  clear hK K
                  refine z_done (by kernel_rfl) ?_ _
                  go_wp2
                  go_roundg (j - (k + 1))
                  case rel => exact ⟨k + 1, _, hlt, rfl, by go_num, Hd.out, HO10.out, HL10.out⟩
                  case measure => rw [Hg.out]; omega
              · rw [if_neg hne] at Hrd2
                simp only [Option.map_some, Addr.add] at Hrd2
                have Hrd3 := Lib.hid (show Reads wz wz.heap.size 5 (some ⟨gO, (b + 1) * 5, none⟩) (k - (b + 1)) (stCl (Rk.scoreAt f rows) j (l.drop (b + 1))) by have h := Hrd2.out; simpa using h)
                refine z_region (fun w' => Blk w' w3.heap.size 64 #[.int .i64 k, .int .i64 r1, .int .i64 r2, .int .i64 x, .int .i64 y]) 12 (by kernel_rfl) ?_
                rw [← Hwz.out]
                refine z_take (i := 1) (v := ?_) rfl (by kernel_rfl) (by kernel_rfl) (by kernel_rfl) (fun _ _ _ h => h) (by kernel_rfl) (by decide) (HSz.out) (by rfl) (by intro w hSw; go_simp; rfl) ?_
                refine z_take (i := 2) (v := ?_) rfl (by kernel_rfl) (by kernel_rfl) (by kernel_rfl) (fun _ _ _ h => h) (by kernel_rfl) (by decide) (HSz.out) (by rfl) (by intro w hSw; go_simp; rfl) ?_
                refine z_take (i := 3) (v := .slice (some ⟨gO, 0, none⟩) (b + 1) c8) rfl (by kernel_rfl) (by kernel_rfl) (by kernel_rfl) (fun _ _ _ h => h) (by kernel_rfl) (by decide) (HSz.out) (by rfl) (by intro w hSw; go_simp) ?_
                refine z_take (i := 5) (v := .agg #[.int .i64 k, .int .i64 r1, .int .i64 r2, .int .i64 x, .int .i64 y]) rfl (by kernel_rfl) (by kernel_rfl) (by kernel_rfl) (fun _ _ _ h => h) (by kernel_rfl) (by decide) (HSz.out) (by rfl) (by intro w hSw; have q0 := hSw.cell 0; have q1 := hSw.cell 1; have q2 := hSw.cell 2; have q3 := hSw.cell 3; have q4 := hSw.cell 4; simp only [List.getElem?_toArray, List.getElem?_cons_zero, List.getElem?_cons_succ] at q0 q1 q2 q3 q4; go_simp) ?_
                refine z_take (i := 8) (v := ?_) rfl (by kernel_rfl) (by kernel_rfl) (by kernel_rfl) (fun _ _ _ h => h) (by kernel_rfl) (by decide) (HSz.out) (by rfl) (by intro w hSw; go_simp; rfl) ?_
                refine z_take (i := 9) (v := ?_) rfl (by kernel_rfl) (by kernel_rfl) (by kernel_rfl) (fun _ _ _ h => h) (by kernel_rfl) (by decide) (HSz.out) (by rfl) (by intro w hSw; go_simp; rfl) ?_
                refine z_take (i := 10) (v := .slice (some ⟨gO, 0 + (b + 1) * 5, none⟩) (k - (b + 1)) (c8 - (b + 1))) rfl (by kernel_rfl) (by kernel_rfl) (by kernel_rfl) (fun _ _ _ h => h) (by kernel_rfl) (by decide) (HSz.out) (by rfl) (by intro w hSw; go_simp) ?_
                simp only [Act.put, List.setIfInBounds_toArray]
                refine z_two (i := 0) (j := 6) rfl rfl (by kernel_rfl) (by rfl) (by rfl) (fun K hK => ?_) (fun K hK => ?_)
                · go_simp
                  refine hK _ _ (fun _ => HSz.out.alloc _) ?_
                  clear hK K
                  refine z_two (i := 4) (j := 6) rfl rfl (by kernel_rfl) (by rfl) (by rfl) (fun K hK => ?_) (fun K hK => ?_)
                  · refine wp_append_any _ _ _ 36 rfl wz.heap.size 64 i0 _ 5 40 Tryz.underlying36 hi0 hz0 hz1 hz2 rfl (by decide) (.slice (some ⟨wz.heap.size, 0, none⟩) 0 0) 0 [] (by rfl) (World.ownsRow_made wz #[] 0 (Nat.le_refl _) (Nat.zero_le _) rfl) wz.heap.size (some ⟨gO, 0, none⟩) (b + 1) c8 _ (by rfl) (Hrd1.out.alloc (Nat.le_refl _) _) (stCl_one _ _ _) (by unfold maxLen; omega) (by omega) (by first | (simp; done) | (simp; omega)) ?_
                    intro v7 w7 hown7 hg7 hat7
                    obtain ⟨A7, c7, ev7, _, _, _⟩ := own_form hown7
                    rw [Nat.zero_add] at ev7
                    subst ev7
                    have HO7 := Lib.hid (show w7.ownsRow wz.heap.size 64 5 (.slice A7 (b + 1) c7) (b + 1) (stCl (Rk.scoreAt f rows) j (l.take (b + 1))) by simpa using hown7)
                    have HS7 := Lib.hid ((HSz.out.alloc _).grown hg7 (fun g => by have e2 : some w3.heap.size = some (wz.heap.size) := g; injection e2 with e2; omega))
                    have hB7 : Below wz.heap.size wz w7 := ((Below.refl wz.heap.size wz).alloc (Nat.le_refl _) _).grown hg7 (by simp; try omega) (fun b e => by have e2 : some (wz.heap.size) = some b := e; injection e2 with e2; omega)
                    have HB7 := Lib.hid hB7
                    have hs7 := hB7.size
                    clear hown7 hg7 hat7 hB7
                    refine hK _ _ (fun _ => HS7.out) ?_
                    clear hK K
                    refine z_one (i := 6) rfl (by kernel_rfl) (by rfl) (fun K hK => ?_)
                    go_simp
                    refine hK _ _ (fun _ => HS7.out.alloc _) ?_
                    clear hK K
                    have HX8 := Lib.hid (Blk.new w7 64 #[.int .i64 k, .int .i64 r1, .int .i64 r2, .int .i64 x, .int .i64 y])
                    have HO8 := Lib.hid (own_kept (w' := w7.alloc (.cells #[.int .i64 k, .int .i64 r1, .int .i64 r2, .int .i64 x, .int .i64 y] 64)) (row := none) HO7.out (World.grownBy_alloc w7 _ none) (fun g e => by cases e))
                    have HS8 := Lib.hid (HS7.out.alloc (.cells #[.int .i64 k, .int .i64 r1, .int .i64 r2, .int .i64 x, .int .i64 y] 64))
                    have HB8 := Lib.hid (HB7.out.alloc HB7.out.size (.cells #[.int .i64 k, .int .i64 r1, .int .i64 r2, .int .i64 x, .int .i64 y] 64))
                    have hs8 := HB8.out.size
                    refine z_one (i := 7) rfl (by kernel_rfl) (by rfl) (fun K hK => ?_)
                    refine wp_append_any _ _ _ 36 rfl wz.heap.size 64 i0 _ 5 40 Tryz.underlying36 hi0 hz0 hz1 hz2 rfl (by decide) (.slice A7 (b + 1) c7) (b + 1) _ (by rfl) (HO8.out) (w7.heap.size + 1) (some ⟨w7.heap.size, 0, none⟩) 1 1 [.int .i64 k, .int .i64 r1, .int .i64 r2, .int .i64 x, .int .i64 y] (by rfl) (reads_blk HX8.out (Nat.lt_succ_self _) rfl) (by intro u hu; simp at hu; rcases hu with rfl | rfl | rfl | rfl | rfl <;> rfl) (by unfold maxLen; omega) (by omega) (hs8) ?_
                    intro v9 w9 hown9 hg9 hat9
                    have HO9 := Lib.hid hown9
                    have hge9 : ∀ bk, (Value.slice A7 (b + 1) c7).ownBlock = some bk → wz.heap.size ≤ bk := own_row_ge HO8.out
                    have HS9 := Lib.hid (HS8.out.grown hg9 (fun g => by have := hge9 _ g.symm; omega))
                    have hB9 := HB8.out.grown hg9 HB8.out.size hge9
                    have HB9 := Lib.hid hB9
                    have hs9 := hB9.size
                    obtain ⟨A9, c9, ev9, _, _, _⟩ := own_form hown9
                    subst ev9
                    clear hown9 hg9 hat9 hB9 hge9
                    refine hK _ _ (fun _ => HS9.out) ?_
                    clear hK K
                    try simp only [Act.put, List.setIfInBounds_toArray]
                    refine z_one (i := 11) rfl (by kernel_rfl) (by rfl) (fun K hK => ?_)
                    refine wp_append_any _ _ _ 36 rfl wz.heap.size 64 i0 _ 5 40 Tryz.underlying36 hi0 hz0 hz1 hz2 rfl (by decide) (.slice A9 ((b + 1) + 1) c9) ((b + 1) + 1) _ (by rfl) (HO9.out) wz.heap.size _ (k - (b + 1)) _ _ (by rfl) (by first | exact Hrd2.out.below HB9.out | exact Hrd3.out.below HB9.out) (stCl_one _ _ _) (by unfold maxLen; omega) (by omega) (hs9) ?_
                    intro v10 w10 hown10 hg10 hat10
                    have hge10 : ∀ bk, (Value.slice A9 ((b + 1) + 1) c9).ownBlock = some bk → wz.heap.size ≤ bk := own_row_ge HO9.out
                    have HS10 := Lib.hid (HS9.out.grown hg10 (fun g => by have := hge10 _ g.symm; omega))
                    have HB10 := Lib.hid (HB9.out.grown hg10 HB9.out.size hge10)
                    have HO10 := Lib.hid (ins_own (base' := w2.heap.size) (m := (k - (b + 1))) (by omega) (by omega) (show (b + 1) ≤ k by omega) hll Hr.out Hx5.out Hx6.out hown10)
                    have HL10 := Lib.hid (show Below w2.heap.size w2 w10 from HL3.out.trans (HLz.out.trans ((HB10.out).mono HLz.out.size) |>.mono hs3))
                    clear hown10 hg10 hat10 hge10
                    refine hK _ _ (fun _ => HS10.out) ?_
                    clear hK K
                    refine z_one (i := 12) rfl (by kernel_rfl) (by rfl) (fun K hK => ?_)
                    go_simp
                    refine hK _ _ (fun h => absurd rfl h) ?_
                    clear hK K
                    refine z_done (by kernel_rfl) ?_ _
                    go_wp2
                    go_roundg (j - (k + 1))
                    case rel => exact ⟨k + 1, _, hlt, rfl, by go_num, Hd.out, HO10.out, HL10.out⟩
                    case measure => rw [Hg.out]; omega
                  · go_simp
                    refine hK _ _ (fun _ => (HSz.out.alloc _).alloc _) ?_
                    clear hK K
                    refine z_one (i := 4) rfl (by kernel_rfl) (by rfl) (fun K hK => ?_)
                    refine wp_append_any _ _ _ 36 rfl wz.heap.size 64 i0 _ 5 40 Tryz.underlying36 hi0 hz0 hz1 hz2 rfl (by decide) (.slice (some ⟨wz.heap.size, 0, none⟩) 0 0) 0 [] (by rfl) (own_kept (row := none) (World.ownsRow_made wz #[] 0 (Nat.le_refl _) (Nat.zero_le _) rfl) (World.grownBy_alloc _ _ none) (fun g e => by cases e)) wz.heap.size (some ⟨gO, 0, none⟩) (b + 1) c8 _ (by rfl) (Hrd1.out.alloc (Nat.le_refl _) _ |>.alloc (by simp) _) (stCl_one _ _ _) (by unfold maxLen; omega) (by omega) (by first | (simp; done) | (simp; omega)) ?_
                    intro v7 w7 hown7 hg7 hat7
                    obtain ⟨A7, c7, ev7, _, _, _⟩ := own_form hown7
                    rw [Nat.zero_add] at ev7
                    subst ev7
                    have HO7 := Lib.hid (show w7.ownsRow wz.heap.size 64 5 (.slice A7 (b + 1) c7) (b + 1) (stCl (Rk.scoreAt f rows) j (l.take (b + 1))) by simpa using hown7)
                    have HS7 := Lib.hid (((HSz.out.alloc _).alloc _).grown hg7 (fun g => by have e2 : some w3.heap.size = some (wz.heap.size) := g; injection e2 with e2; omega))
                    have hB7 : Below wz.heap.size wz w7 := (((Below.refl wz.heap.size wz).alloc (Nat.le_refl _) _).alloc (by simp) _).grown hg7 (by simp; try omega) (fun b e => by have e2 : some (wz.heap.size) = some b := e; injection e2 with e2; omega)
                    have HX7 : Blk w7 (wz.heap.size + 1) 64 #[.int .i64 k, .int .i64 r1, .int .i64 r2, .int .i64 x, .int .i64 y] := (newBlk (by simp) _ _).grown hg7 (fun e => by have e2 : some (wz.heap.size + 1) = some wz.heap.size := e; injection e2 with e2; omega)
                    have HB7 := Lib.hid hB7
                    have hs7 := hB7.size
                    clear hown7 hg7 hat7 hB7
                    refine hK _ _ (fun _ => HS7.out) ?_
                    clear hK K
                    have HX8 := Lib.hid HX7
                    have HO8 := HO7
                    have HS8 := HS7
                    have HB8 := HB7
                    have hs8 := HB8.out.size
                    refine z_one (i := 7) rfl (by kernel_rfl) (by rfl) (fun K hK => ?_)
                    refine wp_append_any _ _ _ 36 rfl wz.heap.size 64 i0 _ 5 40 Tryz.underlying36 hi0 hz0 hz1 hz2 rfl (by decide) (.slice A7 (b + 1) c7) (b + 1) _ (by rfl) (HO8.out) ((wz.heap.size + 1) + 1) (some ⟨(wz.heap.size + 1), 0, none⟩) 1 1 [.int .i64 k, .int .i64 r1, .int .i64 r2, .int .i64 x, .int .i64 y] (by rfl) (reads_blk HX8.out (Nat.lt_succ_self _) rfl) (by intro u hu; simp at hu; rcases hu with rfl | rfl | rfl | rfl | rfl <;> rfl) (by unfold maxLen; omega) (by omega) (hs8) ?_
                    intro v9 w9 hown9 hg9 hat9
                    have HO9 := Lib.hid hown9
                    have hge9 : ∀ bk, (Value.slice A7 (b + 1) c7).ownBlock = some bk → wz.heap.size ≤ bk := own_row_ge HO8.out
                    have HS9 := Lib.hid (HS8.out.grown hg9 (fun g => by have := hge9 _ g.symm; omega))
                    have hB9 := HB8.out.grown hg9 HB8.out.size hge9
                    have HB9 := Lib.hid hB9
                    have hs9 := hB9.size
                    obtain ⟨A9, c9, ev9, _, _, _⟩ := own_form hown9
                    subst ev9
                    clear hown9 hg9 hat9 hB9 hge9
                    refine hK _ _ (fun _ => HS9.out) ?_
                    clear hK K
                    try simp only [Act.put, List.setIfInBounds_toArray]
                    refine z_one (i := 11) rfl (by kernel_rfl) (by rfl) (fun K hK => ?_)
                    refine wp_append_any _ _ _ 36 rfl wz.heap.size 64 i0 _ 5 40 Tryz.underlying36 hi0 hz0 hz1 hz2 rfl (by decide) (.slice A9 ((b + 1) + 1) c9) ((b + 1) + 1) _ (by rfl) (HO9.out) wz.heap.size _ (k - (b + 1)) _ _ (by rfl) (by first | exact Hrd2.out.below HB9.out | exact Hrd3.out.below HB9.out) (stCl_one _ _ _) (by unfold maxLen; omega) (by omega) (hs9) ?_
                    intro v10 w10 hown10 hg10 hat10
                    have hge10 : ∀ bk, (Value.slice A9 ((b + 1) + 1) c9).ownBlock = some bk → wz.heap.size ≤ bk := own_row_ge HO9.out
                    have HS10 := Lib.hid (HS9.out.grown hg10 (fun g => by have := hge10 _ g.symm; omega))
                    have HB10 := Lib.hid (HB9.out.grown hg10 HB9.out.size hge10)
                    have HO10 := Lib.hid (ins_own (base' := w2.heap.size) (m := (k - (b + 1))) (by omega) (by omega) (show (b + 1) ≤ k by omega) hll Hr.out Hx5.out Hx6.out hown10)
                    have HL10 := Lib.hid (show Below w2.heap.size w2 w10 from HL3.out.trans (HLz.out.trans ((HB10.out).mono HLz.out.size) |>.mono hs3))
                    clear hown10 hg10 hat10 hge10
                    refine hK _ _ (fun _ => HS10.out) ?_
                    clear hK K
                    refine z_one (i := 12) rfl (by kernel_rfl) (by rfl) (fun K hK => ?_)
                    go_simp
                    refine hK _ _ (fun h => absurd rfl h) ?_
                    clear hK K
                    refine z_done (by kernel_rfl) ?_ _
                    go_wp2
                    go_roundg (j - (k + 1))
                    case rel => exact ⟨k + 1, _, hlt, rfl, by go_num, Hd.out, HO10.out, HL10.out⟩
                    case measure => rw [Hg.out]; omega
                · go_simp
                  refine hK _ _ (fun _ => HSz.out.alloc _) ?_
                  clear hK K
                  refine z_one (i := 0) rfl (by kernel_rfl) (by rfl) (fun K hK => ?_)
                  go_simp
                  refine hK _ _ (fun _ => (HSz.out.alloc _).alloc _) ?_
                  clear hK K
                  refine z_one (i := 4) rfl (by kernel_rfl) (by rfl) (fun K hK => ?_)
                  refine wp_append_any _ _ _ 36 rfl wz.heap.size 64 i0 _ 5 40 Tryz.underlying36 hi0 hz0 hz1 hz2 rfl (by decide) (.slice (some ⟨wz.heap.size + 1, 0, none⟩) 0 0) 0 [] (by rfl) (made_next wz _) wz.heap.size (some ⟨gO, 0, none⟩) (b + 1) c8 _ (by rfl) (Hrd1.out.alloc (Nat.le_refl _) _ |>.alloc (by simp) _) (stCl_one _ _ _) (by unfold maxLen; omega) (by omega) (by first | (simp; done) | (simp; omega)) ?_
                  intro v7 w7 hown7 hg7 hat7
                  obtain ⟨A7, c7, ev7, _, _, _⟩ := own_form hown7
                  rw [Nat.zero_add] at ev7
                  subst ev7
                  have HO7 := Lib.hid (show w7.ownsRow wz.heap.size 64 5 (.slice A7 (b + 1) c7) (b + 1) (stCl (Rk.scoreAt f rows) j (l.take (b + 1))) by simpa using hown7)
                  have HS7 := Lib.hid (((HSz.out.alloc _).alloc _).grown hg7 (fun g => by have e2 : some w3.heap.size = some (wz.heap.size + 1) := g; injection e2 with e2; omega))
                  have hB7 : Below wz.heap.size wz w7 := (((Below.refl wz.heap.size wz).alloc (Nat.le_refl _) _).alloc (by simp) _).grown hg7 (by simp; try omega) (fun b e => by have e2 : some (wz.heap.size + 1) = some b := e; injection e2 with e2; omega)
                  have HX7 : Blk w7 wz.heap.size 64 #[.int .i64 k, .int .i64 r1, .int .i64 r2, .int .i64 x, .int .i64 y] := ((Blk.new wz _ _).alloc _).grown hg7 (fun e => by have e2 : some wz.heap.size = some (wz.heap.size + 1) := e; injection e2 with e2; omega)
                  have HB7 := Lib.hid hB7
                  have hs7 := hB7.size
                  clear hown7 hg7 hat7 hB7
                  refine hK _ _ (fun _ => HS7.out) ?_
                  clear hK K
                  have HX8 := Lib.hid HX7
                  have HO8 := HO7
                  have HS8 := HS7
                  have HB8 := HB7
                  have hs8 := HB8.out.size
                  refine z_one (i := 7) rfl (by kernel_rfl) (by rfl) (fun K hK => ?_)
                  refine wp_append_any _ _ _ 36 rfl wz.heap.size 64 i0 _ 5 40 Tryz.underlying36 hi0 hz0 hz1 hz2 rfl (by decide) (.slice A7 (b + 1) c7) (b + 1) _ (by rfl) (HO8.out) (wz.heap.size + 1) (some ⟨wz.heap.size, 0, none⟩) 1 1 [.int .i64 k, .int .i64 r1, .int .i64 r2, .int .i64 x, .int .i64 y] (by rfl) (reads_blk HX8.out (Nat.lt_succ_self _) rfl) (by intro u hu; simp at hu; rcases hu with rfl | rfl | rfl | rfl | rfl <;> rfl) (by unfold maxLen; omega) (by omega) (hs8) ?_
                  intro v9 w9 hown9 hg9 hat9
                  have HO9 := Lib.hid hown9
                  have hge9 : ∀ bk, (Value.slice A7 (b + 1) c7).ownBlock = some bk → wz.heap.size ≤ bk := own_row_ge HO8.out
                  have HS9 := Lib.hid (HS8.out.grown hg9 (fun g => by have := hge9 _ g.symm; omega))
                  have hB9 := HB8.out.grown hg9 HB8.out.size hge9
                  have HB9 := Lib.hid hB9
                  have hs9 := hB9.size
                  obtain ⟨A9, c9, ev9, _, _, _⟩ := own_form hown9
                  subst ev9
                  clear hown9 hg9 hat9 hB9 hge9
                  refine hK _ _ (fun _ => HS9.out) ?_
                  clear hK K
                  try simp only [Act.put, List.setIfInBounds_toArray]
                  refine z_one (i := 11) rfl (by kernel_rfl) (by rfl) (fun K hK => ?_)
                  refine wp_append_any _ _ _ 36 rfl wz.heap.size 64 i0 _ 5 40 Tryz.underlying36 hi0 hz0 hz1 hz2 rfl (by decide) (.slice A9 ((b + 1) + 1) c9) ((b + 1) + 1) _ (by rfl) (HO9.out) wz.heap.size _ (k - (b + 1)) _ _ (by rfl) (by first | exact Hrd2.out.below HB9.out | exact Hrd3.out.below HB9.out) (stCl_one _ _ _) (by unfold maxLen; omega) (by omega) (hs9) ?_
                  intro v10 w10 hown10 hg10 hat10
                  have hge10 : ∀ bk, (Value.slice A9 ((b + 1) + 1) c9).ownBlock = some bk → wz.heap.size ≤ bk := own_row_ge HO9.out
                  have HS10 := Lib.hid (HS9.out.grown hg10 (fun g => by have := hge10 _ g.symm; omega))
                  have HB10 := Lib.hid (HB9.out.grown hg10 HB9.out.size hge10)
                  have HO10 := Lib.hid (ins_own (base' := w2.heap.size) (m := (k - (b + 1))) (by omega) (by omega) (show (b + 1) ≤ k by omega) hll Hr.out Hx5.out Hx6.out hown10)
                  have HL10 := Lib.hid (show Below w2.heap.size w2 w10 from HL3.out.trans (HLz.out.trans ((HB10.out).mono HLz.out.size) |>.mono hs3))
                  clear hown10 hg10 hat10 hge10
                  refine hK _ _ (fun _ => HS10.out) ?_
                  clear hK K
                  refine z_one (i := 12) rfl (by kernel_rfl) (by rfl) (fun K hK => ?_)
                  go_simp
                  refine hK _ _ (fun h => absurd rfl h) ?_
                  clear hK K
                  refine z_done (by kernel_rfl) ?_ _
                  go_wp2
                  go_roundg (j - (k + 1))
                  case rel => exact ⟨k + 1, _, hlt, rfl, by go_num, Hd.out, HO10.out, HL10.out⟩
                  case measure => rw [Hg.out]; omega
              -- END22 B
    · obtain rfl : k = n := by omega
      have HSt := Lib.hid (show Stns wr wr.heap.size (.slice A8 k c8) (Rk.ranking (Rk.scoreAt f rows) k) by
        obtain ⟨gO, rfl⟩ : ∃ g, A8 = some ⟨g, 0, none⟩ := (own_two hown.out).resolve_left (by omega)
        refine ⟨_, c8, by rw [Rk.ranking_length], by rw [Rk.ranking_length]; exact hn2, fun _ => ⟨gO, rfl, own_lt hown.out, fun p j hp hj => ?_⟩⟩
        rw [Rk.ranking_length] at hp
        have h1 := st_cell hown.out hll hp hj
        have h2 := (Rk.ranking_getD (sc := Rk.scoreAt f rows) hp).2
        rw [hord.out.full] at h1
        rw [h1]
        show _ = some (Value.int .i64 (fld ((Rk.ranking (Rk.scoreAt f rows) k).getD p Rk.noStn) j))
        rw [h2])
      have HLw := Lib.hid (show Below w.heap.size w wr from HB.out.trans (hL.out.mono HB.out.size))
      clear hord hown hL
      go_wp2
      go_ret2
      exact ⟨_, by rw [Hp.out.1]; rfl, by rw [Hp.out.2]; exact HSt.out, HLw.out⟩

set_option maxRecDepth 100000 in
set_option maxHeartbeats 1000000 in
theorem rrank_any (parts : Int) (f : Nat) (hf : f < 256) (v : Value) (rows : List RowL) (B : Nat) (w : World) (hv : Rows w B v rows) (hB : B ≤ w.heap.size) :
    Calls Tryz.prog 12 #[.agg #[.int .i64 parts, v], .int .u8 f] w (RankPost parts f rows w) := by
  by_cases h : specErr parts rows = 0
  · by_cases hff : 1 ≤ f ∧ f ≤ 14
    · obtain ⟨n, rfl⟩ : ∃ n : Nat, parts = n := ⟨parts.toNat, by have := (specErr_zero h).1; omega⟩
      exact rrank_good n f hff.1 hff.2 v rows B w hv hB h
    · have HT := Lib.hid (fun W (hb : Below w.heap.size w W) => rtals_any parts v rows B W (hv.below (hb.mono hB)) (by have := hb.size; omega))
      unfold RTlsPost at HT
      rw [h] at HT
      have Hp := Lib.hid (show rankErr parts f rows = 1 ∧ rankOf parts f rows = [] by
        have e : rankErr parts f rows = 1 := by unfold rankErr; rw [if_neg (by simpa using h), if_neg hff]
        exact ⟨e, by unfold rankOf; rw [e]; rfl⟩)
      obtain ⟨A, cv, vs, rfl, j1, j2, j3, j4⟩ := hv
      clear j1 j2 j3 j4 h hB
      rcases (show f < 1 ∨ 1 ≤ f ∧ 14 < f by omega) with h1 | ⟨h1, h2⟩
      all_goals
        go_enter Tryz.func12, Tryz.ntmps12
        go_wp2_with fail
        refine (HT.out _ (al1 _ _)).mono ?_
        rintro e w2 ⟨vT, rfl, hb, _, _⟩
        have HB := Lib.hid ((al1 w _).trans (hb.mono (by simp)))
        clear hb
        go_wp2
        go_ret2
        exact ⟨_, by rw [Hp.out.1]; rfl, by rw [Hp.out.2]; exact Stns.nil _ _, HB.out⟩
  · have HT := Lib.hid (fun W (hb : Below w.heap.size w W) => rtals_any parts v rows B W (hv.below (hb.mono hB)) (by have := hb.size; omega))
    unfold RTlsPost at HT
    have hne : (specErr parts rows != 0) = true := by simpa using h
    have Hp := Lib.hid (show rankErr parts f rows = specErr parts rows ∧ rankOf parts f rows = [] by
      have e : rankErr parts f rows = specErr parts rows := if_pos h
      exact ⟨e, by unfold rankOf; rw [e, if_neg h]⟩)
    obtain ⟨A, cv, vs, rfl, j1, j2, j3, j4⟩ := hv
    clear j1 j2 j3 j4 hB
    obtain ⟨err, herr⟩ : ∃ err, specErr parts rows = err := ⟨_, rfl⟩
    rw [herr] at hne HT Hp
    clear h herr
    go_enter Tryz.func12, Tryz.ntmps12
    go_wp2_with fail
    refine (HT.out _ (al1 _ _)).mono ?_
    rintro e w2 ⟨vT, rfl, hb, _, _⟩
    have HB := Lib.hid ((al1 w _).trans (hb.mono (by simp)))
    clear hb
    go_wp2
    go_ret2
    exact ⟨_, by rw [Hp.out.1]; rfl, by rw [Hp.out.2]; exact Stns.nil _ _, HB.out⟩
end Go.Proofs.YtfpmbjobieeidaaGreat
