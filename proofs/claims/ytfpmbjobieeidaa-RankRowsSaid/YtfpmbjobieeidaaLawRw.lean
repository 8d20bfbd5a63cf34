/-
  RankRows: the ranking of the spectrum with its rows turned; places; who is covered alike.
-/
import Derived.Test.YtfpmbjobieeidaaExam
import Derived.Test.YtfpmbjobieeidaaRankM
import Derived.Test.YtfpmbjobieeidaaWide
import Derived.Test.YtfpmbjobieeidaaPlainL
import Derived.Test.YtfpmbjobieeidaaAlike
import Derived.Test.YtfpmbjobieeidaaSameRank
import Derived.Test.YtfpmbjobieeidaaPlaces
import Derived.Test.YtfpmbjobieeidaaRegZ
import Derived.Test.YtfpmbjobieeidaaSpC
import Derived.Test.YtfpmbjobieeidaaSpB
namespace Go.Proofs.Ytfpmbjobieeidaa
open Go.RowKit

theorem below_x {W0 W w1 : World} (h : Below W0.heap.size W0 W) (hb : Below W.heap.size W w1) : Below W0.heap.size W0 w1 := h.trans (hb.mono h.size)
theorem al1' (w : World) (o : Obj) : Below w.heap.size w (w.alloc o) := (Below.refl _ w).alloc (Nat.le_refl _) o
theorem own_adC {w : World} {base : Nat} {e : TypeId} {n s : Nat} {v : Value} {xs : List Value} (h : w.ownsRow base e s v n xs) (o : Obj) : ((w.alloc o).drew).ownsRow base e s v n xs := own_kept (w' := w.alloc o) (row := none) h (World.grownBy_alloc w o none) (fun g e => by cases e)
theorem turn_at (t : Int) (l : Nat) (hl : l ≤ 64) : ∃ m tq : Nat, m = max l 1 ∧ tq < m ∧ max (l : Int) 1 = (m : Int) ∧ (wrap64 (t.tmod (max (l : Int) 1) + max (l : Int) 1)).tmod (max (l : Int) 1) = (tq : Int) := by
  obtain ⟨m, hm⟩ : ∃ m : Nat, m = max l 1 := ⟨_, rfl⟩
  have hmax : max (l : Int) 1 = (m : Int) := by omega
  have m0 : (0 : Int) < (m : Int) := by omega
  have a := Int.tmod_lt_of_pos t m0
  have b : -(m : Int) < t.tmod m := by
    have h := Int.tmod_lt_of_pos (-t) m0
    rw [Int.neg_tmod] at h
    omega
  refine ⟨m, (t.tmod m + m).toNat % m, hm, Nat.mod_lt _ (by omega), hmax, ?_⟩
  rw [hmax]
  have e : wrap64 (t.tmod m + m) = t.tmod m + m := by unfold wrap64; omega
  rw [e]
  have hx : 0 ≤ t.tmod m + m := by omega
  generalize t.tmod m + m = x at *
  rw [Int.tmod_eq_emod_of_nonneg hx, Int.natCast_emod, Int.toNat_of_nonneg hx]
def trn (rows : List RowL) (tq : Nat) : List RowL := Rk.turned ([], false) rows tq
theorem trn_length (rows : List RowL) (tq : Nat) : (trn rows tq).length = rows.length := Rk.turned_length _ _ _
theorem trn_take {rows : List RowL} {tq k : Nat} (h : k < rows.length) : (trn rows tq).take (k + 1) = (trn rows tq).take k ++ [Rk.rowAt rows ((k + tq) % rows.length)] := by
  have h1 : k < (trn rows tq).length := by rw [trn_length]; exact h
  rw [List.take_succ_eq_append_getElem h1]
  have e : (trn rows tq)[k] = Rk.rowAt rows ((k + tq) % rows.length) := by simp [trn, Rk.turned, Rk.rowAt]
  rw [e]
theorem stns_form {w : World} {B : Nat} {v : Value} {l : List Rk.Stn} (h : Stns w B v l) (h0 : 0 < l.length) :
    ∃ g c, v = .slice (some ⟨g, 0, none⟩) l.length c ∧ g < B ∧ ∀ p j, p < l.length → j < 5 → w.cell? ⟨g, p * 5 + j, none⟩ = some (.int .i64 (fld (l.getD p (0, (0, 0), 0, 0)) j)) := by
  obtain ⟨A, c, e, _, hc⟩ := h
  obtain ⟨g, rfl, hg, hk⟩ := hc h0
  exact ⟨g, c, e, hg, hk⟩
theorem stns_more {w w' : World} {v : Value} {l : List Rk.Stn} (h : Stns w w.heap.size v l) (hb : Below w.heap.size w w') : Stns w' w'.heap.size v l := by
  obtain ⟨A, c, e, hl, hc⟩ := h
  refine ⟨A, c, e, hl, fun h0 => ?_⟩
  obtain ⟨g, e, hg, hk⟩ := hc h0
  exact ⟨g, e, Nat.lt_of_lt_of_le hg hb.size, fun p j hp hj => (hb.cell hg).trans (hk p j hp hj)⟩
theorem stns_drewN {w : World} {B : Nat} {v : Value} {l : List Rk.Stn} (h : Stns w B v l) (q : Nat) : Stns (w.drewN q) B v l := h
theorem total_take {G : List (List Int)} {i : Nat} (h : i < G.length) : Rk.total (G.take (i + 1)) = Rk.total (G.take i) + (G.getD i []).length ∧ Rk.total (G.take i) + (G.getD i []).length ≤ Rk.total G := by
  have e : Rk.total (G.take (i + 1)) = Rk.total (G.take i) + (G.getD i []).length := by
    rw [List.take_succ_eq_append_getElem h, List.getD_eq_getElem?_getD, List.getElem?_eq_getElem h]
    unfold Rk.total
    rw [List.map_append, List.sum_append]
    simp
  refine ⟨e, ?_⟩
  rw [← e]
  have h2 : Rk.total G = Rk.total (G.take (i + 1)) + Rk.total (G.drop (i + 1)) := by
    unfold Rk.total
    rw [← List.sum_append, ← List.map_append, List.take_append_drop]
  omega
theorem fld_same {sc : Nat → Rk.Fr} {n c d j : Nat} (h : sc c = sc d) (h1 : 1 ≤ j) (h3 : j ≤ 4) : fld (Rk.stnOf sc n c) j = fld (Rk.stnOf sc n d) j := by
  have hg : Rk.gtN sc n c = Rk.gtN sc n d := by unfold Rk.gtN; rw [h]
  have hg2 : Rk.geN sc n c = Rk.geN sc n d := by unfold Rk.geN; rw [h]
  rcases (show j = 1 ∨ j = 2 ∨ j = 3 ∨ j = 4 by omega) with rfl | rfl | rfl | rfl <;> simp [fld, Rk.stnOf, h, hg, hg2]
theorem setsR_at {w : World} {B : Nat} {A : Option Addr} {c : Nat} {G : List (List Int)} (h : Sets w B (.slice A G.length c) G) {i : Nat} (hi : i < G.length) :
    ∃ ad u, A = some ad ∧ w.cell? (ad.add i) = some u ∧ Ints w B u (G.getD i []) := by
  obtain ⟨A', c', vs, e, _, _, hr, hx⟩ := h
  injection e with e1 _ _
  subst e1
  obtain ⟨ad, u, e, _, hu, hc⟩ := hr.at_ hi
  obtain ⟨u', hu', hi'⟩ := hx i hi
  rw [hu] at hu'
  injection hu' with hu'
  subst hu'
  exact ⟨ad, u, e, hc, hi'⟩
theorem trn_perm {rows : List RowL} {tq m : Nat} (hm : m = max rows.length 1) (h : tq < m) : (trn rows tq).Perm rows := by
  by_cases h0 : rows.length = 0
  · have e : trn rows tq = [] := List.eq_nil_of_length_eq_zero (by rw [trn_length]; exact h0)
    rw [e, List.eq_nil_of_length_eq_zero h0]
  · exact Rk.turned_perm _ rows (by omega)
theorem trn_score {rows : List RowL} {tq m : Nat} (hm : m = max rows.length 1) (h : tq < m) (f : Nat) : Rk.scoreAt f (trn rows tq) = Rk.scoreAt f rows := by
  funext c
  unfold Rk.scoreAt
  rw [Rk.tal_perm (trn_perm hm h)]
theorem trn_spec {rows : List RowL} {tq : Nat} {n : Int} (h : specErr n rows = 0) : specErr n (trn rows tq) = 0 := by
  obtain ⟨h1, h2, h3, h4⟩ := specErr_zero h
  unfold specErr
  rw [if_neg (by omega), if_neg (by rw [trn_length]; omega), if_pos]
  intro i hi
  rw [trn_length] at hi
  have e : Rk.rowAt (trn rows tq) i = Rk.rowAt rows ((i + tq) % rows.length) := by simp [trn, Rk.turned, Rk.rowAt, hi]
  rw [e]
  have := h4 _ (Nat.mod_lt (i + tq) (show 0 < rows.length by omega))
  unfold Rk.incr
  exact decide_eq_true this
theorem rank_ok {n f : Nat} {rows : List RowL} (h : specErr n rows = 0) (f0 : 1 ≤ f) (f1 : f ≤ 14) : rankErr n f rows = 0 ∧ rankOf n f rows = Rk.ranking (Rk.scoreAt f rows) n := by
  have e : rankErr n f rows = 0 := by unfold rankErr; rw [if_neg (by simpa using h), if_pos ⟨f0, f1⟩]
  exact ⟨e, by unfold rankOf; rw [e, if_pos rfl]; rfl⟩

set_option maxRecDepth 100000 in
set_option maxHeartbeats 2000000 in
theorem rankRows_any (parts : Int) (v : Value) (rows : List RowL) (f : Nat) (hf : f < 256) (t : Int) (B : Nat) (w : World) (hv : Rows w B v rows) (hB : B ≤ w.heap.size) :
    Calls Try.prog 9 #[.agg #[.int .i64 parts, v], .int .u8 f, .int .i64 t] w fun e w' => e = .returned (.bool true) ∧ Below w.heap.size w w' := by
  have HR := Lib.hid ranks_any
  have HWd := Lib.hid (fun W (hb : Below w.heap.size w W) => wide_any parts v rows B W (hv.below (hb.mono hB)) (by have := hb.size; omega))
  have HCk := Lib.hid (fun W (hb : Below w.heap.size w W) => rcheckspectrum_any parts v rows B W (hv.below (hb.mono hB)) (by have := hb.size; omega))
  have HRk := Lib.hid (fun (k : Nat) (hk : k < 256) W (hb : Below w.heap.size w W) => rank_any parts k hk v rows B W (hv.below (hb.mono hB)) (by have := hb.size; omega))
  have HAl := Lib.hid (fun W (hb : Below w.heap.size w W) => alike_any parts v rows B W (hv.below (hb.mono hB)) (by have := hb.size; omega))
  have Hv := Lib.hid hv
  have HB0 := Lib.hid hB
  obtain ⟨A, c, vs, rfl, j1, j2, j3, j4⟩ := hv
  clear j1 j2 j3 j4 hB
  go_enter Try.func9, Try.ntmps9
  go_wp2_with fail
  refine (HWd.out _ (al1' _ _)).mono ?_
  rintro e w1 ⟨⟨b, rfl⟩, hb⟩
  have S1 : Blk w1 w.heap.size 48 #[.int .i64 parts, .slice A rows.length c] := (Blk.new w _ _).below hb (by simp)
  have HB := Lib.hid (below_x (al1' w _) hb)
  have lt1 : w.heap.size < w1.heap.size := S1.lt
  have s0 := S1.cell 0
  have s1 := S1.cell 1
  have HS1 := Lib.hid S1
  simp only [List.getElem?_toArray, List.getElem?_cons_zero, List.getElem?_cons_succ] at s0 s1
  clear hb HWd S1
  cases b
  · by_cases he : specErr parts rows = 0
    · have HC := HCk.out w1 HB.out
      rw [he] at HC
      have HC := Lib.hid HC
      clear HCk
      go_wp2_with fail
      refine HC.out.mono ?_
      rintro e w2 ⟨rfl, hb⟩
      have HB2 := Lib.hid (below_x HB.out hb)
      have S2 := HS1.out.below hb lt1
      have lt2 : w.heap.size < w2.heap.size := S2.lt
      have s0 := S2.cell 0
      have s1 := S2.cell 1
      have HS2 := Lib.hid S2
      simp only [List.getElem?_toArray, List.getElem?_cons_zero, List.getElem?_cons_succ] at s0 s1
      clear hb S2 HC HS1
      by_cases hff : 1 ≤ f ∧ f ≤ 14
      · obtain ⟨f0, f1⟩ := hff
        obtain ⟨n, rfl⟩ : ∃ n : Nat, parts = n := ⟨parts.toNat, by have := (specErr_zero he).1; omega⟩
        have hn1 : 1 ≤ n := by have := (specErr_zero he).1; omega
        have hn2 : n ≤ 256 := by have := (specErr_zero he).2.1; omega
        have Hk := Lib.hid (fun k (k0 : 1 ≤ k) (k1 : k ≤ 14) => rank_ok (f := k) he k0 k1)
        have He := Lib.hid he
        clear he
        have hl64 : rows.length ≤ 64 := (specErr_zero He.out).2.2.1
        obtain ⟨m, tq, hm, htq, hmax, hT⟩ := turn_at t rows.length hl64
        have HS0 := Lib.hid (SpC.start w2 B n)
        have Hh := Lib.hid (And.intro hmax hT)
        clear hmax hT
        go_wp2
        rw [Hh.out.2, Hh.out.1]
        clear Hh
        go_loopg [9] rows.length (fun g s wr => ∃ (k : Nat) (u : Value), k ≤ rows.length ∧ g = rows.length - k ∧ s = .int .i64 k ∧ Hid (SpC w2 B n u ((trn rows tq).take k) wr))
        case atStart => exact ⟨0, _, Nat.zero_le _, rfl, rfl, by rw [List.take_zero]; exact HS0.out⟩
        case round =>
          obtain ⟨k, u, hk, hg, rfl, hsp⟩ := hrel
          have Hg := Lib.hid hg
          clear hg HS0
          obtain ⟨q1, q2, q3, q4, Au, cu, rfl⟩ := hsp.out.facts
          have hlk : ((trn rows tq).take k).length = k := by rw [List.length_take, trn_length]; omega
          rw [hlk] at q2 hsp
          have hsz2 := hsp.out.low.size
          have s1' := keepB hsp.out.low lt2 s1
          have s0' := keepB hsp.out.low lt2 s0
          by_cases hlt : k < rows.length
          · obtain rfl : m = rows.length := by omega
            clear hm
            obtain ⟨q, hq⟩ : ∃ q, q = (k + tq) % rows.length := ⟨_, rfl⟩
            have hql : q < rows.length := by rw [hq]; exact Nat.mod_lt _ (by omega)
            have hqi : ((k : Int) + (tq : Int)).tmod (rows.length : Int) = (q : Int) := by
              rw [Int.tmod_eq_emod_of_nonneg (by omega), hq]; simp
            have hnil : ¬ rows = [] := by intro e; rw [e] at hlt; simp at hlt
            have hwr : IntKind.i64.wrap ((k : Int) + (tq : Int)) = (k : Int) + (tq : Int) := by first | go_num | (rw [IntKind.wrap_i64]; unfold wrap64; omega) | (simp [IntKind.wrap, IntKind.bits, IntKind.signed]; omega)
            obtain ⟨A', c', vs, ev, _, _, hr, hi⟩ := Hv.out
            injection ev with e1 e2 e3
            subst e1
            subst e3
            obtain ⟨ad, u1, rfl, hadb, hc0, hc1, hu⟩ := rows_at hr hi hql
            have hadw : ad.block < w.heap.size := Nat.lt_of_lt_of_le hadb HB0.out
            have hl2 := HB2.out.size
            have hc0' : wr.cell? (ad.add (q * 2)) = some u1 := (hsp.out.low.cell (by rw [block_of_add]; omega)).trans ((HB2.out.cell (by rw [block_of_add]; exact hadw)).trans hc0)
            have hc1' : wr.cell? (ad.add (q * 2 + 1)) = some (.bool (Rk.rowAt rows q).2) := (hsp.out.low.cell (by rw [block_of_add]; omega)).trans ((HB2.out.cell (by rw [block_of_add]; exact hadw)).trans hc1)
            have Hu := Lib.hid ((hu.keep (fun p hp => HB2.out.cell (Nat.lt_of_lt_of_le hp HB0.out)) : Ints w2 B u1 (Rk.rowAt rows q).1))
            have h1c := hu.one
            obtain ⟨us, hV⟩ := hsp.out.own
            have HV := Lib.hid hV
            have Htk := Lib.hid (trn_take (tq := tq) hlt)
            rw [← hq] at Htk
            have Hfb := Lib.hid (rfl : (Rk.rowAt rows q).2 = (Rk.rowAt rows q).2)
            obtain ⟨fb, hfb⟩ : ∃ fb, fb = (Rk.rowAt rows q).2 := ⟨_, rfl⟩
            rw [← hfb, ← add_of_add] at hc1'
            have hc1' : wr.cell? ⟨(ad.add (q * 2)).block, (ad.add (q * 2)).off + 1, none⟩ = some (.bool fb) := hc1'
            have HF := Lib.hid hfb
            have hqq : (q : Int) < (rows.length : Int) := by omega
            obtain ⟨i0, hi0, hz0, hz1, hz2⟩ := info_parts info_row
            have hlwr : w.heap.size < wr.heap.size := by omega
            have hadr : ad.block < wr.heap.size := by omega
            have ha2 : ad.block ≠ w2.heap.size := by omega
            clear hr hi hc0 hc1 hu hV hq hfb Hfb
            go_wp2
            have hS0 : wr.drew.cell? ⟨w2.heap.size, 1, none⟩ = some (.slice Au k cu) ∧ wr.drew.cell? ⟨w.heap.size, 1, none⟩ = some (.slice (some ad) rows.length c) ∧ wr.drew.cell? (ad.add (q * 2)) = some u1 ∧ wr.drew.cell? ⟨(ad.add (q * 2)).block, (ad.add (q * 2)).off + 1, none⟩ = some (.bool fb) := ⟨q2, s1', hc0', hc1'⟩
            refine z_region (fun w' => w'.cell? ⟨w2.heap.size, 1, none⟩ = some (.slice Au k cu) ∧ w'.cell? ⟨w.heap.size, 1, none⟩ = some (.slice (some ad) rows.length c) ∧ w'.cell? (ad.add (q * 2)) = some u1 ∧ w'.cell? ⟨(ad.add (q * 2)).block, (ad.add (q * 2)).off + 1, none⟩ = some (.bool fb)) 14 (by kernel_rfl) ?_
            refine z_take (i := 0) (v := ?_) rfl (by kernel_rfl) (by kernel_rfl) (by kernel_rfl) (fun _ _ _ h => h) (by kernel_rfl) (by decide) hS0 (by rfl) (by intro w hSw; obtain ⟨hSa, hSb, hSc, hSd⟩ := hSw; go_simp; rfl) ?_
            refine z_take (i := 1) (v := ?_) rfl (by kernel_rfl) (by kernel_rfl) (by kernel_rfl) (fun _ _ _ h => h) (by kernel_rfl) (by decide) hS0 (by rfl) (by intro w hSw; obtain ⟨hSa, hSb, hSc, hSd⟩ := hSw; go_simp; rfl) ?_
            refine z_take (i := 2) (v := ?_) rfl (by kernel_rfl) (by kernel_rfl) (by kernel_rfl) (fun _ _ _ h => h) (by kernel_rfl) (by decide) hS0 (by rfl) (by intro w hSw; obtain ⟨hSa, hSb, hSc, hSd⟩ := hSw; go_simp; rfl) ?_
            refine z_take (i := 3) (v := ?_) rfl (by kernel_rfl) (by kernel_rfl) (by kernel_rfl) (fun _ _ _ h => h) (by kernel_rfl) (by decide) hS0 (by rfl) (by intro w hSw; obtain ⟨hSa, hSb, hSc, hSd⟩ := hSw; go_simp; rfl) ?_
            refine z_take (i := 4) (v := ?_) rfl (by kernel_rfl) (by kernel_rfl) (by kernel_rfl) (fun _ _ _ h => h) (by kernel_rfl) (by decide) hS0 (by rfl) (by intro w hSw; obtain ⟨hSa, hSb, hSc, hSd⟩ := hSw; go_simp; rfl) ?_
            refine z_take (i := 5) (v := ?_) rfl (by kernel_rfl) (by kernel_rfl) (by kernel_rfl) (fun _ _ _ h => h) (by kernel_rfl) (by decide) hS0 (by rfl) (by intro w hSw; obtain ⟨hSa, hSb, hSc, hSd⟩ := hSw; go_simp; rfl) ?_
            refine z_take (i := 6) (v := .int .i64 ((k : Int) + (tq : Int))) rfl (by kernel_rfl) (by kernel_rfl) (by kernel_rfl) (fun _ _ _ h => h) (by kernel_rfl) (by decide) hS0 (by rfl) (by intro w hSw; obtain ⟨hSa, hSb, hSc, hSd⟩ := hSw; go_simp) ?_
            refine z_take (i := 7) (v := ?_) rfl (by kernel_rfl) (by kernel_rfl) (by kernel_rfl) (fun _ _ _ h => h) (by kernel_rfl) (by decide) hS0 (by rfl) (by intro w hSw; obtain ⟨hSa, hSb, hSc, hSd⟩ := hSw; go_simp; rfl) ?_
            refine z_take (i := 8) (v := .int .i64 (q : Int)) rfl (by kernel_rfl) (by kernel_rfl) (by kernel_rfl) (fun _ _ _ h => h) (by kernel_rfl) (by decide) hS0 (by rfl) (by intro w hSw; obtain ⟨hSa, hSb, hSc, hSd⟩ := hSw; go_simp) ?_
            refine z_take (i := 9) (v := ?_) rfl (by kernel_rfl) (by kernel_rfl) (by kernel_rfl) (fun _ _ _ h => h) (by kernel_rfl) (by decide) hS0 (by rfl) (by intro w hSw; obtain ⟨hSa, hSb, hSc, hSd⟩ := hSw; go_simp; rfl) ?_
            refine z_take (i := 10) (v := ?_) rfl (by kernel_rfl) (by kernel_rfl) (by kernel_rfl) (fun _ _ _ h => h) (by kernel_rfl) (by decide) hS0 (by rfl) (by intro w hSw; obtain ⟨hSa, hSb, hSc, hSd⟩ := hSw; go_simp; rfl) ?_
            simp only [Act.put, List.setIfInBounds_toArray]
            refine z_one (i := 11) rfl (by kernel_rfl) (by rfl) (fun K hK => ?_)
            go_simp
            have hV1 : wr.ownsRow (w2.heap.size + 1) 65 2 (.slice Au k cu) k us := by
              have h := HV.out.1
              rw [hlk] at h
              exact h
            have HugC := Lib.hid (fun b e => (own_row_lt hV1 b e).1)
            have HV1 := Lib.hid hV1
            clear hV1
            refine hK _ _ (fun _ => ⟨(World.cell?_alloc_lt _ _ _ q4).trans q2, (World.cell?_alloc_lt _ _ _ hlwr).trans s1', (World.cell?_alloc_lt _ _ _ (by rw [block_of_add]; exact hadr)).trans hc0', (World.cell?_alloc_lt _ _ _ (by show (ad.add (q * 2)).block < _; rw [block_of_add]; exact hadr)).trans hc1'⟩) ?_
            clear hK K
            refine z_one (i := 12) rfl (by kernel_rfl) (by rfl) (fun K hK => ?_)
            refine wp_append_any _ _ _ 46 rfl (w2.heap.size + 1) 65 i0 _ 2 32 Try.underlying46 hi0 hz0 hz1 hz2 rfl (by decide) (.slice Au k cu) k us (by rfl) (own_adC HV1.out _) (wr.heap.size + 1) _ 1 _ [u1, .bool fb] (by rfl) (read_row2 (by omega)) (by intro u hu; simp at hu; rcases hu with rfl | rfl; exact h1c; rfl) (by unfold maxLen; omega) (by omega) (by simp; omega) ?_
            intro v2 w4 hown2 hg2 hat2
            obtain ⟨A4, c4, ev4, _, _, _⟩ := own_form hown2
            subst ev4
            have hg2' : (wr.alloc (.cells #[u1, .bool fb] 65)).grownBy w4 (Value.slice Au k cu).ownBlock := ⟨hg2.os, hg2.tape, hg2.output, hg2.size, hg2.block⟩
            have hsn := SpC.snoc (r := (Rk.rowAt rows q)) (v1 := u1) (v2 := .slice A4 (k + 1) c4) hsp.out HV.out Hu.out (by rw [hlk, ← HF.out]; exact hown2) (by rw [← HF.out]; exact hg2')
            obtain ⟨⟨z1, z2, z3⟩, hsn⟩ := hsn
            rw [← Htk.out] at hsn
            have HS4 := Lib.hid hsn
            have hold : ∀ p : Addr, p.block < w2.heap.size → w4.cell? p = wr.cell? p := fun p hp => World.cell?_of_block ((hg2'.block p.block (by simp; omega) (fun e => by have := HugC.out p.block e.symm; omega)).trans (Below.heap_alloc _ _ _ (by omega)))
            have hS4 : w4.cell? ⟨w2.heap.size, 1, none⟩ = some (.slice Au k cu) ∧ w4.cell? ⟨w.heap.size, 1, none⟩ = some (.slice (some ad) rows.length c) ∧ w4.cell? (ad.add (q * 2)) = some u1 ∧ w4.cell? ⟨(ad.add (q * 2)).block, (ad.add (q * 2)).off + 1, none⟩ = some (.bool fb) := ⟨z1, (hold _ lt2).trans s1', (hold _ (by rw [block_of_add]; omega)).trans hc0', (hold _ (by show (ad.add (q * 2)).block < _; rw [block_of_add]; omega)).trans hc1'⟩
            clear hown2 hg2 hat2 hg2' hsn hold
            refine hK _ _ (fun _ => hS4) ?_
            clear hK K
            refine z_take (i := 13) (v := ?_) rfl (by kernel_rfl) (by kernel_rfl) (by kernel_rfl) (fun _ _ _ h => h) (by kernel_rfl) (by decide) hS4 (by rfl) (by intro w hSw; obtain ⟨hSa, hSb, hSc, hSd⟩ := hSw; go_simp; rfl) ?_
            simp only [Act.put, List.setIfInBounds_toArray]
            refine z_one (i := 14) rfl (by kernel_rfl) (by rfl) (fun K hK => ?_)
            go_simp
            refine hK _ _ (fun h => absurd rfl h) ?_
            clear hK K
            refine z_done (by kernel_rfl) ?_ _
            go_wp2
            go_roundg (rows.length - (k + 1))
            case rel => exact ⟨k + 1, _, hlt, rfl, by go_num, HS4.out⟩
            case measure => rw [Hg.out]; omega
          · obtain rfl : k = rows.length := by omega
            have HRW := Lib.hid (hsp.out.reads_ (Nat.le_trans HB0.out HB2.out.size) (by rw [List.length_take, trn_length]; omega))
            rw [List.take_of_length_le (by rw [trn_length]; exact Nat.le_refl _)] at HRW
            have HBr := Lib.hid (show Below w.heap.size w wr from HB2.out.trans (hsp.out.low.mono HB2.out.size))
            have HR1 := Lib.hid (HRk.out f hf wr HBr.out)
            have HR2 := Lib.hid (fun W (hb : Below wr.heap.size wr W) => rank_any n f hf _ _ wr.heap.size W (HRW.out.below hb) hb.size)
            unfold RankPost at HR1 HR2
            rw [(rank_ok He.out f0 f1).1, (rank_ok He.out f0 f1).2] at HR1
            rw [(rank_ok (trn_spec (tq := tq) He.out) f0 f1).1, (rank_ok (trn_spec (tq := tq) He.out) f0 f1).2, trn_score hm htq] at HR2
            clear HRk HRW
            go_wp2_with fail
            refine HR1.out.mono ?_
            rintro e w3 ⟨va, rfl, hsta, hb3⟩
            have HstA := Lib.hid hsta
            have HB3 := Lib.hid hb3
            have q2 := keepB hb3 q4 q2
            have q1 := keepB hb3 q4 q1
            have s0' := keepB hb3 (Nat.lt_of_lt_of_le lt2 hsz2) s0'
            have s1' := keepB hb3 (Nat.lt_of_lt_of_le lt2 hsz2) s1'
            clear hsta hb3 HR1
            go_wp2_with fail
            refine (HR2.out _ HB3.out).mono ?_
            rintro e w5 ⟨vb, rfl, hstb, hb5⟩
            have HstB := Lib.hid hstb
            have HB5 := Lib.hid (below_x HB3.out hb5)
            have s0' := keepB hb5 (Nat.lt_of_lt_of_le (Nat.lt_of_lt_of_le lt2 hsz2) HB3.out.size) s0'
            have s1' := keepB hb5 (Nat.lt_of_lt_of_le (Nat.lt_of_lt_of_le lt2 hsz2) HB3.out.size) s1'
            have HstA5 := Lib.hid (stns_more HstA.out hb5)
            have HSR := Lib.hid (fun q => samerank_yes va vb _ w5.heap.size (w5.drewN q) (stns_drewN HstA5.out q) (stns_drewN HstB.out q))
            clear hstb hb5 HR2 q1 q2
            go_wp2_with fail
            refine (samerank_yes va vb _ w5.heap.size w5 HstA5.out HstB.out).mono ?_
            rintro e w6 ⟨rfl, q6, rfl⟩
            have HPl := Lib.hid (places_any (Rk.scoreAt f rows) n hn2 va w5.heap.size (w5.drewN q6) HstA5.out (Nat.le_refl _))
            have s0' : (w5.drewN q6).cell? ⟨w.heap.size, 0, none⟩ = some (.int .i64 n) := s0'
            have s1' : (w5.drewN q6).cell? ⟨w.heap.size, 1, none⟩ = some (.slice A rows.length c) := s1'
            have hls5 : w.heap.size < w5.heap.size := by have := HB5.out.size; omega
            clear HSR
            go_wp2_with fail
            refine HPl.out.mono ?_
            rintro e w7 ⟨gp, rfl, hgp, hpl, hb7⟩
            have hb7 : Below w5.heap.size w5 w7 := below_x (W0 := w5) (W := w5.drewN q6) (below_drewN (Below.refl _ _) q6) hb7
            obtain ⟨ga, ca, rfl, hga, hka⟩ := stns_form HstA5.out (by rw [Rk.ranking_length]; omega)
            rw [Rk.ranking_length] at hka ⊢
            have HkA := Lib.hid (fun (p j : Nat) (hp : p < n) (hj : j < 5) => keepB hb7 hga (hka p j hp hj))
            have s0' : w7.cell? ⟨w.heap.size, 0, none⟩ = some (.int .i64 n) := keepB hb7 hls5 s0'
            have s1' : w7.cell? ⟨w.heap.size, 1, none⟩ = some (.slice A rows.length c) := keepB hb7 hls5 s1'
            have HPL := Lib.hid hpl
            have HB7 := Lib.hid (show Below w.heap.size w w7 from below_x (below_x HBr.out HB5.out) hb7)
            have HPk := Lib.hid (fun (k : Nat) (hk : k < n) => Rk.places_ok (sc := Rk.scoreAt f rows) hk)
            have hb7s := hb7.size
            clear hpl hb7 hka HPl
            go_wp2
            go_loopg [16] n (fun g s wr => ∃ k q : Nat, k ≤ n ∧ g = n - k ∧ s = .int .i64 k ∧ wr = w7.drewN q)
            case atStart => exact ⟨0, 0, Nat.zero_le _, rfl, rfl, rfl⟩
            case round =>
              obtain ⟨k, q, hk, hg2, rfl, rfl⟩ := hrel
              have Hg2 := Lib.hid hg2
              clear hg2
              by_cases hlt : k < n
              · obtain ⟨p1, p2, p3, p4⟩ := HPk.out k hlt
                have a3 := HkA.out k 3 hlt (by decide)
                have a4 := HkA.out k 4 hlt (by decide)
                have e3 : fld ((Rk.ranking (Rk.scoreAt f rows) n).getD k (0, (0, 0), 0, 0)) 3 = ((Rk.ranking (Rk.scoreAt f rows) n).getD k Rk.noStn).2.2.1 := rfl
                have e4 : fld ((Rk.ranking (Rk.scoreAt f rows) n).getD k (0, (0, 0), 0, 0)) 4 = ((Rk.ranking (Rk.scoreAt f rows) n).getD k Rk.noStn).2.2.2 := rfl
                rw [e3] at a3
                rw [e4] at a4
                clear e3 e4
                generalize ((Rk.ranking (Rk.scoreAt f rows) n).getD k Rk.noStn).2.2.1 = x3 at *
                generalize ((Rk.ranking (Rk.scoreAt f rows) n).getD k Rk.noStn).2.2.2 = x4 at *
                have hkk : (k : Int) < (n : Int) := by omega
                have d1 : decide (x3 < 1) = false := decide_eq_false (by omega)
                have d2 : decide ((k : Int) + 1 < x3) = false := decide_eq_false (by omega)
                have d3 : decide (x4 < (k : Int) + 1) = false := decide_eq_false (by omega)
                have d4 : decide ((n : Int) < x4) = false := decide_eq_false (by omega)
                go_wp2
                go_quiet (fail)
                go_wp2
                go_roundg (n - (k + 1))
                case rel => exact ⟨k + 1, _, hlt, rfl, by go_num, rfl⟩
                case measure => rw [Hg2.out]; omega
              · obtain rfl : k = n := by omega
                go_wp2_with fail
                have HA7 := Lib.hid (HAl.out (w7.drewN q) (below_drewN HB7.out q))
                unfold AlkPost at HA7
                rw [He.out] at HA7
                have HaO := Lib.hid (show alkOf k rows = Rk.alike rows k by unfold alkOf; rw [if_pos He.out]; rfl)
                rw [HaO.out] at HA7
                have hls7 : w.heap.size < w7.heap.size := by have := hb7s; omega
                refine HA7.out.mono ?_
                rintro e w8 ⟨vs, rfl, hsets, hb8⟩
                have hb8 : Below w7.heap.size w7 w8 := below_x (W0 := w7) (W := w7.drewN q) (below_drewN (Below.refl _ _) q) hb8
                have s0' : w8.cell? ⟨w.heap.size, 0, none⟩ = some (.int .i64 k) := keepB hb8 hls7 s0'
                have HPL8 := Lib.hid (HPL.out.below hb8 HPL.out.1)
                have HB8 := Lib.hid (below_x HB7.out hb8)
                have HSets := Lib.hid hsets
                clear hsets hb8 HA7
                obtain ⟨G, hG⟩ : ∃ G, G = Rk.alike rows k := ⟨_, rfl⟩
                have HG := Lib.hid (Rk.alike_ok rows k)
                rw [← hG] at HG HSets
                clear hG HaO
                obtain ⟨Ag, cg, rfl⟩ : ∃ Ag cg, vs = .slice Ag G.length cg := by
                  obtain ⟨A', c', _, e, _⟩ := HSets.out
                  exact ⟨A', c', e⟩
                have hGl : G.length ≤ 256 := Nat.le_trans HG.out.2.1 hn2
                go_wp2
                go_loopg [18, 19] G.length (fun g s18 s19 wr => ∃ i q : Nat, i ≤ G.length ∧ g = G.length - i ∧ s18 = .int .i64 (Rk.total (G.take i) : Nat) ∧ s19 = .int .i64 i ∧ wr = w8.drewN q)
                case atStart => exact ⟨0, 0, Nat.zero_le _, rfl, rfl, rfl, rfl⟩
                case round =>
                  obtain ⟨i, q, hi, hg3, rfl, rfl, rfl⟩ := hrel
                  have Hg3 := Lib.hid hg3
                  clear hg3
                  by_cases hil : i < G.length
                  · obtain ⟨adg, ug, rfl, hcg, hug⟩ := setsR_at HSets.out hil
                    obtain ⟨tt1, tt2⟩ := total_take hil
                    rw [HG.out.1] at tt2
                    have hgm : G.getD i [] ∈ G := by rw [List.getD_eq_getElem?_getD, List.getElem?_eq_getElem hil]; exact List.getElem_mem hil
                    obtain ⟨m1, m2, m3⟩ := HG.out.2.2 _ hgm
                    have Htt := Lib.hid tt1
                    clear tt1 hgm
                    generalize G.getD i [] = gg at *
                    generalize Rk.total (G.take i) = T at *
                    obtain ⟨Au, cu', rfl, hur⟩ : ∃ Au cu', ug = .slice Au gg.length cu' ∧ Reads w8 w8.heap.size 1 Au gg.length (gg.map (.int .i64)) := by
                      obtain ⟨A', c', e, _, _, hr⟩ := hug
                      exact ⟨A', c', e, hr⟩
                    have Hur := Lib.hid hur
                    clear hug hur
                    have hii : (i : Int) < (G.length : Int) := by omega
                    go_wp2
                    go_loopg [18, 20] gg.length (fun g s18 s20 wr => ∃ j q : Nat, j ≤ gg.length ∧ g = gg.length - j ∧ s18 = .int .i64 ((T + j : Nat) : Int) ∧ s20 = .int .i64 j ∧ wr = w8.drewN q)
                    case atStart => exact ⟨0, _, Nat.zero_le _, rfl, rfl, rfl, rfl⟩
                    case round =>
                      obtain ⟨j, q2, hj, hg4, rfl, rfl, rfl⟩ := hrel
                      have Hg4 := Lib.hid hg4
                      clear hg4
                      by_cases hjl : j < gg.length
                      · obtain ⟨adx, rfl, _, x0⟩ := ints_at Hur.out m1
                        obtain ⟨adx', e, _, xj⟩ := ints_at Hur.out hjl
                        injection e with e
                        subst e
                        obtain ⟨y0, y1, y2⟩ := m3 _ (Rk.getD_mem m1)
                        obtain ⟨v0, v1, v2⟩ := m3 _ (Rk.getD_mem hjl)
                        have hcov := y2.trans v2.symm
                        clear y2 v2
                        generalize gg.getD 0 0 = g0 at *
                        generalize gg.getD j 0 = gj at *
                        obtain ⟨c0, rfl⟩ : ∃ c0 : Nat, g0 = c0 := ⟨g0.toNat, by omega⟩
                        obtain ⟨cj, rfl⟩ : ∃ cj : Nat, gj = cj := ⟨gj.toNat, by omega⟩
                        rw [Int.toNat_natCast, Int.toNat_natCast] at hcov
                        have hsc : Rk.scoreAt f rows cj = Rk.scoreAt f rows c0 := by unfold Rk.scoreAt; rw [Rk.tal_cov hcov]
                        have a1 := (HPL8.out.2 c0 1 (by omega) (by decide)).1
                        have a2 := (HPL8.out.2 c0 2 (by omega) (by decide)).1
                        have a3 := (HPL8.out.2 c0 3 (by omega) (by decide)).1
                        have a4 := (HPL8.out.2 c0 4 (by omega) (by decide)).1
                        have b1 := (HPL8.out.2 cj 1 (by omega) (by decide)).1
                        have b2 := (HPL8.out.2 cj 2 (by omega) (by decide)).1
                        have b3 := (HPL8.out.2 cj 3 (by omega) (by decide)).1
                        have b4 := (HPL8.out.2 cj 4 (by omega) (by decide)).1
                        dsimp only at a1 a2 a3 a4 b1 b2 b3 b4
                        rw [fld_same (j := 1) hsc (by decide) (by decide)] at b1
                        rw [fld_same (j := 2) hsc (by decide) (by decide)] at b2
                        rw [fld_same (j := 3) hsc (by decide) (by decide)] at b3
                        rw [fld_same (j := 4) hsc (by decide) (by decide)] at b4
                        generalize fld (Rk.stnOf (Rk.scoreAt f rows) k c0) 1 = z1 at *
                        generalize fld (Rk.stnOf (Rk.scoreAt f rows) k c0) 2 = z2 at *
                        generalize fld (Rk.stnOf (Rk.scoreAt f rows) k c0) 3 = z3 at *
                        generalize fld (Rk.stnOf (Rk.scoreAt f rows) k c0) 4 = z4 at *
                        clear hsc hcov
                        have x0' := x0
                        rw [add_zero_] at x0'
                        have hjj : (j : Int) < (gg.length : Int) := by omega
                        have hgg : (0 : Int) < (gg.length : Int) := by omega
                        have d1 : decide ((k : Int) ≤ (c0 : Int)) = false := decide_eq_false (by omega)
                        have d2 : decide ((k : Int) ≤ (cj : Int)) = false := decide_eq_false (by omega)
                        have d3 : decide (k ≤ c0) = false := decide_eq_false (by omega)
                        have d4 : decide (k ≤ cj) = false := decide_eq_false (by omega)
                        have d5 : decide ((c0 : Int) < 0) = false := decide_eq_false (by omega)
                        have d6 : decide ((cj : Int) < 0) = false := decide_eq_false (by omega)
                        have hc0k : (c0 : Int) < (k : Int) := y1
                        have hcjk : (cj : Int) < (k : Int) := v1
                        go_wp2
                        go_quiet (fail)
                        go_wp2
                        go_quiet (fail)
                        go_wp2
                        go_roundg (gg.length - (j + 1))
                        case rel => exact ⟨j + 1, _, hjl, rfl, by go_num, by go_num, rfl⟩
                        case measure => rw [Hg4.out]; omega
                      · obtain rfl : j = gg.length := by omega
                        rw [← Htt.out]
                        go_wp2
                        go_roundg (G.length - (i + 1))
                        case rel => exact ⟨i + 1, _, hil, rfl, rfl, by go_num, rfl⟩
                        case measure => rw [Hg3.out]; omega
                  · obtain rfl : i = G.length := by omega
                    rw [List.take_length, HG.out.1]
                    go_wp2_with fail
                    refine (HR.out _).mono ?_
                    rintro e w9 ⟨rfl, hb9⟩
                    go_wp2
                    go_ret
                    exact ⟨rfl, below_x (below_drewN HB8.out q) hb9⟩
      · rcases (show f < 1 ∨ 1 ≤ f ∧ 14 < f by omega) with h1 | ⟨h1, h2⟩
        all_goals
          clear he
          go_wp2_with fail
          refine (HR.out _).mono ?_
          rintro e w3 ⟨rfl, hb⟩
          go_wp2
          go_ret
          exact ⟨rfl, below_x HB2.out hb⟩
    · have HC := HCk.out w1 HB.out
      have hne : (specErr parts rows != 0) = true := by simpa using he
      have HC := Lib.hid HC
      clear HCk he
      generalize specErr parts rows = er at *
      go_wp2_with fail
      refine HC.out.mono ?_
      rintro e w2 ⟨rfl, hb⟩
      have HB2 := Lib.hid (below_x HB.out hb)
      go_wp2_with fail
      refine (HR.out _).mono ?_
      rintro e w3 ⟨rfl, hb3⟩
      go_wp2
      go_ret
      exact ⟨rfl, below_x HB2.out hb3⟩
  · go_wp2_with fail
    refine (HR.out _).mono ?_
    rintro e w2 ⟨rfl, hb⟩
    go_wp2
    go_ret
    exact ⟨rfl, below_x HB.out hb⟩
end Go.Proofs.Ytfpmbjobieeidaa
