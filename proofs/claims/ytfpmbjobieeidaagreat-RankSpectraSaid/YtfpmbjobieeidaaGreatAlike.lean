/-
  The walk of Alike.
-/
import Derived.Test.YtfpmbjobieeidaaGreatTallies
import Derived.Test.YtfpmbjobieeidaaGreatOwnD
import Derived.Test.YtfpmbjobieeidaaGreatPlainL
import Derived.Test.YtfpmbjobieeidaaGreatMarks
import Derived.Test.YtfpmbjobieeidaaGreatMap
import Derived.Test.YtfpmbjobieeidaaGreatNum
import Derived.Test.YtfpmbjobieeidaaGreatClone
namespace Go.Proofs.YtfpmbjobieeidaaGreat
open Go.RowKit Go.ChangeMaps Go.MapKept Go.Maps

theorem keyULaw : Keyed Tryz.prog 80 := int_keyed Tryz.underlying80
theorem keyU_of (x : Nat) (hx : x < 18446744073709551616) : ∃ l, keyOf Tryz.prog 80 (.int .u64 x) = some l := by
  have h1 : (Lit.int .u64 (x : Int)).wf = true := by simp [Lit.wf, IntKind.min, IntKind.max, IntKind.signed, IntKind.bits]; omega
  exact ⟨.int .u64 x, by simp [keyOf, mapKey, Tryz.underlying80, h1]⟩
theorem info_u64 : (Tryz.prog.info? 80).map (fun i => (i.zero, i.size, i.bytes)) = some (some (.int .u64 0), 1, 8) := by kernel_rfl
theorem make_words (w : World) (n : Nat) (hn : n ≤ 256) : (Instr.makeSlice 79 (.int .i64 n) (.int .i64 n)).run Tryz.prog w = .ok (.slice (some ⟨w.heap.size, 0, none⟩) n n) (w.alloc (.cells (madeCells #[.int .u64 0] n) 80)) := by
  obtain ⟨i, hi, hz, hs, hb⟩ := info_parts info_u64
  have h := run_make (P := Tryz.prog) w 79 80 i (.int .u64 0) Tryz.underlying79 hi hz .i64 .i64 n n (by omega) (by omega) (by rw [hb]; omega) (by omega)
  rw [hs, Nat.mul_one] at h
  exact h

/-- The entries of the map: the groups' masks, and their places. -/
def entries (ks : List Nat) : List (Value × Value) := (List.range ks.length).map fun j => (.int .u64 (ks.getD j 0 : Int), .int .i64 (j : Int))
theorem entries_snoc (ks : List Nat) (x : Nat) : entries ks ++ [(.int .u64 (x : Int), .int .i64 (ks.length : Int))] = entries (ks ++ [x]) := by
  unfold entries
  rw [List.length_append, List.length_singleton, List.range_succ, List.map_append]
  congr 1
  · apply List.map_congr_left
    intro j hj
    have := List.mem_range.1 hj
    rw [List.getD_eq_getElem?_getD, List.getD_eq_getElem?_getD, List.getElem?_append_left this]
  · simp
theorem entries_mem {ks : List Nat} {p : Value × Value} (h : p ∈ entries ks) : ∃ (j x : Nat), j < ks.length ∧ ks[j]? = some x ∧ p = (.int .u64 (x : Int), .int .i64 (j : Int)) := by
  unfold entries at h
  obtain ⟨j, hj, rfl⟩ := List.mem_map.1 h
  have hj := List.mem_range.1 hj
  exact ⟨j, ks[j], hj, List.getElem?_eq_getElem hj, by rw [List.getD_eq_getElem?_getD, List.getElem?_eq_getElem hj]; rfl⟩
theorem entries_hit {ks : List Nat} (hn : ks.Nodup) {j x : Nat} (h : ks[j]? = some x) : (∀ p ∈ entries ks, p.1 = .int .u64 (x : Int) → p.2 = .int .i64 (j : Int)) ∧ ∃ p ∈ entries ks, p.1 = .int .u64 (x : Int) := by
  have hj : j < ks.length := by
    rcases Nat.lt_or_ge j ks.length with h1 | h1
    · exact h1
    · rw [List.getElem?_eq_none h1] at h; cases h
  constructor
  · intro p hp e
    obtain ⟨i, y, hi, hy, rfl⟩ := entries_mem hp
    have hyx : y = x := by
      injection e with _ e
      omega
    subst hyx
    rcases Nat.lt_trichotomy i j with h1 | h1 | h1
    · have := List.pairwise_iff_getElem.1 hn i j hi hj h1
      rw [List.getElem?_eq_getElem hi] at hy
      rw [List.getElem?_eq_getElem hj] at h
      exact absurd ((Option.some.inj hy).trans (Option.some.inj h).symm) this
    · subst h1; rfl
    · have := List.pairwise_iff_getElem.1 hn j i hj hi h1
      rw [List.getElem?_eq_getElem hi] at hy
      rw [List.getElem?_eq_getElem hj] at h
      exact absurd ((Option.some.inj h).trans (Option.some.inj hy).symm) this
  · refine ⟨(.int .u64 (x : Int), .int .i64 (j : Int)), ?_, rfl⟩
    unfold entries
    exact List.mem_map.2 ⟨j, List.mem_range.2 hj, by rw [List.getD_eq_getElem?_getD, h]; rfl⟩
theorem entries_miss {ks : List Nat} {x : Nat} (h : x ∉ ks) : ∀ p ∈ entries ks, p.1 ≠ .int .u64 (x : Int) := fun p hp e => by
  obtain ⟨i, y, _, hy, rfl⟩ := entries_mem hp
  injection e with _ e
  have : y = x := by omega
  subst this
  exact h (List.mem_of_getElem? hy)

/-- While the groups are made. -/
structure AlkR (w : World) (n : Nat) (f : Nat → Value) (b gm gt : Nat) (L : List (List Int)) (ks : List Nat) (v : Value) (wr : World) : Prop where
  sets : OwnApart wr b v L
  map : MapAt wr Tryz.prog 80 gm (entries ks)
  msk : CelAt wr 80 gt n f
  low : Below w.heap.size w wr

theorem alk_step {w wr W5 w2 : World} {n b gm gt g cap j : Nat} {f : Nat → Value} {L : List (List Int)} {ks : List Nat} {us : List Value} {u v2 : Value} {x : Int} (hmap : MapAt wr Tryz.prog 80 gm (entries ks)) (hmsk : CelAt wr 80 gt n f) (hlow : Below w.heap.size w wr)
    (hr : wr.ownsRow b 26 1 (.slice (some ⟨g, 0, none⟩) L.length cap) L.length us) (hi : ∀ i, i < L.length → ∃ u, us[i]? = some u ∧ OwnInts wr b u (L.getD i [])) (hd : ApartV us) (hj : j < L.length) (hu : us[j]? = some u)
    (h5 : wr.grownBy W5 none) (hown2 : w2.ownsRow b 3 1 v2 ((L.getD j []).length + 1) ((L.getD j []).map (Value.int .i64) ++ [.int .i64 x])) (hg2 : W5.grownBy w2 u.ownBlock) (hat2 : v2.ownBlock = u.ownBlock ∨ v2.ownBlock = some W5.heap.size)
    (hgt : gt < b) (hgm : gm < b) (hb : w.heap.size ≤ b) :
    (w2.cell? ⟨g, j, none⟩ = some u ∧ w2.frozen? ⟨g, j, none⟩ = false ∧ g < w2.heap.size) ∧
      AlkR w n f b gm gt (L.set j (L.getD j [] ++ [x])) ks (.slice (some ⟨g, 0, none⟩) L.length cap) (w2.setCell ⟨g, j, none⟩ v2) := by
  have hg : wr.grownBy w2 u.ownBlock := (h5.but _).trans hg2
  have hgr := own_row_lt hr g rfl
  obtain ⟨u0, hu0, huo⟩ := hi j hj
  obtain rfl : u0 = u := by rw [hu] at hu0; exact (Option.some.inj hu0).symm
  have hub := fun k e => (own_row_lt huo k e).1
  have hr2 := own_kept hr hg (fun g' e => own_own_ne huo hr (by decide) e)
  have hset : w2.grownBy (w2.setCell ⟨g, j, none⟩ v2) (some g) := grown_setCell w2 ⟨g, j, none⟩ v2
  refine ⟨⟨own_cell hr2 hu, own_frozen hr2 j, Nat.lt_of_lt_of_le hgr.2 hg.size⟩, OwnApart.longer rfl hr hi hd hj hu (ownSnoc hown2) hg (hat2.imp id fun h => ⟨_, h, h5.size⟩), ?_, ?_, ?_⟩
  · have h1 : w2.heap[gm]? = wr.heap[gm]? := hg.block gm hmap.lt (fun e => by have := hub _ e.symm; omega)
    have h2 : (w2.setCell ⟨g, j, none⟩ v2).heap[gm]? = w2.heap[gm]? := hset.block gm (Nat.lt_of_lt_of_le hmap.lt hg.size) (fun e => by injection e with e; omega)
    exact hmap.same (h2.trans h1)
  · exact (hmsk.grown hg (fun e => by have := hub _ e.symm; omega)).grown hset (fun e => by injection e with e; omega)
  · exact (hlow.grown hg hlow.size (fun k e => by have := hub _ e; omega)).grown hset (Nat.le_trans hlow.size hg.size) (fun k e => by injection e with e; omega)

def alkOf (parts : Int) (rows : List RowL) : List (List Int) := if specErr parts rows = 0 then Rk.alike rows parts.toNat else []
def AlkPost (parts : Int) (rows : List RowL) (w : World) (e : Ending) (w' : World) : Prop :=
  ∃ v, e = .returned (.tuple #[v, .int .i64 (specErr parts rows)]) ∧ Sets w' w'.heap.size v (alkOf parts rows) ∧ Below w.heap.size w w'

set_option maxRecDepth 100000 in
set_option maxHeartbeats 1000000 in
theorem alike_yes (n : Nat) (v : Value) (rows : List RowL) (B : Nat) (w : World) (hv : Rows w B v rows) (hB : B ≤ w.heap.size) (h : specErr n rows = 0) :
    Calls Tryz.prog 14 #[.agg #[.int .i64 n, v]] w (AlkPost n rows w) := by
  have HC := Lib.hid (fun W (hb : Below w.heap.size w W) => checkspectrum_any n v rows B W (hv.below (hb.mono hB)) (by have := hb.size; omega))
  obtain ⟨z0, z1, z2, z3⟩ : 1 ≤ n ∧ n ≤ 256 ∧ rows.length ≤ 64 ∧ ∀ i, i < rows.length → Rk.Incr n (Rk.rowAt rows i).1 := by
    unfold specErr at h
    split at h
    · cases h
    · split at h
      · cases h
      · split at h
        · rename_i h3
          exact ⟨by omega, by omega, by omega, fun i hi => of_decide_eq_true (h3 i hi)⟩
        · cases h
  have Hh := Lib.hid h
  rw [h] at HC
  have hmk := fun W => make_words W n z1
  obtain ⟨A, cv, vs, rfl, j1, hm, hr, hi⟩ := hv
  have Hr := Lib.hid hr
  have Hi := Lib.hid hi
  have Hin := Lib.hid z3
  clear j1 hr hi h z3 hm
  go_enter Tryz.func14, Tryz.ntmps14
  go_wp2_with fail
  refine (HC.out _ ((Below.refl _ w).alloc (Nat.le_refl _) _)).mono ?_
  rintro e w1 ⟨rfl, hb⟩
  have S1 : Blk w1 w.heap.size 24 #[.int .i64 n, .slice A rows.length cv] := (Blk.new w _ _).below hb (by simp)
  have HB := Lib.hid (((Below.refl _ w).alloc (Nat.le_refl _) _).trans (hb.mono (by simp)))
  obtain ⟨W2, hW2⟩ : ∃ W2, W2 = w1.alloc (.cells (madeCells #[.int .u64 0] n) 80) := ⟨_, rfl⟩
  have HB2 := Lib.hid (show Below w.heap.size w W2 by rw [hW2]; exact HB.out.alloc HB.out.size _)
  have HM2 := Lib.hid (show CelAt W2 80 w1.heap.size n (fun c => .int .u64 (Rk.maskTo rows 0 c : Int)) by rw [hW2]; exact CelAt.made w1 _ _ n)
  have S2 : Blk W2 w.heap.size 24 #[.int .i64 n, .slice A rows.length cv] := by rw [hW2]; exact S1.alloc _
  have HS2 := Lib.hid S2
  have HW2 := Lib.hid hW2
  have ltw : w.heap.size < w1.heap.size := S1.lt
  have s0 := S1.cell 0
  have s1 := S1.cell 1
  have t0 := S2.cell 0
  have t1 := S2.cell 1
  simp only [List.getElem?_toArray, List.getElem?_cons_zero, List.getElem?_cons_succ] at s0 s1 t0 t1
  clear hb HC S1 S2 hW2
  go_wp2
  rw [← HW2.out]
  go_loopg [27] rows.length (fun g i wr => ∃ k : Nat, k ≤ rows.length ∧ g = rows.length - k ∧ i = .int .i64 k ∧ Hid (CelAt wr 80 w1.heap.size n (fun c => .int .u64 (Rk.maskTo rows k c : Int))) ∧ Hid (W2.grownBy wr (some w1.heap.size)))
  case atStart => exact ⟨0, Nat.zero_le _, rfl, rfl, HM2.out, ⟨rfl, rfl, rfl, Nat.le_refl _, fun _ _ _ => rfl⟩⟩
  case round =>
    obtain ⟨k, hk, hg, rfl, hM, hG⟩ := hrel
    have Hg := Lib.hid hg
    clear hg
    by_cases hlt : k < rows.length
    · obtain ⟨ad, u, rfl, hadb, hc0, hc1, hu⟩ := rows_at Hr.out Hi.out hlt
      obtain ⟨Au, cu, eu⟩ : ∃ Au cu, u = .slice Au (Rk.rowAt rows k).1.length cu := by
        obtain ⟨A1, c1, e, _⟩ := hu
        exact ⟨A1, c1, e⟩
      subst eu
      have hsame : ∀ p : Addr, p.block < w.heap.size → wr.cell? p = w.cell? p := fun p hp =>
        (World.cell?_of_block (hG.out.block _ (by have := HB2.out.size; omega) (fun e => by simp at e; omega))).trans (HB2.out.cell hp)
      have hc0' := (hsame (ad.add (k * 2)) (by rw [block_of_add]; omega)).trans hc0
      have hc1' : wr.cell? ⟨(ad.add (k * 2)).block, (ad.add (k * 2)).off + 1, none⟩ = some (.bool (Rk.rowAt rows k).2) := by
        have h := (hsame (ad.add (k * 2 + 1)) (by rw [block_of_add]; omega)).trans hc1
        rw [← add_of_add] at h
        exact h
      have Hu := Lib.hid hu
      have Hik := Lib.hid (Hin.out k hlt)
      have hhl : (Rk.rowAt rows k).1.length ≤ 256 := by have := Hik.out.length_le; omega
      have Hrow := Lib.hid (show Rk.midMask rows k (Rk.rowAt rows k).1 = Rk.maskTo rows (k + 1) from Rk.midMask_row rows k)
      clear hsame hc0 hc1 hu
      generalize Rk.rowAt rows k = row at *
      obtain ⟨hits, fl⟩ := row
      simp only at Hu Hik hhl Hrow hc0' hc1'
      obtain ⟨wo, rfl⟩ : ∃ wo : World, wo = wr := ⟨_, rfl⟩
      obtain ⟨W3, hW3⟩ : ∃ W3, W3 = wo.alloc (.cells #[.slice Au hits.length cu, .bool fl] 59) := ⟨_, rfl⟩
      have HM3 := Lib.hid (show CelAt W3 80 w1.heap.size n (fun c => .int .u64 (Rk.midMask rows k (hits.take 0) c : Int)) by rw [hW3, List.take_zero, Rk.midMask_nil]; exact hM.out.alloc _)
      have HG3 := Lib.hid (show W2.grownBy W3 (some w1.heap.size) by rw [hW3]; exact hG.out.trans ((World.grownBy_alloc _ _ none).but _))
      have Bx := Lib.hid (show Blk W3 wo.heap.size 59 #[.slice Au hits.length cu, .bool fl] by rw [hW3]; exact Blk.new _ _ _)
      have HW3 := Lib.hid hW3
      have ltg : w1.heap.size < wo.heap.size := hM.out.lt
      have lts : W3.heap.size = wo.heap.size + 1 := by rw [hW3]; simp
      have b0 := Bx.out.cell 0
      have b1 := Bx.out.cell 1
      simp only [List.getElem?_toArray, List.getElem?_cons_zero, List.getElem?_cons_succ] at b0 b1
      clear hM hG hW3
      go_wp2
      rw [← HW3.out]
      go_loopg [35] hits.length (fun g i wr => ∃ j : Nat, j ≤ hits.length ∧ g = hits.length - j ∧ i = .int .i64 j ∧ Hid (CelAt wr 80 w1.heap.size n (fun c => .int .u64 (Rk.midMask rows k (hits.take j) c : Int))) ∧ Hid (W3.grownBy wr (some w1.heap.size)))
      case atStart => exact ⟨0, Nat.zero_le _, rfl, rfl, HM3.out, ⟨rfl, rfl, rfl, Nat.le_refl _, fun _ _ _ => rfl⟩⟩
      case round =>
        obtain ⟨j, hj, hgj, rfl, hMj, hGj⟩ := hrel
        have Hgj := Lib.hid hgj
        clear hgj
        by_cases hltj : j < hits.length
        · have hG2 := HG3.out.trans hGj.out
          obtain ⟨Ax, cx, ex, _, _, hrx⟩ := Hu.out
          have eA : Au = Ax := by injection ex
          subst eA
          obtain ⟨adn, en, hadnb, hcn⟩ := ints_at hrx hltj
          subst en
          have hcn' := ((World.cell?_of_block (hG2.block (adn.add j).block (by rw [block_of_add]; have := HB2.out.size; omega) (fun e => by simp [block_of_add] at e; omega))).trans (HB2.out.cell (by rw [block_of_add]; omega))).trans hcn
          obtain ⟨hx0, hx1⟩ := Hik.out.mem (Rk.getD_mem hltj)
          have htj : hits.take (j + 1) = hits.take j ++ [hits.getD j 0] := by
            rw [List.take_succ_eq_append_getElem hltj, List.getD_eq_getElem?_getD, List.getElem?_eq_getElem hltj]; rfl
          obtain ⟨x, hx⟩ : ∃ x : Nat, hits.getD j 0 = x := ⟨(hits.getD j 0).toNat, by omega⟩
          rw [hx] at hcn' htj hx1
          have hxn : x < n := by omega
          have c_t := hMj.out.cell hxn
          have f_t := hMj.out.frozen x
          have hlt64 := Rk.midMask_lt rows k (hits.take j) x
          have hle64 : (2 : Nat) ^ (k + 1) ≤ 2 ^ 64 := Nat.pow_le_pow_right (by decide) (by omega)
          have hk64 : k < 64 := by omega
          have hpk : (2 : Nat) ^ k < 18446744073709551616 := Nat.lt_of_lt_of_le (Nat.pow_lt_pow_right (by decide) hk64) (by decide)
          have He := Lib.hid (show bits .or .u64 (Rk.midMask rows k (hits.take j) x : Int) (IntKind.u64.wrap (2 ^ k)) = ((Rk.midMask rows k (hits.take j) x ||| 2 ^ k : Nat) : Int) by
            rw [shl_u64 hk64, or_u64 (by omega) hpk])
          have HT2 := Lib.hid (show CelAt (wr.setCell ⟨w1.heap.size, x, none⟩ (.int .u64 ((Rk.midMask rows k (hits.take j) x ||| 2 ^ k : Nat) : Int))) 80 w1.heap.size n (fun c => .int .u64 (Rk.midMask rows k (hits.take (j + 1)) c : Int)) from
            (hMj.out.set_ x _).congr (fun c _ => by
              rw [htj, Rk.midMask_snoc]
              by_cases e : c = x
              · subst e; simp
              · simp [e]))
          have Hgr := Lib.hid (hGj.out.trans (grown_setCell wr ⟨w1.heap.size, x, none⟩ (.int .u64 ((Rk.midMask rows k (hits.take j) x ||| 2 ^ k : Nat) : Int))))
          have ltx : w1.heap.size < wr.heap.size := hMj.out.lt
          clear hG2 hrx ex hcn htj hx hMj hGj hle64 hpk hlt64
          generalize Rk.midMask rows k (hits.take j) x = q at *
          go_wp2
          rw [He.out]
          go_roundg (hits.length - (j + 1))
          case rel => exact ⟨j + 1, by omega, rfl, by go_num, HT2.out, Hgr.out⟩
          case measure => rw [Hgj.out]; omega
        · obtain rfl : j = hits.length := by omega
          have HT3 := Lib.hid (show CelAt wr 80 w1.heap.size n (fun c => .int .u64 (Rk.maskTo rows (k + 1) c : Int)) by rw [← Hrow.out]; have := hMj.out; rwa [List.take_length] at this)
          have HG4 := Lib.hid (HG3.out.trans hGj.out)
          clear hMj hGj
          go_wp2
          go_roundg (rows.length - (k + 1))
          case rel => exact ⟨k + 1, by omega, rfl, by go_num, HT3.out, HG4.out⟩
          case measure => rw [Hg.out]; omega
    · obtain rfl : k = rows.length := by omega
      obtain ⟨w3, rfl⟩ : ∃ w3 : World, w3 = wr := ⟨_, rfl⟩
      have HB3 := Lib.hid (show Below w.heap.size w w3 from HB2.out.grown hG.out HB2.out.size (fun g e => by simp at e; omega))
      have HM3 := Lib.hid (show CelAt w3 80 w1.heap.size n (fun c => .int .u64 (Rk.mask rows c : Int)) from hM.out)
      have lt3 : w1.heap.size < w3.heap.size := hM.out.lt
      have hmm := @run_makeMap Tryz.prog
      have Hnd := Lib.hid (Rk.heads_nodup rows)
      clear hM hG
      obtain ⟨W4, hW4⟩ : ∃ W4, W4 = w3.alloc (.map #[] 0) := ⟨_, rfl⟩
      have H4 := Lib.hid (show AlkR w n (fun c => .int .u64 (Rk.mask rows c : Int)) (w3.heap.size + 1) w3.heap.size w1.heap.size (Rk.alike rows 0) (Rk.heads rows 0) (.slice none 0 0) W4 by
        rw [hW4]
        exact ⟨OwnApart.nil _ _, MapAt.made w3 _ _, HM3.out.alloc _, HB3.out.alloc HB3.out.size _⟩)
      have hs4 : W4.heap.size = w3.heap.size + 1 := by rw [hW4]; simp
      have HW4 := Lib.hid hW4
      clear hW4 hmk
      go_wp2
      rw [← HW4.out]
      go_loopg [11, 53] n (fun g v i wr => ∃ c : Nat, c ≤ n ∧ g = n - c ∧ i = .int .i64 c ∧ Hid (AlkR w n (fun c => .int .u64 (Rk.mask rows c : Int)) (w3.heap.size + 1) w3.heap.size w1.heap.size (Rk.alike rows c) (Rk.heads rows c) v wr) ∧ W4.heap.size ≤ wr.heap.size)
      case atStart => exact ⟨0, Nat.zero_le _, rfl, rfl, H4.out, Nat.le_refl _⟩
      case round =>
        obtain ⟨c, hc, hg, rfl, H, hsz⟩ := hrel
        have Hg := Lib.hid hg
        clear hg
        by_cases hlt : c < n
        · have c_m := H.out.msk.cell hlt
          have hx : Rk.mask rows c < 18446744073709551616 := Nat.lt_of_lt_of_le (Rk.maskTo_lt rows c rows.length) (Nat.le_trans (Nat.pow_le_pow_right (by decide) z2) (by decide))
          obtain ⟨kl, hkl⟩ := keyU_of _ hx
          obtain ⟨a1, a2, a3⟩ := Rk.alike_ok rows c
          have ltm := H.out.map.lt
          have ltt := H.out.msk.lt
          by_cases hin : Rk.mask rows c ∈ Rk.heads rows c
          · obtain ⟨j, hj0, e⟩ := List.mem_iff_getElem.1 hin
            have hj : j < (Rk.alike rows c).length := by rw [← Rk.heads_length]; exact hj0
            have hjx : (Rk.heads rows c)[j]? = some (Rk.mask rows c) := by rw [List.getElem?_eq_getElem hj0, e]
            obtain ⟨q1, q2⟩ := Rk.alike_hit (Hnd.out c) hj hjx
            obtain ⟨m1, m2⟩ := entries_hit (Hnd.out c) hjx
            have hrun := MapAt.hit (t := 82) (e := 3) H.out.map keyULaw Tryz.underlying82 hkl m1 m2 true
            simp only [if_true] at hrun
            obtain ⟨us, hr, hi, hd⟩ := H.out.sets
            obtain ⟨g, cap, ev, hgb, hgl⟩ := hr.form (by omega)
            subst ev
            obtain ⟨u, hu, huo⟩ := hi j hj
            obtain ⟨Au, cu, eu, _, _, _⟩ := own_form huo
            subst eu
            have c_u := own_cell hr hu
            have f_u := own_frozen hr j
            have hL := (a3 _ (by rw [List.getD_eq_getElem?_getD, List.getElem?_eq_getElem hj]; exact List.getElem_mem hj : (Rk.alike rows c).getD j [] ∈ Rk.alike rows c)).2.1
            obtain ⟨i0, hi0, hz0, hz1, hz2⟩ := info_parts info_int
            have Hus := Lib.hid (And.intro hr (And.intro hi hd))
            have Huo := Lib.hid huo
            have Hq := Lib.hid (And.intro q1 q2)
            have Hu := Lib.hid hu
            obtain ⟨W5, hW5⟩ : ∃ W5, W5 = wr.alloc (.cells #[.int .i64 c] 3) := ⟨_, rfl⟩
            have HW5 := Lib.hid hW5
            have Hg5 := Lib.hid (show wr.grownBy W5 none by rw [hW5]; exact World.grownBy_alloc _ _ none)
            have hs5 : W5.heap.size = wr.heap.size + 1 := by rw [hW5]; simp
            have c5 : W5.cell? ⟨wr.heap.size, 0, none⟩ = some (.int .i64 c) := by rw [hW5]; exact cellNew _ _ _
            have hjn : (j : Int) < ((Rk.alike rows c).length : Int) := by omega
            clear hr hi hd huo a1 a3 hin e hjx q1 q2 m1 m2 hkl hu hW5
            obtain ⟨xs, hxs⟩ : ∃ xs, (Rk.alike rows c).getD j [] = xs := ⟨_, rfl⟩
            rw [hxs] at Huo hL c_u Hu
            have Hxs := Lib.hid hxs
            clear hxs
            go_wp2_with (at_builtin; go_must (rw [← HW5.out]; refine wpList_append_any _ rfl _ _ 26 rfl (w3.heap.size + 1) 3 i0 _ 1 8 Tryz.underlying26 hi0 hz0 hz1 hz2 rfl (by decide) _ xs.length _ rfl (own_kept Huo.out Hg5.out (fun g e => by cases e)) (wr.heap.size + 1) _ 1 _ [.int .i64 c] rfl (read1 (by omega) c5) ?d2 ?d3 ?d4 ?d5 ?_))
            case d2 => intro u hu; simp at hu; subst hu; rfl
            case d3 => unfold maxLen; omega
            case d4 => omega
            case d5 => omega
            intro v2 w2 hown2 hg2 hat2
            obtain ⟨⟨k1, k2, k3⟩, HS⟩ := alk_step (x := (c : Int)) H.out.map H.out.msk H.out.low Hus.out.1 Hus.out.2.1 Hus.out.2.2 hj Hu.out Hg5.out (by rw [Hxs.out]; exact hown2) hg2 (by rw [hs5]; exact hat2) (by omega) (by omega) (by have := HB3.out.size; omega)
            obtain ⟨A2, c2, ev2, _, _, _⟩ := own_form hown2
            subst ev2
            have HS := Lib.hid HS
            have hsz2 : W4.heap.size ≤ (w2.setCell ⟨g, j, none⟩ (.slice A2 (xs.length + 1) c2)).heap.size := by have := hg2.size; simp; omega
            clear hown2 hg2 hat2
            go_wp2
            go_roundg (n - (c + 1))
            case rel => exact ⟨c + 1, by omega, rfl, by go_num, by rw [Hq.out.1, Hq.out.2]; exact HS.out, hsz2⟩
            case measure => rw [Hg.out]; omega
          · obtain ⟨q1, q2⟩ := Rk.alike_miss hin
            have hmiss := entries_miss hin
            have hrun := MapAt.miss (t := 82) (e := 3) H.out.map keyULaw Tryz.underlying82 (Tryz.zeroValue3 wr) hkl hmiss true
            simp only [if_true] at hrun
            obtain ⟨us, hr, hi, hd⟩ := H.out.sets
            obtain ⟨A9, c9, ev, _, _, _⟩ := own_form hr
            subst ev
            obtain ⟨w5, hst, hM5, hG5⟩ := MapAt.store (t := 82) (e := 3) (v := .int .i64 (Rk.alike rows c).length) H.out.map keyULaw Tryz.underlying82 hkl hmiss
            rw [← Rk.heads_length, entries_snoc] at hM5
            obtain ⟨W6, hW6⟩ : ∃ W6, W6 = w5.alloc (.cells #[.slice none 0 0] 26) := ⟨_, rfl⟩
            have hg6 : wr.grownBy W6 (some w3.heap.size) := by rw [hW6]; exact hG5.trans ((World.grownBy_alloc _ _ none).but _)
            have hs6 : W6.heap.size = w5.heap.size + 1 := by rw [hW6]; simp
            have c6 : W6.cell? ⟨w5.heap.size, 0, none⟩ = some (.slice none 0 0) := by rw [hW6]; exact cellNew _ _ _
            obtain ⟨us6, hr6, hi6, hd6⟩ := (show OwnApart wr (w3.heap.size + 1) _ (Rk.alike rows c) from ⟨us, hr, hi, hd⟩).kept hg6 (fun g e => by injection e with e; omega)
            have HM6 := Lib.hid (hM5.same (w' := W6) (by rw [hW6]; exact Below.heap_alloc _ _ _ hM5.lt))
            have HC6 := Lib.hid (H.out.msk.grown hg6 (fun e => by injection e with e; omega))
            have HL6 := Lib.hid (H.out.low.grown hg6 H.out.low.size (fun g e => by injection e with e; subst e; exact HB3.out.size))
            have hsz6 := hg6.size
            obtain ⟨j0, hj0, yz0, yz1, yz2⟩ := info_parts info_ints
            have Hus6 := Lib.hid (And.intro hr6 (And.intro hi6 hd6))
            have Hq := Lib.hid (And.intro q1 q2)
            have HW6 := Lib.hid hW6
            clear hr hi hd hr6 hi6 hd6 q1 q2 a1 a3 hmiss hin hM5 hG5 hg6 hW6 hkl
            have hLn := a2
            obtain ⟨L, hL⟩ : ∃ L, Rk.alike rows c = L := ⟨_, rfl⟩
            obtain ⟨ks, hks⟩ : ∃ ks, Rk.heads rows c = ks := ⟨_, rfl⟩
            rw [hL, hks] at Hq
            rw [hks] at HM6
            rw [hL] at Hus6 hst hLn ⊢
            have HLe := Lib.hid hL
            clear hL hks a2
            go_wp2_with (at_builtin; go_must (rw [← HW6.out]; refine wpList_append_any _ rfl _ _ 40 rfl (w3.heap.size + 1) 26 j0 _ 1 24 Tryz.underlying40 hj0 yz0 yz1 yz2 rfl (by decide) _ L.length us6 rfl Hus6.out.1 (w5.heap.size + 1) _ 1 _ [.slice none 0 0] rfl (read1 (by omega) c6) ?e2 ?e3 ?e4 ?e5 ?_))
            case e2 => intro u hu; simp at hu; subst hu; rfl
            case e3 => unfold maxLen; omega
            case e4 => omega
            case e5 => omega
            intro v7 w7 hown7 hg7 hat7
            have hg7' : W6.grownBy w7 (Value.slice A9 L.length c9).ownBlock := hg7
            have hb7 := fun k e => (own_row_lt Hus6.out.1 k e).1
            obtain ⟨us7, hr7, hi7, hd7⟩ := OwnApart.snoc_nil Hus6.out.1 Hus6.out.2.1 Hus6.out.2.2 hown7 hg7'
            have hl7 : (L ++ [[]]).length = L.length + 1 := by simp
            obtain ⟨g, cap, ev, hgb, hgl⟩ := hr7.form (by omega)
            subst ev
            have HM7 := Lib.hid (HM6.out.same (hg7'.block _ HM6.out.lt (fun e => by have := hb7 _ e.symm; omega)))
            have HC7 := Lib.hid (HC6.out.grown hg7' (fun e => by have := hb7 _ e.symm; omega))
            have HL7 := Lib.hid (HL6.out.grown hg7' HL6.out.size (fun k e => by have := hb7 _ e; have := HB3.out.size; omega))
            have hsz7 := hg7'.size
            have hj : L.length < (L ++ [[]]).length := by omega
            obtain ⟨u, hu, huo⟩ := hi7 L.length hj
            have hnil : (L ++ [[]]).getD L.length [] = [] := by simp
            rw [hnil] at huo
            obtain ⟨Au, cu, eu, _, _, _⟩ := own_form huo
            have eu : u = .slice Au 0 cu := eu
            subst eu
            have c_u := own_cell hr7 hu
            have f_u := own_frozen hr7 L.length
            rw [hl7] at hr7
            rw [hl7]
            obtain ⟨i0, hi0, hz0, hz1, hz2⟩ := info_parts info_int
            have Hus7 := Lib.hid (And.intro hr7 (And.intro hi7 hd7))
            have Huo := Lib.hid huo
            have Hu := Lib.hid hu
            have Hnil := Lib.hid hnil
            have Hl7 := Lib.hid hl7
            obtain ⟨W8, hW8⟩ : ∃ W8, W8 = w7.alloc (.cells #[.int .i64 c] 3) := ⟨_, rfl⟩
            have HW8 := Lib.hid hW8
            have Hg8 := Lib.hid (show w7.grownBy W8 none by rw [hW8]; exact World.grownBy_alloc _ _ none)
            have hs8 : W8.heap.size = w7.heap.size + 1 := by rw [hW8]; simp
            have c8 : W8.cell? ⟨w7.heap.size, 0, none⟩ = some (.int .i64 c) := by rw [hW8]; exact cellNew _ _ _
            have hjn : (L.length : Int) < ((L.length + 1 : Nat) : Int) := by omega
            clear hr7 hi7 hd7 huo hu hnil hl7 hj hown7 hg7 hg7' hb7 hat7 hW8 hrun hst
            go_wp2_with (at_builtin; go_must (rw [← HW8.out]; refine wpList_append_any _ rfl _ _ 26 rfl (w3.heap.size + 1) 3 i0 _ 1 8 Tryz.underlying26 hi0 hz0 hz1 hz2 rfl (by decide) _ ([] : List Int).length _ rfl (own_kept Huo.out Hg8.out (fun g e => by cases e)) (w7.heap.size + 1) _ 1 _ [.int .i64 c] rfl (read1 (by omega) c8) ?d2 ?d3 ?d4 ?d5 ?_))
            case d2 => intro u hu; simp at hu; subst hu; rfl
            case d3 => unfold maxLen; simp
            case d4 => simp
            case d5 => omega
            intro v2 w2 hown2 hg2 hat2
            obtain ⟨⟨k1, k2, k3⟩, HS⟩ := alk_step (x := (c : Int)) HM7.out HC7.out HL7.out (by rw [Hl7.out]; exact Hus7.out.1) Hus7.out.2.1 Hus7.out.2.2 (by rw [Hl7.out]; omega) Hu.out Hg8.out (by rw [Hnil.out]; exact hown2) hg2 (by rw [hs8]; exact hat2) (by omega) (by omega) (by have := HB3.out.size; omega)
            rw [Hl7.out, Hnil.out] at HS
            obtain ⟨A2, c2, ev2, _, _, _⟩ := own_form hown2
            subst ev2
            have HS := Lib.hid HS
            have Hset := Lib.hid (show L ++ [[(c : Int)]] = (L ++ [[]]).set L.length ([] ++ [(c : Int)]) by rw [List.set_append_right _ _ (Nat.le_refl _), Nat.sub_self]; rfl)
            have hsz2 : W4.heap.size ≤ (w2.setCell ⟨g, L.length, none⟩ (.slice A2 (([] : List Int).length + 1) c2)).heap.size := by have := hg2.size; simp; omega
            clear hown2 hg2 hat2
            go_wp2
            go_roundg (n - (c + 1))
            case rel => exact ⟨c + 1, by omega, rfl, by go_num, by rw [Hq.out.1, Hq.out.2, Hset.out]; exact HS.out, hsz2⟩
            case measure => rw [Hg.out]; omega
        · obtain rfl : c = n := by omega
          obtain ⟨a1, a2, a3⟩ := Rk.alike_ok rows c
          have HS := Lib.hid (H.out.sets.own.reads (by omega) (fun s hs => by have := (a3 s hs).2.1; omega))
          have Ha := Lib.hid (show alkOf c rows = Rk.alike rows c by unfold alkOf; rw [if_pos Hh.out, Int.toNat_natCast])
          have HL := Lib.hid H.out.low
          clear a1 a2 a3
          go_wp2
          go_ret2
          exact ⟨_, by rw [Hh.out]; rfl, by rw [Ha.out]; exact HS.out, HL.out⟩

set_option maxRecDepth 100000 in
theorem alike_any (parts : Int) (v : Value) (rows : List RowL) (B : Nat) (w : World) (hv : Rows w B v rows) (hB : B ≤ w.heap.size) :
    Calls Tryz.prog 14 #[.agg #[.int .i64 parts, v]] w (AlkPost parts rows w) := by
  by_cases h : specErr parts rows = 0
  · have h1 : 1 ≤ parts := by
      unfold specErr at h
      split at h
      · cases h
      · omega
    obtain ⟨n, rfl⟩ : ∃ n : Nat, parts = n := ⟨parts.toNat, by omega⟩
    exact alike_yes n v rows B w hv hB h
  · have HC := Lib.hid (fun W (hb : Below w.heap.size w W) => checkspectrum_any parts v rows B W (hv.below (hb.mono hB)) (by have := hb.size; omega))
    have hne : (specErr parts rows != 0) = true := by simpa using h
    have Ha := Lib.hid (show alkOf parts rows = [] by unfold alkOf; rw [if_neg h])
    obtain ⟨A, cv, vs, rfl, j1, j2, j3, j4⟩ := hv
    clear j1 j2 j3 j4 h hB
    unfold AlkPost
    rw [Ha.out]
    generalize specErr parts rows = err at *
    go_enter Tryz.func14, Tryz.ntmps14
    go_wp2_with fail
    refine (HC.out _ ((Below.refl _ w).alloc (Nat.le_refl _) _)).mono ?_
    rintro e w1 ⟨rfl, hb⟩
    have HB := Lib.hid (((Below.refl _ w).alloc (Nat.le_refl _) _).trans (hb.mono (by simp)))
    clear hb
    go_wp2
    go_ret2
    exact ⟨_, rfl, ⟨none, 0, [], rfl, Nat.le_refl _, Nat.zero_le _, Reads.none_, fun i hi => by simp at hi⟩, HB.out⟩
end Go.Proofs.YtfpmbjobieeidaaGreat
