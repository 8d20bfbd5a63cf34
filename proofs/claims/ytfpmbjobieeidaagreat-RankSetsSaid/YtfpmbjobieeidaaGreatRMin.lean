/-
  The walk of the reference's Minimal.
-/
import Derived.Test.YtfpmbjobieeidaaGreatExam
import Derived.Test.YtfpmbjobieeidaaGreatRSets
import Derived.Test.YtfpmbjobieeidaaGreatPlainJ
import Derived.Deep.RegionHeld3
import Derived.BigQuiet
import Derived.Test.YtfpmbjobieeidaaGreatOpen
namespace Go.Proofs.YtfpmbjobieeidaaGreat
open Go.RowKit

theorem reads_takeM {w : World} {B n k : Nat} {A : Option Addr} {xs : List Value} (h : Reads w B 1 A n xs) (hk : k ≤ n) : Reads w B 1 A k (xs.take k) :=
  ⟨by have := h.1; simp; omega, fun h0 => by
    obtain ⟨ad, e, hb, hc⟩ := h.2 (by omega)
    exact ⟨ad, e, hb, fun j u hj => hc j u (by
      have hjk : j < k := by
        rcases Nat.lt_or_ge j k with h | h
        · exact h
        · rw [List.getElem?_eq_none (by simp; omega)] at hj; cases hj
      rwa [List.getElem?_take_of_lt hjk] at hj)⟩⟩

theorem drop1_len {l : List Int} {k N : Nat} (h : l.length ≤ N) : (Rk.drop1 l k).length ≤ N := by unfold Rk.drop1; simp; omega
theorem own_drop1 {w : World} {base : Nat} {v : Value} {l : List Int} {k m : Nat} (hk : k < l.length) (hm : m = l.length - (k + 1)) (h : w.ownsRow base 3 1 v (0 + k + m) (#[].toList ++ (l.map (Value.int .i64)).take k ++ (l.map (Value.int .i64)).drop (k + 1))) : OwnInts w base v (Rk.drop1 l k) := by
  subst hm
  have e1 : (Rk.drop1 l k).length = 0 + k + (l.length - (k + 1)) := by unfold Rk.drop1; simp; omega
  have e2 : (Rk.drop1 l k).map (Value.int .i64) = #[].toList ++ (l.map (Value.int .i64)).take k ++ (l.map (Value.int .i64)).drop (k + 1) := by unfold Rk.drop1; simp [List.map_take, List.map_drop]
  unfold OwnInts
  rw [e1, e2]
  exact h

set_option maxRecDepth 20000 in
set_option maxHeartbeats 2000000 in
theorem rminimal_any (u v : Value) (set : List Int) (xss : List (List Int)) (B : Nat) (w : World) (hu : Ints w B u set) (hv : Sets w B v xss) (hB : B ≤ w.heap.size) (hsmall : set.length ≤ 256) :
    Calls Tryz.prog 66 #[u, v] w fun e w' => e = .returned (.bool (Rk.minB xss set)) ∧ Below w.heap.size w w' := by
  have HH := Lib.hid (rhits_any u v set xss B w hu hv)
  obtain ⟨h0, hh0⟩ : ∃ h0, h0 = Rk.hits set xss := ⟨_, rfl⟩
  rw [← hh0] at HH
  obtain ⟨mb, hmb⟩ : ∃ mb, mb = Rk.minB xss set := ⟨_, rfl⟩
  rw [← hmb]
  have Hmb := Lib.hid hmb
  have Hh0 := Lib.hid hh0
  clear hmb hh0
  obtain ⟨A, c, rfl, hn, hm, hr⟩ := hu
  obtain ⟨A2, c2, vs2, rfl, hn2, hm2, hr2, hi2⟩ := hv
  have Hv := Lib.hid (show Sets w B (.slice A2 xss.length c2) xss from ⟨A2, c2, vs2, rfl, hn2, hm2, hr2, hi2⟩)
  have Hone := Lib.hid (show ∀ u ∈ set.map (Value.int .i64), u.oneCell' = true from fun u hu => by obtain ⟨x, _, rfl⟩ := List.mem_map.1 hu; rfl)
  clear hr2 hi2 hn2
  go_enter Tryz.func66, Tryz.ntmps66
  go_wp2_with fail
  refine HH.out.mono ?_
  rintro e w0 ⟨rfl, rfl⟩
  clear HH
  cases h0
  · have He := Lib.hid (show mb = false by
      rw [Hmb.out]
      unfold Rk.minB
      rw [← Hh0.out]
      rfl)
    clear hr
    go_wp2
    go_ret
    exact ⟨ret_bool He.out.symm, Below.refl _ _⟩
  go_wp2
  go_loopg [5] set.length (fun g i wr => ∃ k : Nat, k ≤ set.length ∧ g = set.length - k ∧ i = .int .i64 k ∧ Hid (Below w.heap.size w wr) ∧ Hid (∀ i, i < k → Rk.hits (Rk.drop1 set i) xss = false))
  case atStart => exact ⟨0, Nat.zero_le _, rfl, rfl, Below.refl _ _, fun i h => absurd h (by omega)⟩
  case round =>
    obtain ⟨k, hk, hg, rfl, hbw, hno⟩ := hrel
    have Hg := Lib.hid hg
    clear hg
    by_cases hlt : k < set.length
    · obtain ⟨hb, hhb⟩ : ∃ hb, hb = Rk.hits (Rk.drop1 set k) xss := ⟨_, rfl⟩
      have Hhb := Lib.hid hhb
      clear hhb
      obtain ⟨ad, rfl, hadB, hck⟩ := ints_at hr hlt
      have hcw : wr.cell? (ad.add k) = some (.int .i64 (set.getD k 0)) := ((hbw.out.mono hB).cell (by rw [block_of_add]; exact hadB)).trans hck
      clear hck
      obtain ⟨wo, rfl⟩ : ∃ wo : World, wo = wr := ⟨_, rfl⟩
      obtain ⟨i0, hi0, hz0, hz1, hz2⟩ := info_parts info_int
      have hrk := Lib.hid (reads_takeM (hr.below (hbw.out.mono hB)) (Nat.le_of_lt hlt))
      have hrc := Lib.hid (show Reads wo B 1 (if c = k + 1 then some ad else some ⟨ad.block, ad.off + (k + 1), none⟩) (set.length - (k + 1)) ((set.map (Value.int .i64)).drop (k + 1)) from by simpa [Addr.add] using (hr.below (hbw.out.mono hB)).cut (k := k + 1) (cap := c) (by omega) hn)
      have hadw : (ad.add k).block < wo.heap.size := lt_of_cell hcw
      have hBw : B ≤ wo.heap.size := Nat.le_trans hB hbw.out.size
      have q1 : (0 : Int) ≤ (k : Int) := by omega
      have q2 : (k : Int) ≤ (set.length : Int) := by omega
      have q3 : (k : Int) ≤ (c : Int) := by omega
      have q4 : IntKind.i64.wrap ((k : Int) + 1) = (k : Int) + 1 := by rw [IntKind.wrap_i64]; omega
      have q5 : (0 : Int) ≤ (k : Int) + 1 := by omega
      have q6 : (k : Int) + 1 ≤ (set.length : Int) := by omega
      have q7 : (set.length : Int) ≤ (c : Int) := by omega
      have q8 : (k : Int) + 1 ≤ (c : Int) := by omega
      clear hr
      rcases Classical.em (c = k + 1) with rfl | hne
      · have h := hrc.out
        rw [if_pos rfl, show set.length - (k + 1) = 0 by omega] at h
        have r1 : (k : Int) ≤ (k : Int) + 1 := by omega
        have r2 : (set.length : Int) ≤ (k : Int) + 1 := by omega
        have r3 : (k : Int) + 1 ≤ (k : Int) + 1 := by omega
        have r4 : (0 : Int) ≤ ((k + 1 : Nat) : Int) := by omega
        have r5 : ((k + 1 : Nat) : Int) = (k : Int) + 1 := by omega
        have hrd := Lib.hid h
        clear h hrc
        go_wp2
        go_region_held3 (fun w' => w'.cell? (ad.add k) = some (.int .i64 (set.getD k 0)))
          (first
            | exact keepB hB3 hadw hcw
            | exact keepB hB2 hadw hcw
            | exact keepB hB1 hadw hcw
            | go_keep)
          (first
            | (refine step_append_any _ rfl _ _ 26 (by rfl) wo.heap.size 3 i0 _ 1 8 Tryz.underlying26 hi0 hz0 hz1 hz2 rfl (by decide) (.slice (some ⟨wo.heap.size, 0, none⟩) 0 0) 0 _ (by rfl) (World.ownsRow_made wo #[] 0 (Nat.le_refl _) (Nat.zero_le _) rfl) B _ k _ _ (by rfl) (hrk.out.alloc hBw _).drew (by intro u hu; exact Hone.out u (List.mem_of_mem_take hu)) (by unfold maxLen; omega) (by omega) (by simp) ?_
               intro v2 w4 hown2 hg2 hat2
               have hB1 : Below wo.heap.size wo w4 := ((Below.refl _ wo).alloc (Nat.le_refl _) _).drew.grown hg2 (by simp) (by intro k hk; simp [Value.ownBlock] at hk; omega)
               have hOwn2 := Lib.hid hown2
               clear hown2 hg2 hat2)
            | (refine step_append_any _ rfl _ _ 26 (by rfl) wo.heap.size 3 i0 _ 1 8 Tryz.underlying26 hi0 hz0 hz1 hz2 rfl (by decide) v2 (0 + k) _ (by rfl) hOwn2.out B _ 0 _ _ (by rfl) (hrd.out.below (hB1.mono hBw)) (by intro u hu; exact Hone.out u (List.mem_of_mem_drop hu)) (by unfold maxLen; omega) (by omega) hB1.size ?_
               intro v3 w5 hown3 hg3 hat3
               have hB2 : Below wo.heap.size wo w5 := hB1.grown hg3 hB1.size (fun k hk => own_row_ge hOwn2.out k hk)
               have hOwn3 := Lib.hid (own_drop1 hlt (by omega) hown3)
               clear hown3 hg3 hat3)
            | (go_at_call 70
               have H3 := rhits_any v3 _ (Rk.drop1 set k) xss w5.heap.size w5 (hOwn3.out.reads (drop1_len (by omega))) ((Hv.out.below ((hbw.out.mono hB).trans (hB2.mono hBw))).more (Nat.le_trans hBw hB2.size))
               rw [← Hhb.out] at H3
               refine H3.mono ?_
               clear H3
               intro e w6 hw6
               obtain ⟨he6, hw6⟩ := hw6
               subst he6
               have hB3 : Below wo.heap.size wo w6 := hw6 ▸ hB2
               clear hw6))
        cases hb
        · have Hn := Lib.hid (show ∀ i, i < k + 1 → Rk.hits (Rk.drop1 set i) xss = false from fun i h => by
            by_cases e : i = k
            · rw [e]; exact Hhb.out.symm
            · exact hno.out i (by omega))
          go_wp2
          go_roundg (set.length - (k + 1))
          case rel => exact ⟨k + 1, hlt, rfl, by go_num, hbw.out.trans (hB3.mono hbw.out.size), Hn⟩
          case measure => rw [Hg.out]; omega
        · have He := Lib.hid (show mb = false by
            rw [Hmb.out, Bool.eq_false_iff]
            intro h
            have := (Rk.minB_iff.1 h).2 k hlt
            rw [← Hhb.out] at this
            cases this)
          go_wp2
          go_ret
          exact ⟨ret_bool He.out.symm, hbw.out.trans (hB3.mono hbw.out.size)⟩
      · have h := hrc.out
        rw [if_neg hne] at h
        have hrd := Lib.hid h
        clear h hrc
        go_wp2
        go_region_held3 (fun w' => w'.cell? (ad.add k) = some (.int .i64 (set.getD k 0)))
          (first
            | exact keepB hB3 hadw hcw
            | exact keepB hB2 hadw hcw
            | exact keepB hB1 hadw hcw
            | go_keep)
          (first
            | (refine step_append_any _ rfl _ _ 26 (by rfl) wo.heap.size 3 i0 _ 1 8 Tryz.underlying26 hi0 hz0 hz1 hz2 rfl (by decide) (.slice (some ⟨wo.heap.size, 0, none⟩) 0 0) 0 _ (by rfl) (World.ownsRow_made wo #[] 0 (Nat.le_refl _) (Nat.zero_le _) rfl) B _ k _ _ (by rfl) (hrk.out.alloc hBw _).drew (by intro u hu; exact Hone.out u (List.mem_of_mem_take hu)) (by unfold maxLen; omega) (by omega) (by simp) ?_
               intro v2 w4 hown2 hg2 hat2
               have hB1 : Below wo.heap.size wo w4 := ((Below.refl _ wo).alloc (Nat.le_refl _) _).drew.grown hg2 (by simp) (by intro k hk; simp [Value.ownBlock] at hk; omega)
               have hOwn2 := Lib.hid hown2
               clear hown2 hg2 hat2)
            | (refine step_append_any _ rfl _ _ 26 (by rfl) wo.heap.size 3 i0 _ 1 8 Tryz.underlying26 hi0 hz0 hz1 hz2 rfl (by decide) v2 (0 + k) _ (by rfl) hOwn2.out B _ (set.length - (k + 1)) _ _ (by rfl) (hrd.out.below (hB1.mono hBw)) (by intro u hu; exact Hone.out u (List.mem_of_mem_drop hu)) (by unfold maxLen; omega) (by omega) hB1.size ?_
               intro v3 w5 hown3 hg3 hat3
               have hB2 : Below wo.heap.size wo w5 := hB1.grown hg3 hB1.size (fun k hk => own_row_ge hOwn2.out k hk)
               have hOwn3 := Lib.hid (own_drop1 hlt (by omega) hown3)
               clear hown3 hg3 hat3)
            | (go_at_call 70
               have H3 := rhits_any v3 _ (Rk.drop1 set k) xss w5.heap.size w5 (hOwn3.out.reads (drop1_len (by omega))) ((Hv.out.below ((hbw.out.mono hB).trans (hB2.mono hBw))).more (Nat.le_trans hBw hB2.size))
               rw [← Hhb.out] at H3
               refine H3.mono ?_
               clear H3
               intro e w6 hw6
               obtain ⟨he6, hw6⟩ := hw6
               subst he6
               have hB3 : Below wo.heap.size wo w6 := hw6 ▸ hB2
               clear hw6))
        cases hb
        · have Hn := Lib.hid (show ∀ i, i < k + 1 → Rk.hits (Rk.drop1 set i) xss = false from fun i h => by
            by_cases e : i = k
            · rw [e]; exact Hhb.out.symm
            · exact hno.out i (by omega))
          go_wp2
          go_roundg (set.length - (k + 1))
          case rel => exact ⟨k + 1, hlt, rfl, by go_num, hbw.out.trans (hB3.mono hbw.out.size), Hn⟩
          case measure => rw [Hg.out]; omega
        · have He := Lib.hid (show mb = false by
            rw [Hmb.out, Bool.eq_false_iff]
            intro h
            have := (Rk.minB_iff.1 h).2 k hlt
            rw [← Hhb.out] at this
            cases this)
          go_wp2
          go_ret
          exact ⟨ret_bool He.out.symm, hbw.out.trans (hB3.mono hbw.out.size)⟩
    · obtain rfl : k = set.length := by omega
      have He := Lib.hid (show mb = true by
        rw [Hmb.out]
        exact Rk.minB_iff.2 ⟨Hh0.out.symm, hno.out⟩)
      clear hr
      go_wp2
      go_ret
      exact ⟨ret_bool He.out.symm, hbw.out⟩
end Go.Proofs.YtfpmbjobieeidaaGreat
