/-
  RankMinimal: each set that Hit returns is a minimal hitting set, and a hitting set contains one of them. First the walk of the reference's Minimal.
-/
import Derived.Test.YtfpmbjobieeidaaExam
import Derived.Test.YtfpmbjobieeidaaRSets
import Derived.Test.YtfpmbjobieeidaaBw
import Derived.Test.YtfpmbjobieeidaaPlainK
import Derived.Test.YtfpmbjobieeidaaOpen
import Derived.BigQuiet
namespace Go.Proofs.Ytfpmbjobieeidaa
open Go.RowKit

theorem reads_take {w : World} {B n k : Nat} {A : Option Addr} {xs : List Value} (h : Reads w B 1 A n xs) (hk : k ≤ n) : Reads w B 1 A k (xs.take k) :=
  ⟨by have := h.1; simp; omega, fun h0 => by
    obtain ⟨ad, e, hb, hc⟩ := h.2 (by omega)
    exact ⟨ad, e, hb, fun j u hj => hc j u (by
      have hjk : j < k := by
        rcases Nat.lt_or_ge j k with h | h
        · exact h
        · rw [List.getElem?_eq_none (by simp; omega)] at hj; cases hj
      rwa [List.getElem?_take_of_lt hjk] at hj)⟩⟩

theorem drop1_len {l : List Int} {k N : Nat} (h : l.length ≤ N) : (Rk.drop1 l k).length ≤ N := by unfold Rk.drop1; simp; omega
theorem own_drop1 {w : World} {base : Nat} {v : Value} {l : List Int} {k m : Nat} (hk : k < l.length) (hm : m = l.length - (k + 1)) (h : w.ownsRow base 3 1 v (0 + k + m) (#[].toList ++ (l.map (Value.int .i64)).take k ++ (l.map (Value.int .i64)).drop (k + 1))) : OwnInts w base v (Rk.drop1 l k) := by
  subst hm
  have e1 : (Rk.drop1 l k).length = 0 + k + (l.length - (k + 1)) := by unfold Rk.drop1; simp; omega
  have e2 : (Rk.drop1 l k).map (Value.int .i64) = #[].toList ++ (l.map (Value.int .i64)).take k ++ (l.map (Value.int .i64)).drop (k + 1) := by unfold Rk.drop1; simp [List.map_take, List.map_drop]
  unfold OwnInts
  rw [e1, e2]
  exact h

set_option maxRecDepth 20000 in
set_option maxHeartbeats 2000000 in
theorem rminimal_any (u v : Value) (set : List Int) (xss : List (List Int)) (B : Nat) (w : World) (hu : Ints w B u set) (hv : Sets w B v xss) (hB : B ≤ w.heap.size) (hsmall : set.length ≤ 256)
    (hh : Rk.hits set xss = true) (hmin : ∀ i, i < set.length → Rk.hits (Rk.drop1 set i) xss = false) :
    Calls Try.prog 23 #[u, v] w fun e w' => e = .returned (.bool true) ∧ Below w.heap.size w w' := by
  have HH := Lib.hid (rhits_any u v set xss B w hu hv)
  rw [hh] at HH
  have HM := Lib.hid hmin
  obtain ⟨A, c, rfl, hn, hm, hr⟩ := hu
  obtain ⟨A2, c2, vs2, rfl, hn2, hm2, hr2, hi2⟩ := hv
  have Hv := Lib.hid (show Sets w B (.slice A2 xss.length c2) xss from ⟨A2, c2, vs2, rfl, hn2, hm2, hr2, hi2⟩)
  have Hone := Lib.hid (show ∀ u ∈ set.map (Value.int .i64), u.oneCell' = true from fun u hu => by obtain ⟨x, _, rfl⟩ := List.mem_map.1 hu; rfl)
  clear hmin hh hr2 hi2 hn2
  go_enter Try.func23, Try.ntmps23
  go_wp2_with fail
  refine HH.out.mono ?_
  rintro e w0 ⟨rfl, rfl⟩
  clear HH
  go_wp2
  go_loopg [5] set.length (fun g i wr => ∃ k : Nat, k ≤ set.length ∧ g = set.length - k ∧ i = .int .i64 k ∧ Hid (Below w.heap.size w wr))
  case atStart => exact ⟨0, Nat.zero_le _, rfl, rfl, Below.refl _ _⟩
  case round =>
    obtain ⟨k, hk, hg, rfl, hbw⟩ := hrel
    have Hg := Lib.hid hg
    clear hg
    by_cases hlt : k < set.length
    · obtain ⟨ad, rfl, hadB, hck⟩ := ints_at hr hlt
      have hcw : wr.cell? (ad.add k) = some (.int .i64 (set.getD k 0)) := ((hbw.out.mono hB).cell (by rw [block_of_add]; exact hadB)).trans hck
      clear hck
      obtain ⟨wo, rfl⟩ : ∃ wo : World, wo = wr := ⟨_, rfl⟩
      obtain ⟨i0, hi0, hz0, hz1, hz2⟩ := info_parts info_int
      have hrk := Lib.hid (reads_take (hr.below (hbw.out.mono hB)) (Nat.le_of_lt hlt))
      have hrc := Lib.hid (show Reads wo B 1 (if c = k + 1 then some ad else some ⟨ad.block, ad.off + (k + 1), none⟩) (set.length - (k + 1)) ((set.map (Value.int .i64)).drop (k + 1)) from by simpa [Addr.add] using (hr.below (hbw.out.mono hB)).cut (k := k + 1) (cap := c) (by omega) hn)
      have hadw : (ad.add k).block < wo.heap.size := lt_of_cell hcw
      have hBw : B ≤ wo.heap.size := Nat.le_trans hB hbw.out.size
      have q1 : (0 : Int) ≤ (k : Int) := by omega
      have q2 : (k : Int) ≤ (set.length : Int) := by omega
      have q3 : (k : Int) ≤ (c : Int) := by omega
      have q4 : IntKind.i64.wrap ((k : Int) + 1) = (k : Int) + 1 := by rw [IntKind.wrap_i64]; omega
      have q5 : (0 : Int) ≤ (k : Int) + 1 := by omega
      have q6 : (k : Int) + 1 ≤ (set.length : Int) := by omega
      have q7 : (set.length : Int) ≤ (c : Int) := by omega
      have q8 : (k : Int) + 1 ≤ (c : Int) := by omega
      clear hr
      rcases Classical.em (c = k + 1) with rfl | hne
      · have h := hrc.out
        rw [if_pos rfl, show set.length - (k + 1) = 0 by omega] at h
        have r1 : (k : Int) ≤ (k : Int) + 1 := by omega
        have r2 : (set.length : Int) ≤ (k : Int) + 1 := by omega
        have r3 : (k : Int) + 1 ≤ (k : Int) + 1 := by omega
        have r4 : (0 : Int) ≤ ((k + 1 : Nat) : Int) := by omega
        have r5 : ((k + 1 : Nat) : Int) = (k : Int) + 1 := by omega
        have hrd := Lib.hid h
        clear h hrc
        go_wp2
        go_region_held3 (fun w' => w'.cell? (ad.add k) = some (.int .i64 (set.getD k 0)))
          (first
            | exact keepB hB3 hadw hcw
            | exact keepB hB2 hadw hcw
            | exact keepB hB1 hadw hcw
            | go_keep)
          (first
            | (refine step_append_any _ rfl _ _ 37 (by rfl) wo.heap.size 3 i0 _ 1 8 Try.underlying37 hi0 hz0 hz1 hz2 rfl (by decide) (.slice (some ⟨wo.heap.size, 0, none⟩) 0 0) 0 _ (by rfl) (World.ownsRow_made wo #[] 0 (Nat.le_refl _) (Nat.zero_le _) rfl) B _ k _ _ (by rfl) (hrk.out.alloc hBw _).drew (by intro u hu; exact Hone.out u (List.mem_of_mem_take hu)) (by unfold maxLen; omega) (by omega) (by simp) ?_
               intro v2 w4 hown2 hg2 hat2
               have hB1 : Below wo.heap.size wo w4 := ((Below.refl _ wo).alloc (Nat.le_refl _) _).drew.grown hg2 (by simp) (by intro k hk; simp [Value.ownBlock] at hk; omega)
               have hOwn2 := Lib.hid hown2
               clear hown2 hg2 hat2)
            | (refine step_append_any _ rfl _ _ 37 (by rfl) wo.heap.size 3 i0 _ 1 8 Try.underlying37 hi0 hz0 hz1 hz2 rfl (by decide) v2 (0 + k) _ (by rfl) hOwn2.out B _ 0 _ _ (by rfl) (hrd.out.below (hB1.mono hBw)) (by intro u hu; exact Hone.out u (List.mem_of_mem_drop hu)) (by unfold maxLen; omega) (by omega) hB1.size ?_
               intro v3 w5 hown3 hg3 hat3
               have hB2 : Below wo.heap.size wo w5 := hB1.grown hg3 hB1.size (fun k hk => own_row_ge hOwn2.out k hk)
               have hOwn3 := Lib.hid (own_drop1 hlt (by omega) hown3)
               clear hown3 hg3 hat3)
            | (go_at_call 25
               have H3 := rhits_any v3 _ (Rk.drop1 set k) xss w5.heap.size w5 (hOwn3.out.reads (drop1_len (by omega))) ((Hv.out.below ((hbw.out.mono hB).trans (hB2.mono hBw))).more (Nat.le_trans hBw hB2.size))
               rw [HM.out k hlt] at H3
               refine H3.mono ?_
               clear H3
               intro e w6 hw6
               obtain ⟨he6, hw6⟩ := hw6
               subst he6
               have hB3 : Below wo.heap.size wo w6 := hw6 ▸ hB2
               clear hw6))
        go_wp2
        go_roundg (set.length - (k + 1))
        case rel => exact ⟨k + 1, hlt, rfl, by go_num, hbw.out.trans (hB3.mono hbw.out.size)⟩
        case measure => rw [Hg.out]; omega
      · have h := hrc.out
        rw [if_neg hne] at h
        have hrd := Lib.hid h
        clear h hrc
        go_wp2
        go_region_held3 (fun w' => w'.cell? (ad.add k) = some (.int .i64 (set.getD k 0)))
          (first
            | exact keepB hB3 hadw hcw
            | exact keepB hB2 hadw hcw
            | exact keepB hB1 hadw hcw
            | go_keep)
          (first
            | (refine step_append_any _ rfl _ _ 37 (by rfl) wo.heap.size 3 i0 _ 1 8 Try.underlying37 hi0 hz0 hz1 hz2 rfl (by decide) (.slice (some ⟨wo.heap.size, 0, none⟩) 0 0) 0 _ (by rfl) (World.ownsRow_made wo #[] 0 (Nat.le_refl _) (Nat.zero_le _) rfl) B _ k _ _ (by rfl) (hrk.out.alloc hBw _).drew (by intro u hu; exact Hone.out u (List.mem_of_mem_take hu)) (by unfold maxLen; omega) (by omega) (by simp) ?_
               intro v2 w4 hown2 hg2 hat2
               have hB1 : Below wo.heap.size wo w4 := ((Below.refl _ wo).alloc (Nat.le_refl _) _).drew.grown hg2 (by simp) (by intro k hk; simp [Value.ownBlock] at hk; omega)
               have hOwn2 := Lib.hid hown2
               clear hown2 hg2 hat2)
            | (refine step_append_any _ rfl _ _ 37 (by rfl) wo.heap.size 3 i0 _ 1 8 Try.underlying37 hi0 hz0 hz1 hz2 rfl (by decide) v2 (0 + k) _ (by rfl) hOwn2.out B _ (set.length - (k + 1)) _ _ (by rfl) (hrd.out.below (hB1.mono hBw)) (by intro u hu; exact Hone.out u (List.mem_of_mem_drop hu)) (by unfold maxLen; omega) (by omega) hB1.size ?_
               intro v3 w5 hown3 hg3 hat3
               have hB2 : Below wo.heap.size wo w5 := hB1.grown hg3 hB1.size (fun k hk => own_row_ge hOwn2.out k hk)
               have hOwn3 := Lib.hid (own_drop1 hlt (by omega) hown3)
               clear hown3 hg3 hat3)
            | (go_at_call 25
               have H3 := rhits_any v3 _ (Rk.drop1 set k) xss w5.heap.size w5 (hOwn3.out.reads (drop1_len (by omega))) ((Hv.out.below ((hbw.out.mono hB).trans (hB2.mono hBw))).more (Nat.le_trans hBw hB2.size))
               rw [HM.out k hlt] at H3
               refine H3.mono ?_
               clear H3
               intro e w6 hw6
               obtain ⟨he6, hw6⟩ := hw6
               subst he6
               have hB3 : Below wo.heap.size wo w6 := hw6 ▸ hB2
               clear hw6))
        go_wp2
        go_roundg (set.length - (k + 1))
        case rel => exact ⟨k + 1, hlt, rfl, by go_num, hbw.out.trans (hB3.mono hbw.out.size)⟩
        case measure => rw [Hg.out]; omega
    · clear hr
      go_wp2
      go_ret
      exact ⟨rfl, hbw.out⟩
theorem setsErr_ok2 {xss : List (List Int)} (herr : setsErr xss = 0) : xss.length ≤ 256 ∧ ∀ s ∈ xss, Rk.Incr 256 s := by
  have hmany : xss.length ≤ 256 := by
    unfold setsErr at herr
    split at herr
    · cases herr
    · omega
  refine ⟨hmany, ?_⟩
  unfold setsErr at herr
  rw [if_neg (by omega)] at herr
  split at herr
  · rename_i h
    intro s hs
    obtain ⟨i, hi, rfl⟩ := List.mem_iff_getElem.1 hs
    have := h i hi
    rw [List.getD_eq_getElem?_getD, List.getElem?_eq_getElem hi] at this
    exact of_decide_eq_true this
  · cases herr
set_option maxRecDepth 100000 in
set_option maxHeartbeats 2000000 in
theorem rankMinimal_any (v vo : Value) (xss : List (List Int)) (size : Int) (other : List Int) (B : Nat) (w : World) (hv : Sets w B v xss) (ho : Ints w B vo other) (hB : B ≤ w.heap.size) :
    Calls Try.prog 6 #[v, .int .i64 size, vo] w fun e w' => e = .returned (.bool true) ∧ Below w.heap.size w w' := by
  have HR := Lib.hid ranks_any
  obtain ⟨Ao, co, rfl, hon, hom, hor⟩ := ho
  obtain ⟨A, c, vs, rfl, hn, hm, hr, hi⟩ := hv
  have Ho := Lib.hid (show Ints w B (.slice Ao other.length co) other from ⟨Ao, co, rfl, hon, hom, hor⟩)
  have Hv := Lib.hid (show Sets w B (.slice A xss.length c) xss from ⟨A, c, vs, rfl, hn, hm, hr, hi⟩)
  clear hor hon hr hi hn
  have HB := Lib.hid (big_any _ xss size B w Hv.out)
  have HC := Lib.hid (rchecksets_any _ xss B w Hv.out)
  go_enter Try.func6, Try.ntmps6
  go_wp2_with fail
  refine HB.out.mono ?_
  rintro e w0 ⟨⟨b, rfl⟩, rfl⟩
  clear HB
  cases b
  · rcases (show size < 0 ∨ 0 ≤ size ∧ 3 < size ∨ 0 ≤ size ∧ size ≤ 3 by omega) with hs | ⟨hs0, hs⟩ | ⟨hs0, hs3⟩
    · go_wp2_with fail
      refine (HR.out _).mono ?_
      rintro e w1 ⟨rfl, hb⟩
      go_wp2
      go_ret
      exact ⟨rfl, hb⟩
    · go_wp2_with fail
      refine (HR.out _).mono ?_
      rintro e w1 ⟨rfl, hb⟩
      go_wp2
      go_ret
      exact ⟨rfl, hb⟩
    · by_cases he : setsErr xss = 0
      · rw [he] at HC
        go_wp2_with fail
        refine HC.out.mono ?_
        rintro e w1 ⟨rfl, q, rfl⟩
        obtain ⟨hmany, hincr⟩ := setsErr_ok2 he
        have Hincr := Lib.hid hincr
        have He := Lib.hid he
        clear hincr he HC
        have HH := Lib.hid (hit_any (.slice A xss.length c) xss size B (w.drewN q) (Hv.out.keep fun _ _ => rfl) hB)
        go_wp2_with fail
        refine HH.out.mono ?_
        rintro e w1 ⟨vl, er, l, rfl, hsl, hbl, her, hl⟩
        have HB1 := Lib.hid (show Below w.heap.size w w1 from (below_drewN (Below.refl _ _) q).trans hbl)
        obtain ⟨Al, cl, vsl, rfl, hln, hlm, hlr, hli⟩ := hsl
        have HLv := Lib.hid (show Sets w1 w1.heap.size (.slice Al l.length cl) l from ⟨Al, cl, vsl, rfl, hln, hlm, hlr, hli⟩)
        clear HH hbl hln hlr hli
        have her2 : er = if (Rk.hitRun (Rk.smallest xss) size).1 = true then 0 else 3 := by
          rw [her, He.out]
          unfold Rk.hitErr
          rw [if_neg (by simp), if_neg (by omega), if_neg (by omega)]
        clear her
        by_cases hok : (Rk.hitRun (Rk.smallest xss) size).1 = true
        · rw [if_pos hok] at her2
          subst her2
          rw [if_pos rfl] at hl
          have Hf := Lib.hid (Rk.hit_facts Hincr.out hs0 hl)
          have Ha := Lib.hid (fun h1 h2 h3 => Rk.hit_all Hincr.out hs0 hs3 hl hok (other := other) h1 h2 h3)
          clear hl hok
          go_wp2
          go_loopg [9] l.length (fun g i wr => ∃ k : Nat, k ≤ l.length ∧ g = l.length - k ∧ i = .int .i64 k ∧ Hid (Below w1.heap.size w1 wr))
          case atStart => exact ⟨0, Nat.zero_le _, rfl, rfl, Below.refl _ _⟩
          case round =>
            obtain ⟨k, hk, hg, rfl, hbw⟩ := hrel
            have Hg := Lib.hid hg
            clear hg
            by_cases hlt : k < l.length
            · obtain ⟨wo, rfl⟩ : ∃ wo : World, wo = wr := ⟨_, rfl⟩
              obtain ⟨Al', cl', vsl', e1, _, _, hr, hi⟩ := HLv.out.below hbw.out
              obtain rfl : Al = Al' := by injection e1
              obtain ⟨ad, u1, rfl, hb1, hc, hu⟩ := sets_at hr hi hlt
              obtain ⟨f1, f2, f3, f4, f5⟩ := Hf.out k hlt
              have hsm : (l.getD k []).length ≤ 256 := by omega
              have hu' := hu.more (B' := wo.heap.size) hbw.out.size
              have HS := Lib.hid (fun p : BW wo => set_any u1 _ 256 wo.heap.size p.to (hu'.below p.ok))
              rw [show Rk.incr 256 (l.getD k []) = true from decide_eq_true f2] at HS
              have HM := Lib.hid (fun p : BW wo => rminimal_any u1 (.slice A xss.length c) (l.getD k []) xss wo.heap.size p.to (hu'.below p.ok) ((((Hv.out.below (HB1.out.mono hB)).below (hbw.out.mono (Nat.le_trans hB HB1.out.size))).more (Nat.le_trans (Nat.le_trans hB HB1.out.size) hbw.out.size)).below p.ok) p.ok.size hsm f3 f4)
              obtain ⟨A1, c1, rfl, hun, hum, hur⟩ := hu
              clear hur hun
              have hcl := lt_of_cell hc
              have f1' : decide (size < ((l.getD k []).length : Int)) = false := decide_eq_false (by omega)
              by_cases hk0 : k = 0
              · subst hk0
                rw [add_zero_] at hc hcl
                have k1 := fun p => cell_bw hcl hc p
                clear hr hi hu' e1 f1 f2 f3 f4 f5 hc
                generalize l.getD 0 [] = s at *
                go_wp2_with fail
                refine wp_region_bw (by kernel_rfl) (by kernel_rfl) ?_
                repeat (go_big_quiet_step (first
                  | (go_at_call 22; with_reducible exact calls_bw_draws (HS.out _))
                  | (go_at_call 23; with_reducible exact calls_bw (HM.out _))))
                refine wpQuiet_nil ?_
                intro _ hw'
                obtain ⟨p, hw''⟩ := hw'
                subst hw''
                go_wp2
                go_roundg (l.length - (0 + 1))
                case rel => exact ⟨0 + 1, hlt, rfl, by go_num, hbw.out.trans (p.ok.mono hbw.out.size)⟩
                case measure => rw [Hg.out]; omega
              · obtain ⟨ad', u0, ead, hb0, hc0, hu0⟩ := sets_at hr hi (show k - 1 < l.length by omega)
                injection ead with ead
                subst ead
                have HA := Lib.hid (fun p : BW wo => ahead_any u0 (.slice A1 (l.getD k []).length c1) _ _ wo.heap.size p.to ((hu0.more (B' := wo.heap.size) hbw.out.size).below p.ok) (hu'.below p.ok))
                rw [decide_eq_true (f5 (by omega))] at HA
                have hcl0 := lt_of_cell hc0
                have k1 := fun p => cell_bw hcl hc p
                have k0 := fun p => cell_bw hcl0 hc0 p
                have hk1 : decide ((0 : Int) < (k : Int)) = true := decide_eq_true (by omega)
                have hk2 : (0 : Int) < (k : Int) := by omega
                have hk4 : 0 < k := by omega
                have hk5 : decide (0 < k) = true := decide_eq_true hk4
                have hk3 : IntKind.i64.wrap ((k : Int) - 1) = ((k - 1 : Nat) : Int) := by rw [IntKind.wrap_i64]; omega
                clear hr hi hu' e1 f1 f2 f3 f4 f5 hc hu0 hc0 hk0
                generalize l.getD k [] = s at *
                generalize l.getD (k - 1) [] = s0 at *
                go_wp2_with fail
                refine wp_region_bw (by kernel_rfl) (by kernel_rfl) ?_
                repeat (go_big_quiet_step (first
                  | (go_at_call 22; with_reducible exact calls_bw_draws (HS.out _))
                  | (go_at_call 23; with_reducible exact calls_bw (HM.out _))
                  | (go_at_call 24; with_reducible exact calls_bw_draws (HA.out _))))
                refine wpQuiet_nil ?_
                intro _ hw'
                obtain ⟨p, hw''⟩ := hw'
                subst hw''
                go_wp2
                go_roundg (l.length - (k + 1))
                case rel => exact ⟨k + 1, hlt, rfl, by go_num, hbw.out.trans (p.ok.mono hbw.out.size)⟩
                case measure => rw [Hg.out]; omega
            · clear Hf
              obtain ⟨wo, rfl⟩ : ∃ wo : World, wo = wr := ⟨_, rfl⟩
              have HBW := Lib.hid (show Below w.heap.size w wo from HB1.out.trans (hbw.out.mono HB1.out.size))
              by_cases hlo : size < (other.length : Int)
              · have hlo' : decide (size < (other.length : Int)) = true := decide_eq_true hlo
                go_wp2_with fail
                refine (HR.out _).mono ?_
                rintro e w2 ⟨rfl, hb⟩
                go_wp2
                go_ret
                exact ⟨rfl, HBW.out.trans (hb.mono HBW.out.size)⟩
              · have HSo := Lib.hid (set_any (.slice Ao other.length co) other 256 B wo (Ho.out.below (HBW.out.mono hB)))
                by_cases hio : Rk.Incr 256 other
                · rw [show Rk.incr 256 other = true from decide_eq_true hio] at HSo
                  have Hio := Lib.hid hio
                  have hlo' : decide (size < (other.length : Int)) = false := decide_eq_false hlo
                  go_wp2_with fail
                  refine HSo.out.mono ?_
                  rintro e w2 ⟨rfl, q5, rfl⟩
                  have HHo := Lib.hid (rhits_any (.slice Ao other.length co) (.slice A xss.length c) other xss B (wo.drewN q5) ((Ho.out.below (HBW.out.mono hB)).keep fun _ _ => rfl) ((Hv.out.below (HBW.out.mono hB)).keep fun _ _ => rfl))
                  by_cases hh : Rk.hits other xss = true
                  · rw [hh] at HHo
                    have Hex := Lib.hid (Ha.out (by omega) hio hh)
                    clear Ha hh hio HSo
                    go_wp2_with fail
                    refine HHo.out.mono ?_
                    rintro e w2 ⟨rfl, rfl⟩
                    go_wp2
                    go_loopg [10] l.length (fun g i wr => ∃ j : Nat, j ≤ l.length ∧ g = l.length - j ∧ i = .int .i64 j ∧ wr = wo.drewN q5 ∧ Hid (∀ i, i < j → Rk.sub (l.getD i []) other = false))
                    case atStart => exact ⟨0, Nat.zero_le _, rfl, rfl, rfl, fun i h => by omega⟩
                    case round =>
                      obtain ⟨j, hj, hg, rfl, rfl, hno⟩ := hrel
                      have Hg2 := Lib.hid hg
                      clear hg
                      by_cases hjl : j < l.length
                      · obtain ⟨Al', cl', vsl', e1, _, _, hr, hi⟩ := HLv.out.below hbw.out
                        obtain rfl : Al = Al' := by injection e1
                        obtain ⟨ad, u1, rfl, hb1, hc, hu⟩ := sets_at hr hi hjl
                        have HW := Lib.hid (rwithin_any u1 (.slice Ao other.length co) _ other wo.heap.size (wo.drewN q5) ((hu.more (B' := wo.heap.size) hbw.out.size).keep fun _ _ => rfl) (((Ho.out.below (HBW.out.mono hB)).more (Nat.le_trans hB HBW.out.size)).keep fun _ _ => rfl))
                        by_cases hsub : Rk.sub (l.getD j []) other = true
                        · rw [hsub] at HW
                          clear hr hi e1 hu hno hsub
                          go_wp2_with fail
                          refine HW.out.mono ?_
                          rintro e w2 ⟨rfl, rfl⟩
                          go_wp2_with fail
                          refine (HR.out _).mono ?_
                          rintro e w2 ⟨rfl, hb⟩
                          go_wp2
                          go_ret
                          exact ⟨rfl, HBW.out.trans ((below_drewN (Below.refl _ _) q5).trans hb |>.mono HBW.out.size)⟩
                        · simp only [Bool.not_eq_true] at hsub
                          have Hno := Lib.hid (show ∀ i, i < j + 1 → Rk.sub (l.getD i []) other = false from fun i h => by
                            by_cases e : i = j
                            · rw [e]; exact hsub
                            · exact hno.out i (by omega))
                          rw [hsub] at HW
                          clear hr hi e1 hu hno hsub
                          go_wp2_with fail
                          refine HW.out.mono ?_
                          rintro e w2 ⟨rfl, rfl⟩
                          go_wp2
                          go_roundg (l.length - (j + 1))
                          case rel => exact ⟨j + 1, hjl, rfl, by go_num, rfl, Hno⟩
                          case measure => rw [Hg2.out]; omega
                      · exfalso
                        obtain ⟨i, h1, h2⟩ := Hex.out
                        rw [hno.out i (by omega)] at h2
                        cases h2
                  · simp only [Bool.not_eq_true] at hh
                    rw [hh] at HHo
                    clear Ha hh hio HSo
                    go_wp2_with fail
                    refine HHo.out.mono ?_
                    rintro e w2 ⟨rfl, rfl⟩
                    go_wp2_with fail
                    refine (HR.out _).mono ?_
                    rintro e w2 ⟨rfl, hb⟩
                    go_wp2
                    go_ret
                    exact ⟨rfl, HBW.out.trans ((below_drewN (Below.refl _ _) q5).trans hb |>.mono HBW.out.size)⟩
                · rw [show Rk.incr 256 other = false from decide_eq_false hio] at HSo
                  have hlo' : decide (size < (other.length : Int)) = false := decide_eq_false hlo
                  clear Ha hio
                  go_wp2_with fail
                  refine HSo.out.mono ?_
                  rintro e w2 ⟨rfl, q5, rfl⟩
                  go_wp2_with fail
                  refine (HR.out _).mono ?_
                  rintro e w2 ⟨rfl, hb⟩
                  go_wp2
                  go_ret
                  exact ⟨rfl, HBW.out.trans ((below_drewN (Below.refl _ _) q5).trans hb |>.mono HBW.out.size)⟩
        · rw [if_neg hok] at her2
          subst her2
          clear hl hok
          go_wp2_with fail
          refine (HR.out _).mono ?_
          rintro e w2 ⟨rfl, hb⟩
          go_wp2
          go_ret
          exact ⟨rfl, HB1.out.trans (hb.mono HB1.out.size)⟩
      · go_wp2_with fail
        refine HC.out.mono ?_
        rintro e w1 ⟨rfl, q, rfl⟩
        have hne : (setsErr xss != 0) = true := by simpa using he
        generalize setsErr xss = er at *
        go_wp2_with fail
        refine (HR.out _).mono ?_
        rintro e w1 ⟨rfl, hb⟩
        go_wp2
        go_ret
        exact ⟨rfl, (below_drewN (Below.refl _ _) q).trans hb⟩
  · go_wp2_with fail
    refine (HR.out _).mono ?_
    rintro e w1 ⟨rfl, hb⟩
    go_wp2
    go_ret
    exact ⟨rfl, hb⟩
end Go.Proofs.Ytfpmbjobieeidaa
