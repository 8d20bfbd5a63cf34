/-
  The walk of the reference's put.
-/
import Derived.Test.YtfpmbjobieeidaaGreatPlainJ
import Derived.Test.YtfpmbjobieeidaaGreatRSets
import Derived.Test.YtfpmbjobieeidaaGreatRInts
import Derived.Test.YtfpmbjobieeidaaGreatExam
import Derived.Test.YtfpmbjobieeidaaGreatGrow
import Derived.Test.YtfpmbjobieeidaaGreatRegZ
import Derived.Test.YtfpmbjobieeidaaGreatOwnD
namespace Go.Proofs.YtfpmbjobieeidaaGreat
open Go.RowKit

theorem own_two2 {w : World} {base : Nat} {e : TypeId} {n s c : Nat} {A : Option Addr} {xs : List Value} (h : w.ownsRow base e s (.slice A n c) n xs) : (A = none ∧ n = 0 ∧ c = 0) ∨ ∃ g, A = some ⟨g, 0, none⟩ := by
  rcases h.2 with ⟨e, _⟩ | ⟨g, cap, cur, e, _⟩
  · injection e with e1 e2 e3
    exact .inl ⟨e1, e2, e3⟩
  · injection e with e1 e2 e3
    exact .inr ⟨g, e1⟩
theorem below_p {W0 W w1 : World} (h : Below W0.heap.size W0 W) (hb : Below W.heap.size W w1) : Below W0.heap.size W0 w1 := h.trans (hb.mono h.size)
theorem reads_take1 {w : World} {B n k : Nat} {A : Option Addr} {xs : List Value} (h : Reads w B 1 A n xs) (hk : k ≤ n) : Reads w B 1 A k (xs.take k) :=
  ⟨by have := h.1; simp; omega, fun h0 => by
    obtain ⟨ad, e, hb, hc⟩ := h.2 (by omega)
    exact ⟨ad, e, hb, fun j u hj => hc j u (by
      have hjk : j < k := by
        rcases Nat.lt_or_ge j k with h | h
        · exact h
        · rw [List.getElem?_eq_none (by simp; omega)] at hj; cases hj
      rw [← hj, List.getElem?_take_of_lt hjk])⟩⟩
theorem made_nextT (w : World) (o : Obj) (t : TypeId) : ((w.alloc o).alloc (.cells #[] t)).ownsRow w.heap.size t 1 (.slice (some ⟨w.heap.size + 1, 0, none⟩) 0 0) 0 [] := by
  have h := World.ownsRow_made (base := w.heap.size) (e := t) (size := 1) (w.alloc o) #[] 0 (by simp) (Nat.zero_le _) rfl
  rw [World.size_alloc] at h
  exact h
/-- Behind the insertion of one row. -/
theorem ins_sets {w w' : World} {base base' : Nat} {v u v8 : Value} {us : List Value} {l : List (List Int)} {x : List Int} {a m : Nat} (hr : w.ownsRow base 26 1 v l.length us) (hi : ∀ i, i < l.length → ∃ u, us[i]? = some u ∧ OwnInts w base u (l.getD i [])) (hB : Below w.heap.size w w') (ha : a ≤ l.length) (hm : m = l.length - a)
    (hb : base ≤ base') (h8 : OwnInts w' base' v8 x) (h : w'.ownsRow base' 26 1 u (a + 1 + m) (us.take a ++ [v8] ++ us.drop a)) : OwnSets w' base u (l.take a ++ x :: l.drop a) := by
  have hl : us.length = l.length := by simpa using hr.1
  have e0 : (l.take a ++ x :: l.drop a).length = a + 1 + m := by simp; omega
  have e1 : (us.take a).length = a := by rw [List.length_take]; omega
  have e2 : (l.take a).length = a := by rw [List.length_take]; omega
  refine ⟨us.take a ++ [v8] ++ us.drop a, by rw [e0]; exact own_more h hb, fun i hlt => ?_⟩
  rw [e0] at hlt
  rw [List.append_assoc, List.singleton_append]
  rcases Nat.lt_trichotomy i a with h1 | h1 | h1
  · obtain ⟨u, h2, h3⟩ := hi i (by omega)
    refine ⟨u, by rw [List.getElem?_append_left (by omega), List.getElem?_take_of_lt h1]; exact h2, ?_⟩
    rw [List.getD_eq_getElem?_getD, List.getElem?_append_left (by omega), List.getElem?_take_of_lt h1, ← List.getD_eq_getElem?_getD]
    exact own_below h3 hB (Nat.le_refl _)
  · subst h1
    refine ⟨v8, by rw [List.getElem?_append_right (by omega), e1, Nat.sub_self]; rfl, ?_⟩
    rw [List.getD_eq_getElem?_getD, List.getElem?_append_right (by omega), e2, Nat.sub_self]
    exact own_more h8 hb
  · obtain ⟨u, h2, h3⟩ := hi (i - 1) (by omega)
    have e3 : i - a = (i - 1 - a) + 1 := by omega
    refine ⟨u, by rw [List.getElem?_append_right (by omega), e1, e3, List.getElem?_cons_succ, List.getElem?_drop, show a + (i - 1 - a) = i - 1 by omega]; exact h2, ?_⟩
    rw [List.getD_eq_getElem?_getD, List.getElem?_append_right (by omega), e2, e3, List.getElem?_cons_succ, List.getElem?_drop, show a + (i - 1 - a) = i - 1 by omega, ← List.getD_eq_getElem?_getD]
    exact own_below h3 hB (Nat.le_refl _)

set_option maxRecDepth 100000 in
set_option maxHeartbeats 4000000 in
theorem rput_any (v u : Value) (l : List (List Int)) (x : List Int) (b : Nat) (w : World) (hl : OwnSets w b v l) (hx : Ints w w.heap.size u x) (hb : b ≤ w.heap.size) (hs : Rk.Strict l) (hlen : l.length ≤ 65536) (hll : ∀ s ∈ l, s.length ≤ 65536) (hxl : x.length ≤ 65536) :
    Calls Tryz.prog 101 #[v, u] w fun e w' => ∃ v' l', e = .returned v' ∧ OwnSets w' b v' l' ∧ Rk.Strict l' ∧ (∀ z, z ∈ l' ↔ z ∈ l ∨ z = x) ∧ Below w.heap.size w w' := by
  obtain ⟨us, hr, hi⟩ := hl
  obtain ⟨A, c, hv, hnc, -, -⟩ := own_form hr
  subst hv
  have Hx := Lib.hid hx
  obtain ⟨Ax, cx, rfl, k1, k2, hrx⟩ := hx
  have Hrx := Lib.hid hrx
  obtain ⟨i0, hi0, hz0, hz1, hz2⟩ := info_parts info_int
  obtain ⟨j0, hj0, yz0, yz1, yz2⟩ := info_parts info_ints
  have Hus := Lib.hid (And.intro hr hi)
  have Hs := Lib.hid hs
  have HAh := Lib.hid (fun p (hp : p < l.length) q => show ∃ u, us[p]? = some u ∧ Calls Tryz.prog 110 #[.slice Ax x.length cx, u] (w.drewN q) (fun e w' => e = .returned (.bool (decide (Rk.ord x (l.getD p []) < 0))) ∧ ∃ n, w' = w.drewN n) ∧ Calls Tryz.prog 46 #[u, .slice Ax x.length cx] (w.drewN q) (fun e w' => e = .returned (.bool (decide (l.getD p [] = x))) ∧ ∃ n, w' = w.drewN n) from by
    obtain ⟨u, h1, h2⟩ := hi p hp
    have h3 : Ints (w.drewN q) w.heap.size u (l.getD p []) := h2.reads (by have := hll _ (Rk.memD (d := []) hp); omega)
    have hx' : Ints (w.drewN q) w.heap.size (.slice Ax x.length cx) x := Hx.out
    refine ⟨u, h1, (ahead_any _ _ _ _ _ _ hx' h3).mono ?_, (rints_any _ _ _ _ _ _ h3 hx').mono ?_⟩
    · rintro e w' ⟨h1, n, h2⟩
      exact ⟨h1, _, h2.trans (World.drewN_drewN ..)⟩
    · rintro e w' ⟨h1, n, h2⟩
      exact ⟨h1, _, h2.trans (World.drewN_drewN ..)⟩)
  clear hr hi k1 k2 hrx hs hll
  go_enter Tryz.func101, Tryz.ntmps101
  go_wp2
  go_loopg [5] l.length (fun g s wr => ∃ (a q : Nat), a ≤ l.length ∧ g = a ∧ s = .int .i64 a ∧ wr = w.drewN q ∧ Hid (∀ p, a ≤ p → p < l.length → Rk.ord x (l.getD p []) < 0))
  case atStart => exact ⟨l.length, 0, Nat.le_refl _, rfl, rfl, rfl, fun p h1 h2 => absurd h1 (by omega)⟩
  case round =>
    obtain ⟨a, q, ha, hg, rfl, rfl, hab⟩ := hrel
    have Hg := Lib.hid hg
    clear hg
    rcases a with _ | b'
    · have Hins := Lib.hid (Hs.out.ins (x := x) (i := 0) hab.out (.inl rfl) (Nat.zero_le _))
      clear hab
      go_wp2
      have v3 : (l.length : Int) ≤ (c : Int) := by omega
      have v4 : (0 : Int) ≤ (c : Int) := by omega
      have v5 : (0 : Int) ≤ (l.length : Int) := by omega
      rcases own_two2 Hus.out.1 with ⟨rfl, hl0, rfl⟩ | ⟨gO, rfl⟩
      · obtain ⟨wz, hwz⟩ : ∃ wz, wz = (w.drewN q).drew := ⟨_, rfl⟩
        have Husz := Lib.hid (show wz.ownsRow b 26 1 (.slice none l.length 0) l.length us ∧ ∀ i, i < l.length → ∃ u, us[i]? = some u ∧ OwnInts wz b u (l.getD i []) by rw [hwz]; exact Hus.out)
        have HLz := Lib.hid (show Below w.heap.size w wz by rw [hwz]; exact below_drewN (Below.refl _ _) (q + 1))
        have Hwz := Lib.hid hwz
        have hbz : b ≤ wz.heap.size := by rw [hwz]; exact hb
        have Hrz := Lib.hid (show Reads wz wz.heap.size 1 Ax x.length (x.map (.int .i64)) by rw [hwz]; exact Hrx.out)
        have Honex := Lib.hid (show ∀ u ∈ x.map (Value.int .i64), u.oneCell' = true from fun u hu => by obtain ⟨y, _, rfl⟩ := List.mem_map.1 hu; rfl)
        clear hwz
        have Honeu := Lib.hid (show ∀ u ∈ us, u.oneCell' = true from fun u hu => by
          obtain ⟨i, hi, rfl⟩ := List.mem_iff_getElem.1 hu
          have hl : us.length = l.length := by simpa using Husz.out.1.1
          obtain ⟨u', h1, h2⟩ := Husz.out.2 i (by omega)
          rw [List.getElem?_eq_getElem hi] at h1
          obtain ⟨A', c', e, -⟩ := own_form h2
          rw [Option.some.inj h1, e]; rfl)
        have Hone1 := Lib.hid (fun u (hu : u ∈ us.take 0) => Honeu.out u (List.mem_of_mem_take hu))
        have Hone2 := Lib.hid (fun u (hu : u ∈ us.drop 0) => Honeu.out u (List.mem_of_mem_drop hu))
        have Hrd := Lib.hid (Reads.of_own Husz.out.1)
        have Hrd1 := Lib.hid (show Reads wz wz.heap.size 1 none 0 (us.take 0) from reads_take1 Hrd.out (by omega))
        have Hrd2 := Lib.hid (show Reads wz wz.heap.size 1 (if 0 = 0 then (none : Option Addr) else (none : Option Addr).map (fun z => z.add 0)) (l.length - 0) (us.drop 0) by have h := Hrd.out.cut (k := 0) (cap := 0) (by omega) hnc; simpa using h)
        have Hrd3 := Lib.hid (show Reads wz wz.heap.size 1 none 0 (us.drop 0) by have h := Hrd2.out; rw [if_pos rfl] at h; rw [show l.length - 0 = 0 by omega] at h; exact h)
        have hlnil : l = [] := List.eq_nil_of_length_eq_zero (by omega)
        clear hl0
        refine z_region (fun _ => True) 14 (by kernel_rfl) ?_
        rw [← Hwz.out]
        refine z_take (i := 1) (v := ?_) rfl (by kernel_rfl) (by kernel_rfl) (by kernel_rfl) (fun _ _ _ h => h) (by kernel_rfl) (by decide) trivial (by rfl) (by intro w hSw; go_simp; rfl) ?_
        refine z_take (i := 2) (v := ?_) rfl (by kernel_rfl) (by kernel_rfl) (by kernel_rfl) (fun _ _ _ h => h) (by kernel_rfl) (by decide) trivial (by rfl) (by intro w hSw; go_simp; rfl) ?_
        refine z_take (i := 3) (v := .slice none 0 0) rfl (by kernel_rfl) (by kernel_rfl) (by kernel_rfl) (fun _ _ _ h => h) (by kernel_rfl) (by decide) trivial (by rfl) (by intro w hSw; go_simp) ?_
        refine z_take (i := 6) (v := ?_) rfl (by kernel_rfl) (by kernel_rfl) (by kernel_rfl) (fun _ _ _ h => h) (by kernel_rfl) (by decide) trivial (by rfl) (by intro w hSw; go_simp; rfl) ?_
        refine z_take (i := 10) (v := ?_) rfl (by kernel_rfl) (by kernel_rfl) (by kernel_rfl) (fun _ _ _ h => h) (by kernel_rfl) (by decide) trivial (by rfl) (by intro w hSw; go_simp; rfl) ?_
        refine z_take (i := 11) (v := ?_) rfl (by kernel_rfl) (by kernel_rfl) (by kernel_rfl) (fun _ _ _ h => h) (by kernel_rfl) (by decide) trivial (by rfl) (by intro w hSw; go_simp; rfl) ?_
        refine z_take (i := 12) (v := .slice none 0 0) rfl (by kernel_rfl) (by kernel_rfl) (by kernel_rfl) (fun _ _ _ h => h) (by kernel_rfl) (by decide) trivial (by rfl) (by intro w hSw; go_simp) ?_
        simp only [Act.put, List.setIfInBounds_toArray]
        refine z_two (i := 0) (j := 5) rfl rfl (by kernel_rfl) (by rfl) (by rfl) (fun K hK => ?_) (fun K hK => ?_)
        · go_simp
          refine hK _ _ (fun _ => trivial) ?_
          clear hK K
          refine z_two (i := 4) (j := 5) rfl rfl (by kernel_rfl) (by rfl) (by rfl) (fun K hK => ?_) (fun K hK => ?_)
          · refine wp_append_any _ _ _ 40 rfl wz.heap.size 26 j0 _ 1 24 Tryz.underlying40 hj0 yz0 yz1 yz2 rfl (by decide) (.slice (some ⟨wz.heap.size, 0, none⟩) 0 0) 0 [] (by rfl) (World.ownsRow_made wz #[] 0 (Nat.le_refl _) (Nat.zero_le _) rfl) wz.heap.size none 0 0 _ (by rfl) (Hrd1.out.alloc (Nat.le_refl _) _) (Hone1.out) (by unfold maxLen; omega) (by omega) (by first | (simp; done) | (simp; omega)) ?_
            intro v7 w7 hown7 hg7 hat7
            obtain ⟨A7, c7, ev7, _, _, _⟩ := own_form hown7
            rw [Nat.zero_add] at ev7
            subst ev7
            have HO7 := Lib.hid (show w7.ownsRow wz.heap.size 26 1 (.slice A7 0 c7) 0 (us.take 0) by simpa using hown7)
            have hB7 : Below wz.heap.size wz w7 := ((Below.refl wz.heap.size wz).alloc (Nat.le_refl _) _).grown hg7 (by simp; try omega) (fun b e => by have e2 : some (wz.heap.size) = some b := e; injection e2 with e2; omega)
            have HB7 := Lib.hid hB7
            have hs7 := hB7.size
            clear hown7 hg7 hat7 hB7
            refine hK _ _ (fun _ => trivial) ?_
            clear hK K
            refine z_one (i := 5) rfl (by kernel_rfl) (by rfl) (fun K hK => ?_)
            go_simp
            refine hK _ _ (fun _ => trivial) ?_
            clear hK K
            have HM8 := Lib.hid (World.ownsRow_made (base := wz.heap.size) (e := 3) (size := 1) w7 #[] 0 hs7 (Nat.zero_le _) rfl)
            have HO8 := Lib.hid (own_kept (w' := w7.alloc (.cells #[] 3)) (row := none) HO7.out (World.grownBy_alloc w7 _ none) (fun g e => by cases e))
            have HB8 := Lib.hid (HB7.out.alloc HB7.out.size (.cells #[] 3))
            have hs8 := HB8.out.size
            refine z_one (i := 7) rfl (by kernel_rfl) (by rfl) (fun K hK => ?_)
            refine wp_append_any _ _ _ 26 rfl wz.heap.size 3 i0 _ 1 8 Tryz.underlying26 hi0 hz0 hz1 hz2 rfl (by decide) (.slice (some ⟨w7.heap.size, 0, none⟩) 0 0) 0 [] (by rfl) (HM8.out) wz.heap.size Ax x.length cx _ (by rfl) (Hrz.out.below HB8.out) (Honex.out) (by unfold maxLen; omega) (by omega) (hs8) ?_
            intro v9 w9 hown9 hg9 hat9
            obtain ⟨A9, c9, ev9, _, _, _⟩ := own_form hown9
            rw [Nat.zero_add] at ev9
            subst ev9
            have HV9 := Lib.hid (show OwnInts w9 wz.heap.size (.slice A9 x.length c9) x by unfold OwnInts; simpa using hown9)
            have HO9 := Lib.hid (own_kept HO8.out hg9 (fun g e => own_own_ne HM8.out HO8.out (by decide) e))
            have HB9 := Lib.hid (HB8.out.grown hg9 HB8.out.size (own_row_ge HM8.out))
            have hs9 := HB9.out.size
            clear hown9 hg9 hat9
            refine hK _ _ (fun _ => trivial) ?_
            clear hK K
            refine z_one (i := 8) rfl (by kernel_rfl) (by rfl) (fun K hK => ?_)
            go_simp
            refine hK _ _ (fun _ => trivial) ?_
            clear hK K
            have HV10 := Lib.hid (show OwnInts (w9.alloc (.cells #[.slice A9 x.length c9] 26)) wz.heap.size (.slice A9 x.length c9) x from own_kept (row := none) HV9.out (World.grownBy_alloc w9 _ none) (fun g e => by cases e))
            have HO10 := Lib.hid (own_kept (w' := w9.alloc (.cells #[.slice A9 x.length c9] 26)) (row := none) HO9.out (World.grownBy_alloc w9 _ none) (fun g e => by cases e))
            have HB10 := Lib.hid (HB9.out.alloc HB9.out.size (.cells #[.slice A9 x.length c9] 26))
            have hs10 := HB10.out.size
            refine z_one (i := 9) rfl (by kernel_rfl) (by rfl) (fun K hK => ?_)
            refine wp_append_any _ _ _ 40 rfl wz.heap.size 26 j0 _ 1 24 Tryz.underlying40 hj0 yz0 yz1 yz2 rfl (by decide) (.slice A7 0 c7) 0 _ (by rfl) (HO10.out) (w9.heap.size + 1) (some ⟨w9.heap.size, 0, none⟩) 1 1 [.slice A9 x.length c9] (by rfl) (reads_one (Nat.lt_succ_self _) (cell_new0 _ _ _)) (by intro u hu; simp at hu; subst hu; rfl) (by unfold maxLen; omega) (by omega) (hs10) ?_
            intro v11 w11 hown11 hg11 hat11
            have HO11 := Lib.hid hown11
            have HV11 := Lib.hid (show OwnInts w11 wz.heap.size (.slice A9 x.length c9) x from own_kept HV10.out hg11 (fun g e => own_own_ne HO10.out HV10.out (by decide) e))
            have HB11 := Lib.hid (HB10.out.grown hg11 HB10.out.size (own_row_ge HO10.out))
            have hs11 := HB11.out.size
            obtain ⟨A11, c11, ev11, _, _, _⟩ := own_form hown11
            subst ev11
            clear hown11 hg11 hat11
            refine hK _ _ (fun _ => trivial) ?_
            clear hK K
            try simp only [Act.put, List.setIfInBounds_toArray]
            refine z_one (i := 13) rfl (by kernel_rfl) (by rfl) (fun K hK => ?_)
            refine wp_append_any _ _ _ 40 rfl wz.heap.size 26 j0 _ 1 24 Tryz.underlying40 hj0 yz0 yz1 yz2 rfl (by decide) (.slice A11 (0 + 1) c11) (0 + 1) _ (by rfl) (HO11.out) wz.heap.size _ 0 _ _ (by rfl) (by first | exact Hrd2.out.below HB11.out | exact Hrd3.out.below HB11.out) (Hone2.out) (by unfold maxLen; omega) (by omega) (hs11) ?_
            intro v13 w13 hown13 hg13 hat13
            have HV13 := Lib.hid (show OwnInts w13 wz.heap.size (.slice A9 x.length c9) x from own_kept HV11.out hg13 (fun g e => own_own_ne HO11.out HV11.out (by decide) e))
            have HB13 := Lib.hid (HB11.out.grown hg13 HB11.out.size (own_row_ge HO11.out))
            have HS13 := Lib.hid (ins_sets Husz.out.1 Husz.out.2 HB13.out (by omega) (m := 0) (by omega) (by omega) HV13.out hown13)
            clear hown13 hg13 hat13
            refine hK _ _ (fun _ => trivial) ?_
            clear hK K
            refine z_one (i := 14) rfl (by kernel_rfl) (by rfl) (fun K hK => ?_)
            go_simp
            refine hK _ _ (fun h => absurd rfl h) ?_
            clear hK K
            refine z_done (by kernel_rfl) ?_ _
            go_wp2
            go_ret
            first
              | exact ⟨_, _, rfl, HS13.out, Hins.out, fun z => Rk.ins_mem, HLz.out.trans (HB13.out.mono HLz.out.size)⟩
              | exact ⟨_, rfl, _, HS13.out, Hins.out, fun z => Rk.ins_mem, HLz.out.trans (HB13.out.mono HLz.out.size)⟩
              | exact ⟨_, rfl, _, HS13.out, Hins.out, fun z => (by have hn : l = [] := List.eq_nil_of_length_eq_zero (by omega); simp [hn]), HLz.out.trans (HB13.out.mono HLz.out.size)⟩
              | exact ⟨_, _, rfl, HS13.out, Hins.out, fun z => (by have h := @Rk.ins_mem l x z 0; have hn : l = [] := List.eq_nil_of_length_eq_zero (by omega); simpa [hn] using h), HLz.out.trans (HB13.out.mono HLz.out.size)⟩
          · go_simp
            refine hK _ _ (fun _ => trivial) ?_
            clear hK K
            refine z_one (i := 4) rfl (by kernel_rfl) (by rfl) (fun K hK => ?_)
            refine wp_append_any _ _ _ 40 rfl wz.heap.size 26 j0 _ 1 24 Tryz.underlying40 hj0 yz0 yz1 yz2 rfl (by decide) (.slice (some ⟨wz.heap.size, 0, none⟩) 0 0) 0 [] (by rfl) (own_kept (row := none) (World.ownsRow_made wz #[] 0 (Nat.le_refl _) (Nat.zero_le _) rfl) (World.grownBy_alloc _ _ none) (fun g e => by cases e)) wz.heap.size none 0 0 _ (by rfl) (Hrd1.out.alloc (Nat.le_refl _) _ |>.alloc (by simp) _) (Hone1.out) (by unfold maxLen; omega) (by omega) (by first | (simp; done) | (simp; omega)) ?_
            intro v7 w7 hown7 hg7 hat7
            obtain ⟨A7, c7, ev7, _, _, _⟩ := own_form hown7
            rw [Nat.zero_add] at ev7
            subst ev7
            have HO7 := Lib.hid (show w7.ownsRow wz.heap.size 26 1 (.slice A7 0 c7) 0 (us.take 0) by simpa using hown7)
            have hB7 : Below wz.heap.size wz w7 := (((Below.refl wz.heap.size wz).alloc (Nat.le_refl _) _).alloc (by simp) _).grown hg7 (by simp; try omega) (fun b e => by have e2 : some (wz.heap.size) = some b := e; injection e2 with e2; omega)
            have HM8 := Lib.hid (own_kept (made_nextT wz (.cells #[] 26) 3) hg7 (fun g e => by have e2 : some wz.heap.size = some g := e; injection e2 with e2; intro e3; have e4 : some (wz.heap.size + 1) = some g := e3; injection e4 with e4; omega))
            have HB7 := Lib.hid hB7
            have hs7 := hB7.size
            clear hown7 hg7 hat7 hB7
            refine hK _ _ (fun _ => trivial) ?_
            clear hK K
            have HO8 := HO7
            have HB8 := HB7
            have hs8 := HB8.out.size
            refine z_one (i := 7) rfl (by kernel_rfl) (by rfl) (fun K hK => ?_)
            refine wp_append_any _ _ _ 26 rfl wz.heap.size 3 i0 _ 1 8 Tryz.underlying26 hi0 hz0 hz1 hz2 rfl (by decide) (.slice (some ⟨(wz.heap.size + 1), 0, none⟩) 0 0) 0 [] (by rfl) (HM8.out) wz.heap.size Ax x.length cx _ (by rfl) (Hrz.out.below HB8.out) (Honex.out) (by unfold maxLen; omega) (by omega) (hs8) ?_
            intro v9 w9 hown9 hg9 hat9
            obtain ⟨A9, c9, ev9, _, _, _⟩ := own_form hown9
            rw [Nat.zero_add] at ev9
            subst ev9
            have HV9 := Lib.hid (show OwnInts w9 wz.heap.size (.slice A9 x.length c9) x by unfold OwnInts; simpa using hown9)
            have HO9 := Lib.hid (own_kept HO8.out hg9 (fun g e => own_own_ne HM8.out HO8.out (by decide) e))
            have HB9 := Lib.hid (HB8.out.grown hg9 HB8.out.size (own_row_ge HM8.out))
            have hs9 := HB9.out.size
            clear hown9 hg9 hat9
            refine hK _ _ (fun _ => trivial) ?_
            clear hK K
            refine z_one (i := 8) rfl (by kernel_rfl) (by rfl) (fun K hK => ?_)
            go_simp
            refine hK _ _ (fun _ => trivial) ?_
            clear hK K
            have HV10 := Lib.hid (show OwnInts (w9.alloc (.cells #[.slice A9 x.length c9] 26)) wz.heap.size (.slice A9 x.length c9) x from own_kept (row := none) HV9.out (World.grownBy_alloc w9 _ none) (fun g e => by cases e))
            have HO10 := Lib.hid (own_kept (w' := w9.alloc (.cells #[.slice A9 x.length c9] 26)) (row := none) HO9.out (World.grownBy_alloc w9 _ none) (fun g e => by cases e))
            have HB10 := Lib.hid (HB9.out.alloc HB9.out.size (.cells #[.slice A9 x.length c9] 26))
            have hs10 := HB10.out.size
            refine z_one (i := 9) rfl (by kernel_rfl) (by rfl) (fun K hK => ?_)
            refine wp_append_any _ _ _ 40 rfl wz.heap.size 26 j0 _ 1 24 Tryz.underlying40 hj0 yz0 yz1 yz2 rfl (by decide) (.slice A7 0 c7) 0 _ (by rfl) (HO10.out) (w9.heap.size + 1) (some ⟨w9.heap.size, 0, none⟩) 1 1 [.slice A9 x.length c9] (by rfl) (reads_one (Nat.lt_succ_self _) (cell_new0 _ _ _)) (by intro u hu; simp at hu; subst hu; rfl) (by unfold maxLen; omega) (by omega) (hs10) ?_
            intro v11 w11 hown11 hg11 hat11
            have HO11 := Lib.hid hown11
            have HV11 := Lib.hid (show OwnInts w11 wz.heap.size (.slice A9 x.length c9) x from own_kept HV10.out hg11 (fun g e => own_own_ne HO10.out HV10.out (by decide) e))
            have HB11 := Lib.hid (HB10.out.grown hg11 HB10.out.size (own_row_ge HO10.out))
            have hs11 := HB11.out.size
            obtain ⟨A11, c11, ev11, _, _, _⟩ := own_form hown11
            subst ev11
            clear hown11 hg11 hat11
            refine hK _ _ (fun _ => trivial) ?_
            clear hK K
            try simp only [Act.put, List.setIfInBounds_toArray]
            refine z_one (i := 13) rfl (by kernel_rfl) (by rfl) (fun K hK => ?_)
            refine wp_append_any _ _ _ 40 rfl wz.heap.size 26 j0 _ 1 24 Tryz.underlying40 hj0 yz0 yz1 yz2 rfl (by decide) (.slice A11 (0 + 1) c11) (0 + 1) _ (by rfl) (HO11.out) wz.heap.size _ 0 _ _ (by rfl) (by first | exact Hrd2.out.below HB11.out | exact Hrd3.out.below HB11.out) (Hone2.out) (by unfold maxLen; omega) (by omega) (hs11) ?_
            intro v13 w13 hown13 hg13 hat13
            have HV13 := Lib.hid (show OwnInts w13 wz.heap.size (.slice A9 x.length c9) x from own_kept HV11.out hg13 (fun g e => own_own_ne HO11.out HV11.out (by decide) e))
            have HB13 := Lib.hid (HB11.out.grown hg13 HB11.out.size (own_row_ge HO11.out))
            have HS13 := Lib.hid (ins_sets Husz.out.1 Husz.out.2 HB13.out (by omega) (m := 0) (by omega) (by omega) HV13.out hown13)
            clear hown13 hg13 hat13
            refine hK _ _ (fun _ => trivial) ?_
            clear hK K
            refine z_one (i := 14) rfl (by kernel_rfl) (by rfl) (fun K hK => ?_)
            go_simp
            refine hK _ _ (fun h => absurd rfl h) ?_
            clear hK K
            refine z_done (by kernel_rfl) ?_ _
            go_wp2
            go_ret
            first
              | exact ⟨_, _, rfl, HS13.out, Hins.out, fun z => Rk.ins_mem, HLz.out.trans (HB13.out.mono HLz.out.size)⟩
              | exact ⟨_, rfl, _, HS13.out, Hins.out, fun z => Rk.ins_mem, HLz.out.trans (HB13.out.mono HLz.out.size)⟩
              | exact ⟨_, rfl, _, HS13.out, Hins.out, fun z => (by have hn : l = [] := List.eq_nil_of_length_eq_zero (by omega); simp [hn]), HLz.out.trans (HB13.out.mono HLz.out.size)⟩
              | exact ⟨_, _, rfl, HS13.out, Hins.out, fun z => (by have h := @Rk.ins_mem l x z 0; have hn : l = [] := List.eq_nil_of_length_eq_zero (by omega); simpa [hn] using h), HLz.out.trans (HB13.out.mono HLz.out.size)⟩
        · go_simp
          refine hK _ _ (fun _ => trivial) ?_
          clear hK K
          refine z_one (i := 0) rfl (by kernel_rfl) (by rfl) (fun K hK => ?_)
          go_simp
          refine hK _ _ (fun _ => trivial) ?_
          clear hK K
          refine z_one (i := 4) rfl (by kernel_rfl) (by rfl) (fun K hK => ?_)
          refine wp_append_any _ _ _ 40 rfl wz.heap.size 26 j0 _ 1 24 Tryz.underlying40 hj0 yz0 yz1 yz2 rfl (by decide) (.slice (some ⟨wz.heap.size + 1, 0, none⟩) 0 0) 0 [] (by rfl) (made_nextT wz (.cells #[] 3) 26) wz.heap.size none 0 0 _ (by rfl) (Hrd1.out.alloc (Nat.le_refl _) _ |>.alloc (by simp) _) (Hone1.out) (by unfold maxLen; omega) (by omega) (by first | (simp; done) | (simp; omega)) ?_
          intro v7 w7 hown7 hg7 hat7
          obtain ⟨A7, c7, ev7, _, _, _⟩ := own_form hown7
          rw [Nat.zero_add] at ev7
          subst ev7
          have HO7 := Lib.hid (show w7.ownsRow wz.heap.size 26 1 (.slice A7 0 c7) 0 (us.take 0) by simpa using hown7)
          have hB7 : Below wz.heap.size wz w7 := (((Below.refl wz.heap.size wz).alloc (Nat.le_refl _) _).alloc (by simp) _).grown hg7 (by simp; try omega) (fun b e => by have e2 : some (wz.heap.size + 1) = some b := e; injection e2 with e2; omega)
          have HM8 := Lib.hid (own_kept (own_kept (row := none) (World.ownsRow_made (base := wz.heap.size) (e := 3) (size := 1) wz #[] 0 (Nat.le_refl _) (Nat.zero_le _) rfl) (World.grownBy_alloc _ _ none) (fun g e => by cases e)) hg7 (fun g e => by have e2 : some (wz.heap.size + 1) = some g := e; injection e2 with e2; intro e3; have e4 : some wz.heap.size = some g := e3; injection e4 with e4; omega))
          have HB7 := Lib.hid hB7
          have hs7 := hB7.size
          clear hown7 hg7 hat7 hB7
          refine hK _ _ (fun _ => trivial) ?_
          clear hK K
          have HO8 := HO7
          have HB8 := HB7
          have hs8 := HB8.out.size
          refine z_one (i := 7) rfl (by kernel_rfl) (by rfl) (fun K hK => ?_)
          refine wp_append_any _ _ _ 26 rfl wz.heap.size 3 i0 _ 1 8 Tryz.underlying26 hi0 hz0 hz1 hz2 rfl (by decide) (.slice (some ⟨wz.heap.size, 0, none⟩) 0 0) 0 [] (by rfl) (HM8.out) wz.heap.size Ax x.length cx _ (by rfl) (Hrz.out.below HB8.out) (Honex.out) (by unfold maxLen; omega) (by omega) (hs8) ?_
          intro v9 w9 hown9 hg9 hat9
          obtain ⟨A9, c9, ev9, _, _, _⟩ := own_form hown9
          rw [Nat.zero_add] at ev9
          subst ev9
          have HV9 := Lib.hid (show OwnInts w9 wz.heap.size (.slice A9 x.length c9) x by unfold OwnInts; simpa using hown9)
          have HO9 := Lib.hid (own_kept HO8.out hg9 (fun g e => own_own_ne HM8.out HO8.out (by decide) e))
          have HB9 := Lib.hid (HB8.out.grown hg9 HB8.out.size (own_row_ge HM8.out))
          have hs9 := HB9.out.size
          clear hown9 hg9 hat9
          refine hK _ _ (fun _ => trivial) ?_
          clear hK K
          refine z_one (i := 8) rfl (by kernel_rfl) (by rfl) (fun K hK => ?_)
          go_simp
          refine hK _ _ (fun _ => trivial) ?_
          clear hK K
          have HV10 := Lib.hid (show OwnInts (w9.alloc (.cells #[.slice A9 x.length c9] 26)) wz.heap.size (.slice A9 x.length c9) x from own_kept (row := none) HV9.out (World.grownBy_alloc w9 _ none) (fun g e => by cases e))
          have HO10 := Lib.hid (own_kept (w' := w9.alloc (.cells #[.slice A9 x.length c9] 26)) (row := none) HO9.out (World.grownBy_alloc w9 _ none) (fun g e => by cases e))
          have HB10 := Lib.hid (HB9.out.alloc HB9.out.size (.cells #[.slice A9 x.length c9] 26))
          have hs10 := HB10.out.size
          refine z_one (i := 9) rfl (by kernel_rfl) (by rfl) (fun K hK => ?_)
          refine wp_append_any _ _ _ 40 rfl wz.heap.size 26 j0 _ 1 24 Tryz.underlying40 hj0 yz0 yz1 yz2 rfl (by decide) (.slice A7 0 c7) 0 _ (by rfl) (HO10.out) (w9.heap.size + 1) (some ⟨w9.heap.size, 0, none⟩) 1 1 [.slice A9 x.length c9] (by rfl) (reads_one (Nat.lt_succ_self _) (cell_new0 _ _ _)) (by intro u hu; simp at hu; subst hu; rfl) (by unfold maxLen; omega) (by omega) (hs10) ?_
          intro v11 w11 hown11 hg11 hat11
          have HO11 := Lib.hid hown11
          have HV11 := Lib.hid (show OwnInts w11 wz.heap.size (.slice A9 x.length c9) x from own_kept HV10.out hg11 (fun g e => own_own_ne HO10.out HV10.out (by decide) e))
          have HB11 := Lib.hid (HB10.out.grown hg11 HB10.out.size (own_row_ge HO10.out))
          have hs11 := HB11.out.size
          obtain ⟨A11, c11, ev11, _, _, _⟩ := own_form hown11
          subst ev11
          clear hown11 hg11 hat11
          refine hK _ _ (fun _ => trivial) ?_
          clear hK K
          try simp only [Act.put, List.setIfInBounds_toArray]
          refine z_one (i := 13) rfl (by kernel_rfl) (by rfl) (fun K hK => ?_)
          refine wp_append_any _ _ _ 40 rfl wz.heap.size 26 j0 _ 1 24 Tryz.underlying40 hj0 yz0 yz1 yz2 rfl (by decide) (.slice A11 (0 + 1) c11) (0 + 1) _ (by rfl) (HO11.out) wz.heap.size _ 0 _ _ (by rfl) (by first | exact Hrd2.out.below HB11.out | exact Hrd3.out.below HB11.out) (Hone2.out) (by unfold maxLen; omega) (by omega) (hs11) ?_
          intro v13 w13 hown13 hg13 hat13
          have HV13 := Lib.hid (show OwnInts w13 wz.heap.size (.slice A9 x.length c9) x from own_kept HV11.out hg13 (fun g e => own_own_ne HO11.out HV11.out (by decide) e))
          have HB13 := Lib.hid (HB11.out.grown hg13 HB11.out.size (own_row_ge HO11.out))
          have HS13 := Lib.hid (ins_sets Husz.out.1 Husz.out.2 HB13.out (by omega) (m := 0) (by omega) (by omega) HV13.out hown13)
          clear hown13 hg13 hat13
          refine hK _ _ (fun _ => trivial) ?_
          clear hK K
          refine z_one (i := 14) rfl (by kernel_rfl) (by rfl) (fun K hK => ?_)
          go_simp
          refine hK _ _ (fun h => absurd rfl h) ?_
          clear hK K
          refine z_done (by kernel_rfl) ?_ _
          go_wp2
          go_ret
          first
            | exact ⟨_, _, rfl, HS13.out, Hins.out, fun z => Rk.ins_mem, HLz.out.trans (HB13.out.mono HLz.out.size)⟩
            | exact ⟨_, rfl, _, HS13.out, Hins.out, fun z => Rk.ins_mem, HLz.out.trans (HB13.out.mono HLz.out.size)⟩
            | exact ⟨_, rfl, _, HS13.out, Hins.out, fun z => (by have hn : l = [] := List.eq_nil_of_length_eq_zero (by omega); simp [hn]), HLz.out.trans (HB13.out.mono HLz.out.size)⟩
            | exact ⟨_, _, rfl, HS13.out, Hins.out, fun z => (by have h := @Rk.ins_mem l x z 0; have hn : l = [] := List.eq_nil_of_length_eq_zero (by omega); simpa [hn] using h), HLz.out.trans (HB13.out.mono HLz.out.size)⟩
      · rcases Classical.em (c = 0) with rfl | hne
        · obtain ⟨wz, hwz⟩ : ∃ wz, wz = (w.drewN q).drew := ⟨_, rfl⟩
          have Husz := Lib.hid (show wz.ownsRow b 26 1 (.slice (some ⟨gO, 0, none⟩) l.length 0) l.length us ∧ ∀ i, i < l.length → ∃ u, us[i]? = some u ∧ OwnInts wz b u (l.getD i []) by rw [hwz]; exact Hus.out)
          have HLz := Lib.hid (show Below w.heap.size w wz by rw [hwz]; exact below_drewN (Below.refl _ _) (q + 1))
          have Hwz := Lib.hid hwz
          have hbz : b ≤ wz.heap.size := by rw [hwz]; exact hb
          have Hrz := Lib.hid (show Reads wz wz.heap.size 1 Ax x.length (x.map (.int .i64)) by rw [hwz]; exact Hrx.out)
          have Honex := Lib.hid (show ∀ u ∈ x.map (Value.int .i64), u.oneCell' = true from fun u hu => by obtain ⟨y, _, rfl⟩ := List.mem_map.1 hu; rfl)
          clear hwz
          have Honeu := Lib.hid (show ∀ u ∈ us, u.oneCell' = true from fun u hu => by
            obtain ⟨i, hi, rfl⟩ := List.mem_iff_getElem.1 hu
            have hl : us.length = l.length := by simpa using Husz.out.1.1
            obtain ⟨u', h1, h2⟩ := Husz.out.2 i (by omega)
            rw [List.getElem?_eq_getElem hi] at h1
            obtain ⟨A', c', e, -⟩ := own_form h2
            rw [Option.some.inj h1, e]; rfl)
          have Hone1 := Lib.hid (fun u (hu : u ∈ us.take 0) => Honeu.out u (List.mem_of_mem_take hu))
          have Hone2 := Lib.hid (fun u (hu : u ∈ us.drop 0) => Honeu.out u (List.mem_of_mem_drop hu))
          have Hrd := Lib.hid (Reads.of_own Husz.out.1)
          have Hrd1 := Lib.hid (show Reads wz wz.heap.size 1 (some ⟨gO, 0, none⟩) 0 (us.take 0) from reads_take1 Hrd.out (by omega))
          have Hrd2 := Lib.hid (show Reads wz wz.heap.size 1 (if 0 = 0 then ((some ⟨gO, 0, none⟩) : Option Addr) else ((some ⟨gO, 0, none⟩) : Option Addr).map (fun z => z.add 0)) (l.length - 0) (us.drop 0) by have h := Hrd.out.cut (k := 0) (cap := 0) (by omega) hnc; simpa using h)
          have Hrd3 := Lib.hid (show Reads wz wz.heap.size 1 (some ⟨gO, 0, none⟩) 0 (us.drop 0) by have h := Hrd2.out; rw [if_pos rfl] at h; rw [show l.length - 0 = 0 by omega] at h; exact h)
          have hlnil : l = [] := List.eq_nil_of_length_eq_zero (by omega)
          refine z_region (fun _ => True) 14 (by kernel_rfl) ?_
          rw [← Hwz.out]
          refine z_take (i := 1) (v := ?_) rfl (by kernel_rfl) (by kernel_rfl) (by kernel_rfl) (fun _ _ _ h => h) (by kernel_rfl) (by decide) trivial (by rfl) (by intro w hSw; go_simp; rfl) ?_
          refine z_take (i := 2) (v := ?_) rfl (by kernel_rfl) (by kernel_rfl) (by kernel_rfl) (fun _ _ _ h => h) (by kernel_rfl) (by decide) trivial (by rfl) (by intro w hSw; go_simp; rfl) ?_
          refine z_take (i := 3) (v := .slice (some ⟨gO, 0, none⟩) 0 0) rfl (by kernel_rfl) (by kernel_rfl) (by kernel_rfl) (fun _ _ _ h => h) (by kernel_rfl) (by decide) trivial (by rfl) (by intro w hSw; go_simp) ?_
          refine z_take (i := 6) (v := ?_) rfl (by kernel_rfl) (by kernel_rfl) (by kernel_rfl) (fun _ _ _ h => h) (by kernel_rfl) (by decide) trivial (by rfl) (by intro w hSw; go_simp; rfl) ?_
          refine z_take (i := 10) (v := ?_) rfl (by kernel_rfl) (by kernel_rfl) (by kernel_rfl) (fun _ _ _ h => h) (by kernel_rfl) (by decide) trivial (by rfl) (by intro w hSw; go_simp; rfl) ?_
          refine z_take (i := 11) (v := ?_) rfl (by kernel_rfl) (by kernel_rfl) (by kernel_rfl) (fun _ _ _ h => h) (by kernel_rfl) (by decide) trivial (by rfl) (by intro w hSw; go_simp; rfl) ?_
          refine z_take (i := 12) (v := .slice (some ⟨gO, 0, none⟩) 0 0) rfl (by kernel_rfl) (by kernel_rfl) (by kernel_rfl) (fun _ _ _ h => h) (by kernel_rfl) (by decide) trivial (by rfl) (by intro w hSw; go_simp) ?_
          simp only [Act.put, List.setIfInBounds_toArray]
          refine z_two (i := 0) (j := 5) rfl rfl (by kernel_rfl) (by rfl) (by rfl) (fun K hK => ?_) (fun K hK => ?_)
          · go_simp
            refine hK _ _ (fun _ => trivial) ?_
            clear hK K
            refine z_two (i := 4) (j := 5) rfl rfl (by kernel_rfl) (by rfl) (by rfl) (fun K hK => ?_) (fun K hK => ?_)
            · refine wp_append_any _ _ _ 40 rfl wz.heap.size 26 j0 _ 1 24 Tryz.underlying40 hj0 yz0 yz1 yz2 rfl (by decide) (.slice (some ⟨wz.heap.size, 0, none⟩) 0 0) 0 [] (by rfl) (World.ownsRow_made wz #[] 0 (Nat.le_refl _) (Nat.zero_le _) rfl) wz.heap.size (some ⟨gO, 0, none⟩) 0 0 _ (by rfl) (Hrd1.out.alloc (Nat.le_refl _) _) (Hone1.out) (by unfold maxLen; omega) (by omega) (by first | (simp; done) | (simp; omega)) ?_
              intro v7 w7 hown7 hg7 hat7
              obtain ⟨A7, c7, ev7, _, _, _⟩ := own_form hown7
              rw [Nat.zero_add] at ev7
              subst ev7
              have HO7 := Lib.hid (show w7.ownsRow wz.heap.size 26 1 (.slice A7 0 c7) 0 (us.take 0) by simpa using hown7)
              have hB7 : Below wz.heap.size wz w7 := ((Below.refl wz.heap.size wz).alloc (Nat.le_refl _) _).grown hg7 (by simp; try omega) (fun b e => by have e2 : some (wz.heap.size) = some b := e; injection e2 with e2; omega)
              have HB7 := Lib.hid hB7
              have hs7 := hB7.size
              clear hown7 hg7 hat7 hB7
              refine hK _ _ (fun _ => trivial) ?_
              clear hK K
              refine z_one (i := 5) rfl (by kernel_rfl) (by rfl) (fun K hK => ?_)
              go_simp
              refine hK _ _ (fun _ => trivial) ?_
              clear hK K
              have HM8 := Lib.hid (World.ownsRow_made (base := wz.heap.size) (e := 3) (size := 1) w7 #[] 0 hs7 (Nat.zero_le _) rfl)
              have HO8 := Lib.hid (own_kept (w' := w7.alloc (.cells #[] 3)) (row := none) HO7.out (World.grownBy_alloc w7 _ none) (fun g e => by cases e))
              have HB8 := Lib.hid (HB7.out.alloc HB7.out.size (.cells #[] 3))
              have hs8 := HB8.out.size
              refine z_one (i := 7) rfl (by kernel_rfl) (by rfl) (fun K hK => ?_)
              refine wp_append_any _ _ _ 26 rfl wz.heap.size 3 i0 _ 1 8 Tryz.underlying26 hi0 hz0 hz1 hz2 rfl (by decide) (.slice (some ⟨w7.heap.size, 0, none⟩) 0 0) 0 [] (by rfl) (HM8.out) wz.heap.size Ax x.length cx _ (by rfl) (Hrz.out.below HB8.out) (Honex.out) (by unfold maxLen; omega) (by omega) (hs8) ?_
              intro v9 w9 hown9 hg9 hat9
              obtain ⟨A9, c9, ev9, _, _, _⟩ := own_form hown9
              rw [Nat.zero_add] at ev9
              subst ev9
              have HV9 := Lib.hid (show OwnInts w9 wz.heap.size (.slice A9 x.length c9) x by unfold OwnInts; simpa using hown9)
              have HO9 := Lib.hid (own_kept HO8.out hg9 (fun g e => own_own_ne HM8.out HO8.out (by decide) e))
              have HB9 := Lib.hid (HB8.out.grown hg9 HB8.out.size (own_row_ge HM8.out))
              have hs9 := HB9.out.size
              clear hown9 hg9 hat9
              refine hK _ _ (fun _ => trivial) ?_
              clear hK K
              refine z_one (i := 8) rfl (by kernel_rfl) (by rfl) (fun K hK => ?_)
              go_simp
              refine hK _ _ (fun _ => trivial) ?_
              clear hK K
              have HV10 := Lib.hid (show OwnInts (w9.alloc (.cells #[.slice A9 x.length c9] 26)) wz.heap.size (.slice A9 x.length c9) x from own_kept (row := none) HV9.out (World.grownBy_alloc w9 _ none) (fun g e => by cases e))
              have HO10 := Lib.hid (own_kept (w' := w9.alloc (.cells #[.slice A9 x.length c9] 26)) (row := none) HO9.out (World.grownBy_alloc w9 _ none) (fun g e => by cases e))
              have HB10 := Lib.hid (HB9.out.alloc HB9.out.size (.cells #[.slice A9 x.length c9] 26))
              have hs10 := HB10.out.size
              refine z_one (i := 9) rfl (by kernel_rfl) (by rfl) (fun K hK => ?_)
              refine wp_append_any _ _ _ 40 rfl wz.heap.size 26 j0 _ 1 24 Tryz.underlying40 hj0 yz0 yz1 yz2 rfl (by decide) (.slice A7 0 c7) 0 _ (by rfl) (HO10.out) (w9.heap.size + 1) (some ⟨w9.heap.size, 0, none⟩) 1 1 [.slice A9 x.length c9] (by rfl) (reads_one (Nat.lt_succ_self _) (cell_new0 _ _ _)) (by intro u hu; simp at hu; subst hu; rfl) (by unfold maxLen; omega) (by omega) (hs10) ?_
              intro v11 w11 hown11 hg11 hat11
              have HO11 := Lib.hid hown11
              have HV11 := Lib.hid (show OwnInts w11 wz.heap.size (.slice A9 x.length c9) x from own_kept HV10.out hg11 (fun g e => own_own_ne HO10.out HV10.out (by decide) e))
              have HB11 := Lib.hid (HB10.out.grown hg11 HB10.out.size (own_row_ge HO10.out))
              have hs11 := HB11.out.size
              obtain ⟨A11, c11, ev11, _, _, _⟩ := own_form hown11
              subst ev11
              clear hown11 hg11 hat11
              refine hK _ _ (fun _ => trivial) ?_
              clear hK K
              try simp only [Act.put, List.setIfInBounds_toArray]
              refine z_one (i := 13) rfl (by kernel_rfl) (by rfl) (fun K hK => ?_)
              refine wp_append_any _ _ _ 40 rfl wz.heap.size 26 j0 _ 1 24 Tryz.underlying40 hj0 yz0 yz1 yz2 rfl (by decide) (.slice A11 (0 + 1) c11) (0 + 1) _ (by rfl) (HO11.out) wz.heap.size _ 0 _ _ (by rfl) (by first | exact Hrd2.out.below HB11.out | exact Hrd3.out.below HB11.out) (Hone2.out) (by unfold maxLen; omega) (by omega) (hs11) ?_
              intro v13 w13 hown13 hg13 hat13
              have HV13 := Lib.hid (show OwnInts w13 wz.heap.size (.slice A9 x.length c9) x from own_kept HV11.out hg13 (fun g e => own_own_ne HO11.out HV11.out (by decide) e))
              have HB13 := Lib.hid (HB11.out.grown hg13 HB11.out.size (own_row_ge HO11.out))
              have HS13 := Lib.hid (ins_sets Husz.out.1 Husz.out.2 HB13.out (by omega) (m := 0) (by omega) (by omega) HV13.out hown13)
              clear hown13 hg13 hat13
              refine hK _ _ (fun _ => trivial) ?_
              clear hK K
              refine z_one (i := 14) rfl (by kernel_rfl) (by rfl) (fun K hK => ?_)
              go_simp
              refine hK _ _ (fun h => absurd rfl h) ?_
              clear hK K
              refine z_done (by kernel_rfl) ?_ _
              go_wp2
              go_ret
              first
                | exact ⟨_, _, rfl, HS13.out, Hins.out, fun z => Rk.ins_mem, HLz.out.trans (HB13.out.mono HLz.out.size)⟩
                | exact ⟨_, rfl, _, HS13.out, Hins.out, fun z => Rk.ins_mem, HLz.out.trans (HB13.out.mono HLz.out.size)⟩
                | exact ⟨_, rfl, _, HS13.out, Hins.out, fun z => (by have hn : l = [] := List.eq_nil_of_length_eq_zero (by omega); simp [hn]), HLz.out.trans (HB13.out.mono HLz.out.size)⟩
                | exact ⟨_, _, rfl, HS13.out, Hins.out, fun z => (by have h := @Rk.ins_mem l x z 0; have hn : l = [] := List.eq_nil_of_length_eq_zero (by omega); simpa [hn] using h), HLz.out.trans (HB13.out.mono HLz.out.size)⟩
            · go_simp
              refine hK _ _ (fun _ => trivial) ?_
              clear hK K
              refine z_one (i := 4) rfl (by kernel_rfl) (by rfl) (fun K hK => ?_)
              refine wp_append_any _ _ _ 40 rfl wz.heap.size 26 j0 _ 1 24 Tryz.underlying40 hj0 yz0 yz1 yz2 rfl (by decide) (.slice (some ⟨wz.heap.size, 0, none⟩) 0 0) 0 [] (by rfl) (own_kept (row := none) (World.ownsRow_made wz #[] 0 (Nat.le_refl _) (Nat.zero_le _) rfl) (World.grownBy_alloc _ _ none) (fun g e => by cases e)) wz.heap.size (some ⟨gO, 0, none⟩) 0 0 _ (by rfl) (Hrd1.out.alloc (Nat.le_refl _) _ |>.alloc (by simp) _) (Hone1.out) (by unfold maxLen; omega) (by omega) (by first | (simp; done) | (simp; omega)) ?_
              intro v7 w7 hown7 hg7 hat7
              obtain ⟨A7, c7, ev7, _, _, _⟩ := own_form hown7
              rw [Nat.zero_add] at ev7
              subst ev7
              have HO7 := Lib.hid (show w7.ownsRow wz.heap.size 26 1 (.slice A7 0 c7) 0 (us.take 0) by simpa using hown7)
              have hB7 : Below wz.heap.size wz w7 := (((Below.refl wz.heap.size wz).alloc (Nat.le_refl _) _).alloc (by simp) _).grown hg7 (by simp; try omega) (fun b e => by have e2 : some (wz.heap.size) = some b := e; injection e2 with e2; omega)
              have HM8 := Lib.hid (own_kept (made_nextT wz (.cells #[] 26) 3) hg7 (fun g e => by have e2 : some wz.heap.size = some g := e; injection e2 with e2; intro e3; have e4 : some (wz.heap.size + 1) = some g := e3; injection e4 with e4; omega))
              have HB7 := Lib.hid hB7
              have hs7 := hB7.size
              clear hown7 hg7 hat7 hB7
              refine hK _ _ (fun _ => trivial) ?_
              clear hK K
              have HO8 := HO7
              have HB8 := HB7
              have hs8 := HB8.out.size
              refine z_one (i := 7) rfl (by kernel_rfl) (by rfl) (fun K hK => ?_)
              refine wp_append_any _ _ _ 26 rfl wz.heap.size 3 i0 _ 1 8 Tryz.underlying26 hi0 hz0 hz1 hz2 rfl (by decide) (.slice (some ⟨(wz.heap.size + 1), 0, none⟩) 0 0) 0 [] (by rfl) (HM8.out) wz.heap.size Ax x.length cx _ (by rfl) (Hrz.out.below HB8.out) (Honex.out) (by unfold maxLen; omega) (by omega) (hs8) ?_
              intro v9 w9 hown9 hg9 hat9
              obtain ⟨A9, c9, ev9, _, _, _⟩ := own_form hown9
              rw [Nat.zero_add] at ev9
              subst ev9
              have HV9 := Lib.hid (show OwnInts w9 wz.heap.size (.slice A9 x.length c9) x by unfold OwnInts; simpa using hown9)
              have HO9 := Lib.hid (own_kept HO8.out hg9 (fun g e => own_own_ne HM8.out HO8.out (by decide) e))
              have HB9 := Lib.hid (HB8.out.grown hg9 HB8.out.size (own_row_ge HM8.out))
              have hs9 := HB9.out.size
              clear hown9 hg9 hat9
              refine hK _ _ (fun _ => trivial) ?_
              clear hK K
              refine z_one (i := 8) rfl (by kernel_rfl) (by rfl) (fun K hK => ?_)
              go_simp
              refine hK _ _ (fun _ => trivial) ?_
              clear hK K
              have HV10 := Lib.hid (show OwnInts (w9.alloc (.cells #[.slice A9 x.length c9] 26)) wz.heap.size (.slice A9 x.length c9) x from own_kept (row := none) HV9.out (World.grownBy_alloc w9 _ none) (fun g e => by cases e))
              have HO10 := Lib.hid (own_kept (w' := w9.alloc (.cells #[.slice A9 x.length c9] 26)) (row := none) HO9.out (World.grownBy_alloc w9 _ none) (fun g e => by cases e))
              have HB10 := Lib.hid (HB9.out.alloc HB9.out.size (.cells #[.slice A9 x.length c9] 26))
              have hs10 := HB10.out.size
              refine z_one (i := 9) rfl (by kernel_rfl) (by rfl) (fun K hK => ?_)
              refine wp_append_any _ _ _ 40 rfl wz.heap.size 26 j0 _ 1 24 Tryz.underlying40 hj0 yz0 yz1 yz2 rfl (by decide) (.slice A7 0 c7) 0 _ (by rfl) (HO10.out) (w9.heap.size + 1) (some ⟨w9.heap.size, 0, none⟩) 1 1 [.slice A9 x.length c9] (by rfl) (reads_one (Nat.lt_succ_self _) (cell_new0 _ _ _)) (by intro u hu; simp at hu; subst hu; rfl) (by unfold maxLen; omega) (by omega) (hs10) ?_
              intro v11 w11 hown11 hg11 hat11
              have HO11 := Lib.hid hown11
              have HV11 := Lib.hid (show OwnInts w11 wz.heap.size (.slice A9 x.length c9) x from own_kept HV10.out hg11 (fun g e => own_own_ne HO10.out HV10.out (by decide) e))
              have HB11 := Lib.hid (HB10.out.grown hg11 HB10.out.size (own_row_ge HO10.out))
              have hs11 := HB11.out.size
              obtain ⟨A11, c11, ev11, _, _, _⟩ := own_form hown11
              subst ev11
              clear hown11 hg11 hat11
              refine hK _ _ (fun _ => trivial) ?_
              clear hK K
              try simp only [Act.put, List.setIfInBounds_toArray]
              refine z_one (i := 13) rfl (by kernel_rfl) (by rfl) (fun K hK => ?_)
              refine wp_append_any _ _ _ 40 rfl wz.heap.size 26 j0 _ 1 24 Tryz.underlying40 hj0 yz0 yz1 yz2 rfl (by decide) (.slice A11 (0 + 1) c11) (0 + 1) _ (by rfl) (HO11.out) wz.heap.size _ 0 _ _ (by rfl) (by first | exact Hrd2.out.below HB11.out | exact Hrd3.out.below HB11.out) (Hone2.out) (by unfold maxLen; omega) (by omega) (hs11) ?_
              intro v13 w13 hown13 hg13 hat13
              have HV13 := Lib.hid (show OwnInts w13 wz.heap.size (.slice A9 x.length c9) x from own_kept HV11.out hg13 (fun g e => own_own_ne HO11.out HV11.out (by decide) e))
              have HB13 := Lib.hid (HB11.out.grown hg13 HB11.out.size (own_row_ge HO11.out))
              have HS13 := Lib.hid (ins_sets Husz.out.1 Husz.out.2 HB13.out (by omega) (m := 0) (by omega) (by omega) HV13.out hown13)
              clear hown13 hg13 hat13
              refine hK _ _ (fun _ => trivial) ?_
              clear hK K
              refine z_one (i := 14) rfl (by kernel_rfl) (by rfl) (fun K hK => ?_)
              go_simp
              refine hK _ _ (fun h => absurd rfl h) ?_
              clear hK K
              refine z_done (by kernel_rfl) ?_ _
              go_wp2
              go_ret
              first
                | exact ⟨_, _, rfl, HS13.out, Hins.out, fun z => Rk.ins_mem, HLz.out.trans (HB13.out.mono HLz.out.size)⟩
                | exact ⟨_, rfl, _, HS13.out, Hins.out, fun z => Rk.ins_mem, HLz.out.trans (HB13.out.mono HLz.out.size)⟩
                | exact ⟨_, rfl, _, HS13.out, Hins.out, fun z => (by have hn : l = [] := List.eq_nil_of_length_eq_zero (by omega); simp [hn]), HLz.out.trans (HB13.out.mono HLz.out.size)⟩
                | exact ⟨_, _, rfl, HS13.out, Hins.out, fun z => (by have h := @Rk.ins_mem l x z 0; have hn : l = [] := List.eq_nil_of_length_eq_zero (by omega); simpa [hn] using h), HLz.out.trans (HB13.out.mono HLz.out.size)⟩
          · go_simp
            refine hK _ _ (fun _ => trivial) ?_
            clear hK K
            refine z_one (i := 0) rfl (by kernel_rfl) (by rfl) (fun K hK => ?_)
            go_simp
            refine hK _ _ (fun _ => trivial) ?_
            clear hK K
            refine z_one (i := 4) rfl (by kernel_rfl) (by rfl) (fun K hK => ?_)
            refine wp_append_any _ _ _ 40 rfl wz.heap.size 26 j0 _ 1 24 Tryz.underlying40 hj0 yz0 yz1 yz2 rfl (by decide) (.slice (some ⟨wz.heap.size + 1, 0, none⟩) 0 0) 0 [] (by rfl) (made_nextT wz (.cells #[] 3) 26) wz.heap.size (some ⟨gO, 0, none⟩) 0 0 _ (by rfl) (Hrd1.out.alloc (Nat.le_refl _) _ |>.alloc (by simp) _) (Hone1.out) (by unfold maxLen; omega) (by omega) (by first | (simp; done) | (simp; omega)) ?_
            intro v7 w7 hown7 hg7 hat7
            obtain ⟨A7, c7, ev7, _, _, _⟩ := own_form hown7
            rw [Nat.zero_add] at ev7
            subst ev7
            have HO7 := Lib.hid (show w7.ownsRow wz.heap.size 26 1 (.slice A7 0 c7) 0 (us.take 0) by simpa using hown7)
            have hB7 : Below wz.heap.size wz w7 := (((Below.refl wz.heap.size wz).alloc (Nat.le_refl _) _).alloc (by simp) _).grown hg7 (by simp; try omega) (fun b e => by have e2 : some (wz.heap.size + 1) = some b := e; injection e2 with e2; omega)
            have HM8 := Lib.hid (own_kept (own_kept (row := none) (World.ownsRow_made (base := wz.heap.size) (e := 3) (size := 1) wz #[] 0 (Nat.le_refl _) (Nat.zero_le _) rfl) (World.grownBy_alloc _ _ none) (fun g e => by cases e)) hg7 (fun g e => by have e2 : some (wz.heap.size + 1) = some g := e; injection e2 with e2; intro e3; have e4 : some wz.heap.size = some g := e3; injection e4 with e4; omega))
            have HB7 := Lib.hid hB7
            have hs7 := hB7.size
            clear hown7 hg7 hat7 hB7
            refine hK _ _ (fun _ => trivial) ?_
            clear hK K
            have HO8 := HO7
            have HB8 := HB7
            have hs8 := HB8.out.size
            refine z_one (i := 7) rfl (by kernel_rfl) (by rfl) (fun K hK => ?_)
            refine wp_append_any _ _ _ 26 rfl wz.heap.size 3 i0 _ 1 8 Tryz.underlying26 hi0 hz0 hz1 hz2 rfl (by decide) (.slice (some ⟨wz.heap.size, 0, none⟩) 0 0) 0 [] (by rfl) (HM8.out) wz.heap.size Ax x.length cx _ (by rfl) (Hrz.out.below HB8.out) (Honex.out) (by unfold maxLen; omega) (by omega) (hs8) ?_
            intro v9 w9 hown9 hg9 hat9
            obtain ⟨A9, c9, ev9, _, _, _⟩ := own_form hown9
            rw [Nat.zero_add] at ev9
            subst ev9
            have HV9 := Lib.hid (show OwnInts w9 wz.heap.size (.slice A9 x.length c9) x by unfold OwnInts; simpa using hown9)
            have HO9 := Lib.hid (own_kept HO8.out hg9 (fun g e => own_own_ne HM8.out HO8.out (by decide) e))
            have HB9 := Lib.hid (HB8.out.grown hg9 HB8.out.size (own_row_ge HM8.out))
            have hs9 := HB9.out.size
            clear hown9 hg9 hat9
            refine hK _ _ (fun _ => trivial) ?_
            clear hK K
            refine z_one (i := 8) rfl (by kernel_rfl) (by rfl) (fun K hK => ?_)
            go_simp
            refine hK _ _ (fun _ => trivial) ?_
            clear hK K
            have HV10 := Lib.hid (show OwnInts (w9.alloc (.cells #[.slice A9 x.length c9] 26)) wz.heap.size (.slice A9 x.length c9) x from own_kept (row := none) HV9.out (World.grownBy_alloc w9 _ none) (fun g e => by cases e))
            have HO10 := Lib.hid (own_kept (w' := w9.alloc (.cells #[.slice A9 x.length c9] 26)) (row := none) HO9.out (World.grownBy_alloc w9 _ none) (fun g e => by cases e))
            have HB10 := Lib.hid (HB9.out.alloc HB9.out.size (.cells #[.slice A9 x.length c9] 26))
            have hs10 := HB10.out.size
            refine z_one (i := 9) rfl (by kernel_rfl) (by rfl) (fun K hK => ?_)
            refine wp_append_any _ _ _ 40 rfl wz.heap.size 26 j0 _ 1 24 Tryz.underlying40 hj0 yz0 yz1 yz2 rfl (by decide) (.slice A7 0 c7) 0 _ (by rfl) (HO10.out) (w9.heap.size + 1) (some ⟨w9.heap.size, 0, none⟩) 1 1 [.slice A9 x.length c9] (by rfl) (reads_one (Nat.lt_succ_self _) (cell_new0 _ _ _)) (by intro u hu; simp at hu; subst hu; rfl) (by unfold maxLen; omega) (by omega) (hs10) ?_
            intro v11 w11 hown11 hg11 hat11
            have HO11 := Lib.hid hown11
            have HV11 := Lib.hid (show OwnInts w11 wz.heap.size (.slice A9 x.length c9) x from own_kept HV10.out hg11 (fun g e => own_own_ne HO10.out HV10.out (by decide) e))
            have HB11 := Lib.hid (HB10.out.grown hg11 HB10.out.size (own_row_ge HO10.out))
            have hs11 := HB11.out.size
            obtain ⟨A11, c11, ev11, _, _, _⟩ := own_form hown11
            subst ev11
            clear hown11 hg11 hat11
            refine hK _ _ (fun _ => trivial) ?_
            clear hK K
            try simp only [Act.put, List.setIfInBounds_toArray]
            refine z_one (i := 13) rfl (by kernel_rfl) (by rfl) (fun K hK => ?_)
            refine wp_append_any _ _ _ 40 rfl wz.heap.size 26 j0 _ 1 24 Tryz.underlying40 hj0 yz0 yz1 yz2 rfl (by decide) (.slice A11 (0 + 1) c11) (0 + 1) _ (by rfl) (HO11.out) wz.heap.size _ 0 _ _ (by rfl) (by first | exact Hrd2.out.below HB11.out | exact Hrd3.out.below HB11.out) (Hone2.out) (by unfold maxLen; omega) (by omega) (hs11) ?_
            intro v13 w13 hown13 hg13 hat13
            have HV13 := Lib.hid (show OwnInts w13 wz.heap.size (.slice A9 x.length c9) x from own_kept HV11.out hg13 (fun g e => own_own_ne HO11.out HV11.out (by decide) e))
            have HB13 := Lib.hid (HB11.out.grown hg13 HB11.out.size (own_row_ge HO11.out))
            have HS13 := Lib.hid (ins_sets Husz.out.1 Husz.out.2 HB13.out (by omega) (m := 0) (by omega) (by omega) HV13.out hown13)
            clear hown13 hg13 hat13
            refine hK _ _ (fun _ => trivial) ?_
            clear hK K
            refine z_one (i := 14) rfl (by kernel_rfl) (by rfl) (fun K hK => ?_)
            go_simp
            refine hK _ _ (fun h => absurd rfl h) ?_
            clear hK K
            refine z_done (by kernel_rfl) ?_ _
            go_wp2
            go_ret
            first
              | exact ⟨_, _, rfl, HS13.out, Hins.out, fun z => Rk.ins_mem, HLz.out.trans (HB13.out.mono HLz.out.size)⟩
              | exact ⟨_, rfl, _, HS13.out, Hins.out, fun z => Rk.ins_mem, HLz.out.trans (HB13.out.mono HLz.out.size)⟩
              | exact ⟨_, rfl, _, HS13.out, Hins.out, fun z => (by have hn : l = [] := List.eq_nil_of_length_eq_zero (by omega); simp [hn]), HLz.out.trans (HB13.out.mono HLz.out.size)⟩
              | exact ⟨_, _, rfl, HS13.out, Hins.out, fun z => (by have h := @Rk.ins_mem l x z 0; have hn : l = [] := List.eq_nil_of_length_eq_zero (by omega); simpa [hn] using h), HLz.out.trans (HB13.out.mono HLz.out.size)⟩
        · obtain ⟨wz, hwz⟩ : ∃ wz, wz = (w.drewN q).drew := ⟨_, rfl⟩
          have Husz := Lib.hid (show wz.ownsRow b 26 1 (.slice (some ⟨gO, 0, none⟩) l.length c) l.length us ∧ ∀ i, i < l.length → ∃ u, us[i]? = some u ∧ OwnInts wz b u (l.getD i []) by rw [hwz]; exact Hus.out)
          have HLz := Lib.hid (show Below w.heap.size w wz by rw [hwz]; exact below_drewN (Below.refl _ _) (q + 1))
          have Hwz := Lib.hid hwz
          have hbz : b ≤ wz.heap.size := by rw [hwz]; exact hb
          have Hrz := Lib.hid (show Reads wz wz.heap.size 1 Ax x.length (x.map (.int .i64)) by rw [hwz]; exact Hrx.out)
          have Honex := Lib.hid (show ∀ u ∈ x.map (Value.int .i64), u.oneCell' = true from fun u hu => by obtain ⟨y, _, rfl⟩ := List.mem_map.1 hu; rfl)
          clear hwz
          have Honeu := Lib.hid (show ∀ u ∈ us, u.oneCell' = true from fun u hu => by
            obtain ⟨i, hi, rfl⟩ := List.mem_iff_getElem.1 hu
            have hl : us.length = l.length := by simpa using Husz.out.1.1
            obtain ⟨u', h1, h2⟩ := Husz.out.2 i (by omega)
            rw [List.getElem?_eq_getElem hi] at h1
            obtain ⟨A', c', e, -⟩ := own_form h2
            rw [Option.some.inj h1, e]; rfl)
          have Hone1 := Lib.hid (fun u (hu : u ∈ us.take 0) => Honeu.out u (List.mem_of_mem_take hu))
          have Hone2 := Lib.hid (fun u (hu : u ∈ us.drop 0) => Honeu.out u (List.mem_of_mem_drop hu))
          have Hrd := Lib.hid (Reads.of_own Husz.out.1)
          have Hrd1 := Lib.hid (show Reads wz wz.heap.size 1 (some ⟨gO, 0, none⟩) 0 (us.take 0) from reads_take1 Hrd.out (by omega))
          have Hrd2 := Lib.hid (show Reads wz wz.heap.size 1 (if c = 0 then ((some ⟨gO, 0, none⟩) : Option Addr) else ((some ⟨gO, 0, none⟩) : Option Addr).map (fun z => z.add 0)) (l.length - 0) (us.drop 0) by have h := Hrd.out.cut (k := 0) (cap := c) (by omega) hnc; simpa using h)
          have Hrd3 := Lib.hid (show Reads wz wz.heap.size 1 (some ⟨gO, 0, none⟩) l.length (us.drop 0) by have h := Hrd2.out; rw [if_neg hne] at h; simpa [Addr.add] using h)
          refine z_region (fun _ => True) 14 (by kernel_rfl) ?_
          rw [← Hwz.out]
          refine z_take (i := 1) (v := ?_) rfl (by kernel_rfl) (by kernel_rfl) (by kernel_rfl) (fun _ _ _ h => h) (by kernel_rfl) (by decide) trivial (by rfl) (by intro w hSw; go_simp; rfl) ?_
          refine z_take (i := 2) (v := ?_) rfl (by kernel_rfl) (by kernel_rfl) (by kernel_rfl) (fun _ _ _ h => h) (by kernel_rfl) (by decide) trivial (by rfl) (by intro w hSw; go_simp; rfl) ?_
          refine z_take (i := 3) (v := .slice (some ⟨gO, 0, none⟩) 0 c) rfl (by kernel_rfl) (by kernel_rfl) (by kernel_rfl) (fun _ _ _ h => h) (by kernel_rfl) (by decide) trivial (by rfl) (by intro w hSw; go_simp) ?_
          refine z_take (i := 6) (v := ?_) rfl (by kernel_rfl) (by kernel_rfl) (by kernel_rfl) (fun _ _ _ h => h) (by kernel_rfl) (by decide) trivial (by rfl) (by intro w hSw; go_simp; rfl) ?_
          refine z_take (i := 10) (v := ?_) rfl (by kernel_rfl) (by kernel_rfl) (by kernel_rfl) (fun _ _ _ h => h) (by kernel_rfl) (by decide) trivial (by rfl) (by intro w hSw; go_simp; rfl) ?_
          refine z_take (i := 11) (v := ?_) rfl (by kernel_rfl) (by kernel_rfl) (by kernel_rfl) (fun _ _ _ h => h) (by kernel_rfl) (by decide) trivial (by rfl) (by intro w hSw; go_simp; rfl) ?_
          refine z_take (i := 12) (v := .slice (some ⟨gO, 0, none⟩) l.length c) rfl (by kernel_rfl) (by kernel_rfl) (by kernel_rfl) (fun _ _ _ h => h) (by kernel_rfl) (by decide) trivial (by rfl) (by intro w hSw; go_simp) ?_
          simp only [Act.put, List.setIfInBounds_toArray]
          refine z_two (i := 0) (j := 5) rfl rfl (by kernel_rfl) (by rfl) (by rfl) (fun K hK => ?_) (fun K hK => ?_)
          · go_simp
            refine hK _ _ (fun _ => trivial) ?_
            clear hK K
            refine z_two (i := 4) (j := 5) rfl rfl (by kernel_rfl) (by rfl) (by rfl) (fun K hK => ?_) (fun K hK => ?_)
            · refine wp_append_any _ _ _ 40 rfl wz.heap.size 26 j0 _ 1 24 Tryz.underlying40 hj0 yz0 yz1 yz2 rfl (by decide) (.slice (some ⟨wz.heap.size, 0, none⟩) 0 0) 0 [] (by rfl) (World.ownsRow_made wz #[] 0 (Nat.le_refl _) (Nat.zero_le _) rfl) wz.heap.size (some ⟨gO, 0, none⟩) 0 c _ (by rfl) (Hrd1.out.alloc (Nat.le_refl _) _) (Hone1.out) (by unfold maxLen; omega) (by omega) (by first | (simp; done) | (simp; omega)) ?_
              intro v7 w7 hown7 hg7 hat7
              obtain ⟨A7, c7, ev7, _, _, _⟩ := own_form hown7
              rw [Nat.zero_add] at ev7
              subst ev7
              have HO7 := Lib.hid (show w7.ownsRow wz.heap.size 26 1 (.slice A7 0 c7) 0 (us.take 0) by simpa using hown7)
              have hB7 : Below wz.heap.size wz w7 := ((Below.refl wz.heap.size wz).alloc (Nat.le_refl _) _).grown hg7 (by simp; try omega) (fun b e => by have e2 : some (wz.heap.size) = some b := e; injection e2 with e2; omega)
              have HB7 := Lib.hid hB7
              have hs7 := hB7.size
              clear hown7 hg7 hat7 hB7
              refine hK _ _ (fun _ => trivial) ?_
              clear hK K
              refine z_one (i := 5) rfl (by kernel_rfl) (by rfl) (fun K hK => ?_)
              go_simp
              refine hK _ _ (fun _ => trivial) ?_
              clear hK K
              have HM8 := Lib.hid (World.ownsRow_made (base := wz.heap.size) (e := 3) (size := 1) w7 #[] 0 hs7 (Nat.zero_le _) rfl)
              have HO8 := Lib.hid (own_kept (w' := w7.alloc (.cells #[] 3)) (row := none) HO7.out (World.grownBy_alloc w7 _ none) (fun g e => by cases e))
              have HB8 := Lib.hid (HB7.out.alloc HB7.out.size (.cells #[] 3))
              have hs8 := HB8.out.size
              refine z_one (i := 7) rfl (by kernel_rfl) (by rfl) (fun K hK => ?_)
              refine wp_append_any _ _ _ 26 rfl wz.heap.size 3 i0 _ 1 8 Tryz.underlying26 hi0 hz0 hz1 hz2 rfl (by decide) (.slice (some ⟨w7.heap.size, 0, none⟩) 0 0) 0 [] (by rfl) (HM8.out) wz.heap.size Ax x.length cx _ (by rfl) (Hrz.out.below HB8.out) (Honex.out) (by unfold maxLen; omega) (by omega) (hs8) ?_
              intro v9 w9 hown9 hg9 hat9
              obtain ⟨A9, c9, ev9, _, _, _⟩ := own_form hown9
              rw [Nat.zero_add] at ev9
              subst ev9
              have HV9 := Lib.hid (show OwnInts w9 wz.heap.size (.slice A9 x.length c9) x by unfold OwnInts; simpa using hown9)
              have HO9 := Lib.hid (own_kept HO8.out hg9 (fun g e => own_own_ne HM8.out HO8.out (by decide) e))
              have HB9 := Lib.hid (HB8.out.grown hg9 HB8.out.size (own_row_ge HM8.out))
              have hs9 := HB9.out.size
              clear hown9 hg9 hat9
              refine hK _ _ (fun _ => trivial) ?_
              clear hK K
              refine z_one (i := 8) rfl (by kernel_rfl) (by rfl) (fun K hK => ?_)
              go_simp
              refine hK _ _ (fun _ => trivial) ?_
              clear hK K
              have HV10 := Lib.hid (show OwnInts (w9.alloc (.cells #[.slice A9 x.length c9] 26)) wz.heap.size (.slice A9 x.length c9) x from own_kept (row := none) HV9.out (World.grownBy_alloc w9 _ none) (fun g e => by cases e))
              have HO10 := Lib.hid (own_kept (w' := w9.alloc (.cells #[.slice A9 x.length c9] 26)) (row := none) HO9.out (World.grownBy_alloc w9 _ none) (fun g e => by cases e))
              have HB10 := Lib.hid (HB9.out.alloc HB9.out.size (.cells #[.slice A9 x.length c9] 26))
              have hs10 := HB10.out.size
              refine z_one (i := 9) rfl (by kernel_rfl) (by rfl) (fun K hK => ?_)
              refine wp_append_any _ _ _ 40 rfl wz.heap.size 26 j0 _ 1 24 Tryz.underlying40 hj0 yz0 yz1 yz2 rfl (by decide) (.slice A7 0 c7) 0 _ (by rfl) (HO10.out) (w9.heap.size + 1) (some ⟨w9.heap.size, 0, none⟩) 1 1 [.slice A9 x.length c9] (by rfl) (reads_one (Nat.lt_succ_self _) (cell_new0 _ _ _)) (by intro u hu; simp at hu; subst hu; rfl) (by unfold maxLen; omega) (by omega) (hs10) ?_
              intro v11 w11 hown11 hg11 hat11
              have HO11 := Lib.hid hown11
              have HV11 := Lib.hid (show OwnInts w11 wz.heap.size (.slice A9 x.length c9) x from own_kept HV10.out hg11 (fun g e => own_own_ne HO10.out HV10.out (by decide) e))
              have HB11 := Lib.hid (HB10.out.grown hg11 HB10.out.size (own_row_ge HO10.out))
              have hs11 := HB11.out.size
              obtain ⟨A11, c11, ev11, _, _, _⟩ := own_form hown11
              subst ev11
              clear hown11 hg11 hat11
              refine hK _ _ (fun _ => trivial) ?_
              clear hK K
              try simp only [Act.put, List.setIfInBounds_toArray]
              refine z_one (i := 13) rfl (by kernel_rfl) (by rfl) (fun K hK => ?_)
              refine wp_append_any _ _ _ 40 rfl wz.heap.size 26 j0 _ 1 24 Tryz.underlying40 hj0 yz0 yz1 yz2 rfl (by decide) (.slice A11 (0 + 1) c11) (0 + 1) _ (by rfl) (HO11.out) wz.heap.size _ l.length _ _ (by rfl) (by first | exact Hrd2.out.below HB11.out | exact Hrd3.out.below HB11.out) (Hone2.out) (by unfold maxLen; omega) (by omega) (hs11) ?_
              intro v13 w13 hown13 hg13 hat13
              have HV13 := Lib.hid (show OwnInts w13 wz.heap.size (.slice A9 x.length c9) x from own_kept HV11.out hg13 (fun g e => own_own_ne HO11.out HV11.out (by decide) e))
              have HB13 := Lib.hid (HB11.out.grown hg13 HB11.out.size (own_row_ge HO11.out))
              have HS13 := Lib.hid (ins_sets Husz.out.1 Husz.out.2 HB13.out (by omega) (m := l.length) (by omega) (by omega) HV13.out hown13)
              clear hown13 hg13 hat13
              refine hK _ _ (fun _ => trivial) ?_
              clear hK K
              refine z_one (i := 14) rfl (by kernel_rfl) (by rfl) (fun K hK => ?_)
              go_simp
              refine hK _ _ (fun h => absurd rfl h) ?_
              clear hK K
              refine z_done (by kernel_rfl) ?_ _
              go_wp2
              go_ret
              first
                | exact ⟨_, _, rfl, HS13.out, Hins.out, fun z => Rk.ins_mem, HLz.out.trans (HB13.out.mono HLz.out.size)⟩
                | exact ⟨_, rfl, _, HS13.out, Hins.out, fun z => Rk.ins_mem, HLz.out.trans (HB13.out.mono HLz.out.size)⟩
                | exact ⟨_, rfl, _, HS13.out, Hins.out, fun z => (by have hn : l = [] := List.eq_nil_of_length_eq_zero (by omega); simp [hn]), HLz.out.trans (HB13.out.mono HLz.out.size)⟩
                | exact ⟨_, _, rfl, HS13.out, Hins.out, fun z => (by have h := @Rk.ins_mem l x z 0; have hn : l = [] := List.eq_nil_of_length_eq_zero (by omega); simpa [hn] using h), HLz.out.trans (HB13.out.mono HLz.out.size)⟩
            · go_simp
              refine hK _ _ (fun _ => trivial) ?_
              clear hK K
              refine z_one (i := 4) rfl (by kernel_rfl) (by rfl) (fun K hK => ?_)
              refine wp_append_any _ _ _ 40 rfl wz.heap.size 26 j0 _ 1 24 Tryz.underlying40 hj0 yz0 yz1 yz2 rfl (by decide) (.slice (some ⟨wz.heap.size, 0, none⟩) 0 0) 0 [] (by rfl) (own_kept (row := none) (World.ownsRow_made wz #[] 0 (Nat.le_refl _) (Nat.zero_le _) rfl) (World.grownBy_alloc _ _ none) (fun g e => by cases e)) wz.heap.size (some ⟨gO, 0, none⟩) 0 c _ (by rfl) (Hrd1.out.alloc (Nat.le_refl _) _ |>.alloc (by simp) _) (Hone1.out) (by unfold maxLen; omega) (by omega) (by first | (simp; done) | (simp; omega)) ?_
              intro v7 w7 hown7 hg7 hat7
              obtain ⟨A7, c7, ev7, _, _, _⟩ := own_form hown7
              rw [Nat.zero_add] at ev7
              subst ev7
              have HO7 := Lib.hid (show w7.ownsRow wz.heap.size 26 1 (.slice A7 0 c7) 0 (us.take 0) by simpa using hown7)
              have hB7 : Below wz.heap.size wz w7 := (((Below.refl wz.heap.size wz).alloc (Nat.le_refl _) _).alloc (by simp) _).grown hg7 (by simp; try omega) (fun b e => by have e2 : some (wz.heap.size) = some b := e; injection e2 with e2; omega)
              have HM8 := Lib.hid (own_kept (made_nextT wz (.cells #[] 26) 3) hg7 (fun g e => by have e2 : some wz.heap.size = some g := e; injection e2 with e2; intro e3; have e4 : some (wz.heap.size + 1) = some g := e3; injection e4 with e4; omega))
              have HB7 := Lib.hid hB7
              have hs7 := hB7.size
              clear hown7 hg7 hat7 hB7
              refine hK _ _ (fun _ => trivial) ?_
              clear hK K
              have HO8 := HO7
              have HB8 := HB7
              have hs8 := HB8.out.size
              refine z_one (i := 7) rfl (by kernel_rfl) (by rfl) (fun K hK => ?_)
              refine wp_append_any _ _ _ 26 rfl wz.heap.size 3 i0 _ 1 8 Tryz.underlying26 hi0 hz0 hz1 hz2 rfl (by decide) (.slice (some ⟨(wz.heap.size + 1), 0, none⟩) 0 0) 0 [] (by rfl) (HM8.out) wz.heap.size Ax x.length cx _ (by rfl) (Hrz.out.below HB8.out) (Honex.out) (by unfold maxLen; omega) (by omega) (hs8) ?_
              intro v9 w9 hown9 hg9 hat9
              obtain ⟨A9, c9, ev9, _, _, _⟩ := own_form hown9
              rw [Nat.zero_add] at ev9
              subst ev9
              have HV9 := Lib.hid (show OwnInts w9 wz.heap.size (.slice A9 x.length c9) x by unfold OwnInts; simpa using hown9)
              have HO9 := Lib.hid (own_kept HO8.out hg9 (fun g e => own_own_ne HM8.out HO8.out (by decide) e))
              have HB9 := Lib.hid (HB8.out.grown hg9 HB8.out.size (own_row_ge HM8.out))
              have hs9 := HB9.out.size
              clear hown9 hg9 hat9
              refine hK _ _ (fun _ => trivial) ?_
              clear hK K
              refine z_one (i := 8) rfl (by kernel_rfl) (by rfl) (fun K hK => ?_)
              go_simp
              refine hK _ _ (fun _ => trivial) ?_
              clear hK K
              have HV10 := Lib.hid (show OwnInts (w9.alloc (.cells #[.slice A9 x.length c9] 26)) wz.heap.size (.slice A9 x.length c9) x from own_kept (row := none) HV9.out (World.grownBy_alloc w9 _ none) (fun g e => by cases e))
              have HO10 := Lib.hid (own_kept (w' := w9.alloc (.cells #[.slice A9 x.length c9] 26)) (row := none) HO9.out (World.grownBy_alloc w9 _ none) (fun g e => by cases e))
              have HB10 := Lib.hid (HB9.out.alloc HB9.out.size (.cells #[.slice A9 x.length c9] 26))
              have hs10 := HB10.out.size
              refine z_one (i := 9) rfl (by kernel_rfl) (by rfl) (fun K hK => ?_)
              refine wp_append_any _ _ _ 40 rfl wz.heap.size 26 j0 _ 1 24 Tryz.underlying40 hj0 yz0 yz1 yz2 rfl (by decide) (.slice A7 0 c7) 0 _ (by rfl) (HO10.out) (w9.heap.size + 1) (some ⟨w9.heap.size, 0, none⟩) 1 1 [.slice A9 x.length c9] (by rfl) (reads_one (Nat.lt_succ_self _) (cell_new0 _ _ _)) (by intro u hu; simp at hu; subst hu; rfl) (by unfold maxLen; omega) (by omega) (hs10) ?_
              intro v11 w11 hown11 hg11 hat11
              have HO11 := Lib.hid hown11
              have HV11 := Lib.hid (show OwnInts w11 wz.heap.size (.slice A9 x.length c9) x from own_kept HV10.out hg11 (fun g e => own_own_ne HO10.out HV10.out (by decide) e))
              have HB11 := Lib.hid (HB10.out.grown hg11 HB10.out.size (own_row_ge HO10.out))
              have hs11 := HB11.out.size
              obtain ⟨A11, c11, ev11, _, _, _⟩ := own_form hown11
              subst ev11
              clear hown11 hg11 hat11
              refine hK _ _ (fun _ => trivial) ?_
              clear hK K
              try simp only [Act.put, List.setIfInBounds_toArray]
              refine z_one (i := 13) rfl (by kernel_rfl) (by rfl) (fun K hK => ?_)
              refine wp_append_any _ _ _ 40 rfl wz.heap.size 26 j0 _ 1 24 Tryz.underlying40 hj0 yz0 yz1 yz2 rfl (by decide) (.slice A11 (0 + 1) c11) (0 + 1) _ (by rfl) (HO11.out) wz.heap.size _ l.length _ _ (by rfl) (by first | exact Hrd2.out.below HB11.out | exact Hrd3.out.below HB11.out) (Hone2.out) (by unfold maxLen; omega) (by omega) (hs11) ?_
              intro v13 w13 hown13 hg13 hat13
              have HV13 := Lib.hid (show OwnInts w13 wz.heap.size (.slice A9 x.length c9) x from own_kept HV11.out hg13 (fun g e => own_own_ne HO11.out HV11.out (by decide) e))
              have HB13 := Lib.hid (HB11.out.grown hg13 HB11.out.size (own_row_ge HO11.out))
              have HS13 := Lib.hid (ins_sets Husz.out.1 Husz.out.2 HB13.out (by omega) (m := l.length) (by omega) (by omega) HV13.out hown13)
              clear hown13 hg13 hat13
              refine hK _ _ (fun _ => trivial) ?_
              clear hK K
              refine z_one (i := 14) rfl (by kernel_rfl) (by rfl) (fun K hK => ?_)
              go_simp
              refine hK _ _ (fun h => absurd rfl h) ?_
              clear hK K
              refine z_done (by kernel_rfl) ?_ _
              go_wp2
              go_ret
              first
                | exact ⟨_, _, rfl, HS13.out, Hins.out, fun z => Rk.ins_mem, HLz.out.trans (HB13.out.mono HLz.out.size)⟩
                | exact ⟨_, rfl, _, HS13.out, Hins.out, fun z => Rk.ins_mem, HLz.out.trans (HB13.out.mono HLz.out.size)⟩
                | exact ⟨_, rfl, _, HS13.out, Hins.out, fun z => (by have hn : l = [] := List.eq_nil_of_length_eq_zero (by omega); simp [hn]), HLz.out.trans (HB13.out.mono HLz.out.size)⟩
                | exact ⟨_, _, rfl, HS13.out, Hins.out, fun z => (by have h := @Rk.ins_mem l x z 0; have hn : l = [] := List.eq_nil_of_length_eq_zero (by omega); simpa [hn] using h), HLz.out.trans (HB13.out.mono HLz.out.size)⟩
          · go_simp
            refine hK _ _ (fun _ => trivial) ?_
            clear hK K
            refine z_one (i := 0) rfl (by kernel_rfl) (by rfl) (fun K hK => ?_)
            go_simp
            refine hK _ _ (fun _ => trivial) ?_
            clear hK K
            refine z_one (i := 4) rfl (by kernel_rfl) (by rfl) (fun K hK => ?_)
            refine wp_append_any _ _ _ 40 rfl wz.heap.size 26 j0 _ 1 24 Tryz.underlying40 hj0 yz0 yz1 yz2 rfl (by decide) (.slice (some ⟨wz.heap.size + 1, 0, none⟩) 0 0) 0 [] (by rfl) (made_nextT wz (.cells #[] 3) 26) wz.heap.size (some ⟨gO, 0, none⟩) 0 c _ (by rfl) (Hrd1.out.alloc (Nat.le_refl _) _ |>.alloc (by simp) _) (Hone1.out) (by unfold maxLen; omega) (by omega) (by first | (simp; done) | (simp; omega)) ?_
            intro v7 w7 hown7 hg7 hat7
            obtain ⟨A7, c7, ev7, _, _, _⟩ := own_form hown7
            rw [Nat.zero_add] at ev7
            subst ev7
            have HO7 := Lib.hid (show w7.ownsRow wz.heap.size 26 1 (.slice A7 0 c7) 0 (us.take 0) by simpa using hown7)
            have hB7 : Below wz.heap.size wz w7 := (((Below.refl wz.heap.size wz).alloc (Nat.le_refl _) _).alloc (by simp) _).grown hg7 (by simp; try omega) (fun b e => by have e2 : some (wz.heap.size + 1) = some b := e; injection e2 with e2; omega)
            have HM8 := Lib.hid (own_kept (own_kept (row := none) (World.ownsRow_made (base := wz.heap.size) (e := 3) (size := 1) wz #[] 0 (Nat.le_refl _) (Nat.zero_le _) rfl) (World.grownBy_alloc _ _ none) (fun g e => by cases e)) hg7 (fun g e => by have e2 : some (wz.heap.size + 1) = some g := e; injection e2 with e2; intro e3; have e4 : some wz.heap.size = some g := e3; injection e4 with e4; omega))
            have HB7 := Lib.hid hB7
            have hs7 := hB7.size
            clear hown7 hg7 hat7 hB7
            refine hK _ _ (fun _ => trivial) ?_
            clear hK K
            have HO8 := HO7
            have HB8 := HB7
            have hs8 := HB8.out.size
            refine z_one (i := 7) rfl (by kernel_rfl) (by rfl) (fun K hK => ?_)
            refine wp_append_any _ _ _ 26 rfl wz.heap.size 3 i0 _ 1 8 Tryz.underlying26 hi0 hz0 hz1 hz2 rfl (by decide) (.slice (some ⟨wz.heap.size, 0, none⟩) 0 0) 0 [] (by rfl) (HM8.out) wz.heap.size Ax x.length cx _ (by rfl) (Hrz.out.below HB8.out) (Honex.out) (by unfold maxLen; omega) (by omega) (hs8) ?_
            intro v9 w9 hown9 hg9 hat9
            obtain ⟨A9, c9, ev9, _, _, _⟩ := own_form hown9
            rw [Nat.zero_add] at ev9
            subst ev9
            have HV9 := Lib.hid (show OwnInts w9 wz.heap.size (.slice A9 x.length c9) x by unfold OwnInts; simpa using hown9)
            have HO9 := Lib.hid (own_kept HO8.out hg9 (fun g e => own_own_ne HM8.out HO8.out (by decide) e))
            have HB9 := Lib.hid (HB8.out.grown hg9 HB8.out.size (own_row_ge HM8.out))
            have hs9 := HB9.out.size
            clear hown9 hg9 hat9
            refine hK _ _ (fun _ => trivial) ?_
            clear hK K
            refine z_one (i := 8) rfl (by kernel_rfl) (by rfl) (fun K hK => ?_)
            go_simp
            refine hK _ _ (fun _ => trivial) ?_
            clear hK K
            have HV10 := Lib.hid (show OwnInts (w9.alloc (.cells #[.slice A9 x.length c9] 26)) wz.heap.size (.slice A9 x.length c9) x from own_kept (row := none) HV9.out (World.grownBy_alloc w9 _ none) (fun g e => by cases e))
            have HO10 := Lib.hid (own_kept (w' := w9.alloc (.cells #[.slice A9 x.length c9] 26)) (row := none) HO9.out (World.grownBy_alloc w9 _ none) (fun g e => by cases e))
            have HB10 := Lib.hid (HB9.out.alloc HB9.out.size (.cells #[.slice A9 x.length c9] 26))
            have hs10 := HB10.out.size
            refine z_one (i := 9) rfl (by kernel_rfl) (by rfl) (fun K hK => ?_)
            refine wp_append_any _ _ _ 40 rfl wz.heap.size 26 j0 _ 1 24 Tryz.underlying40 hj0 yz0 yz1 yz2 rfl (by decide) (.slice A7 0 c7) 0 _ (by rfl) (HO10.out) (w9.heap.size + 1) (some ⟨w9.heap.size, 0, none⟩) 1 1 [.slice A9 x.length c9] (by rfl) (reads_one (Nat.lt_succ_self _) (cell_new0 _ _ _)) (by intro u hu; simp at hu; subst hu; rfl) (by unfold maxLen; omega) (by omega) (hs10) ?_
            intro v11 w11 hown11 hg11 hat11
            have HO11 := Lib.hid hown11
            have HV11 := Lib.hid (show OwnInts w11 wz.heap.size (.slice A9 x.length c9) x from own_kept HV10.out hg11 (fun g e => own_own_ne HO10.out HV10.out (by decide) e))
            have HB11 := Lib.hid (HB10.out.grown hg11 HB10.out.size (own_row_ge HO10.out))
            have hs11 := HB11.out.size
            obtain ⟨A11, c11, ev11, _, _, _⟩ := own_form hown11
            subst ev11
            clear hown11 hg11 hat11
            refine hK _ _ (fun _ => trivial) ?_
            clear hK K
            try simp only [Act.put, List.setIfInBounds_toArray]
            refine z_one (i := 13) rfl (by kernel_rfl) (by rfl) (fun K hK => ?_)
            refine wp_append_any _ _ _ 40 rfl wz.heap.size 26 j0 _ 1 24 Tryz.underlying40 hj0 yz0 yz1 yz2 rfl (by decide) (.slice A11 (0 + 1) c11) (0 + 1) _ (by rfl) (HO11.out) wz.heap.size _ l.length _ _ (by rfl) (by first | exact Hrd2.out.below HB11.out | exact Hrd3.out.below HB11.out) (Hone2.out) (by unfold maxLen; omega) (by omega) (hs11) ?_
            intro v13 w13 hown13 hg13 hat13
            have HV13 := Lib.hid (show OwnInts w13 wz.heap.size (.slice A9 x.length c9) x from own_kept HV11.out hg13 (fun g e => own_own_ne HO11.out HV11.out (by decide) e))
            have HB13 := Lib.hid (HB11.out.grown hg13 HB11.out.size (own_row_ge HO11.out))
            have HS13 := Lib.hid (ins_sets Husz.out.1 Husz.out.2 HB13.out (by omega) (m := l.length) (by omega) (by omega) HV13.out hown13)
            clear hown13 hg13 hat13
            refine hK _ _ (fun _ => trivial) ?_
            clear hK K
            refine z_one (i := 14) rfl (by kernel_rfl) (by rfl) (fun K hK => ?_)
            go_simp
            refine hK _ _ (fun h => absurd rfl h) ?_
            clear hK K
            refine z_done (by kernel_rfl) ?_ _
            go_wp2
            go_ret
            first
              | exact ⟨_, _, rfl, HS13.out, Hins.out, fun z => Rk.ins_mem, HLz.out.trans (HB13.out.mono HLz.out.size)⟩
              | exact ⟨_, rfl, _, HS13.out, Hins.out, fun z => Rk.ins_mem, HLz.out.trans (HB13.out.mono HLz.out.size)⟩
              | exact ⟨_, rfl, _, HS13.out, Hins.out, fun z => (by have hn : l = [] := List.eq_nil_of_length_eq_zero (by omega); simp [hn]), HLz.out.trans (HB13.out.mono HLz.out.size)⟩
              | exact ⟨_, _, rfl, HS13.out, Hins.out, fun z => (by have h := @Rk.ins_mem l x z 0; have hn : l = [] := List.eq_nil_of_length_eq_zero (by omega); simpa [hn] using h), HLz.out.trans (HB13.out.mono HLz.out.size)⟩
    · obtain ⟨gO, rfl⟩ : ∃ g, A = some ⟨g, 0, none⟩ := (own_two2 Hus.out.1).resolve_left (by omega)
      obtain ⟨ub, hub, hAh, hIn⟩ := HAh.out b' (by omega) q
      have c_u : w.cell? ⟨gO, b', none⟩ = some ub := own_cell Hus.out.1 hub
      have HA := Lib.hid hAh
      have HI := Lib.hid (fun q => (HAh.out b' (by omega) q))
      have hbk : (b' : Int) < (l.length : Int) := by omega
      have z3 : decide ((0 : Int) < (b' : Int) + 1) = true := decide_eq_true (by omega)
      clear hAh hIn
      by_cases hlt : Rk.ord x (l.getD b' []) < 0
      · have Hab := Lib.hid (show ∀ p, b' ≤ p → p < l.length → Rk.ord x (l.getD p []) < 0 from fun p h1 h2 => by
          by_cases e : p = b'
          · rw [e]; exact hlt
          · exact hab.out p (by omega) h2)
        rw [decide_eq_true hlt] at HA
        clear hlt hab
        go_wp2_with fail
        refine HA.out.mono ?_
        rintro e w2 ⟨rfl, q2, rfl⟩
        go_wp2
        go_roundg b'
        case rel => exact ⟨b', _, by omega, rfl, by go_num, rfl, Hab⟩
        case measure => rw [Hg.out]; omega
      · rw [decide_eq_false hlt] at HA
        go_wp2_with fail
        refine HA.out.mono ?_
        rintro e w2 ⟨rfl, q2, rfl⟩
        obtain ⟨ub', hub', _, hIn⟩ := HI.out q2
        obtain rfl : ub' = ub := by rw [hub] at hub'; exact (Option.some.inj hub').symm
        have HIn := Lib.hid hIn
        clear hIn
        by_cases he : l.getD b' [] = x
        · rw [decide_eq_true he] at HIn
          have Hm := Lib.hid (show ∀ z, z ∈ l ↔ z ∈ l ∨ z = x from fun z => ⟨.inl, fun h => h.elim id fun h => by rw [h, ← he]; exact Rk.memD (by omega)⟩)
          clear he hlt hab
          go_wp2_with fail
          refine HIn.out.mono ?_
          rintro e w3 ⟨rfl, q3, rfl⟩
          go_wp2
          go_ret
          exact ⟨_, l, rfl, ⟨us, Hus.out.1, Hus.out.2⟩, Hs.out, Hm.out, below_drewN (Below.refl _ _) q3⟩
        · rw [decide_eq_false he] at HIn
          have Hins := Lib.hid (Hs.out.ins (x := x) (i := b' + 1) hab.out (.inr (by
            have h1 := Rk.ord_swap x (l.getD b' [])
            rcases Int.lt_or_le (Rk.ord (l.getD b' []) x) 0 with h | h
            · exact h
            · exact absurd (Rk.ord_eq (show Rk.ord (l.getD b' []) x = 0 by omega)) he)) ha)
          clear he hlt hab
          go_wp2_with fail
          refine HIn.out.mono ?_
          rintro e w3 ⟨rfl, q3, rfl⟩
          have v1 : (0 : Int) ≤ (b' : Int) + 1 := by omega
          have v2 : (b' : Int) + 1 ≤ (l.length : Int) := by omega
          have v3 : (l.length : Int) ≤ (c : Int) := by omega
          have v4 : (b' : Int) + 1 ≤ (c : Int) := by omega
          go_wp2
          obtain ⟨wz, hwz⟩ : ∃ wz, wz = (w.drewN q3).drew := ⟨_, rfl⟩
          have Husz := Lib.hid (show wz.ownsRow b 26 1 (.slice (some ⟨gO, 0, none⟩) l.length c) l.length us ∧ ∀ i, i < l.length → ∃ u, us[i]? = some u ∧ OwnInts wz b u (l.getD i []) by rw [hwz]; exact Hus.out)
          have HLz := Lib.hid (show Below w.heap.size w wz by rw [hwz]; exact below_drewN (Below.refl _ _) (q3 + 1))
          have Hwz := Lib.hid hwz
          have hbz : b ≤ wz.heap.size := by rw [hwz]; exact hb
          have Hrz := Lib.hid (show Reads wz wz.heap.size 1 Ax x.length (x.map (.int .i64)) by rw [hwz]; exact Hrx.out)
          have Honex := Lib.hid (show ∀ u ∈ x.map (Value.int .i64), u.oneCell' = true from fun u hu => by obtain ⟨y, _, rfl⟩ := List.mem_map.1 hu; rfl)
          clear hwz
          have Honeu := Lib.hid (show ∀ u ∈ us, u.oneCell' = true from fun u hu => by
            obtain ⟨i, hi, rfl⟩ := List.mem_iff_getElem.1 hu
            have hl : us.length = l.length := by simpa using Husz.out.1.1
            obtain ⟨u', h1, h2⟩ := Husz.out.2 i (by omega)
            rw [List.getElem?_eq_getElem hi] at h1
            obtain ⟨A', c', e, -⟩ := own_form h2
            rw [Option.some.inj h1, e]; rfl)
          have Hone1 := Lib.hid (fun u (hu : u ∈ us.take (b' + 1)) => Honeu.out u (List.mem_of_mem_take hu))
          have Hone2 := Lib.hid (fun u (hu : u ∈ us.drop (b' + 1)) => Honeu.out u (List.mem_of_mem_drop hu))
          have Hrd := Lib.hid (Reads.of_own Husz.out.1)
          have Hrd1 := Lib.hid (show Reads wz wz.heap.size 1 (some ⟨gO, 0, none⟩) (b' + 1) (us.take (b' + 1)) from reads_take1 Hrd.out (by omega))
          have Hrd2 := Lib.hid (show Reads wz wz.heap.size 1 (if c = (b' + 1) then ((some ⟨gO, 0, none⟩) : Option Addr) else ((some ⟨gO, 0, none⟩) : Option Addr).map (fun z => z.add (b' + 1))) (l.length - (b' + 1)) (us.drop (b' + 1)) by have h := Hrd.out.cut (k := (b' + 1)) (cap := c) (by omega) hnc; simpa using h)
          rcases Classical.em (c = b' + 1) with rfl | hne
          · have Hrd3 := Lib.hid (show Reads wz wz.heap.size 1 (some ⟨gO, 0, none⟩) 0 (us.drop (b' + 1)) by have h := Hrd2.out; rw [if_pos rfl, show l.length - (b' + 1) = 0 by omega] at h; exact h)
            have v5 : (l.length : Int) ≤ (b' : Int) + 1 := by omega
            have v6 : (b' : Int) + 1 ≤ (b' : Int) + 1 := by omega
            refine z_region (fun _ => True) 14 (by kernel_rfl) ?_
            rw [← Hwz.out]
            refine z_take (i := 1) (v := ?_) rfl (by kernel_rfl) (by kernel_rfl) (by kernel_rfl) (fun _ _ _ h => h) (by kernel_rfl) (by decide) trivial (by rfl) (by intro w hSw; go_simp; rfl) ?_
            refine z_take (i := 2) (v := ?_) rfl (by kernel_rfl) (by kernel_rfl) (by kernel_rfl) (fun _ _ _ h => h) (by kernel_rfl) (by decide) trivial (by rfl) (by intro w hSw; go_simp; rfl) ?_
            refine z_take (i := 3) (v := .slice (some ⟨gO, 0, none⟩) (b' + 1) (b' + 1)) rfl (by kernel_rfl) (by kernel_rfl) (by kernel_rfl) (fun _ _ _ h => h) (by kernel_rfl) (by decide) trivial (by rfl) (by intro w hSw; go_simp) ?_
            refine z_take (i := 6) (v := ?_) rfl (by kernel_rfl) (by kernel_rfl) (by kernel_rfl) (fun _ _ _ h => h) (by kernel_rfl) (by decide) trivial (by rfl) (by intro w hSw; go_simp; rfl) ?_
            refine z_take (i := 10) (v := ?_) rfl (by kernel_rfl) (by kernel_rfl) (by kernel_rfl) (fun _ _ _ h => h) (by kernel_rfl) (by decide) trivial (by rfl) (by intro w hSw; go_simp; rfl) ?_
            refine z_take (i := 11) (v := ?_) rfl (by kernel_rfl) (by kernel_rfl) (by kernel_rfl) (fun _ _ _ h => h) (by kernel_rfl) (by decide) trivial (by rfl) (by intro w hSw; go_simp; rfl) ?_
            refine z_take (i := 12) (v := .slice (some ⟨gO, 0, none⟩) 0 0) rfl (by kernel_rfl) (by kernel_rfl) (by kernel_rfl) (fun _ _ _ h => h) (by kernel_rfl) (by decide) trivial (by rfl) (by intro w hSw; go_simp) ?_
            simp only [Act.put, List.setIfInBounds_toArray]
            refine z_two (i := 0) (j := 5) rfl rfl (by kernel_rfl) (by rfl) (by rfl) (fun K hK => ?_) (fun K hK => ?_)
            · go_simp
              refine hK _ _ (fun _ => trivial) ?_
              clear hK K
              refine z_two (i := 4) (j := 5) rfl rfl (by kernel_rfl) (by rfl) (by rfl) (fun K hK => ?_) (fun K hK => ?_)
              · refine wp_append_any _ _ _ 40 rfl wz.heap.size 26 j0 _ 1 24 Tryz.underlying40 hj0 yz0 yz1 yz2 rfl (by decide) (.slice (some ⟨wz.heap.size, 0, none⟩) 0 0) 0 [] (by rfl) (World.ownsRow_made wz #[] 0 (Nat.le_refl _) (Nat.zero_le _) rfl) wz.heap.size (some ⟨gO, 0, none⟩) (b' + 1) (b' + 1) _ (by rfl) (Hrd1.out.alloc (Nat.le_refl _) _) (Hone1.out) (by unfold maxLen; omega) (by omega) (by first | (simp; done) | (simp; omega)) ?_
                intro v7 w7 hown7 hg7 hat7
                obtain ⟨A7, c7, ev7, _, _, _⟩ := own_form hown7
                rw [Nat.zero_add] at ev7
                subst ev7
                have HO7 := Lib.hid (show w7.ownsRow wz.heap.size 26 1 (.slice A7 (b' + 1) c7) (b' + 1) (us.take (b' + 1)) by simpa using hown7)
                have hB7 : Below wz.heap.size wz w7 := ((Below.refl wz.heap.size wz).alloc (Nat.le_refl _) _).grown hg7 (by simp; try omega) (fun b e => by have e2 : some (wz.heap.size) = some b := e; injection e2 with e2; omega)
                have HB7 := Lib.hid hB7
                have hs7 := hB7.size
                clear hown7 hg7 hat7 hB7
                refine hK _ _ (fun _ => trivial) ?_
                clear hK K
                refine z_one (i := 5) rfl (by kernel_rfl) (by rfl) (fun K hK => ?_)
                go_simp
                refine hK _ _ (fun _ => trivial) ?_
                clear hK K
                have HM8 := Lib.hid (World.ownsRow_made (base := wz.heap.size) (e := 3) (size := 1) w7 #[] 0 hs7 (Nat.zero_le _) rfl)
                have HO8 := Lib.hid (own_kept (w' := w7.alloc (.cells #[] 3)) (row := none) HO7.out (World.grownBy_alloc w7 _ none) (fun g e => by cases e))
                have HB8 := Lib.hid (HB7.out.alloc HB7.out.size (.cells #[] 3))
                have hs8 := HB8.out.size
                refine z_one (i := 7) rfl (by kernel_rfl) (by rfl) (fun K hK => ?_)
                refine wp_append_any _ _ _ 26 rfl wz.heap.size 3 i0 _ 1 8 Tryz.underlying26 hi0 hz0 hz1 hz2 rfl (by decide) (.slice (some ⟨w7.heap.size, 0, none⟩) 0 0) 0 [] (by rfl) (HM8.out) wz.heap.size Ax x.length cx _ (by rfl) (Hrz.out.below HB8.out) (Honex.out) (by unfold maxLen; omega) (by omega) (hs8) ?_
                intro v9 w9 hown9 hg9 hat9
                obtain ⟨A9, c9, ev9, _, _, _⟩ := own_form hown9
                rw [Nat.zero_add] at ev9
                subst ev9
                have HV9 := Lib.hid (show OwnInts w9 wz.heap.size (.slice A9 x.length c9) x by unfold OwnInts; simpa using hown9)
                have HO9 := Lib.hid (own_kept HO8.out hg9 (fun g e => own_own_ne HM8.out HO8.out (by decide) e))
                have HB9 := Lib.hid (HB8.out.grown hg9 HB8.out.size (own_row_ge HM8.out))
                have hs9 := HB9.out.size
                clear hown9 hg9 hat9
                refine hK _ _ (fun _ => trivial) ?_
                clear hK K
                refine z_one (i := 8) rfl (by kernel_rfl) (by rfl) (fun K hK => ?_)
                go_simp
                refine hK _ _ (fun _ => trivial) ?_
                clear hK K
                have HV10 := Lib.hid (show OwnInts (w9.alloc (.cells #[.slice A9 x.length c9] 26)) wz.heap.size (.slice A9 x.length c9) x from own_kept (row := none) HV9.out (World.grownBy_alloc w9 _ none) (fun g e => by cases e))
                have HO10 := Lib.hid (own_kept (w' := w9.alloc (.cells #[.slice A9 x.length c9] 26)) (row := none) HO9.out (World.grownBy_alloc w9 _ none) (fun g e => by cases e))
                have HB10 := Lib.hid (HB9.out.alloc HB9.out.size (.cells #[.slice A9 x.length c9] 26))
                have hs10 := HB10.out.size
                refine z_one (i := 9) rfl (by kernel_rfl) (by rfl) (fun K hK => ?_)
                refine wp_append_any _ _ _ 40 rfl wz.heap.size 26 j0 _ 1 24 Tryz.underlying40 hj0 yz0 yz1 yz2 rfl (by decide) (.slice A7 (b' + 1) c7) (b' + 1) _ (by rfl) (HO10.out) (w9.heap.size + 1) (some ⟨w9.heap.size, 0, none⟩) 1 1 [.slice A9 x.length c9] (by rfl) (reads_one (Nat.lt_succ_self _) (cell_new0 _ _ _)) (by intro u hu; simp at hu; subst hu; rfl) (by unfold maxLen; omega) (by omega) (hs10) ?_
                intro v11 w11 hown11 hg11 hat11
                have HO11 := Lib.hid hown11
                have HV11 := Lib.hid (show OwnInts w11 wz.heap.size (.slice A9 x.length c9) x from own_kept HV10.out hg11 (fun g e => own_own_ne HO10.out HV10.out (by decide) e))
                have HB11 := Lib.hid (HB10.out.grown hg11 HB10.out.size (own_row_ge HO10.out))
                have hs11 := HB11.out.size
                obtain ⟨A11, c11, ev11, _, _, _⟩ := own_form hown11
                subst ev11
                clear hown11 hg11 hat11
                refine hK _ _ (fun _ => trivial) ?_
                clear hK K
                try simp only [Act.put, List.setIfInBounds_toArray]
                refine z_one (i := 13) rfl (by kernel_rfl) (by rfl) (fun K hK => ?_)
                refine wp_append_any _ _ _ 40 rfl wz.heap.size 26 j0 _ 1 24 Tryz.underlying40 hj0 yz0 yz1 yz2 rfl (by decide) (.slice A11 ((b' + 1) + 1) c11) ((b' + 1) + 1) _ (by rfl) (HO11.out) wz.heap.size _ 0 _ _ (by rfl) (by first | exact Hrd2.out.below HB11.out | exact Hrd3.out.below HB11.out) (Hone2.out) (by unfold maxLen; omega) (by omega) (hs11) ?_
                intro v13 w13 hown13 hg13 hat13
                have HV13 := Lib.hid (show OwnInts w13 wz.heap.size (.slice A9 x.length c9) x from own_kept HV11.out hg13 (fun g e => own_own_ne HO11.out HV11.out (by decide) e))
                have HB13 := Lib.hid (HB11.out.grown hg13 HB11.out.size (own_row_ge HO11.out))
                have HS13 := Lib.hid (ins_sets Husz.out.1 Husz.out.2 HB13.out (by omega) (m := 0) (by omega) (by omega) HV13.out hown13)
                clear hown13 hg13 hat13
                refine hK _ _ (fun _ => trivial) ?_
                clear hK K
                refine z_one (i := 14) rfl (by kernel_rfl) (by rfl) (fun K hK => ?_)
                go_simp
                refine hK _ _ (fun h => absurd rfl h) ?_
                clear hK K
                refine z_done (by kernel_rfl) ?_ _
                go_wp2
                go_ret
                first
                  | exact ⟨_, _, rfl, HS13.out, Hins.out, fun z => Rk.ins_mem, HLz.out.trans (HB13.out.mono HLz.out.size)⟩
                  | exact ⟨_, rfl, _, HS13.out, Hins.out, fun z => Rk.ins_mem, HLz.out.trans (HB13.out.mono HLz.out.size)⟩
                  | exact ⟨_, rfl, _, HS13.out, Hins.out, fun z => (by have hn : l = [] := List.eq_nil_of_length_eq_zero (by omega); simp [hn]), HLz.out.trans (HB13.out.mono HLz.out.size)⟩
                  | exact ⟨_, _, rfl, HS13.out, Hins.out, fun z => (by have h := @Rk.ins_mem l x z 0; have hn : l = [] := List.eq_nil_of_length_eq_zero (by omega); simpa [hn] using h), HLz.out.trans (HB13.out.mono HLz.out.size)⟩
              · go_simp
                refine hK _ _ (fun _ => trivial) ?_
                clear hK K
                refine z_one (i := 4) rfl (by kernel_rfl) (by rfl) (fun K hK => ?_)
                refine wp_append_any _ _ _ 40 rfl wz.heap.size 26 j0 _ 1 24 Tryz.underlying40 hj0 yz0 yz1 yz2 rfl (by decide) (.slice (some ⟨wz.heap.size, 0, none⟩) 0 0) 0 [] (by rfl) (own_kept (row := none) (World.ownsRow_made wz #[] 0 (Nat.le_refl _) (Nat.zero_le _) rfl) (World.grownBy_alloc _ _ none) (fun g e => by cases e)) wz.heap.size (some ⟨gO, 0, none⟩) (b' + 1) (b' + 1) _ (by rfl) (Hrd1.out.alloc (Nat.le_refl _) _ |>.alloc (by simp) _) (Hone1.out) (by unfold maxLen; omega) (by omega) (by first | (simp; done) | (simp; omega)) ?_
                intro v7 w7 hown7 hg7 hat7
                obtain ⟨A7, c7, ev7, _, _, _⟩ := own_form hown7
                rw [Nat.zero_add] at ev7
                subst ev7
                have HO7 := Lib.hid (show w7.ownsRow wz.heap.size 26 1 (.slice A7 (b' + 1) c7) (b' + 1) (us.take (b' + 1)) by simpa using hown7)
                have hB7 : Below wz.heap.size wz w7 := (((Below.refl wz.heap.size wz).alloc (Nat.le_refl _) _).alloc (by simp) _).grown hg7 (by simp; try omega) (fun b e => by have e2 : some (wz.heap.size) = some b := e; injection e2 with e2; omega)
                have HM8 := Lib.hid (own_kept (made_nextT wz (.cells #[] 26) 3) hg7 (fun g e => by have e2 : some wz.heap.size = some g := e; injection e2 with e2; intro e3; have e4 : some (wz.heap.size + 1) = some g := e3; injection e4 with e4; omega))
                have HB7 := Lib.hid hB7
                have hs7 := hB7.size
                clear hown7 hg7 hat7 hB7
                refine hK _ _ (fun _ => trivial) ?_
                clear hK K
                have HO8 := HO7
                have HB8 := HB7
                have hs8 := HB8.out.size
                refine z_one (i := 7) rfl (by kernel_rfl) (by rfl) (fun K hK => ?_)
                refine wp_append_any _ _ _ 26 rfl wz.heap.size 3 i0 _ 1 8 Tryz.underlying26 hi0 hz0 hz1 hz2 rfl (by decide) (.slice (some ⟨(wz.heap.size + 1), 0, none⟩) 0 0) 0 [] (by rfl) (HM8.out) wz.heap.size Ax x.length cx _ (by rfl) (Hrz.out.below HB8.out) (Honex.out) (by unfold maxLen; omega) (by omega) (hs8) ?_
                intro v9 w9 hown9 hg9 hat9
                obtain ⟨A9, c9, ev9, _, _, _⟩ := own_form hown9
                rw [Nat.zero_add] at ev9
                subst ev9
                have HV9 := Lib.hid (show OwnInts w9 wz.heap.size (.slice A9 x.length c9) x by unfold OwnInts; simpa using hown9)
                have HO9 := Lib.hid (own_kept HO8.out hg9 (fun g e => own_own_ne HM8.out HO8.out (by decide) e))
                have HB9 := Lib.hid (HB8.out.grown hg9 HB8.out.size (own_row_ge HM8.out))
                have hs9 := HB9.out.size
                clear hown9 hg9 hat9
                refine hK _ _ (fun _ => trivial) ?_
                clear hK K
                refine z_one (i := 8) rfl (by kernel_rfl) (by rfl) (fun K hK => ?_)
                go_simp
                refine hK _ _ (fun _ => trivial) ?_
                clear hK K
                have HV10 := Lib.hid (show OwnInts (w9.alloc (.cells #[.slice A9 x.length c9] 26)) wz.heap.size (.slice A9 x.length c9) x from own_kept (row := none) HV9.out (World.grownBy_alloc w9 _ none) (fun g e => by cases e))
                have HO10 := Lib.hid (own_kept (w' := w9.alloc (.cells #[.slice A9 x.length c9] 26)) (row := none) HO9.out (World.grownBy_alloc w9 _ none) (fun g e => by cases e))
                have HB10 := Lib.hid (HB9.out.alloc HB9.out.size (.cells #[.slice A9 x.length c9] 26))
                have hs10 := HB10.out.size
                refine z_one (i := 9) rfl (by kernel_rfl) (by rfl) (fun K hK => ?_)
                refine wp_append_any _ _ _ 40 rfl wz.heap.size 26 j0 _ 1 24 Tryz.underlying40 hj0 yz0 yz1 yz2 rfl (by decide) (.slice A7 (b' + 1) c7) (b' + 1) _ (by rfl) (HO10.out) (w9.heap.size + 1) (some ⟨w9.heap.size, 0, none⟩) 1 1 [.slice A9 x.length c9] (by rfl) (reads_one (Nat.lt_succ_self _) (cell_new0 _ _ _)) (by intro u hu; simp at hu; subst hu; rfl) (by unfold maxLen; omega) (by omega) (hs10) ?_
                intro v11 w11 hown11 hg11 hat11
                have HO11 := Lib.hid hown11
                have HV11 := Lib.hid (show OwnInts w11 wz.heap.size (.slice A9 x.length c9) x from own_kept HV10.out hg11 (fun g e => own_own_ne HO10.out HV10.out (by decide) e))
                have HB11 := Lib.hid (HB10.out.grown hg11 HB10.out.size (own_row_ge HO10.out))
                have hs11 := HB11.out.size
                obtain ⟨A11, c11, ev11, _, _, _⟩ := own_form hown11
                subst ev11
                clear hown11 hg11 hat11
                refine hK _ _ (fun _ => trivial) ?_
                clear hK K
                try simp only [Act.put, List.setIfInBounds_toArray]
                refine z_one (i := 13) rfl (by kernel_rfl) (by rfl) (fun K hK => ?_)
                refine wp_append_any _ _ _ 40 rfl wz.heap.size 26 j0 _ 1 24 Tryz.underlying40 hj0 yz0 yz1 yz2 rfl (by decide) (.slice A11 ((b' + 1) + 1) c11) ((b' + 1) + 1) _ (by rfl) (HO11.out) wz.heap.size _ 0 _ _ (by rfl) (by first | exact Hrd2.out.below HB11.out | exact Hrd3.out.below HB11.out) (Hone2.out) (by unfold maxLen; omega) (by omega) (hs11) ?_
                intro v13 w13 hown13 hg13 hat13
                have HV13 := Lib.hid (show OwnInts w13 wz.heap.size (.slice A9 x.length c9) x from own_kept HV11.out hg13 (fun g e => own_own_ne HO11.out HV11.out (by decide) e))
                have HB13 := Lib.hid (HB11.out.grown hg13 HB11.out.size (own_row_ge HO11.out))
                have HS13 := Lib.hid (ins_sets Husz.out.1 Husz.out.2 HB13.out (by omega) (m := 0) (by omega) (by omega) HV13.out hown13)
                clear hown13 hg13 hat13
                refine hK _ _ (fun _ => trivial) ?_
                clear hK K
                refine z_one (i := 14) rfl (by kernel_rfl) (by rfl) (fun K hK => ?_)
                go_simp
                refine hK _ _ (fun h => absurd rfl h) ?_
                clear hK K
                refine z_done (by kernel_rfl) ?_ _
                go_wp2
                go_ret
                first
                  | exact ⟨_, _, rfl, HS13.out, Hins.out, fun z => Rk.ins_mem, HLz.out.trans (HB13.out.mono HLz.out.size)⟩
                  | exact ⟨_, rfl, _, HS13.out, Hins.out, fun z => Rk.ins_mem, HLz.out.trans (HB13.out.mono HLz.out.size)⟩
                  | exact ⟨_, rfl, _, HS13.out, Hins.out, fun z => (by have hn : l = [] := List.eq_nil_of_length_eq_zero (by omega); simp [hn]), HLz.out.trans (HB13.out.mono HLz.out.size)⟩
                  | exact ⟨_, _, rfl, HS13.out, Hins.out, fun z => (by have h := @Rk.ins_mem l x z 0; have hn : l = [] := List.eq_nil_of_length_eq_zero (by omega); simpa [hn] using h), HLz.out.trans (HB13.out.mono HLz.out.size)⟩
            · go_simp
              refine hK _ _ (fun _ => trivial) ?_
              clear hK K
              refine z_one (i := 0) rfl (by kernel_rfl) (by rfl) (fun K hK => ?_)
              go_simp
              refine hK _ _ (fun _ => trivial) ?_
              clear hK K
              refine z_one (i := 4) rfl (by kernel_rfl) (by rfl) (fun K hK => ?_)
              refine wp_append_any _ _ _ 40 rfl wz.heap.size 26 j0 _ 1 24 Tryz.underlying40 hj0 yz0 yz1 yz2 rfl (by decide) (.slice (some ⟨wz.heap.size + 1, 0, none⟩) 0 0) 0 [] (by rfl) (made_nextT wz (.cells #[] 3) 26) wz.heap.size (some ⟨gO, 0, none⟩) (b' + 1) (b' + 1) _ (by rfl) (Hrd1.out.alloc (Nat.le_refl _) _ |>.alloc (by simp) _) (Hone1.out) (by unfold maxLen; omega) (by omega) (by first | (simp; done) | (simp; omega)) ?_
              intro v7 w7 hown7 hg7 hat7
              obtain ⟨A7, c7, ev7, _, _, _⟩ := own_form hown7
              rw [Nat.zero_add] at ev7
              subst ev7
              have HO7 := Lib.hid (show w7.ownsRow wz.heap.size 26 1 (.slice A7 (b' + 1) c7) (b' + 1) (us.take (b' + 1)) by simpa using hown7)
              have hB7 : Below wz.heap.size wz w7 := (((Below.refl wz.heap.size wz).alloc (Nat.le_refl _) _).alloc (by simp) _).grown hg7 (by simp; try omega) (fun b e => by have e2 : some (wz.heap.size + 1) = some b := e; injection e2 with e2; omega)
              have HM8 := Lib.hid (own_kept (own_kept (row := none) (World.ownsRow_made (base := wz.heap.size) (e := 3) (size := 1) wz #[] 0 (Nat.le_refl _) (Nat.zero_le _) rfl) (World.grownBy_alloc _ _ none) (fun g e => by cases e)) hg7 (fun g e => by have e2 : some (wz.heap.size + 1) = some g := e; injection e2 with e2; intro e3; have e4 : some wz.heap.size = some g := e3; injection e4 with e4; omega))
              have HB7 := Lib.hid hB7
              have hs7 := hB7.size
              clear hown7 hg7 hat7 hB7
              refine hK _ _ (fun _ => trivial) ?_
              clear hK K
              have HO8 := HO7
              have HB8 := HB7
              have hs8 := HB8.out.size
              refine z_one (i := 7) rfl (by kernel_rfl) (by rfl) (fun K hK => ?_)
              refine wp_append_any _ _ _ 26 rfl wz.heap.size 3 i0 _ 1 8 Tryz.underlying26 hi0 hz0 hz1 hz2 rfl (by decide) (.slice (some ⟨wz.heap.size, 0, none⟩) 0 0) 0 [] (by rfl) (HM8.out) wz.heap.size Ax x.length cx _ (by rfl) (Hrz.out.below HB8.out) (Honex.out) (by unfold maxLen; omega) (by omega) (hs8) ?_
              intro v9 w9 hown9 hg9 hat9
              obtain ⟨A9, c9, ev9, _, _, _⟩ := own_form hown9
              rw [Nat.zero_add] at ev9
              subst ev9
              have HV9 := Lib.hid (show OwnInts w9 wz.heap.size (.slice A9 x.length c9) x by unfold OwnInts; simpa using hown9)
              have HO9 := Lib.hid (own_kept HO8.out hg9 (fun g e => own_own_ne HM8.out HO8.out (by decide) e))
              have HB9 := Lib.hid (HB8.out.grown hg9 HB8.out.size (own_row_ge HM8.out))
              have hs9 := HB9.out.size
              clear hown9 hg9 hat9
              refine hK _ _ (fun _ => trivial) ?_
              clear hK K
              refine z_one (i := 8) rfl (by kernel_rfl) (by rfl) (fun K hK => ?_)
              go_simp
              refine hK _ _ (fun _ => trivial) ?_
              clear hK K
              have HV10 := Lib.hid (show OwnInts (w9.alloc (.cells #[.slice A9 x.length c9] 26)) wz.heap.size (.slice A9 x.length c9) x from own_kept (row := none) HV9.out (World.grownBy_alloc w9 _ none) (fun g e => by cases e))
              have HO10 := Lib.hid (own_kept (w' := w9.alloc (.cells #[.slice A9 x.length c9] 26)) (row := none) HO9.out (World.grownBy_alloc w9 _ none) (fun g e => by cases e))
              have HB10 := Lib.hid (HB9.out.alloc HB9.out.size (.cells #[.slice A9 x.length c9] 26))
              have hs10 := HB10.out.size
              refine z_one (i := 9) rfl (by kernel_rfl) (by rfl) (fun K hK => ?_)
              refine wp_append_any _ _ _ 40 rfl wz.heap.size 26 j0 _ 1 24 Tryz.underlying40 hj0 yz0 yz1 yz2 rfl (by decide) (.slice A7 (b' + 1) c7) (b' + 1) _ (by rfl) (HO10.out) (w9.heap.size + 1) (some ⟨w9.heap.size, 0, none⟩) 1 1 [.slice A9 x.length c9] (by rfl) (reads_one (Nat.lt_succ_self _) (cell_new0 _ _ _)) (by intro u hu; simp at hu; subst hu; rfl) (by unfold maxLen; omega) (by omega) (hs10) ?_
              intro v11 w11 hown11 hg11 hat11
              have HO11 := Lib.hid hown11
              have HV11 := Lib.hid (show OwnInts w11 wz.heap.size (.slice A9 x.length c9) x from own_kept HV10.out hg11 (fun g e => own_own_ne HO10.out HV10.out (by decide) e))
              have HB11 := Lib.hid (HB10.out.grown hg11 HB10.out.size (own_row_ge HO10.out))
              have hs11 := HB11.out.size
              obtain ⟨A11, c11, ev11, _, _, _⟩ := own_form hown11
              subst ev11
              clear hown11 hg11 hat11
              refine hK _ _ (fun _ => trivial) ?_
              clear hK K
              try simp only [Act.put, List.setIfInBounds_toArray]
              refine z_one (i := 13) rfl (by kernel_rfl) (by rfl) (fun K hK => ?_)
              refine wp_append_any _ _ _ 40 rfl wz.heap.size 26 j0 _ 1 24 Tryz.underlying40 hj0 yz0 yz1 yz2 rfl (by decide) (.slice A11 ((b' + 1) + 1) c11) ((b' + 1) + 1) _ (by rfl) (HO11.out) wz.heap.size _ 0 _ _ (by rfl) (by first | exact Hrd2.out.below HB11.out | exact Hrd3.out.below HB11.out) (Hone2.out) (by unfold maxLen; omega) (by omega) (hs11) ?_
              intro v13 w13 hown13 hg13 hat13
              have HV13 := Lib.hid (show OwnInts w13 wz.heap.size (.slice A9 x.length c9) x from own_kept HV11.out hg13 (fun g e => own_own_ne HO11.out HV11.out (by decide) e))
              have HB13 := Lib.hid (HB11.out.grown hg13 HB11.out.size (own_row_ge HO11.out))
              have HS13 := Lib.hid (ins_sets Husz.out.1 Husz.out.2 HB13.out (by omega) (m := 0) (by omega) (by omega) HV13.out hown13)
              clear hown13 hg13 hat13
              refine hK _ _ (fun _ => trivial) ?_
              clear hK K
              refine z_one (i := 14) rfl (by kernel_rfl) (by rfl) (fun K hK => ?_)
              go_simp
              refine hK _ _ (fun h => absurd rfl h) ?_
              clear hK K
              refine z_done (by kernel_rfl) ?_ _
              go_wp2
              go_ret
              first
                | exact ⟨_, _, rfl, HS13.out, Hins.out, fun z => Rk.ins_mem, HLz.out.trans (HB13.out.mono HLz.out.size)⟩
                | exact ⟨_, rfl, _, HS13.out, Hins.out, fun z => Rk.ins_mem, HLz.out.trans (HB13.out.mono HLz.out.size)⟩
                | exact ⟨_, rfl, _, HS13.out, Hins.out, fun z => (by have hn : l = [] := List.eq_nil_of_length_eq_zero (by omega); simp [hn]), HLz.out.trans (HB13.out.mono HLz.out.size)⟩
                | exact ⟨_, _, rfl, HS13.out, Hins.out, fun z => (by have h := @Rk.ins_mem l x z 0; have hn : l = [] := List.eq_nil_of_length_eq_zero (by omega); simpa [hn] using h), HLz.out.trans (HB13.out.mono HLz.out.size)⟩
          · have Hrd3 := Lib.hid (show Reads wz wz.heap.size 1 (some ⟨gO, 0 + (b' + 1), none⟩) (l.length - (b' + 1)) (us.drop (b' + 1)) by have h := Hrd2.out; rw [if_neg hne] at h; simpa [Addr.add] using h)
            have Hrd4 := Hrd3
            have Hrd2 := Lib.hid (show Reads wz wz.heap.size 1 (some ⟨gO, b' + 1, none⟩) (l.length - (b' + 1)) (us.drop (b' + 1)) by have h := Hrd4.out; simpa using h)
            refine z_region (fun _ => True) 14 (by kernel_rfl) ?_
            rw [← Hwz.out]
            refine z_take (i := 1) (v := ?_) rfl (by kernel_rfl) (by kernel_rfl) (by kernel_rfl) (fun _ _ _ h => h) (by kernel_rfl) (by decide) trivial (by rfl) (by intro w hSw; go_simp; rfl) ?_
            refine z_take (i := 2) (v := ?_) rfl (by kernel_rfl) (by kernel_rfl) (by kernel_rfl) (fun _ _ _ h => h) (by kernel_rfl) (by decide) trivial (by rfl) (by intro w hSw; go_simp; rfl) ?_
            refine z_take (i := 3) (v := .slice (some ⟨gO, 0, none⟩) (b' + 1) c) rfl (by kernel_rfl) (by kernel_rfl) (by kernel_rfl) (fun _ _ _ h => h) (by kernel_rfl) (by decide) trivial (by rfl) (by intro w hSw; go_simp) ?_
            refine z_take (i := 6) (v := ?_) rfl (by kernel_rfl) (by kernel_rfl) (by kernel_rfl) (fun _ _ _ h => h) (by kernel_rfl) (by decide) trivial (by rfl) (by intro w hSw; go_simp; rfl) ?_
            refine z_take (i := 10) (v := ?_) rfl (by kernel_rfl) (by kernel_rfl) (by kernel_rfl) (fun _ _ _ h => h) (by kernel_rfl) (by decide) trivial (by rfl) (by intro w hSw; go_simp; rfl) ?_
            refine z_take (i := 11) (v := ?_) rfl (by kernel_rfl) (by kernel_rfl) (by kernel_rfl) (fun _ _ _ h => h) (by kernel_rfl) (by decide) trivial (by rfl) (by intro w hSw; go_simp; rfl) ?_
            refine z_take (i := 12) (v := .slice (some ⟨gO, 0 + (b' + 1), none⟩) (l.length - (b' + 1)) (c - (b' + 1))) rfl (by kernel_rfl) (by kernel_rfl) (by kernel_rfl) (fun _ _ _ h => h) (by kernel_rfl) (by decide) trivial (by rfl) (by intro w hSw; go_simp) ?_
            simp only [Act.put, List.setIfInBounds_toArray]
            refine z_two (i := 0) (j := 5) rfl rfl (by kernel_rfl) (by rfl) (by rfl) (fun K hK => ?_) (fun K hK => ?_)
            · go_simp
              refine hK _ _ (fun _ => trivial) ?_
              clear hK K
              refine z_two (i := 4) (j := 5) rfl rfl (by kernel_rfl) (by rfl) (by rfl) (fun K hK => ?_) (fun K hK => ?_)
              · refine wp_append_any _ _ _ 40 rfl wz.heap.size 26 j0 _ 1 24 Tryz.underlying40 hj0 yz0 yz1 yz2 rfl (by decide) (.slice (some ⟨wz.heap.size, 0, none⟩) 0 0) 0 [] (by rfl) (World.ownsRow_made wz #[] 0 (Nat.le_refl _) (Nat.zero_le _) rfl) wz.heap.size (some ⟨gO, 0, none⟩) (b' + 1) c _ (by rfl) (Hrd1.out.alloc (Nat.le_refl _) _) (Hone1.out) (by unfold maxLen; omega) (by omega) (by first | (simp; done) | (simp; omega)) ?_
                intro v7 w7 hown7 hg7 hat7
                obtain ⟨A7, c7, ev7, _, _, _⟩ := own_form hown7
                rw [Nat.zero_add] at ev7
                subst ev7
                have HO7 := Lib.hid (show w7.ownsRow wz.heap.size 26 1 (.slice A7 (b' + 1) c7) (b' + 1) (us.take (b' + 1)) by simpa using hown7)
                have hB7 : Below wz.heap.size wz w7 := ((Below.refl wz.heap.size wz).alloc (Nat.le_refl _) _).grown hg7 (by simp; try omega) (fun b e => by have e2 : some (wz.heap.size) = some b := e; injection e2 with e2; omega)
                have HB7 := Lib.hid hB7
                have hs7 := hB7.size
                clear hown7 hg7 hat7 hB7
                refine hK _ _ (fun _ => trivial) ?_
                clear hK K
                refine z_one (i := 5) rfl (by kernel_rfl) (by rfl) (fun K hK => ?_)
                go_simp
                refine hK _ _ (fun _ => trivial) ?_
                clear hK K
                have HM8 := Lib.hid (World.ownsRow_made (base := wz.heap.size) (e := 3) (size := 1) w7 #[] 0 hs7 (Nat.zero_le _) rfl)
                have HO8 := Lib.hid (own_kept (w' := w7.alloc (.cells #[] 3)) (row := none) HO7.out (World.grownBy_alloc w7 _ none) (fun g e => by cases e))
                have HB8 := Lib.hid (HB7.out.alloc HB7.out.size (.cells #[] 3))
                have hs8 := HB8.out.size
                refine z_one (i := 7) rfl (by kernel_rfl) (by rfl) (fun K hK => ?_)
                refine wp_append_any _ _ _ 26 rfl wz.heap.size 3 i0 _ 1 8 Tryz.underlying26 hi0 hz0 hz1 hz2 rfl (by decide) (.slice (some ⟨w7.heap.size, 0, none⟩) 0 0) 0 [] (by rfl) (HM8.out) wz.heap.size Ax x.length cx _ (by rfl) (Hrz.out.below HB8.out) (Honex.out) (by unfold maxLen; omega) (by omega) (hs8) ?_
                intro v9 w9 hown9 hg9 hat9
                obtain ⟨A9, c9, ev9, _, _, _⟩ := own_form hown9
                rw [Nat.zero_add] at ev9
                subst ev9
                have HV9 := Lib.hid (show OwnInts w9 wz.heap.size (.slice A9 x.length c9) x by unfold OwnInts; simpa using hown9)
                have HO9 := Lib.hid (own_kept HO8.out hg9 (fun g e => own_own_ne HM8.out HO8.out (by decide) e))
                have HB9 := Lib.hid (HB8.out.grown hg9 HB8.out.size (own_row_ge HM8.out))
                have hs9 := HB9.out.size
                clear hown9 hg9 hat9
                refine hK _ _ (fun _ => trivial) ?_
                clear hK K
                refine z_one (i := 8) rfl (by kernel_rfl) (by rfl) (fun K hK => ?_)
                go_simp
                refine hK _ _ (fun _ => trivial) ?_
                clear hK K
                have HV10 := Lib.hid (show OwnInts (w9.alloc (.cells #[.slice A9 x.length c9] 26)) wz.heap.size (.slice A9 x.length c9) x from own_kept (row := none) HV9.out (World.grownBy_alloc w9 _ none) (fun g e => by cases e))
                have HO10 := Lib.hid (own_kept (w' := w9.alloc (.cells #[.slice A9 x.length c9] 26)) (row := none) HO9.out (World.grownBy_alloc w9 _ none) (fun g e => by cases e))
                have HB10 := Lib.hid (HB9.out.alloc HB9.out.size (.cells #[.slice A9 x.length c9] 26))
                have hs10 := HB10.out.size
                refine z_one (i := 9) rfl (by kernel_rfl) (by rfl) (fun K hK => ?_)
                refine wp_append_any _ _ _ 40 rfl wz.heap.size 26 j0 _ 1 24 Tryz.underlying40 hj0 yz0 yz1 yz2 rfl (by decide) (.slice A7 (b' + 1) c7) (b' + 1) _ (by rfl) (HO10.out) (w9.heap.size + 1) (some ⟨w9.heap.size, 0, none⟩) 1 1 [.slice A9 x.length c9] (by rfl) (reads_one (Nat.lt_succ_self _) (cell_new0 _ _ _)) (by intro u hu; simp at hu; subst hu; rfl) (by unfold maxLen; omega) (by omega) (hs10) ?_
                intro v11 w11 hown11 hg11 hat11
                have HO11 := Lib.hid hown11
                have HV11 := Lib.hid (show OwnInts w11 wz.heap.size (.slice A9 x.length c9) x from own_kept HV10.out hg11 (fun g e => own_own_ne HO10.out HV10.out (by decide) e))
                have HB11 := Lib.hid (HB10.out.grown hg11 HB10.out.size (own_row_ge HO10.out))
                have hs11 := HB11.out.size
                obtain ⟨A11, c11, ev11, _, _, _⟩ := own_form hown11
                subst ev11
                clear hown11 hg11 hat11
                refine hK _ _ (fun _ => trivial) ?_
                clear hK K
                try simp only [Act.put, List.setIfInBounds_toArray]
                refine z_one (i := 13) rfl (by kernel_rfl) (by rfl) (fun K hK => ?_)
                refine wp_append_any _ _ _ 40 rfl wz.heap.size 26 j0 _ 1 24 Tryz.underlying40 hj0 yz0 yz1 yz2 rfl (by decide) (.slice A11 ((b' + 1) + 1) c11) ((b' + 1) + 1) _ (by rfl) (HO11.out) wz.heap.size _ (l.length - (b' + 1)) _ _ (by rfl) (by first | exact Hrd2.out.below HB11.out | exact Hrd3.out.below HB11.out) (Hone2.out) (by unfold maxLen; omega) (by omega) (hs11) ?_
                intro v13 w13 hown13 hg13 hat13
                have HV13 := Lib.hid (show OwnInts w13 wz.heap.size (.slice A9 x.length c9) x from own_kept HV11.out hg13 (fun g e => own_own_ne HO11.out HV11.out (by decide) e))
                have HB13 := Lib.hid (HB11.out.grown hg13 HB11.out.size (own_row_ge HO11.out))
                have HS13 := Lib.hid (ins_sets Husz.out.1 Husz.out.2 HB13.out (by omega) (m := (l.length - (b' + 1))) (by omega) (by omega) HV13.out hown13)
                clear hown13 hg13 hat13
                refine hK _ _ (fun _ => trivial) ?_
                clear hK K
                refine z_one (i := 14) rfl (by kernel_rfl) (by rfl) (fun K hK => ?_)
                go_simp
                refine hK _ _ (fun h => absurd rfl h) ?_
                clear hK K
                refine z_done (by kernel_rfl) ?_ _
                go_wp2
                go_ret
                first
                  | exact ⟨_, _, rfl, HS13.out, Hins.out, fun z => Rk.ins_mem, HLz.out.trans (HB13.out.mono HLz.out.size)⟩
                  | exact ⟨_, rfl, _, HS13.out, Hins.out, fun z => Rk.ins_mem, HLz.out.trans (HB13.out.mono HLz.out.size)⟩
                  | exact ⟨_, rfl, _, HS13.out, Hins.out, fun z => (by have hn : l = [] := List.eq_nil_of_length_eq_zero (by omega); simp [hn]), HLz.out.trans (HB13.out.mono HLz.out.size)⟩
                  | exact ⟨_, _, rfl, HS13.out, Hins.out, fun z => (by have h := @Rk.ins_mem l x z 0; have hn : l = [] := List.eq_nil_of_length_eq_zero (by omega); simpa [hn] using h), HLz.out.trans (HB13.out.mono HLz.out.size)⟩
              · go_simp
                refine hK _ _ (fun _ => trivial) ?_
                clear hK K
                refine z_one (i := 4) rfl (by kernel_rfl) (by rfl) (fun K hK => ?_)
                refine wp_append_any _ _ _ 40 rfl wz.heap.size 26 j0 _ 1 24 Tryz.underlying40 hj0 yz0 yz1 yz2 rfl (by decide) (.slice (some ⟨wz.heap.size, 0, none⟩) 0 0) 0 [] (by rfl) (own_kept (row := none) (World.ownsRow_made wz #[] 0 (Nat.le_refl _) (Nat.zero_le _) rfl) (World.grownBy_alloc _ _ none) (fun g e => by cases e)) wz.heap.size (some ⟨gO, 0, none⟩) (b' + 1) c _ (by rfl) (Hrd1.out.alloc (Nat.le_refl _) _ |>.alloc (by simp) _) (Hone1.out) (by unfold maxLen; omega) (by omega) (by first | (simp; done) | (simp; omega)) ?_
                intro v7 w7 hown7 hg7 hat7
                obtain ⟨A7, c7, ev7, _, _, _⟩ := own_form hown7
                rw [Nat.zero_add] at ev7
                subst ev7
                have HO7 := Lib.hid (show w7.ownsRow wz.heap.size 26 1 (.slice A7 (b' + 1) c7) (b' + 1) (us.take (b' + 1)) by simpa using hown7)
                have hB7 : Below wz.heap.size wz w7 := (((Below.refl wz.heap.size wz).alloc (Nat.le_refl _) _).alloc (by simp) _).grown hg7 (by simp; try omega) (fun b e => by have e2 : some (wz.heap.size) = some b := e; injection e2 with e2; omega)
                have HM8 := Lib.hid (own_kept (made_nextT wz (.cells #[] 26) 3) hg7 (fun g e => by have e2 : some wz.heap.size = some g := e; injection e2 with e2; intro e3; have e4 : some (wz.heap.size + 1) = some g := e3; injection e4 with e4; omega))
                have HB7 := Lib.hid hB7
                have hs7 := hB7.size
                clear hown7 hg7 hat7 hB7
                refine hK _ _ (fun _ => trivial) ?_
                clear hK K
                have HO8 := HO7
                have HB8 := HB7
                have hs8 := HB8.out.size
                refine z_one (i := 7) rfl (by kernel_rfl) (by rfl) (fun K hK => ?_)
                refine wp_append_any _ _ _ 26 rfl wz.heap.size 3 i0 _ 1 8 Tryz.underlying26 hi0 hz0 hz1 hz2 rfl (by decide) (.slice (some ⟨(wz.heap.size + 1), 0, none⟩) 0 0) 0 [] (by rfl) (HM8.out) wz.heap.size Ax x.length cx _ (by rfl) (Hrz.out.below HB8.out) (Honex.out) (by unfold maxLen; omega) (by omega) (hs8) ?_
                intro v9 w9 hown9 hg9 hat9
                obtain ⟨A9, c9, ev9, _, _, _⟩ := own_form hown9
                rw [Nat.zero_add] at ev9
                subst ev9
                have HV9 := Lib.hid (show OwnInts w9 wz.heap.size (.slice A9 x.length c9) x by unfold OwnInts; simpa using hown9)
                have HO9 := Lib.hid (own_kept HO8.out hg9 (fun g e => own_own_ne HM8.out HO8.out (by decide) e))
                have HB9 := Lib.hid (HB8.out.grown hg9 HB8.out.size (own_row_ge HM8.out))
                have hs9 := HB9.out.size
                clear hown9 hg9 hat9
                refine hK _ _ (fun _ => trivial) ?_
                clear hK K
                refine z_one (i := 8) rfl (by kernel_rfl) (by rfl) (fun K hK => ?_)
                go_simp
                refine hK _ _ (fun _ => trivial) ?_
                clear hK K
                have HV10 := Lib.hid (show OwnInts (w9.alloc (.cells #[.slice A9 x.length c9] 26)) wz.heap.size (.slice A9 x.length c9) x from own_kept (row := none) HV9.out (World.grownBy_alloc w9 _ none) (fun g e => by cases e))
                have HO10 := Lib.hid (own_kept (w' := w9.alloc (.cells #[.slice A9 x.length c9] 26)) (row := none) HO9.out (World.grownBy_alloc w9 _ none) (fun g e => by cases e))
                have HB10 := Lib.hid (HB9.out.alloc HB9.out.size (.cells #[.slice A9 x.length c9] 26))
                have hs10 := HB10.out.size
                refine z_one (i := 9) rfl (by kernel_rfl) (by rfl) (fun K hK => ?_)
                refine wp_append_any _ _ _ 40 rfl wz.heap.size 26 j0 _ 1 24 Tryz.underlying40 hj0 yz0 yz1 yz2 rfl (by decide) (.slice A7 (b' + 1) c7) (b' + 1) _ (by rfl) (HO10.out) (w9.heap.size + 1) (some ⟨w9.heap.size, 0, none⟩) 1 1 [.slice A9 x.length c9] (by rfl) (reads_one (Nat.lt_succ_self _) (cell_new0 _ _ _)) (by intro u hu; simp at hu; subst hu; rfl) (by unfold maxLen; omega) (by omega) (hs10) ?_
                intro v11 w11 hown11 hg11 hat11
                have HO11 := Lib.hid hown11
                have HV11 := Lib.hid (show OwnInts w11 wz.heap.size (.slice A9 x.length c9) x from own_kept HV10.out hg11 (fun g e => own_own_ne HO10.out HV10.out (by decide) e))
                have HB11 := Lib.hid (HB10.out.grown hg11 HB10.out.size (own_row_ge HO10.out))
                have hs11 := HB11.out.size
                obtain ⟨A11, c11, ev11, _, _, _⟩ := own_form hown11
                subst ev11
                clear hown11 hg11 hat11
                refine hK _ _ (fun _ => trivial) ?_
                clear hK K
                try simp only [Act.put, List.setIfInBounds_toArray]
                refine z_one (i := 13) rfl (by kernel_rfl) (by rfl) (fun K hK => ?_)
                refine wp_append_any _ _ _ 40 rfl wz.heap.size 26 j0 _ 1 24 Tryz.underlying40 hj0 yz0 yz1 yz2 rfl (by decide) (.slice A11 ((b' + 1) + 1) c11) ((b' + 1) + 1) _ (by rfl) (HO11.out) wz.heap.size _ (l.length - (b' + 1)) _ _ (by rfl) (by first | exact Hrd2.out.below HB11.out | exact Hrd3.out.below HB11.out) (Hone2.out) (by unfold maxLen; omega) (by omega) (hs11) ?_
                intro v13 w13 hown13 hg13 hat13
                have HV13 := Lib.hid (show OwnInts w13 wz.heap.size (.slice A9 x.length c9) x from own_kept HV11.out hg13 (fun g e => own_own_ne HO11.out HV11.out (by decide) e))
                have HB13 := Lib.hid (HB11.out.grown hg13 HB11.out.size (own_row_ge HO11.out))
                have HS13 := Lib.hid (ins_sets Husz.out.1 Husz.out.2 HB13.out (by omega) (m := (l.length - (b' + 1))) (by omega) (by omega) HV13.out hown13)
                clear hown13 hg13 hat13
                refine hK _ _ (fun _ => trivial) ?_
                clear hK K
                refine z_one (i := 14) rfl (by kernel_rfl) (by rfl) (fun K hK => ?_)
                go_simp
                refine hK _ _ (fun h => absurd rfl h) ?_
                clear hK K
                refine z_done (by kernel_rfl) ?_ _
                go_wp2
                go_ret
                first
                  | exact ⟨_, _, rfl, HS13.out, Hins.out, fun z => Rk.ins_mem, HLz.out.trans (HB13.out.mono HLz.out.size)⟩
                  | exact ⟨_, rfl, _, HS13.out, Hins.out, fun z => Rk.ins_mem, HLz.out.trans (HB13.out.mono HLz.out.size)⟩
                  | exact ⟨_, rfl, _, HS13.out, Hins.out, fun z => (by have hn : l = [] := List.eq_nil_of_length_eq_zero (by omega); simp [hn]), HLz.out.trans (HB13.out.mono HLz.out.size)⟩
                  | exact ⟨_, _, rfl, HS13.out, Hins.out, fun z => (by have h := @Rk.ins_mem l x z 0; have hn : l = [] := List.eq_nil_of_length_eq_zero (by omega); simpa [hn] using h), HLz.out.trans (HB13.out.mono HLz.out.size)⟩
            · go_simp
              refine hK _ _ (fun _ => trivial) ?_
              clear hK K
              refine z_one (i := 0) rfl (by kernel_rfl) (by rfl) (fun K hK => ?_)
              go_simp
              refine hK _ _ (fun _ => trivial) ?_
              clear hK K
              refine z_one (i := 4) rfl (by kernel_rfl) (by rfl) (fun K hK => ?_)
              refine wp_append_any _ _ _ 40 rfl wz.heap.size 26 j0 _ 1 24 Tryz.underlying40 hj0 yz0 yz1 yz2 rfl (by decide) (.slice (some ⟨wz.heap.size + 1, 0, none⟩) 0 0) 0 [] (by rfl) (made_nextT wz (.cells #[] 3) 26) wz.heap.size (some ⟨gO, 0, none⟩) (b' + 1) c _ (by rfl) (Hrd1.out.alloc (Nat.le_refl _) _ |>.alloc (by simp) _) (Hone1.out) (by unfold maxLen; omega) (by omega) (by first | (simp; done) | (simp; omega)) ?_
              intro v7 w7 hown7 hg7 hat7
              obtain ⟨A7, c7, ev7, _, _, _⟩ := own_form hown7
              rw [Nat.zero_add] at ev7
              subst ev7
              have HO7 := Lib.hid (show w7.ownsRow wz.heap.size 26 1 (.slice A7 (b' + 1) c7) (b' + 1) (us.take (b' + 1)) by simpa using hown7)
              have hB7 : Below wz.heap.size wz w7 := (((Below.refl wz.heap.size wz).alloc (Nat.le_refl _) _).alloc (by simp) _).grown hg7 (by simp; try omega) (fun b e => by have e2 : some (wz.heap.size + 1) = some b := e; injection e2 with e2; omega)
              have HM8 := Lib.hid (own_kept (own_kept (row := none) (World.ownsRow_made (base := wz.heap.size) (e := 3) (size := 1) wz #[] 0 (Nat.le_refl _) (Nat.zero_le _) rfl) (World.grownBy_alloc _ _ none) (fun g e => by cases e)) hg7 (fun g e => by have e2 : some (wz.heap.size + 1) = some g := e; injection e2 with e2; intro e3; have e4 : some wz.heap.size = some g := e3; injection e4 with e4; omega))
              have HB7 := Lib.hid hB7
              have hs7 := hB7.size
              clear hown7 hg7 hat7 hB7
              refine hK _ _ (fun _ => trivial) ?_
              clear hK K
              have HO8 := HO7
              have HB8 := HB7
              have hs8 := HB8.out.size
              refine z_one (i := 7) rfl (by kernel_rfl) (by rfl) (fun K hK => ?_)
              refine wp_append_any _ _ _ 26 rfl wz.heap.size 3 i0 _ 1 8 Tryz.underlying26 hi0 hz0 hz1 hz2 rfl (by decide) (.slice (some ⟨wz.heap.size, 0, none⟩) 0 0) 0 [] (by rfl) (HM8.out) wz.heap.size Ax x.length cx _ (by rfl) (Hrz.out.below HB8.out) (Honex.out) (by unfold maxLen; omega) (by omega) (hs8) ?_
              intro v9 w9 hown9 hg9 hat9
              obtain ⟨A9, c9, ev9, _, _, _⟩ := own_form hown9
              rw [Nat.zero_add] at ev9
              subst ev9
              have HV9 := Lib.hid (show OwnInts w9 wz.heap.size (.slice A9 x.length c9) x by unfold OwnInts; simpa using hown9)
              have HO9 := Lib.hid (own_kept HO8.out hg9 (fun g e => own_own_ne HM8.out HO8.out (by decide) e))
              have HB9 := Lib.hid (HB8.out.grown hg9 HB8.out.size (own_row_ge HM8.out))
              have hs9 := HB9.out.size
              clear hown9 hg9 hat9
              refine hK _ _ (fun _ => trivial) ?_
              clear hK K
              refine z_one (i := 8) rfl (by kernel_rfl) (by rfl) (fun K hK => ?_)
              go_simp
              refine hK _ _ (fun _ => trivial) ?_
              clear hK K
              have HV10 := Lib.hid (show OwnInts (w9.alloc (.cells #[.slice A9 x.length c9] 26)) wz.heap.size (.slice A9 x.length c9) x from own_kept (row := none) HV9.out (World.grownBy_alloc w9 _ none) (fun g e => by cases e))
              have HO10 := Lib.hid (own_kept (w' := w9.alloc (.cells #[.slice A9 x.length c9] 26)) (row := none) HO9.out (World.grownBy_alloc w9 _ none) (fun g e => by cases e))
              have HB10 := Lib.hid (HB9.out.alloc HB9.out.size (.cells #[.slice A9 x.length c9] 26))
              have hs10 := HB10.out.size
              refine z_one (i := 9) rfl (by kernel_rfl) (by rfl) (fun K hK => ?_)
              refine wp_append_any _ _ _ 40 rfl wz.heap.size 26 j0 _ 1 24 Tryz.underlying40 hj0 yz0 yz1 yz2 rfl (by decide) (.slice A7 (b' + 1) c7) (b' + 1) _ (by rfl) (HO10.out) (w9.heap.size + 1) (some ⟨w9.heap.size, 0, none⟩) 1 1 [.slice A9 x.length c9] (by rfl) (reads_one (Nat.lt_succ_self _) (cell_new0 _ _ _)) (by intro u hu; simp at hu; subst hu; rfl) (by unfold maxLen; omega) (by omega) (hs10) ?_
              intro v11 w11 hown11 hg11 hat11
              have HO11 := Lib.hid hown11
              have HV11 := Lib.hid (show OwnInts w11 wz.heap.size (.slice A9 x.length c9) x from own_kept HV10.out hg11 (fun g e => own_own_ne HO10.out HV10.out (by decide) e))
              have HB11 := Lib.hid (HB10.out.grown hg11 HB10.out.size (own_row_ge HO10.out))
              have hs11 := HB11.out.size
              obtain ⟨A11, c11, ev11, _, _, _⟩ := own_form hown11
              subst ev11
              clear hown11 hg11 hat11
              refine hK _ _ (fun _ => trivial) ?_
              clear hK K
              try simp only [Act.put, List.setIfInBounds_toArray]
              refine z_one (i := 13) rfl (by kernel_rfl) (by rfl) (fun K hK => ?_)
              refine wp_append_any _ _ _ 40 rfl wz.heap.size 26 j0 _ 1 24 Tryz.underlying40 hj0 yz0 yz1 yz2 rfl (by decide) (.slice A11 ((b' + 1) + 1) c11) ((b' + 1) + 1) _ (by rfl) (HO11.out) wz.heap.size _ (l.length - (b' + 1)) _ _ (by rfl) (by first | exact Hrd2.out.below HB11.out | exact Hrd3.out.below HB11.out) (Hone2.out) (by unfold maxLen; omega) (by omega) (hs11) ?_
              intro v13 w13 hown13 hg13 hat13
              have HV13 := Lib.hid (show OwnInts w13 wz.heap.size (.slice A9 x.length c9) x from own_kept HV11.out hg13 (fun g e => own_own_ne HO11.out HV11.out (by decide) e))
              have HB13 := Lib.hid (HB11.out.grown hg13 HB11.out.size (own_row_ge HO11.out))
              have HS13 := Lib.hid (ins_sets Husz.out.1 Husz.out.2 HB13.out (by omega) (m := (l.length - (b' + 1))) (by omega) (by omega) HV13.out hown13)
              clear hown13 hg13 hat13
              refine hK _ _ (fun _ => trivial) ?_
              clear hK K
              refine z_one (i := 14) rfl (by kernel_rfl) (by rfl) (fun K hK => ?_)
              go_simp
              refine hK _ _ (fun h => absurd rfl h) ?_
              clear hK K
              refine z_done (by kernel_rfl) ?_ _
              go_wp2
              go_ret
              first
                | exact ⟨_, _, rfl, HS13.out, Hins.out, fun z => Rk.ins_mem, HLz.out.trans (HB13.out.mono HLz.out.size)⟩
                | exact ⟨_, rfl, _, HS13.out, Hins.out, fun z => Rk.ins_mem, HLz.out.trans (HB13.out.mono HLz.out.size)⟩
                | exact ⟨_, rfl, _, HS13.out, Hins.out, fun z => (by have hn : l = [] := List.eq_nil_of_length_eq_zero (by omega); simp [hn]), HLz.out.trans (HB13.out.mono HLz.out.size)⟩
                | exact ⟨_, _, rfl, HS13.out, Hins.out, fun z => (by have h := @Rk.ins_mem l x z 0; have hn : l = [] := List.eq_nil_of_length_eq_zero (by omega); simpa [hn] using h), HLz.out.trans (HB13.out.mono HLz.out.size)⟩
end Go.Proofs.YtfpmbjobieeidaaGreat
