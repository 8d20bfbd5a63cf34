/-
  The walk of smallest.
-/
import Derived.Test.YtfpmbjobieeidaaGreatSort
namespace Go.Proofs.YtfpmbjobieeidaaGreat
open Go.RowKit

set_option maxRecDepth 20000 in
set_option maxHeartbeats 1000000 in
theorem smallest_any (v : Value) (xss : List (List Int)) (B : Nat) (w : World) (hv : Sets w B v xss) (hB : B ≤ w.heap.size) (hmany : xss.length ≤ 65536) (hlong : ∀ xs ∈ xss, xs.length ≤ 65536) :
    Calls Tryz.prog 54 #[v] w fun e w' => ∃ v', e = .returned v' ∧ OwnSets w' w.heap.size v' (Rk.smallest xss) ∧ Below w.heap.size w w' := by
  obtain ⟨A, c, vs, rfl, hn, hm, hr, hi⟩ := hv
  have hnil : A = none → xss.length = 0 := fun h => by
    rcases Nat.eq_zero_or_pos xss.length with h0 | h0
    · exact h0
    · obtain ⟨ad, e, _⟩ := hr.2 h0
      rw [h] at e
      cases e
  have hone : ∀ u ∈ vs, u.oneCell' = true := fun u hu => by
    obtain ⟨i, hlt, rfl⟩ := List.mem_iff_getElem.1 hu
    have hl := hr.1
    obtain ⟨u', h1, h2⟩ := hi i (by omega)
    rw [List.getElem?_eq_getElem hlt] at h1
    injection h1 with h1
    rw [h1]
    exact h2.one
  have C1 := Lib.hid (cloneSets_any A xss.length c vs B w hr hB hone (by omega) hnil)
  have Hi := Lib.hid hi
  have Hlong := Lib.hid hlong
  clear hr hi hnil hone hm hn hlong
  go_enter Tryz.func54, Tryz.ntmps54
  have hsl : (Rk.sortSets xss).length = xss.length := (Rk.sortSets_perm xss).length_eq
  have hsm : ∀ k, k < xss.length → ((Rk.sortSets xss).getD k []).length ≤ 65536 := fun k hk => Hlong.out _ ((Rk.sortSets_perm xss).mem_iff.1 (by rw [List.getD_eq_getElem?_getD, List.getElem?_eq_getElem (by omega)]; exact List.getElem_mem (by omega)))
  have Hsl := Lib.hid hsl
  have Hsm := Lib.hid hsm
  clear hsl hsm
  go_wp2
  go_step3
  go_wp2_with fail
  refine C1.out.mono ?_
  rintro e w1 ⟨v3, rfl, hown, hb1⟩
  obtain ⟨A3, c3, hv3, _, _, _⟩ := own_form hown
  have C2 := Lib.hid (sortSets_any (B := B) (xss := xss) rfl hown hB (Nat.le_trans hB hb1.size) (fun i h => by obtain ⟨u, h1, h2⟩ := Hi.out i h; exact ⟨u, h1, h2.keep fun p hp => hb1.cell (by omega)⟩) (by omega))
  rw [hv3] at C2 ⊢
  clear hown
  go_wp2_with fail
  refine C2.out.mono ?_
  rintro e w2 ⟨rfl, vs', hown, hg, hi2⟩
  have hb2 : Below w.heap.size w w2 := hb1.grown hg hb1.size (fun k hk => by
    obtain ⟨A4, c4, hv4, _, _, hbase⟩ := own_form hown
    injection hv4 with hv4
    subst hv4
    cases A3 with
    | none => simp [Value.ownBlock] at hk
    | some ad => simp [Value.ownBlock] at hk; have := hbase ad rfl; omega)
  obtain ⟨A4, c4, hv4, hc4, hr4, _⟩ := own_form hown
  have e34 : A3 = A4 ∧ c3 = c4 := by injection hv4 with h1 _ h2; exact ⟨h1, h2⟩
  obtain ⟨rfl, rfl⟩ := e34
  have HR := Lib.hid hr4
  have HI := Lib.hid hi2
  clear hown hg hi2 hv4 hr4 hv3
  go_wp2
  go_step3
  go_wp2
  go_loopg [4, 15] xss.length (fun g o i wr => ∃ k : Nat, k ≤ xss.length ∧ g = xss.length - k ∧ i = .int .i64 k ∧ OwnSets wr w2.heap.size o (((Rk.sortSets xss).take k).foldl Rk.smStep []) ∧ Below w2.heap.size w2 wr)
  case atStart => exact ⟨0, Nat.zero_le _, rfl, rfl, OwnSets.nil _ _, Below.refl _ _⟩
  case round =>
    obtain ⟨k, hk, hgk, rfl, ho, hbr⟩ := hrel
    have Hgk := Lib.hid hgk
    clear hgk
    by_cases hlt : k < xss.length
    · obtain ⟨ad, u', e, hadb, hx, hc⟩ := HR.out.at_ hlt
      obtain ⟨u, hx2, hu⟩ := HI.out k hlt
      obtain rfl : u' = u := by rw [hx2] at hx; exact (Option.some.inj hx).symm
      subst e
      have hc' : wr.cell? (ad.add k) = some u' := (hbr.cell (by rw [block_of_add]; exact hadb)).trans hc
      have hu' : Ints wr w2.heap.size u' ((Rk.sortSets xss).getD k []) := (hu.more (B' := w2.heap.size) (by have := hb2.size; omega)).below hbr
      have hS := Hsm.out k hlt
      have HF := Lib.hid (Rk.foldl_take_succ Rk.smStep [] (Rk.sortSets xss) k (by rw [Hsl.out]; exact hlt))
      obtain ⟨hO1, hO2⟩ := Rk.smFold_take_le (Rk.sortSets xss) k
      rw [Hsl.out] at hO1
      have HO2 := Lib.hid (show ∀ x ∈ ((Rk.sortSets xss).take k).foldl Rk.smStep [], x.length ≤ 65536 from fun x h => Hlong.out x ((Rk.sortSets_perm xss).mem_iff.1 (hO2 x h)))
      clear hO2 hx hx2 hu hc
      generalize ((Rk.sortSets xss).take k).foldl Rk.smStep [] = O at *
      generalize (Rk.sortSets xss).getD k [] = S at *
      obtain ⟨us, hown, hoi⟩ := ho
      obtain ⟨Ao, co, hvo, hco, hro, hbo⟩ := own_form hown
      subst hvo
      have HoS := Lib.hid (OwnSets.reads ⟨us, hown, hoi⟩ (by omega) (fun x h => by have := HO2.out x h; omega))
      go_wp2
      go_loopg [21] O.length (fun g j wx => wx = wr ∧ ∃ m : Nat, m ≤ O.length ∧ g = O.length - m ∧ j = .int .i64 m ∧ Hid (∀ i, i < m → Rk.within (O.getD i []) S = false))
      case atStart => exact ⟨rfl, 0, Nat.zero_le _, rfl, rfl, fun i h => by omega⟩
      case round =>
        obtain ⟨rfl, m, hm, hgm, rfl, hno⟩ := hrel
        have Hgm := Lib.hid hgm
        clear hgm
        by_cases hltm : m < O.length
        · obtain ⟨Av, cv, vv, ev, _, _, hrv, hiv⟩ := HoS.out
          have ev1 : Ao = Av := by injection ev
          subst ev1
          obtain ⟨ad2, x, rfl, _, hcx, hxi⟩ := sets_at hrv hiv hltm
          cases hw : Rk.within (O.getD m []) S with
          | true =>
            have HW := Lib.hid (within_any x u' (O.getD m []) S wr.heap.size wr hxi (hu'.more hbr.size))
            rw [hw] at HW
            have HF' := Lib.hid (HF.out.trans (Rk.smStep_yes hltm hw))
            clear hrv hiv ev hxi hw
            go_wp2_with (go_at_call 99; refine HW.out.mono ?_; rintro e w' ⟨rfl, rfl⟩)
            go_roundg (xss.length - (k + 1))
            case rel => exact ⟨k + 1, by omega, rfl, by go_num, by rw [HF'.out]; exact ⟨us, hown, hoi⟩, hbr⟩
            case measure => rw [Hgk.out]; omega
          | false =>
            have HW := Lib.hid (within_any x u' (O.getD m []) S wr.heap.size wr hxi (hu'.more hbr.size))
            rw [hw] at HW
            have Hno := Lib.hid (show ∀ i, i < m + 1 → Rk.within (O.getD i []) S = false from fun i h => by
              by_cases e : i = m
              · subst e; exact hw
              · exact hno.out i (by omega))
            clear hrv hiv ev hxi hw hno
            go_wp2_with (go_at_call 99; refine HW.out.mono ?_; rintro e w' ⟨rfl, rfl⟩)
            go_roundg (O.length - (m + 1))
            case rel => exact ⟨rfl, m + 1, by omega, rfl, by go_num, Hno⟩
            case measure => rw [Hgm.out]; omega
        · obtain rfl : m = O.length := by omega
          have HF' := Lib.hid (HF.out.trans (Rk.smStep_no hno.out))
          obtain ⟨Au, cu, rfl, hcu, _, hru⟩ := hu'
          obtain ⟨i0, hi0, hz0, hz1, hz2⟩ := info_parts info_int
          obtain ⟨j0, hj0, yz0, yz1, yz2⟩ := info_parts info_ints
          have Hroom := Lib.hid hown
          have Hoi := Lib.hid hoi
          have Hru := Lib.hid hru
          have Hbo := Lib.hid hbo
          have Hone := Lib.hid (show ∀ u ∈ S.map (Value.int .i64), u.oneCell' = true from fun u hu => by obtain ⟨x, _, rfl⟩ := List.mem_map.1 hu; rfl)
          clear hno hown hoi hru hbo hro HF
          go_wp2_with (at_builtin; go_must (refine wpList_append_any _ rfl _ _ 26 rfl w2.heap.size 3 i0 _ 1 8 Tryz.underlying26 hi0 hz0 hz1 hz2 rfl (by decide) (.slice none 0 0) 0 [] rfl ⟨by simp, .inl ⟨rfl, rfl⟩⟩ w2.heap.size Au S.length cu _ rfl Hru.out Hone.out ?c1 ?c2 ?c3 ?_))
          case c1 => unfold maxLen; omega
          case c2 => omega
          case c3 => exact hbr.size
          intro v31 wa hown31 hg31 _
          obtain ⟨A31, c31, hv31, _, _, _⟩ := own_form hown31
          subst hv31
          have hg31' : wr.grownBy wa none := hg31
          have hown' : OwnInts wa w2.heap.size (.slice A31 S.length c31) S := by unfold OwnInts; simpa using hown31
          have hba : Below w2.heap.size w2 wa := hbr.grown hg31' hbr.size (fun k hk => by cases hk)
          have HO1 := Lib.hid hown'
          have HO3 := Lib.hid ((own_kept Hroom.out hg31' (fun g e => by cases e)))
          have Hg31 := Lib.hid hg31'
          clear hown31 hg31 hown' hg31' hi0 hz0 hz1 hz2
          rename_i left1 right1 left2 right2
          have hgal : ∀ o, wa.grownBy (wa.alloc o) none := fun o => World.grownBy_alloc wa o none
          have Hgal := Lib.hid hgal
          clear hgal
          go_wp2_with (at_builtin; go_must (refine wpList_append_own _ rfl _ _ 40 rfl w2.heap.size 26 j0 _ 1 24 Tryz.underlying40 hj0 yz0 yz1 yz2 rfl (by decide) _ O.length us rfl ?d0 ⟨wa.heap.size, 0, none⟩ 1 1 [.slice A31 S.length c31] rfl rfl ?d1 ?d2 ?d3 ?d4 ?d5 ?_))
          case d0 => exact own_kept HO3.out (Hgal.out _) (fun g e => by cases e)
          case d1 => exact (cell_one_new _ _ _)
          case d2 => intro u hu; simp at hu; subst hu; rfl
          case d3 => unfold maxLen; omega
          case d4 => omega
          case d5 => have := hba.size; simp; omega
          intro v33 wb hown33 hg33 _
          have hbb : Below w2.heap.size w2 wb := (hba.alloc hba.size _).grown hg33 (by have := hba.size; simp; omega) (fun k hk => by
            cases Ao with
            | none => simp [Value.ownBlock] at hk
            | some ao => simp [Value.ownBlock] at hk; have := Hbo.out ao rfl; omega)
          have HN := Lib.hid (OwnSets.snoc (own_kept HO3.out (Hgal.out _) (fun g e => by cases e)) (fun i h => by obtain ⟨u, h1, h2⟩ := Hoi.out i h; exact ⟨u, h1, own_kept (own_kept h2 Hg31.out (fun g e => by cases e)) (Hgal.out _) (fun g e => by cases e)⟩) (own_kept HO1.out (Hgal.out _) (fun g e => by cases e)) hown33 hg33)
          clear hown33 hg33
          go_wp2
          go_roundg (xss.length - (k + 1))
          case rel => exact ⟨k + 1, by omega, rfl, by go_num, by rw [HF'.out]; exact HN.out, hbb⟩
          case measure => rw [Hgk.out]; omega
    · obtain rfl : k = xss.length := by omega
      go_wp2
      rw [Exit.noGoto_ret]
      go_ret
      refine ⟨_, rfl, ?_, hb2.trans (hbr.mono hb2.size)⟩
      rw [List.take_of_length_le (by rw [Hsl.out]; omega)] at ho
      exact OwnSets.more ho hb2.size

end Go.Proofs.YtfpmbjobieeidaaGreat
