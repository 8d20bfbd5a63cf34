/-
  The walk of the search, where a hitting set has been found.
-/
import Derived.Test.YtfpmbjobieeidaaGreatGrowEnv
import Derived.Laws.CopyOwn
namespace Go.Proofs.YtfpmbjobieeidaaGreat
open Go.RowKit

theorem infoSize_int : (Tryz.prog.info? 3).map (·.size) = some 1 := by kernel_rfl
theorem zero_bool (w : World) : (zeroValue 4).run Tryz.prog w = .ok (.bool false) w := by kernel_rfl
theorem splice_pad (s : List Int) (h : s.length ≤ 3) : splice [.int .i64 (-1), .int .i64 (-1), .int .i64 (-1)] 0 (s.map (Value.int .i64)) = [.int .i64 (Rk.pad s).1, .int .i64 (Rk.pad s).2.1, .int .i64 (Rk.pad s).2.2] := by
  match s, h with
  | [], _ => rfl
  | [_], _ => rfl
  | [_, _], _ => rfl
  | [_, _, _], _ => rfl
theorem pad_wf {s : List Int} (h : ∀ x ∈ s, 0 ≤ x ∧ x < 256) (i : Nat) : (Lit.int .i64 (s.getD i (-1))).wf = true := by
  have : -1 ≤ s.getD i (-1) ∧ s.getD i (-1) < 256 := by
    rw [List.getD_eq_getElem?_getD]
    cases e : s[i]? with
    | none => simp
    | some x => have := h x (List.mem_of_getElem? e); simp; omega
  exact WalkArith.wf_i64 (by omega)

def GPost (b : Nat) (r : Bool × List (List Int)) (w : World) (e : Ending) (w' : World) : Prop := e = .returned (.bool r.1) ∧ Fnd w' b r.2 ∧ FrB b w w'

set_option maxRecDepth 100000 in
set_option maxHeartbeats 1000000 in
theorem grow_leaf {w : World} {b gs gz gH gh gn : Nat} {As : Option Addr} {cS : Nat} {H : Nat → Nat} {ss : List (List Int)} {size : Nat} (E : Env w b gs gz gH gh gn As cS H ss size) {found : List (List Int)} (F : Fnd w b found) (hfl : found.length ≤ 256)
    {v : Value} {l : List Int} (hl : OwnInts w 0 v l) (hl3 : l.length ≤ 3) (hlr : ∀ x ∈ l, 0 ≤ x ∧ x < 256) (m : Nat) (hfo : Rk.fo m ss.length < 0) :
    Calls Tryz.prog 60 #[v, mk m, .pointer (some ⟨gs, 0, none⟩), .pointer (some ⟨b + 1, 0, none⟩), .pointer (some ⟨gn, 0, none⟩), .pointer (some ⟨b + 2, 0, none⟩), .pointer (some ⟨gz, 0, none⟩), .pointer (some ⟨b + 3, 0, none⟩), .pointer (some ⟨gh, 0, none⟩)] w (GPost b (Rk.leaf H ss.length l found) w) := by
  obtain ⟨A, c, rfl, hnc, hr, _⟩ := own_form hl
  have hnil : A = none → l.length = 0 := fun h => by
    rcases Nat.eq_zero_or_pos l.length with h0 | h0
    · exact h0
    · obtain ⟨ad, e, _⟩ := hr.2 h0
      rw [h] at e
      cases e
  have hone : ∀ u ∈ l.map (Value.int .i64), u.oneCell' = true := fun u hu => by obtain ⟨x, _, rfl⟩ := List.mem_map.1 hu; rfl
  have HE := Lib.hid E
  have HF := Lib.hid F
  have Hr := Lib.hid hr
  have Hnil := Lib.hid hnil
  have Hone := Lib.hid hone
  have Hlr := Lib.hid hlr
  have lt_gs := E.bSets.lt
  have c_gs : w.cell? ⟨gs, 0, none⟩ = some (.slice As ss.length cS) := E.bSets.cell 0
  have Hop := Lib.hid (fun W => open_any m ss.length W E.many)
  unfold mk at Hop ⊢
  have Hleaf := Lib.hid (show Rk.leaf H ss.length l found = Rk.leaf H ss.length l found from rfl)
  clear E F hr hnil hone hlr hl hnc
  generalize Rk.fo m ss.length = f at *
  generalize Rk.wd m 0 = a0 at *
  generalize Rk.wd m 1 = a1 at *
  generalize Rk.wd m 2 = a2 at *
  generalize Rk.wd m 3 = a3 at *
  go_enter Tryz.func60, Tryz.ntmps60
  go_wp2_with fail
  refine (Hop.out _).mono ?_
  rintro e w2 ⟨rfl, hb2⟩
  have h02 : Below w.heap.size w w2 := ((Below.refl _ w).alloc (Nat.le_refl _) _).trans (hb2.mono (by simp))
  clear hb2 Hop c_gs
  go_wp2_with fail
  refine (cloneInts_any A l.length c _ w.heap.size w2 (Hr.out.below h02) h02.size Hone.out (by omega) Hnil.out).mono ?_
  rintro e w3 ⟨v13, rfl, hown3, hb3⟩
  have h03 : Below w.heap.size w w3 := h02.trans (hb3.mono h02.size)
  obtain ⟨A13, c13, hv13, _, _, hbase13⟩ := own_form hown3
  subst hv13
  have hown3' : OwnInts w3 w2.heap.size (.slice A13 l.length c13) l := hown3
  go_wp2_with fail
  refine (sortInts_any hown3' (by omega)).mono ?_
  rintro e w4 ⟨rfl, hown4, hg4⟩
  have h04 : Below w.heap.size w w4 := h03.grown hg4 h03.size (fun k hk => by
    cases A13 with
    | none => simp [Value.ownBlock] at hk
    | some ad => simp [Value.ownBlock] at hk; have := hbase13 ad rfl; have := h02.size; omega)
  clear hown3 hown3' hg4 hb3
  have hsl : (Rk.sortInts l).length = l.length := (List.mergeSort_perm l _).length_eq
  have Hslr := Lib.hid (show ∀ x ∈ Rk.sortInts l, 0 ≤ x ∧ x < 256 from fun x hx => Hlr.out x ((List.mergeSort_perm l _).mem_iff.1 hx))
  have Hsl := Lib.hid hsl
  clear hsl
  have Hown4 := Lib.hid hown4
  clear hown4
  have Hlf := Lib.hid (show Rk.leaf H ss.length l found = if (∃ t ∈ found, Rk.pad t = Rk.pad (Rk.sortInts l)) ∨ Rk.needed H ss.length (Rk.sortInts l) = false then (true, found) else (decide (found.length + 1 ≤ 256), found ++ [Rk.sortInts l]) from rfl)
  generalize Rk.sortInts l = s at *
  obtain ⟨A13', c13', hv13', _, hr13, _⟩ := own_form Hown4.out
  have Hr13 := Lib.hid (show Reads w4 w4.heap.size 1 A13 s.length (s.map (Value.int .i64)) by
    injection hv13' with h1 _ _
    subst h1
    exact hr13)
  clear hv13' hr13
  have hcs : (s.map (Value.int .i64)).length ≤ 3 := by rw [List.length_map, Hsl.out]; exact hl3
  have Hcs := Lib.hid hcs
  clear hcs
  go_wp2_with (refine wpList_copy_splice rfl (.tmp 28) (.tmp 29) 26 26 rfl 3 Tryz.underlying26 infoSize_int (some ⟨w4.heap.size, 0, none⟩) A13 3 3 l.length c13 rfl rfl w4.heap.size 0 [.int .i64 (-1), .int .i64 (-1), .int .i64 (-1)] 100 (heap_alloc_new w4 _) (s.map (Value.int .i64)) ?g2 ?g3 ?g4 ?g5 w4.heap.size (w4.alloc (.cells #[.int .i64 (-1), .int .i64 (-1), .int .i64 (-1)] 100)) (Below.refl _ _) (Nat.le_refl _) ?_)
  case g2 => rw [List.length_map, Hsl.out]; exact (Nat.min_eq_left hl3).symm
  case g3 =>
    intro hp
    obtain ⟨ad, e, hb, hc⟩ := Hr13.out.2 hp
    exact ⟨ad, e, fun j u hj => (World.cell?_alloc_lt w4 _ _ (by rw [block_of_add]; exact hb)).trans (hc j _ (by rw [List.getElem?_map, hj]; rfl))⟩
  case g4 => rw [Nat.zero_add]; exact Hcs.out
  case g5 => intro u hu; obtain ⟨x, _, rfl⟩ := List.mem_map.1 hu; rfl
  intro w5 hk5 hb5
  have hK5 : Blk w5 w4.heap.size 100 #[.int .i64 (Rk.pad s).1, .int .i64 (Rk.pad s).2.1, .int .i64 (Rk.pad s).2.2] := by
    have h := hk5.out
    rw [splice_pad s (by rw [Hsl.out]; exact hl3)] at h
    exact h
  have h45 : Below w4.heap.size w4 w5 := ((Below.refl _ w4).alloc (Nat.le_refl _) _).trans hb5
  have h05 : Below w.heap.size w w5 := h04.trans (h45.mono h04.size)
  have E5 := HE.out.fr (FrB.below h05)
  have F5 := HF.out.below h05
  have c_seen : w5.cell? ⟨b + 1, 0, none⟩ = some (.map (some b)) := E5.bSeen.cell 0
  have c_need : w5.cell? ⟨gn, 0, none⟩ = some (.func (.func 57) #[] #[.pointer (some ⟨gh, 0, none⟩), .pointer (some ⟨gs, 0, none⟩)]) := E5.bNeeded.cell 0
  have k0 : w5.cell? ⟨w4.heap.size, 0, none⟩ = some (.int .i64 (Rk.pad s).1) := hK5.cell 0
  have k1 : w5.cell? ⟨w4.heap.size, 1, none⟩ = some (.int .i64 (Rk.pad s).2.1) := hK5.cell 1
  have k2 : w5.cell? ⟨w4.heap.size, 2, none⟩ = some (.int .i64 (Rk.pad s).2.2) := hK5.cell 2
  have Hown5 := Lib.hid (own_below Hown4.out h45 (Nat.le_refl _))
  obtain ⟨kl, hkl⟩ := key3_of (Rk.pad s).1 (Rk.pad s).2.1 (Rk.pad s).2.2 (pad_wf Hslr.out 0) (pad_wf Hslr.out 1) (pad_wf Hslr.out 2)
  have Hkl := Lib.hid (show keyOf Tryz.prog 100 (padV s) = some kl from hkl)
  have HE5 := Lib.hid E5
  have HF5 := Lib.hid F5
  have HK5 := Lib.hid hK5
  have hlt5 := hK5.lt
  clear hk5 hb5 hkl E5 F5 hK5 lt_gs
  by_cases hhit : ∃ t ∈ found, Rk.pad t = Rk.pad s
  · have hrun := MapAt.hit (t := 96) (e := 4) (v := .bool true) HF5.out.map key3Law Tryz.underlying96 Hkl.out (fun p hp _ => by obtain ⟨t, _, rfl⟩ := List.mem_map.1 hp; rfl) (by
      obtain ⟨t, ht, e⟩ := hhit
      exact ⟨(padV t, .bool true), List.mem_map.2 ⟨t, ht, rfl⟩, by simp only [padV, e]⟩) false
    have Hres := Lib.hid (show Rk.leaf H ss.length l found = (true, found) by rw [Hlf.out, if_pos (.inl hhit)])
    unfold padV at hrun
    clear hhit
    generalize (Rk.pad s).1 = p0 at *
    generalize (Rk.pad s).2.1 = p1 at *
    generalize (Rk.pad s).2.2 = p2 at *
    go_wp2
    go_ret
    exact ⟨ret_bool (by rw [Hres.out]), by rw [Hres.out]; exact HF5.out, FrB.below h05⟩
  · have hmiss : ∀ p ∈ found.map (fun s => (padV s, Value.bool true)), p.1 ≠ padV s := fun p hp e => by
      obtain ⟨t, ht, rfl⟩ := List.mem_map.1 hp
      exact hhit ⟨t, ht, padV_inj e⟩
    have hrun := MapAt.miss (t := 96) (e := 4) HF5.out.map key3Law Tryz.underlying96 (zero_bool w5) Hkl.out hmiss false
    have Hmiss := Lib.hid hmiss
    clear hmiss
    have HN := Lib.hid (needed_any (.slice A13 l.length c13) s w4.heap.size w5 gh gH gs ss.length cS As H (by
        refine ⟨A13, c13, by rw [Hsl.out], ?_, by rw [Hsl.out]; omega, Hr13.out.below h45⟩
        obtain ⟨A', c', e, hc', _, _⟩ := own_form Hown4.out
        injection e with _ _ e
        rw [e]; exact hc') h45.size Hslr.out HE.out.many HE5.out.bHits HE5.out.bTable HE5.out.bSets)
    cases hnd : Rk.needed H ss.length s with
    | false =>
      rw [hnd] at HN
      have Hres := Lib.hid (show Rk.leaf H ss.length l found = (true, found) by rw [Hlf.out, if_pos (.inr hnd)])
      unfold padV at hrun
      clear hhit hnd
      generalize (Rk.pad s).1 = p0 at *
      generalize (Rk.pad s).2.1 = p1 at *
      generalize (Rk.pad s).2.2 = p2 at *
      go_wp2_with (go_at_call 57; refine HN.out.mono ?_; rintro e w6 ⟨rfl, hb6⟩)
      go_ret
      exact ⟨ret_bool (by rw [Hres.out]), by rw [Hres.out]; exact HF5.out.below hb6, FrB.below (h05.trans (hb6.mono h05.size))⟩
    | true =>
      rw [hnd] at HN
      have Hres := Lib.hid (show Rk.leaf H ss.length l found = (decide (found.length + 1 ≤ 256), found ++ [s]) by rw [Hlf.out, if_neg (by rintro (h | h); exact hhit h; rw [hnd] at h; cases h)])
      have Hpad := Lib.hid (show padV s = .agg #[.int .i64 (Rk.pad s).1, .int .i64 (Rk.pad s).2.1, .int .i64 (Rk.pad s).2.2] from rfl)
      unfold padV at hrun
      clear hhit hnd
      generalize (Rk.pad s).1 = p0 at *
      generalize (Rk.pad s).2.1 = p1 at *
      generalize (Rk.pad s).2.2 = p2 at *
      obtain ⟨fv, hbox, us, hrow, hel⟩ := HF.out.box
      obtain ⟨Af, cf, hfv, _, _, hbf⟩ := own_form hrow
      subst hfv
      have Hbox := Lib.hid hbox
      have Hrow := Lib.hid hrow
      have Hel := Lib.hid hel
      have Hbf := Lib.hid hbf
      have lt_box := hbox.lt
      have lt_grow := HE.out.bGrow.lt
      obtain ⟨j0, hj0, yz0, yz1, yz2⟩ := info_parts info_ints
      clear hbox hrow hel hbf
      go_wp2_with fail
      refine HN.out.mono ?_
      rintro e w6 ⟨rfl, hb6⟩
      have h06 : Below w.heap.size w w6 := h05.trans (hb6.mono h05.size)
      have k0 := (hb6.cell (p := ⟨w4.heap.size, 0, none⟩) hlt5).trans k0
      have k1 := (hb6.cell (p := ⟨w4.heap.size, 1, none⟩) hlt5).trans k1
      have k2 := (hb6.cell (p := ⟨w4.heap.size, 2, none⟩) hlt5).trans k2
      have c_seen : w6.cell? ⟨b + 1, 0, none⟩ = some (.map (some b)) := (HE5.out.fr (FrB.below hb6)).bSeen.cell 0
      obtain ⟨w7, hrun7, hM7, hg7⟩ := MapAt.store (t := 96) (e := 4) (v := .bool true) (HF5.out.below hb6).map key3Law Tryz.underlying96 Hkl.out Hmiss.out
      rw [Hpad.out] at hrun7
      have HM7 := Lib.hid hM7
      have Hg7 := Lib.hid hg7
      have hbox7 : Blk w7 (b + 2) 40 #[.slice Af found.length cf] := (Hbox.out.below h06 lt_box).grown hg7 (by simp)
      have c_box : w7.cell? ⟨b + 2, 0, none⟩ = some (.slice Af found.length cf) := hbox7.cell 0
      have Hbox7 := Lib.hid hbox7
      have hrow7 : w7.ownsRow (b + 4) 26 1 (.slice Af found.length cf) found.length us := own_kept (own_below Hrow.out h06 (Nat.le_refl _)) hg7 (fun g e he => by
        injection e with e
        cases Af with
        | none => simp [Value.ownBlock] at he
        | some ad => simp [Value.ownBlock] at he; have := Hbf.out ad rfl; omega)
      have Hrow7 := Lib.hid hrow7
      have hs7 : OwnInts w7 (b + 4) (.slice A13 l.length c13) s := own_kept (own_below (own_more (base' := b + 4) (own_below Hown4.out h45 (Nat.le_refl _)) (by have := h02.size; omega)) hb6 (Nat.le_refl _)) hg7 (fun g e he => by
        injection e with e
        subst e
        obtain ⟨es, cl, hm⟩ := (HF5.out.below hb6).isMap
        rcases (own_below (own_below Hown4.out h45 (Nat.le_refl _)) hb6 (Nat.le_refl _)).2 with ⟨h1, _⟩ | ⟨g', cap, cur, h1, _, h2, _⟩
        · rw [h1] at he; simp [Value.ownBlock] at he
        · rw [h1] at he; simp [Value.ownBlock] at he; subst he; rw [hm] at h2; cases h2)
      have Hs7 := Lib.hid hs7
      have hsz7 := hg7.size
      clear hM7 hg7 hbox7 hrow7 hs7 hrun
      go_wp2_with (at_builtin; go_must (refine wpList_append_own _ rfl _ _ 40 rfl (b + 4) 26 j0 _ 1 24 Tryz.underlying40 hj0 yz0 yz1 yz2 rfl (by decide) _ found.length us rfl ?d0 ⟨w7.heap.size, 0, none⟩ 1 1 [.slice A13 l.length c13] rfl rfl ?d1 ?d2 ?d3 ?d4 ?d5 ?_))
      case d0 => exact own_kept Hrow7.out (World.grownBy_alloc w7 _ none) (fun g e => by cases e)
      case d1 => exact (cell_one_new _ _ _)
      case d2 => intro u hu; simp at hu; subst hu; rfl
      case d3 => unfold maxLen; omega
      case d4 => omega
      case d5 => have := h06.size; simp; omega
      intro v33 wb hown33 hg33 _
      obtain ⟨A33, c33, hv33, _, _, _⟩ := own_form hown33
      subst hv33
      have hbw : Blk (w7.alloc (.cells #[.slice A13 l.length c13] 26)) (b + 2) 40 #[.slice Af found.length cf] := Hbox7.out.alloc _
      have hbb : Blk wb (b + 2) 40 #[.slice Af found.length cf] := hbw.grown hg33 (fun e => own_blk_ne (own_kept Hrow7.out (World.grownBy_alloc w7 _ none) (fun g e => by cases e)) hbw (by decide) e.symm)
      have c_b : wb.cell? ⟨b + 2, 0, none⟩ = some (.slice Af found.length cf) := hbb.cell 0
      have f_b := hbb.frozen 0
      have HO := Lib.hid (OwnSets.snoc (own_kept Hrow7.out (World.grownBy_alloc w7 _ none) (fun g e => by cases e)) (fun i h => by obtain ⟨u, h1, h2⟩ := Hel.out i h; exact ⟨u, h1, own_kept (own_kept (own_below h2 h06 (Nat.le_refl _)) Hg7.out (fun g e he => by
        injection e with e
        subst e
        obtain ⟨es, cl, hm⟩ := (HF5.out.below hb6).isMap
        rcases (own_below h2 h06 (Nat.le_refl _)).2 with ⟨h7, _⟩ | ⟨g', cap, cur, h7, _, h8, _⟩
        · rw [h7] at he; simp [Value.ownBlock] at he
        · rw [h7] at he; simp [Value.ownBlock] at he; subst he; rw [hm] at h8; cases h8)) (World.grownBy_alloc w7 _ none) (fun g e => by cases e)⟩) (own_kept Hs7.out (World.grownBy_alloc w7 _ none) (fun g e => by cases e)) hown33 hg33)
      have Hbb := Lib.hid hbb
      have Hg33 := Lib.hid hg33
      have Hown33 := Lib.hid hown33
      have hszb := hg33.size
      have hdec : decide (((found.length + 1 : Nat) : Int) ≤ 256) = decide (found.length + 1 ≤ 256) := by congr 1; apply propext; omega
      have Hdec := Lib.hid hdec
      clear hbw hbb hg33 hown33 hdec
      go_wp2
      go_ret
      refine ⟨ret_bool (by rw [Hres.out, ← Hdec.out]; rfl), ?_, ?_⟩
      · rw [Hres.out]
        have hgs := grown_setCell wb ⟨b + 2, 0, none⟩ (.slice A33 (found.length + 1) c33)
        refine ⟨⟨_, Hbb.out.set_ 0 _, ?_⟩, ?_⟩
        · obtain ⟨us', h1, h2⟩ := HO.out
          exact ⟨us', own_kept h1 hgs (fun g e he => own_blk_ne h1 Hbb.out (by decide) (he.trans e.symm)), fun i hi => by
            obtain ⟨u, h3, h4⟩ := h2 i hi
            exact ⟨u, h3, own_kept h4 hgs (fun g e he => own_blk_ne h4 Hbb.out (by decide) (he.trans e.symm))⟩⟩
        · rw [List.map_append]
          refine HM7.out.same ?_
          have hlt := HM7.out.lt
          rw [hgs.block b (by simp at hszb; omega) (by simp), Hg33.out.block b (by simp; omega) (fun e => ?_), Below.heap_alloc w7 _ b hlt]
          cases Af with
          | none => simp [Value.ownBlock] at e
          | some ad => simp [Value.ownBlock] at e; have := Hbf.out ad rfl; omega
      · refine ⟨?_, ?_, ?_, ?_, fun i hi h1 h2 h3 => ?_⟩
        · exact Hg33.out.os.trans (Hg7.out.os.trans h06.os)
        · exact Hg33.out.tape.trans (Hg7.out.tape.trans h06.tape)
        · exact Hg33.out.output.trans (Hg7.out.output.trans h06.output)
        · have e1 := h06.size
          simp [World.setCell] at hszb ⊢
          omega
        · have hi6 : i < w6.heap.size := Nat.lt_of_lt_of_le hi h06.size
          have hi7 : i < w7.heap.size := Nat.lt_of_lt_of_le hi6 hsz7
          rw [(grown_setCell wb ⟨b + 2, 0, none⟩ _).block i (by simp at hszb; omega) (fun e => h2 (by injection e)), Hg33.out.block i (by simp; omega) (fun e => ?_), Below.heap_alloc w7 _ i hi7, Hg7.out.block i hi6 (fun e => h1 (by injection e)), h06.block i hi]
          rcases h3 with h3 | h3
          · cases Af with
            | none => simp [Value.ownBlock] at e
            | some ad => simp [Value.ownBlock] at e; have := Hbf.out ad rfl; omega
          · rcases Hrow.out.2 with ⟨h4, _⟩ | ⟨g', cap, cur, h4, _, h5, _⟩
            · rw [h4] at e; simp [Value.ownBlock] at e
            · rw [h4] at e; simp [Value.ownBlock] at e; subst e; exact h3 _ _ h5

end Go.Proofs.YtfpmbjobieeidaaGreat
