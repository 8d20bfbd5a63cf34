/-
  The walks of rank.Smallest, of the reference's smallest and Smallest.
-/
import Derived.Test.YtfpmbjobieeidaaGreatRPut
import Derived.Test.YtfpmbjobieeidaaGreatHas
import Derived.Test.YtfpmbjobieeidaaGreatSmall
namespace Go.Proofs.YtfpmbjobieeidaaGreat
open Go.RowKit

/-- What Smallest answers. -/
def SmlPost (xss : List (List Int)) (w : World) (e : Ending) (w' : World) : Prop :=
  ∃ v', e = .returned (.tuple #[v', .int .i64 (setsErr xss)]) ∧ Sets w' w'.heap.size v' (if setsErr xss = 0 then Rk.smallest xss else []) ∧ Below w.heap.size w w'
theorem Rk.leastTo (xss : List (List Int)) (s : List Int) {k : Nat} (hk : k < xss.length) : (xss.take (k + 1)).all (fun t => decide (s.length ≤ t.length) || !Rk.sub t s) = ((xss.take k).all (fun t => decide (s.length ≤ t.length) || !Rk.sub t s) && (decide (s.length ≤ (xss.getD k []).length) || !Rk.sub (xss.getD k []) s)) := by
  rw [List.take_succ_eq_append_getElem hk, List.all_append, List.getD_eq_getElem?_getD, List.getElem?_eq_getElem hk]
  simp

theorem Rk.nodup_len : ∀ {l m : List (List Int)}, l.Nodup → (∀ z ∈ l, z ∈ m) → l.length ≤ m.length
  | [], _, _, _ => Nat.zero_le _
  | a :: l, m, h, hs => by
    have ha : a ∈ m := hs a (List.mem_cons_self ..)
    obtain ⟨h1, h2⟩ := List.nodup_cons.1 h
    have ih := Rk.nodup_len (l := l) (m := m.erase a) h2 (fun z hz => (List.mem_erase_of_ne (fun e => h1 (by rw [← e]; exact hz))).2 (hs z (List.mem_cons_of_mem _ hz)))
    rw [List.length_erase_of_mem ha] at ih
    have : 0 < m.length := List.length_pos_of_mem ha
    simp only [List.length_cons]
    omega

set_option maxRecDepth 100000 in
set_option maxHeartbeats 2000000 in
theorem rsmallest_any (v : Value) (xss : List (List Int)) (B : Nat) (w : World) (hv : Sets w B v xss) (hB : B ≤ w.heap.size) (hinc : ∀ s ∈ xss, s.Pairwise (· < ·)) (hmany : xss.length ≤ 65536) (hlong : ∀ s ∈ xss, s.length ≤ 65536) :
    Calls Tryz.prog 55 #[v] w fun e w' => ∃ v', e = .returned v' ∧ OwnSets w' w.heap.size v' (Rk.smallest xss) ∧ Below w.heap.size w w' := by
  have HW := Lib.hid (fun (a b : Value) (xs ys : List Int) B W (h1 : Ints W B a xs) (h2 : Ints W B b ys) => rwithin_any a b xs ys B W h1 h2)
  obtain ⟨A, c, vs, rfl, hn, hm, hr, hi⟩ := hv
  have Hr := Lib.hid hr
  have Hi := Lib.hid hi
  have HB0 := Lib.hid hB
  clear hr hi hB
  go_enter Tryz.func55, Tryz.ntmps55
  go_wp2
  go_loopg [3, 4] xss.length (fun g s3 s4 wr => ∃ (i : Nat) (l : List (List Int)), i ≤ xss.length ∧ g = xss.length - i ∧ s4 = .int .i64 i ∧ Hid (OwnSets wr w.heap.size s3 l) ∧ Hid (Rk.Strict l) ∧ Hid (∀ z, z ∈ l ↔ z ∈ xss.take i ∧ Rk.least xss z = true) ∧ Hid (Below w.heap.size w wr))
  case atStart => exact ⟨0, [], Nat.zero_le _, rfl, rfl, OwnSets.nil _ _, Rk.strict_nil, by simp [Hid], Below.refl _ _⟩
  case round =>
    obtain ⟨i, l, hil, hg, rfl, hown, hst, hmem, hL⟩ := hrel
    have Hg := Lib.hid hg
    clear hg
    by_cases hlt : i < xss.length
    · obtain ⟨ad, u, rfl, hadb, hu, hcu⟩ := Hr.out.at_ hlt
      obtain ⟨u', hu', hxi⟩ := Hi.out i hlt
      obtain rfl : u' = u := by rw [hu] at hu'; exact (Option.some.inj hu').symm
      have Hxi := Lib.hid hxi
      obtain ⟨Au, cu, rfl, -, hul, -⟩ := hxi
      have hadw : ad.block < w.heap.size := Nat.lt_of_lt_of_le hadb HB0.out
      have ci := keepB hL.out (p := ad.add i) (by rw [block_of_add]; exact hadw) hcu
      have hgm : xss.getD i [] ∈ xss := Rk.memD hlt
      have Hlen := Lib.hid (Rk.nodup_len hst.out.nodup (m := xss) (fun z hz => List.mem_of_mem_take ((hmem.out z).1 hz).1))
      have hli : (xss.getD i []).length ≤ 65536 := hlong _ hgm
      obtain ⟨Li, hLi⟩ : ∃ Li, Li = (xss.getD i []).length := ⟨_, rfl⟩
      have HLi := Lib.hid hLi
      have Hgm := Lib.hid hgm
      rw [← hLi] at ci hli
      have hiz : (i : Int) < (xss.length : Int) := by omega
      obtain ⟨wo, rfl⟩ : ∃ wo : World, wo = wr := ⟨_, rfl⟩
      clear hu hu' hcu hul hLi hgm
      go_wp2
      go_loopg [5, 6] xss.length (fun g s5 s6 wy => ∃ (k q : Nat) (bb : Bool), k ≤ xss.length ∧ g = xss.length - k ∧ s5 = .bool bb ∧ s6 = .int .i64 k ∧ Hid ((xss.take k).all (fun t => decide ((xss.getD i []).length ≤ t.length) || !Rk.sub t (xss.getD i [])) = bb) ∧ wy = wo.drewN q)
      case atStart => exact ⟨0, 0, true, Nat.zero_le _, rfl, rfl, rfl, by rw [List.take_zero]; rfl, rfl⟩
      case round =>
        obtain ⟨k, q, bb, hk, hg2, rfl, rfl, hbb, rfl⟩ := hrel
        have Hg2 := Lib.hid hg2
        clear hg2
        by_cases hkl : k < xss.length
        · have hst2 := Rk.leastTo xss (xss.getD i []) hkl
          rw [hbb.out] at hst2
          obtain ⟨ad', uk, e, hadb', huk, hck⟩ := Hr.out.at_ hkl
          injection e with e
          subst e
          obtain ⟨uk', huk', hxk⟩ := Hi.out k hkl
          obtain rfl : uk' = uk := by rw [huk] at huk'; exact (Option.some.inj huk').symm
          have HWk := Lib.hid (fun q => HW.out uk' _ (xss.getD k []) (xss.getD i []) B (wo.drewN q) (hxk.keep (fun p hp => hL.out.cell (Nat.lt_of_lt_of_le hp HB0.out))) (Hxi.out.keep (fun p hp => hL.out.cell (Nat.lt_of_lt_of_le hp HB0.out))))
          obtain ⟨Ak, ck, rfl, -, hkl2, -⟩ := hxk
          have ckk := keepB hL.out (p := ad.add k) (by rw [block_of_add]; exact hadw) hck
          obtain ⟨Lk, hLk⟩ : ∃ Lk, Lk = (xss.getD k []).length := ⟨_, rfl⟩
          rw [← hLk] at ckk hkl2
          rw [← hLk, ← HLi.out] at hst2
          rw [← hLk] at HWk
          rw [← HLi.out] at HWk
          have hkz : (k : Int) < (xss.length : Int) := by omega
          obtain ⟨d, hd⟩ : ∃ d, d = decide (Li ≤ Lk) := ⟨_, rfl⟩
          have hd1 : decide ((Li : Int) ≤ (Lk : Int)) = d := by rw [hd]; exact decide_eq_decide.2 (by omega)
          have hd2 : decide (Li ≤ Lk) = d := hd.symm
          obtain ⟨sb, hsb⟩ : ∃ sb, sb = Rk.sub (xss.getD k []) (xss.getD i []) := ⟨_, rfl⟩
          rw [← hsb] at HWk hst2
          rw [hd2] at hst2
          have Hst2 := Lib.hid hst2
          clear hst2 hd hsb hLk huk huk' hck hadb'
          cases bb
          · have Hn := Lib.hid (show (xss.take (k + 1)).all (fun t => decide ((xss.getD i []).length ≤ t.length) || !Rk.sub t (xss.getD i [])) = false by rw [← HLi.out, Hst2.out]; rfl)
            clear hbb Hst2
            go_wp2
            go_quiet ((go_at_call 100; refine (HWk.out _).mono ?_; rintro e w2 ⟨h1, h2⟩; exact ⟨h1, _, h2.symm⟩))
            go_wp2
            go_roundg (xss.length - (k + 1))
            case rel => exact ⟨k + 1, _, false, hkl, rfl, rfl, by go_num, Hn, rfl⟩
            case measure => rw [Hg2.out]; omega
          · cases d
            · have Hn := Lib.hid (show (xss.take (k + 1)).all (fun t => decide ((xss.getD i []).length ≤ t.length) || !Rk.sub t (xss.getD i [])) = !sb by rw [← HLi.out, Hst2.out]; simp)
              clear hbb Hst2
              go_wp2
              go_quiet ((go_at_call 100; refine (HWk.out _).mono ?_; rintro e w2 ⟨h1, h2⟩; exact ⟨h1, _, h2.symm⟩))
              go_wp2
              go_roundg (xss.length - (k + 1))
              case rel => exact ⟨k + 1, _, !sb, hkl, rfl, rfl, by go_num, Hn, rfl⟩
              case measure => rw [Hg2.out]; omega
            · have Hn := Lib.hid (show (xss.take (k + 1)).all (fun t => decide ((xss.getD i []).length ≤ t.length) || !Rk.sub t (xss.getD i [])) = true by rw [← HLi.out, Hst2.out]; simp)
              clear hbb Hst2
              go_wp2
              go_quiet ((go_at_call 100; refine (HWk.out _).mono ?_; rintro e w2 ⟨h1, h2⟩; exact ⟨h1, _, h2.symm⟩))
              go_wp2
              go_roundg (xss.length - (k + 1))
              case rel => exact ⟨k + 1, _, true, hkl, rfl, rfl, by go_num, Hn, rfl⟩
              case measure => rw [Hg2.out]; omega
        · obtain rfl : k = xss.length := by omega
          have hb2 := hbb.out
          rw [List.take_length] at hb2
          have Hb2 := Lib.hid (show Rk.least xss (xss.getD i []) = bb from hb2)
          have Htk := Lib.hid (show ∀ z, z ∈ xss.take (i + 1) ↔ z ∈ xss.take i ∨ z = xss.getD i [] from fun z => by
            rw [List.take_succ_eq_append_getElem hlt, List.mem_append, List.mem_singleton, List.getD_eq_getElem?_getD, List.getElem?_eq_getElem hlt]; rfl)
          clear hb2 hbb
          obtain ⟨w5, hw5⟩ : ∃ w5, w5 = wo.drewN q := ⟨_, rfl⟩
          have HO5 := Lib.hid (show OwnSets w5 w.heap.size _ l by rw [hw5]; exact hown.out)
          have HL5 := Lib.hid (show Below w.heap.size w w5 by rw [hw5]; exact below_drewN hL.out q)
          have c5 : w5.cell? (ad.add i) = some (.slice Au Li cu) := by rw [hw5]; exact ci
          rw [← hw5]
          clear hw5 hown ci
          cases bb
          · have Hm := Lib.hid (show ∀ z, z ∈ l ↔ z ∈ xss.take (i + 1) ∧ Rk.least xss z = true from fun z => by
              rw [hmem.out z, Htk.out z]
              constructor
              · rintro ⟨h1, h2⟩; exact ⟨.inl h1, h2⟩
              · rintro ⟨h1 | h1, h2⟩
                · exact ⟨h1, h2⟩
                · rw [h1, Hb2.out] at h2; cases h2)
            go_wp2
            go_roundg (xss.length - (i + 1))
            case rel => exact ⟨i + 1, l, hlt, rfl, by go_num, HO5.out, hst, Hm, HL5⟩
            case measure => rw [Hg.out]; omega
          · have hsz5 := HL5.out.size
            have HP := Lib.hid (rput_any _ _ l (xss.getD i []) w.heap.size w5 HO5.out ((Hxi.out.keep (fun p hp => HL5.out.cell (Nat.lt_of_lt_of_le hp HB0.out))).more (Nat.le_trans HB0.out hsz5)) hsz5 hst.out (Nat.le_trans Hlen.out hmany) (fun s hs => hlong s (List.mem_of_mem_take ((hmem.out s).1 hs).1)) (by rw [← HLi.out]; exact hli))
            rw [← HLi.out] at HP
            go_wp2_with fail
            refine HP.out.mono ?_
            rintro e w6 ⟨v', l', rfl, ho, hs', hm', hb⟩
            have Ho := Lib.hid ho
            have Hs' := Lib.hid hs'
            have Hm := Lib.hid (show ∀ z, z ∈ l' ↔ z ∈ xss.take (i + 1) ∧ Rk.least xss z = true from fun z => by
              rw [hm' z, hmem.out z, Htk.out z]
              constructor
              · rintro (⟨h1, h2⟩ | h1)
                · exact ⟨.inl h1, h2⟩
                · rw [h1]; exact ⟨.inr rfl, Hb2.out⟩
              · rintro ⟨h1 | h1, h2⟩
                · exact .inl ⟨h1, h2⟩
                · exact .inr h1)
            have HL6 := Lib.hid (show Below w.heap.size w w6 from HL5.out.trans (hb.mono hsz5))
            clear ho hs' hm' hb HP
            go_wp2
            go_roundg (xss.length - (i + 1))
            case rel => exact ⟨i + 1, l', hlt, rfl, by go_num, Ho.out, Hs', Hm, HL6⟩
            case measure => rw [Hg.out]; omega
    · obtain rfl : i = xss.length := by omega
      have He := Lib.hid (show l = Rk.smallest xss from hst.out.ext (Rk.smallest_strict hinc) (fun z => by rw [hmem.out z, Rk.smallest_mem hinc z, List.take_length]))
      go_wp2
      go_ret
      exact ⟨_, rfl, by rw [← He.out]; exact hown.out, hL.out⟩

theorem setsErr_zero {xss : List (List Int)} (herr : setsErr xss = 0) : xss.length ≤ 256 ∧ ∀ s ∈ xss, Rk.Incr 256 s := by
  have hmany : xss.length ≤ 256 := by
    unfold setsErr at herr
    split at herr
    · cases herr
    · omega
  refine ⟨hmany, ?_⟩
  unfold setsErr at herr
  rw [if_neg (by omega)] at herr
  split at herr
  · rename_i h
    intro s hs
    obtain ⟨i, hi, rfl⟩ := List.mem_iff_getElem.1 hs
    have := h i hi
    rw [List.getD_eq_getElem?_getD, List.getElem?_eq_getElem hi] at this
    exact of_decide_eq_true this
  · cases herr

set_option maxRecDepth 20000 in
set_option maxHeartbeats 1000000 in
theorem smallestE_any (v : Value) (xss : List (List Int)) (B : Nat) (w : World) (hv : Sets w B v xss) (hB : B ≤ w.heap.size) :
    Calls Tryz.prog 20 #[v] w (SmlPost xss w) := by
  have HC := Lib.hid (checksets_any v xss B w hv)
  by_cases h : setsErr xss = 0
  · obtain ⟨hmany, hincr⟩ := setsErr_zero h
    have HS := Lib.hid (fun q => smallest_any v xss B (w.drewN q) hv hB (by omega) (fun s hs => by have := (hincr s hs).length_le; omega))
    have Hlen := Lib.hid (show ∀ s ∈ Rk.smallest xss, s.length ≤ 256 from fun s hs => by
      have hpw : ∀ s ∈ xss, s.Pairwise (· < ·) := fun s hs => (hincr s hs).pairwise
      have := (hincr s ((Rk.smallest_mem hpw s).1 hs).1).length_le; omega)
    have Hlen2 := Lib.hid (show (Rk.smallest xss).length ≤ 256 from by
      have hpw : ∀ s ∈ xss, s.Pairwise (· < ·) := fun s hs => (hincr s hs).pairwise
      exact Nat.le_trans (Rk.nodup_len (Rk.smallest_strict hpw).nodup (fun z hz => ((Rk.smallest_mem hpw z).1 hz).1)) hmany)
    have Hh := Lib.hid h
    rw [h] at HC
    clear h hincr hmany
    go_enter Tryz.func20, Tryz.ntmps20
    go_wp2_with fail
    refine HC.out.mono ?_
    rintro e w1 ⟨rfl, rfl⟩
    go_wp2_with fail
    refine (HS.out 0).mono ?_
    rintro e w2 ⟨v', rfl, ho, hb⟩
    have Hb := Lib.hid (show Below w.heap.size w w2 from hb)
    have Ho := Lib.hid (ho.reads (by have := Hlen2.out; omega) (fun s hs => by have := Hlen.out s hs; omega))
    clear ho hb HS
    go_wp2
    go_ret2
    exact ⟨_, by rw [Hh.out]; rfl, by rw [Hh.out, if_pos rfl]; exact Ho.out, Hb.out⟩
  · have hne : (setsErr xss != 0) = true := by simpa using h
    have Hh := Lib.hid h
    clear h
    obtain ⟨err, herr⟩ : ∃ err, setsErr xss = err := ⟨_, rfl⟩
    unfold SmlPost
    rw [herr] at Hh hne HC ⊢
    clear herr
    go_enter Tryz.func20, Tryz.ntmps20
    go_wp2_with fail
    refine HC.out.mono ?_
    rintro e w1 ⟨rfl, rfl⟩
    go_wp2
    go_ret2
    exact ⟨_, rfl, ⟨none, 0, [], rfl, Nat.le_refl _, Nat.zero_le _, Reads.none_, fun i hi => by simp at hi⟩, Below.refl _ w⟩

set_option maxRecDepth 20000 in
set_option maxHeartbeats 1000000 in
theorem rsmallestE_any (v : Value) (xss : List (List Int)) (B : Nat) (w : World) (hv : Sets w B v xss) (hB : B ≤ w.heap.size) :
    Calls Tryz.prog 21 #[v] w (SmlPost xss w) := by
  have HC := Lib.hid (rchecksets_any v xss B w hv)
  by_cases h : setsErr xss = 0
  · obtain ⟨hmany, hincr⟩ := setsErr_zero h
    have HS := Lib.hid (fun q => rsmallest_any v xss B (w.drewN q) hv hB (fun s hs => (hincr s hs).pairwise) (by omega) (fun s hs => by have := (hincr s hs).length_le; omega))
    have Hlen := Lib.hid (show ∀ s ∈ Rk.smallest xss, s.length ≤ 256 from fun s hs => by
      have hpw : ∀ s ∈ xss, s.Pairwise (· < ·) := fun s hs => (hincr s hs).pairwise
      have := (hincr s ((Rk.smallest_mem hpw s).1 hs).1).length_le; omega)
    have Hlen2 := Lib.hid (show (Rk.smallest xss).length ≤ 256 from by
      have hpw : ∀ s ∈ xss, s.Pairwise (· < ·) := fun s hs => (hincr s hs).pairwise
      exact Nat.le_trans (Rk.nodup_len (Rk.smallest_strict hpw).nodup (fun z hz => ((Rk.smallest_mem hpw z).1 hz).1)) hmany)
    have Hh := Lib.hid h
    rw [h] at HC
    clear h hincr hmany
    go_enter Tryz.func21, Tryz.ntmps21
    go_wp2_with fail
    refine HC.out.mono ?_
    rintro e w1 ⟨rfl, q, rfl⟩
    go_wp2_with fail
    refine (HS.out q).mono ?_
    rintro e w2 ⟨v', rfl, ho, hb⟩
    have Hb := Lib.hid (show Below w.heap.size w w2 from (below_drewN (Below.refl _ w) q).trans hb)
    have Ho := Lib.hid (ho.reads (by have := Hlen2.out; omega) (fun s hs => by have := Hlen.out s hs; omega))
    clear ho hb HS
    go_wp2
    go_ret2
    exact ⟨_, by rw [Hh.out]; rfl, by rw [Hh.out, if_pos rfl]; exact Ho.out, Hb.out⟩
  · have hne : (setsErr xss != 0) = true := by simpa using h
    have Hh := Lib.hid h
    clear h
    obtain ⟨err, herr⟩ : ∃ err, setsErr xss = err := ⟨_, rfl⟩
    unfold SmlPost
    rw [herr] at Hh hne HC ⊢
    clear herr
    go_enter Tryz.func21, Tryz.ntmps21
    go_wp2_with fail
    refine HC.out.mono ?_
    rintro e w1 ⟨rfl, q, rfl⟩
    go_wp2
    go_ret2
    exact ⟨_, rfl, ⟨none, 0, [], rfl, Nat.le_refl _, Nat.zero_le _, Reads.none_, fun i hi => by simp at hi⟩, below_drewN (Below.refl _ w) q⟩
end Go.Proofs.YtfpmbjobieeidaaGreat
