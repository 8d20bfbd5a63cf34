/-
  The walk of the reference's Hit.
-/
import Derived.Test.YtfpmbjobieeidaaGreatRBare
import Derived.Test.YtfpmbjobieeidaaGreatRMin
import Derived.Test.YtfpmbjobieeidaaGreatRSmall
import Derived.Test.YtfpmbjobieeidaaGreatHit
import Derived.Test.YtfpmbjobieeidaaGreatRegZ
namespace Go.Proofs.YtfpmbjobieeidaaGreat
open Go.RowKit

theorem newBlkH {w : World} {g : Nat} (h : w.heap.size = g) (t : TypeId) (cs : Array Value) : Blk (w.alloc (.cells cs t)) g t cs := by subst h; exact Blk.new w t cs
theorem OwnSets.below_ {w w' : World} {b : Nat} {v : Value} {l : List (List Int)} (h : OwnSets w b v l) (hb : Below w.heap.size w w') : OwnSets w' b v l := by
  obtain ⟨us, hr, hi⟩ := h
  exact ⟨us, own_below hr hb (Nat.le_refl _), fun i hlt => by obtain ⟨u, h1, h2⟩ := hi i hlt; exact ⟨u, h1, own_below h2 hb (Nat.le_refl _)⟩⟩
/-- Another row of rows is lengthened. -/
theorem OwnSets.other {w w' : World} {b b' n : Nat} {v v' : Value} {l : List (List Int)} {us' : List Value} (h : OwnSets w b v l) (hr' : w.ownsRow b' 26 1 v' n us') (hg : w.grownBy w' v'.ownBlock) (hne : ∀ g, v'.ownBlock = some g → v.ownBlock ≠ some g) : OwnSets w' b v l := by
  obtain ⟨us, hr, hi⟩ := h
  exact ⟨us, own_kept hr hg hne, fun i hlt => by obtain ⟨u, h1, h2⟩ := hi i hlt; exact ⟨u, h1, own_kept h2 hg (fun g e => own_own_ne hr' h2 (by decide) e)⟩⟩
theorem OwnSets.form {w : World} {b : Nat} {v : Value} {l : List (List Int)} (h : OwnSets w b v l) : ∃ A c, v = .slice A l.length c := by
  obtain ⟨us, hr, _⟩ := h
  obtain ⟨A, c, e, _⟩ := own_form hr
  exact ⟨A, c, e⟩
theorem OwnSets.at_ {w : World} {b i c : Nat} {A : Option Addr} {l : List (List Int)} (h : OwnSets w b (.slice A l.length c) l) (hi : i < l.length) : ∃ g u, A = some ⟨g, 0, none⟩ ∧ g < w.heap.size ∧ w.cell? ⟨g, i, none⟩ = some u ∧ OwnInts w b u (l.getD i []) := by
  obtain ⟨us, hr, hx⟩ := h
  obtain ⟨g, rfl⟩ : ∃ g, A = some ⟨g, 0, none⟩ := (own_two2 hr).resolve_left (by omega)
  obtain ⟨u, h1, h2⟩ := hx i hi
  exact ⟨g, u, rfl, (own_row_lt hr g rfl).2, own_cell hr h1, h2⟩
theorem Rk.layer_one (all : List Int) : Rk.layer all 0 = [[]] := rfl
theorem Rk.take_flat (all : List Int) (L : List (List Int)) {i : Nat} (hi : i < L.length) : (L.take (i + 1)).flatMap (Rk.ext all) = (L.take i).flatMap (Rk.ext all) ++ Rk.ext all (L.getD i []) := by
  rw [List.take_succ_eq_append_getElem hi, List.flatMap_append, List.getD_eq_getElem?_getD, List.getElem?_eq_getElem hi]; simp
theorem Rk.take_filter (p : List Int → Bool) (L : List (List Int)) {i : Nat} (hi : i < L.length) : (L.take (i + 1)).filter p = (L.take i).filter p ++ if p (L.getD i []) = true then [L.getD i []] else [] := by
  rw [List.take_succ_eq_append_getElem hi, List.filter_append, List.getD_eq_getElem?_getD, List.getElem?_eq_getElem hi]
  simp only [Option.getD_some, List.filter_cons, List.filter_nil]
/-- The lengthened ones by the first elements. -/
def Rk.extTo (all s : List Int) (k : Nat) : List (List Int) := ((all.take k).filter (Rk.fits s)).map fun x => s ++ [x]
theorem Rk.extTo_yes {all s : List Int} {k : Nat} (hk : k < all.length) (h : Rk.fits s (all.getD k 0) = true) : Rk.extTo all s (k + 1) = Rk.extTo all s k ++ [s ++ [all.getD k 0]] := by
  unfold Rk.extTo
  rw [List.getD_eq_getElem?_getD, List.getElem?_eq_getElem hk] at *
  simp only [Option.getD_some] at *
  rw [List.take_succ_eq_append_getElem hk, List.filter_append, List.map_append, List.filter_cons_of_pos h]
  rfl
theorem Rk.extTo_no {all s : List Int} {k : Nat} (hk : k < all.length) (h : Rk.fits s (all.getD k 0) = false) : Rk.extTo all s (k + 1) = Rk.extTo all s k := by
  unfold Rk.extTo
  rw [List.getD_eq_getElem?_getD, List.getElem?_eq_getElem hk] at h
  rw [List.take_succ_eq_append_getElem hk, List.filter_append, List.map_append, List.filter_cons_of_neg (by simpa using h)]
  simp
theorem Rk.extTo_full (all s : List Int) : Rk.extTo all s all.length = Rk.ext all s := by unfold Rk.extTo Rk.ext; rw [List.take_length]
theorem Rk.extTo_len (all s : List Int) (k : Nat) : (Rk.extTo all s k).length ≤ k := by
  unfold Rk.extTo
  rw [List.length_map]
  exact Nat.le_trans (List.length_filter_le _ _) (by rw [List.length_take]; omega)
theorem Rk.flat_take_len (all : List Int) (ha : all.length ≤ 256) (L : List (List Int)) (i : Nat) : ((L.take i).flatMap (Rk.ext all)).length ≤ L.length * 256 := by
  have h := Rk.flat_len (Rk.ext all) 256 (L.take i) fun s _ => Nat.le_trans (Rk.ext_len all s) ha
  have h2 : (L.take i).length ≤ L.length := by rw [List.length_take]; omega
  exact Nat.le_trans h (Nat.mul_le_mul_right 256 h2)

set_option maxRecDepth 100000 in
set_option maxHeartbeats 4000000 in
theorem rhit_main (v : Value) (xss : List (List Int)) (size : Nat) (h3 : size ≤ 3) (B : Nat) (w : World) (hv : Sets w B v xss) (hB : B ≤ w.heap.size) (herr : setsErr xss = 0) :
    Calls Tryz.prog 25 #[v, .int .i64 size] w (HitPost xss size w) := by
  obtain ⟨hmany, hincr⟩ := setsErr_zero herr
  have HC := Lib.hid (rchecksets_any v xss B w hv)
  rw [herr] at HC
  have HBr := Lib.hid (fun q => bare_any v xss B (w.drewN q) hv hB hincr)
  have HMn := Lib.hid (fun (u : Value) (s : List Int) W (hb : Below w.heap.size w W) (hu : Ints W W.heap.size u s) (hs : s.length ≤ 256) => rminimal_any u v s xss W.heap.size W hu ((hv.below (hb.mono hB)).more (by have := hb.size; omega)) (Nat.le_refl _) hs)
  have Hsame := Lib.hid (Rk.hit_same hincr h3)
  have Herr := Lib.hid herr
  have hal := Rk.bareTo_len xss 256
  have Halp := Lib.hid (Rk.bareTo_pw xss 256)
  obtain ⟨al, hal0⟩ : ∃ al, al = Rk.bareTo xss 256 := ⟨_, rfl⟩
  rw [← hal0] at HBr Hsame hal Halp
  obtain ⟨A, c, vs, rfl, j1, j2, j3, j4⟩ := hv
  obtain ⟨i0, hi0, hz0, hz1, hz2⟩ := info_parts info_int
  obtain ⟨j0, hj0, yz0, yz1, yz2⟩ := info_parts info_ints
  have h3z : decide ((3 : Int) < (size : Int)) = false := decide_eq_false (by omega)
  have h0z : decide ((size : Int) < 0) = false := decide_eq_false (by omega)
  have h3n : decide (3 < size) = false := decide_eq_false (by omega)
  clear j1 j2 j3 j4 hal0 hincr herr hB
  obtain ⟨p, hp⟩ : ∃ p, p = Rk.minB xss := ⟨_, rfl⟩
  rw [← hp] at HMn Hsame
  clear hp
  go_enter Tryz.func25, Tryz.ntmps25
  go_wp2_with fail
  refine HC.out.mono ?_
  rintro e w1 ⟨rfl, q, rfl⟩
  clear HC
  go_wp2_with fail
  refine (HBr.out q).mono ?_
  rintro e w2 ⟨v7, rfl, ho7, hb⟩
  have HB2 := Lib.hid (show Below w.heap.size w w2 from (below_drewN (Below.refl _ w) q).trans hb)
  obtain ⟨A7, c7, ev7, -, hr7, -⟩ := own_form ho7
  subst ev7
  have Hr7 := Lib.hid hr7
  clear hb ho7 hr7 HBr
  have hLay0 : OwnSets (w2.alloc (.cells #[.slice none 0 0] 26)) w2.heap.size (.slice (some ⟨w2.heap.size, 0, none⟩) 1 1) (Rk.layer al 0) := by
    refine ⟨[.slice none 0 0], World.ownsRow_lit w2 #[.slice none 0 0] 1 (Nat.le_refl _) (by decide) rfl, fun i hi => ?_⟩
    obtain rfl : i = 0 := by simp [Rk.layer] at hi; omega
    exact ⟨_, rfl, ⟨rfl, .inl ⟨rfl, rfl⟩⟩⟩
  have HLay0 := Lib.hid hLay0
  have HLb0 := Lib.hid ((Below.refl w2.heap.size w2).alloc (Nat.le_refl _) (.cells #[.slice none 0 0] 26))
  clear hLay0
  go_wp2
  go_loopg [8, 9, 10] (size + 1) (fun g s8 s9 s10 wr => ∃ m : Nat, m ≤ size + 1 ∧ g = size + 1 - m ∧ s10 = .int .i64 m ∧ Hid (OwnSets wr w2.heap.size s8 (Rk.outTo p al m)) ∧ Hid (OwnSets wr w2.heap.size s9 (Rk.layer al m)) ∧ Hid (Below w2.heap.size w2 wr) ∧ Hid (∀ g, s8.ownBlock = some g → s9.ownBlock ≠ some g))
  case atStart => exact ⟨0, Nat.zero_le _, rfl, rfl, OwnSets.nil _ _, HLay0.out, HLb0.out, fun g e => by cases e⟩
  case round =>
    obtain ⟨m, hm, hg, rfl, hO, hLy, hL, hap⟩ := hrel
    have Hg := Lib.hid hg
    clear hg HLay0 HLb0
    obtain ⟨A8, c8, ev8⟩ := hO.out.form
    subst ev8
    obtain ⟨A9, c9, ev9⟩ := hLy.out.form
    subst ev9
    by_cases hms : m ≤ size
    · have hmz : decide ((m : Int) ≤ (size : Int)) = true := decide_eq_true (by omega)
      have HLm := Lib.hid (show ∀ s ∈ Rk.layer al m, s.length = m from fun s hs => ((Rk.layer_mem al m s).1 hs).1)
      have hLlen : (Rk.layer al m).length ≤ 16777216 := Nat.le_trans (Rk.layer_len hal m) (by
        rcases (show m = 0 ∨ m = 1 ∨ m = 2 ∨ m = 3 by omega) with rfl | rfl | rfl | rfl <;> decide)
      have hOlen : (Rk.outTo p al m).length ≤ 67108864 := Nat.le_trans (Rk.outTo_len p hal m) (by
        rcases (show m = 0 ∨ m = 1 ∨ m = 2 ∨ m = 3 by omega) with rfl | rfl | rfl | rfl <;> decide)
      have Hsucc := Lib.hid (show Rk.outTo p al (m + 1) = Rk.outTo p al m ++ (Rk.layer al m).filter p ∧ Rk.layer al (m + 1) = (Rk.layer al m).flatMap (Rk.ext al) from ⟨rfl, rfl⟩)
      obtain ⟨L, hLL⟩ : ∃ L, L = Rk.layer al m := ⟨_, rfl⟩
      obtain ⟨O, hOO⟩ : ∃ O, O = Rk.outTo p al m := ⟨_, rfl⟩
      rw [← hLL] at HLm hLlen Hsucc hLy hap ⊢
      rw [← hOO] at hOlen Hsucc hO hap ⊢
      clear hLL hOO
      obtain ⟨wo, rfl⟩ : ∃ wo : World, wo = wr := ⟨_, rfl⟩
      go_wp2
      go_loopg [8, 11, 12] L.length (fun g s8 s11 s12 wy => ∃ i : Nat, i ≤ L.length ∧ g = L.length - i ∧ s12 = .int .i64 i ∧ Hid (OwnSets wy w2.heap.size s8 (O ++ (L.take i).filter p)) ∧ Hid (OwnSets wy w2.heap.size s11 ((L.take i).flatMap (Rk.ext al))) ∧ Hid (OwnSets wy w2.heap.size (.slice A9 L.length c9) L) ∧ Hid (Below w2.heap.size w2 wy) ∧ Hid (∀ g, s8.ownBlock = some g → s11.ownBlock ≠ some g) ∧ Hid (∀ g, (Value.slice A9 L.length c9).ownBlock = some g → s8.ownBlock ≠ some g ∧ s11.ownBlock ≠ some g))
      case atStart => exact ⟨0, Nat.zero_le _, rfl, rfl, by rw [List.take_zero, List.filter_nil, List.append_nil]; exact hO, OwnSets.nil _ _, hLy.out, hL.out, fun g e1 e2 => (by cases e2), fun g e => ⟨fun e2 => hap.out g e2 e, fun e2 => (by cases e2)⟩⟩
      case round =>
        obtain ⟨i, hil, hg2, rfl, hO2, hN2, hL2, hB2, hap2, hap3⟩ := hrel
        have Hg2 := Lib.hid hg2
        clear hg2 hO hLy hL hap
        obtain ⟨A8', c8', ev8⟩ := hO2.out.form
        subst ev8
        obtain ⟨A11, c11, ev11⟩ := hN2.out.form
        subst ev11
        by_cases hlt : i < L.length
        · obtain ⟨gL, uL, rfl, hgL, cL, huL⟩ := hL2.out.at_ hlt
          obtain ⟨s, hs⟩ : ∃ s, s = L.getD i [] := ⟨_, rfl⟩
          have Hs := Lib.hid hs.symm
          have hsm : s.length = m := by rw [hs]; exact HLm.out _ (Rk.memD hlt)
          rw [← hs] at huL
          obtain ⟨AuL, cuL, euL, -, -, -⟩ := own_form huL
          subst euL
          have hsz2 := hB2.out.size
          have HMi := Lib.hid (HMn.out (.slice AuL s.length cuL) s wr (HB2.out.trans (hB2.out.mono HB2.out.size)) (huL.reads (by omega)) (by omega))
          obtain ⟨pb, hpb⟩ : ∃ pb, pb = p s := ⟨_, rfl⟩
          rw [← hpb] at HMi
          have Hf := Lib.hid (Rk.take_filter p L hlt)
          rw [← hs, ← hpb] at Hf
          have Hsl := Lib.hid (show s.length ≤ 3 by omega)
          obtain ⟨N, hN⟩ : ∃ N, N = (L.take i).flatMap (Rk.ext al) := ⟨_, rfl⟩
          have HNl := Lib.hid (show N.length ≤ 4294967296 by rw [hN]; have := Rk.flat_take_len al hal L i; omega)
          rw [← hN] at hN2 hap2 hap3 ⊢
          have HN := Lib.hid hN
          have HOl := Lib.hid (show (O ++ (L.take i).filter p).length ≤ 83886080 by
            rw [List.length_append]
            have := List.length_filter_le p (L.take i)
            have h2 : (L.take i).length ≤ L.length := by rw [List.length_take]; omega
            omega)
          have hOl := HOl.out
          have HuL := Lib.hid huL
          have hiz : (i : Int) < (L.length : Int) := by omega
          clear hs hpb hN huL hsm
          go_wp2_with fail
          refine HMi.out.mono ?_
          rintro e w5 ⟨rfl, hb⟩
          have HO5 := Lib.hid (hO2.out.below_ hb)
          have HN5 := Lib.hid (hN2.out.below_ hb)
          have HL5 := Lib.hid (hL2.out.below_ hb)
          have HB5 := Lib.hid (show Below w2.heap.size w2 w5 from hB2.out.trans (hb.mono hsz2))
          have HU5 := Lib.hid (own_below HuL.out hb (Nat.le_refl _))
          have cL5 := keepB hb hgL cL
          have hgL5 : gL < w5.heap.size := Nat.lt_of_lt_of_le hgL hb.size
          have hs5 := HB5.out.size
          have Hb5s := Lib.hid hb.size
          have HNlt := Lib.hid (show ∀ g, (Value.slice A11 N.length c11).ownBlock = some g → g < w5.heap.size from fun g e => by
            obtain ⟨usN, hrN, _⟩ := HN5.out
            exact (own_row_lt hrN g e).2)
          clear hb HMi hO2 hN2 hL2 hB2
          obtain ⟨P8, hP8⟩ : ∃ P8, P8 = O ++ (L.take i).filter p := ⟨_, rfl⟩
          rw [← hP8] at HO5 hap2 hap3 hOl ⊢
          have HP8 := Lib.hid hP8
          clear hP8 HOl
          cases pb
          · have HOi := HO5
            have HNi := HN5
            have HLi := HL5
            have HBi := HB5
            have Hap2i := Lib.hid hap2.out
            have Hap3i := Lib.hid (fun g e => (hap3.out g e).2)
            have HO2 := Lib.hid (And.intro (show O ++ (L.take (i + 1)).filter p = P8 by rw [Hf.out, HP8.out]; simp) (fun g e => (hap3.out g e).1))
            obtain ⟨A8x, c8x, O2, h1, h2, h3⟩ : ∃ A8x c8x O2, A8x = A8' ∧ c8x = c8' ∧ O2 = P8 := ⟨_, _, _, rfl, rfl, rfl⟩
            rw [← h1, ← h2, ← h3] at HOi Hap2i HO2
            rw [← h1, ← h2, ← h3]
            clear h1 h2 h3 HO5 HN5 HL5 HB5 hap2 hap3
            go_wp2
            go_loopg [11, 13] al.length (fun g s11 s13 wy => ∃ k : Nat, k ≤ al.length ∧ g = al.length - k ∧ s13 = .int .i64 k ∧ Hid (OwnSets wy w2.heap.size s11 (N ++ Rk.extTo al s k)) ∧ Hid (OwnSets wy w2.heap.size (.slice A8x O2.length c8x) O2) ∧ Hid (OwnSets wy w2.heap.size (.slice (some ⟨gL, 0, none⟩) L.length c9) L) ∧ Hid (Below w2.heap.size w2 wy) ∧ Hid (∀ g, (Value.slice A8x O2.length c8x).ownBlock = some g → s11.ownBlock ≠ some g) ∧ Hid (∀ g, (Value.slice (some ⟨gL, 0, none⟩) L.length c9).ownBlock = some g → s11.ownBlock ≠ some g))
            case atStart => exact ⟨0, Nat.zero_le _, rfl, rfl, by rw [show Rk.extTo al s 0 = [] from rfl, List.append_nil]; exact HNi, HOi.out, HLi.out, HBi.out, Hap2i.out, Hap3i.out⟩
            case round =>
              obtain ⟨k, hk, hg3, rfl, HNq, HOq, HLq, HBq, Hap2q, Hap3q⟩ := hrel
              have Hg3 := Lib.hid hg3
              clear hg3 HNi HOi HLi HBi Hap2i Hap3i
              obtain ⟨A11, c11, ev11⟩ := HNq.out.form
              subst ev11
              obtain ⟨wq, rfl⟩ : ∃ wq : World, wq = wr := ⟨_, rfl⟩
              have hszq := HBq.out.size
              by_cases hkl : k < al.length
              · obtain ⟨gL', uq, e, hgLq, cLq, huq⟩ := HLq.out.at_ hlt
                injection e with e
                injection e with e
                subst e
                rw [Hs.out] at huq
                obtain ⟨Au, cu, eu, -, -, -⟩ := own_form huq
                subst eu
                have Huq := Lib.hid huq
                obtain ⟨ad7, rfl, had7, hx7⟩ := ints_at Hr7.out hkl
                obtain ⟨x, hxx⟩ : ∃ x, x = al.getD k 0 := ⟨_, rfl⟩
                rw [← hxx] at hx7
                have cxq := keepB HBq.out (p := ad7.add k) (by rw [block_of_add]; exact had7) hx7
                have HNlen := Lib.hid (show (N ++ Rk.extTo al s k).length ≤ 4294967552 by
                  have h1 := Rk.extTo_len al s k
                  have h2 := HNl.out
                  rw [List.length_append]
                  omega)
                have hkz : (k : Int) < (al.length : Int) := by omega
                have hiz : (i : Int) < (L.length : Int) := by omega
                have Hxx := Lib.hid hxx
                clear hx7 hxx huq
                have hsl := Hsl.out
                obtain ⟨N2, hN2⟩ : ∃ N2, N2 = N ++ Rk.extTo al s k := ⟨_, rfl⟩
                rw [← hN2] at HNlen HNq Hap2q Hap3q ⊢
                have hNlen := HNlen.out
                have HN2 := Lib.hid hN2
                clear hN2
                by_cases h0 : s.length = 0
                · have hfit : Rk.fits s (al.getD k 0) = true := by unfold Rk.fits; simp [h0]
                  have Hext := Lib.hid (show N ++ Rk.extTo al s (k + 1) = N2 ++ [s ++ [x]] by rw [Rk.extTo_yes hkl hfit, ← Hxx.out, HN2.out, List.append_assoc])
                  have hz : ((s.length : Int) == 0) = true := by rw [h0]; rfl
                  have hzn : (s.length == 0) = true := by rw [h0]; rfl
                  have hz2 : s = [] := List.eq_nil_of_length_eq_zero h0
                  have Hz2 := Lib.hid hz2
                  clear hfit hz2 h0
                  obtain ⟨n0, hn0⟩ : ∃ n0, n0 = s.length := ⟨_, rfl⟩
                  clear hn0
                  go_wp2
                  go_quiet (fail)
                  go_wp2
                  obtain ⟨wz, hwz⟩ : ∃ wz, wz = (wq.drewN nq).drew := ⟨_, rfl⟩
                  have HNz := Lib.hid (show OwnSets wz w2.heap.size (.slice A11 N2.length c11) N2 by rw [hwz]; exact HNq.out)
                  have HOz := Lib.hid (show OwnSets wz w2.heap.size (.slice A8x O2.length c8x) O2 by rw [hwz]; exact HOq.out)
                  have HLz := Lib.hid (show OwnSets wz w2.heap.size (.slice (some ⟨gL, 0, none⟩) L.length c9) L by rw [hwz]; exact HLq.out)
                  have HBz := Lib.hid (show Below w2.heap.size w2 wz by rw [hwz]; exact below_drewN HBq.out (nq + 1))
                  have HSz := Lib.hid (show wz.cell? ⟨gL, i, none⟩ = some (.slice Au s.length cu) ∧ wz.cell? (ad7.add k) = some (.int .i64 x) by rw [hwz]; exact ⟨cLq, cxq⟩)
                  have Huz := Lib.hid (show OwnInts wz w2.heap.size (.slice Au s.length cu) s by rw [hwz]; exact Huq.out)
                  have Hwz := Lib.hid hwz
                  have hgLz : gL < wz.heap.size := by rw [hwz]; exact hgLq
                  have hszz := HBz.out.size
                  have had7z : (ad7.add k).block < wz.heap.size := by rw [block_of_add]; omega
                  clear hwz
                  have Hrz := Lib.hid (Reads.of_own Huz.out)
                  have Hone := Lib.hid (show ∀ u ∈ s.map (Value.int .i64), u.oneCell' = true from fun u hu => by obtain ⟨y, _, rfl⟩ := List.mem_map.1 hu; rfl)
                  refine z_region (fun w' => w'.cell? ⟨gL, i, none⟩ = some (.slice Au s.length cu) ∧ w'.cell? (ad7.add k) = some (.int .i64 x)) 15 (by kernel_rfl) ?_
                  rw [← Hwz.out]
                  refine z_take (i := 0) (v := ?_) rfl (by kernel_rfl) (by kernel_rfl) (by kernel_rfl) (fun _ _ _ h => h) (by kernel_rfl) (by decide) (HSz.out) (by rfl) (by intro w hSw; obtain ⟨hSa, hSb⟩ := hSw; go_simp; rfl) ?_
                  refine z_take (i := 2) (v := ?_) rfl (by kernel_rfl) (by kernel_rfl) (by kernel_rfl) (fun _ _ _ h => h) (by kernel_rfl) (by decide) (HSz.out) (by rfl) (by intro w hSw; obtain ⟨hSa, hSb⟩ := hSw; go_simp; rfl) ?_
                  refine z_take (i := 3) (v := ?_) rfl (by kernel_rfl) (by kernel_rfl) (by kernel_rfl) (fun _ _ _ h => h) (by kernel_rfl) (by decide) (HSz.out) (by rfl) (by intro w hSw; obtain ⟨hSa, hSb⟩ := hSw; go_simp; rfl) ?_
                  refine z_take (i := 4) (v := ?_) rfl (by kernel_rfl) (by kernel_rfl) (by kernel_rfl) (fun _ _ _ h => h) (by kernel_rfl) (by decide) (HSz.out) (by rfl) (by intro w hSw; obtain ⟨hSa, hSb⟩ := hSw; go_simp; rfl) ?_
                  refine z_take (i := 5) (v := ?_) rfl (by kernel_rfl) (by kernel_rfl) (by kernel_rfl) (fun _ _ _ h => h) (by kernel_rfl) (by decide) (HSz.out) (by rfl) (by intro w hSw; obtain ⟨hSa, hSb⟩ := hSw; go_simp; rfl) ?_
                  refine z_take (i := 7) (v := ?_) rfl (by kernel_rfl) (by kernel_rfl) (by kernel_rfl) (fun _ _ _ h => h) (by kernel_rfl) (by decide) (HSz.out) (by rfl) (by intro w hSw; obtain ⟨hSa, hSb⟩ := hSw; go_simp; rfl) ?_
                  refine z_take (i := 8) (v := ?_) rfl (by kernel_rfl) (by kernel_rfl) (by kernel_rfl) (fun _ _ _ h => h) (by kernel_rfl) (by decide) (HSz.out) (by rfl) (by intro w hSw; obtain ⟨hSa, hSb⟩ := hSw; go_simp; rfl) ?_
                  refine z_take (i := 9) (v := ?_) rfl (by kernel_rfl) (by kernel_rfl) (by kernel_rfl) (fun _ _ _ h => h) (by kernel_rfl) (by decide) (HSz.out) (by rfl) (by intro w hSw; obtain ⟨hSa, hSb⟩ := hSw; go_simp; rfl) ?_
                  refine z_take (i := 10) (v := ?_) rfl (by kernel_rfl) (by kernel_rfl) (by kernel_rfl) (fun _ _ _ h => h) (by kernel_rfl) (by decide) (HSz.out) (by rfl) (by intro w hSw; obtain ⟨hSa, hSb⟩ := hSw; go_simp; rfl) ?_
                  simp only [Act.put, List.setIfInBounds_toArray]
                  refine z_two (i := 1) (j := 11) rfl rfl (by kernel_rfl) (by rfl) (by rfl) (fun K hK => ?_) (fun K hK => ?_)
                  · go_simp
                    refine hK _ _ (fun _ => ⟨keepB ((Below.refl wz.heap.size wz).alloc (Nat.le_refl _) _) hgLz HSz.out.1, keepB ((Below.refl wz.heap.size wz).alloc (Nat.le_refl _) _) had7z HSz.out.2⟩) ?_
                    clear hK K
                    refine z_two (i := 6) (j := 11) rfl rfl (by kernel_rfl) (by rfl) (by rfl) (fun K hK => ?_) (fun K hK => ?_)
                    · refine wp_append_any _ _ _ 26 rfl wz.heap.size 3 i0 _ 1 8 Tryz.underlying26 hi0 hz0 hz1 hz2 rfl (by decide) (.slice (some ⟨wz.heap.size, 0, none⟩) 0 0) 0 [] (by rfl) (World.ownsRow_made wz #[] 0 (Nat.le_refl _) (Nat.zero_le _) rfl) wz.heap.size Au s.length cu _ (by rfl) (Hrz.out.alloc (Nat.le_refl _) _) (Hone.out) (by unfold maxLen; omega) (by omega) (by first | (simp; done) | (simp; omega)) ?_
                      intro v7 w7 hown7 hg7 hat7
                      obtain ⟨Aa, ca, ev7, _, _, _⟩ := own_form hown7
                      rw [Nat.zero_add] at ev7
                      subst ev7
                      have HV7 := Lib.hid (show OwnInts w7 wz.heap.size (.slice Aa s.length ca) s by unfold OwnInts; simpa using hown7)
                      have hB7 : Below wz.heap.size wz w7 := ((Below.refl wz.heap.size wz).alloc (Nat.le_refl _) _).grown hg7 (by simp; try omega) (fun b e => by have e2 : some (wz.heap.size) = some b := e; injection e2 with e2; omega)
                      have HB7 := Lib.hid hB7
                      have hs7 := hB7.size
                      clear hown7 hg7 hat7 hB7
                      refine hK _ _ (fun _ => ⟨keepB (HB7.out) hgLz HSz.out.1, keepB (HB7.out) had7z HSz.out.2⟩) ?_
                      clear hK K
                      refine z_one (i := 11) rfl (by kernel_rfl) (by rfl) (fun K hK => ?_)
                      go_simp
                      refine hK _ _ (fun _ => ⟨keepB (HB7.out.alloc HB7.out.size _) hgLz HSz.out.1, keepB (HB7.out.alloc HB7.out.size _) had7z HSz.out.2⟩) ?_
                      clear hK K
                      have HX8 := Lib.hid (Blk.new w7 3 #[.int .i64 x])
                      have HV8 := Lib.hid (own_kept (w' := w7.alloc (.cells #[.int .i64 x] 3)) (row := none) HV7.out (World.grownBy_alloc w7 _ none) (fun g e => by cases e))
                      have HB8 := Lib.hid (HB7.out.alloc HB7.out.size (.cells #[.int .i64 x] 3))
                      have hs8 := HB8.out.size
                      refine z_one (i := 12) rfl (by kernel_rfl) (by rfl) (fun K hK => ?_)
                      refine wp_append_any _ _ _ 26 rfl wz.heap.size 3 i0 _ 1 8 Tryz.underlying26 hi0 hz0 hz1 hz2 rfl (by decide) (.slice Aa s.length ca) s.length _ (by rfl) (HV8.out) (w7.heap.size + 1) (some ⟨w7.heap.size, 0, none⟩) 1 1 [.int .i64 x] (by rfl) (reads_one (Nat.lt_succ_self _) (HX8.out.cell 0)) (by intro u hu; simp at hu; subst hu; rfl) (by unfold maxLen; omega) (by omega) (hs8) ?_
                      intro v9 w9 hown9 hg9 hat9
                      have HV9 := Lib.hid (own_snoc hown9)
                      have HB9 := Lib.hid (HB8.out.grown hg9 HB8.out.size (own_row_ge HV8.out))
                      have hs9 := HB9.out.size
                      obtain ⟨Ab, cb, ev9, _, _, _⟩ := own_form hown9
                      subst ev9
                      clear hown9 hg9 hat9
                      refine hK _ _ (fun _ => ⟨keepB (HB9.out) hgLz HSz.out.1, keepB (HB9.out) had7z HSz.out.2⟩) ?_
                      clear hK K
                      refine z_one (i := 13) rfl (by kernel_rfl) (by rfl) (fun K hK => ?_)
                      go_simp
                      refine hK _ _ (fun _ => ⟨keepB (HB9.out.alloc HB9.out.size _) hgLz HSz.out.1, keepB (HB9.out.alloc HB9.out.size _) had7z HSz.out.2⟩) ?_
                      clear hK K
                      have HB10 := Lib.hid (HB9.out.alloc HB9.out.size (.cells #[.slice Ab (s.length + 1) cb] 26))
                      have hs10 := HB10.out.size
                      have HV10 := Lib.hid (show OwnInts (w9.alloc (.cells #[.slice Ab (s.length + 1) cb] 26)) w2.heap.size (.slice Ab (s.length + 1) cb) (s ++ [x]) from own_more (own_kept (row := none) HV9.out (World.grownBy_alloc w9 _ none) (fun g e => by cases e)) hszz)
                      have HN10 := Lib.hid (HNz.out.below_ HB10.out)
                      have HO10 := Lib.hid (HOz.out.below_ HB10.out)
                      have HL10 := Lib.hid (HLz.out.below_ HB10.out)
                      obtain ⟨us10, hr10, hi10⟩ := HN10.out
                      have Hr10 := Lib.hid (And.intro hr10 hi10)
                      clear hr10 hi10
                      try simp only [Act.put, List.setIfInBounds_toArray]
                      refine z_one (i := 14) rfl (by kernel_rfl) (by rfl) (fun K hK => ?_)
                      refine wp_append_any _ _ _ 40 rfl w2.heap.size 26 j0 _ 1 24 Tryz.underlying40 hj0 yz0 yz1 yz2 rfl (by decide) (.slice A11 N2.length c11) N2.length us10 (by rfl) (Hr10.out.1) (w9.heap.size + 1) (some ⟨w9.heap.size, 0, none⟩) 1 1 [.slice Ab (s.length + 1) cb] (by rfl) (reads_one (Nat.lt_succ_self _) (cell_new0 _ _ _)) (by intro u hu; simp at hu; subst hu; rfl) (by unfold maxLen; omega) (by omega) (by omega) ?_
                      intro v14 w14 hown14 hg14 hat14
                      have HN14 := Lib.hid (show OwnSets w14 w2.heap.size v14 (N2 ++ [s ++ [x]]) from OwnSets.snoc Hr10.out.1 Hr10.out.2 HV10.out hown14 hg14)
                      have HO14 := Lib.hid (HO10.out.other Hr10.out.1 hg14 (fun g e e2 => Hap2q.out g e2 e))
                      have HL14 := Lib.hid (HL10.out.other Hr10.out.1 hg14 (fun g e e2 => Hap3q.out g e2 e))
                      have HB14 := Lib.hid (show Below w2.heap.size w2 w14 from (HBz.out.trans (HB10.out.mono hszz)).grown hg14 (by omega) (own_row_ge Hr10.out.1))
                      have hfr : ∀ g, v14.ownBlock = some g → (Value.slice A11 N2.length c11).ownBlock = some g ∨ wz.heap.size ≤ g := fun g e => by
                        rcases hat14 with h | h
                        · left; rw [← h]; exact e
                        · right; rw [h] at e; injection e with e; omega
                      have HapA := Lib.hid (show ∀ g, (Value.slice A8x O2.length c8x).ownBlock = some g → v14.ownBlock ≠ some g from fun g e e2 => by
                        rcases hfr g e2 with h | h
                        · exact Hap2q.out g e h
                        · obtain ⟨usO, hrO, _⟩ := HOz.out
                          have := (own_row_lt hrO g e).2; omega)
                      have HapB := Lib.hid (show ∀ g, (Value.slice (some ⟨gL, 0, none⟩) L.length c9).ownBlock = some g → v14.ownBlock ≠ some g from fun g e e2 => by
                        rcases hfr g e2 with h | h
                        · exact Hap3q.out g e h
                        · obtain ⟨usL, hrL, _⟩ := HLz.out
                          have := (own_row_lt hrL g e).2; omega)
                      have hS14 : w14.cell? ⟨gL, i, none⟩ = some (.slice Au s.length cu) ∧ w14.cell? (ad7.add k) = some (.int .i64 x) := ⟨(World.cell?_of_block (hg14.block gL (by have := HB10.out.size; simp at this ⊢; omega) (fun e => Hap3q.out gL rfl e.symm))).trans (keepB HB10.out hgLz HSz.out.1), (World.cell?_of_block (hg14.block (ad7.add k).block (by have := HB10.out.size; simp at this ⊢; omega) (fun e => by have := own_row_ge Hr10.out.1 _ e.symm; rw [block_of_add] at this; omega))).trans (keepB HB10.out had7z HSz.out.2)⟩
                      clear hown14 hg14 hat14 hfr
                      refine hK _ _ (fun _ => hS14) ?_
                      clear hK K hS14
                      refine z_one (i := 15) rfl (by kernel_rfl) (by rfl) (fun K hK => ?_)
                      go_simp
                      refine hK _ _ (fun h => absurd rfl h) ?_
                      clear hK K
                      refine z_done (by kernel_rfl) ?_ _
                      go_wp2
                      go_roundg (al.length - (k + 1))
                      case rel => exact ⟨k + 1, hkl, rfl, by go_num, by rw [Hext.out]; exact HN14, HO14.out, HL14.out, HB14.out, HapA.out, HapB.out⟩
                      case measure => rw [Hg3.out]; omega
                    · go_simp
                      refine hK _ _ (fun _ => ⟨keepB (((Below.refl wz.heap.size wz).alloc (Nat.le_refl _) _).alloc (by simp) _) hgLz HSz.out.1, keepB (((Below.refl wz.heap.size wz).alloc (Nat.le_refl _) _).alloc (by simp) _) had7z HSz.out.2⟩) ?_
                      clear hK K
                      refine z_one (i := 6) rfl (by kernel_rfl) (by rfl) (fun K hK => ?_)
                      refine wp_append_any _ _ _ 26 rfl wz.heap.size 3 i0 _ 1 8 Tryz.underlying26 hi0 hz0 hz1 hz2 rfl (by decide) (.slice (some ⟨wz.heap.size, 0, none⟩) 0 0) 0 [] (by rfl) (own_kept (row := none) (World.ownsRow_made wz #[] 0 (Nat.le_refl _) (Nat.zero_le _) rfl) (World.grownBy_alloc _ _ none) (fun g e => by cases e)) wz.heap.size Au s.length cu _ (by rfl) (Hrz.out.alloc (Nat.le_refl _) _ |>.alloc (by simp) _) (Hone.out) (by unfold maxLen; omega) (by omega) (by first | (simp; done) | (simp; omega)) ?_
                      intro v7 w7 hown7 hg7 hat7
                      obtain ⟨Aa, ca, ev7, _, _, _⟩ := own_form hown7
                      rw [Nat.zero_add] at ev7
                      subst ev7
                      have HV7 := Lib.hid (show OwnInts w7 wz.heap.size (.slice Aa s.length ca) s by unfold OwnInts; simpa using hown7)
                      have hB7 : Below wz.heap.size wz w7 := (((Below.refl wz.heap.size wz).alloc (Nat.le_refl _) _).alloc (by simp) _).grown hg7 (by simp; try omega) (fun b e => by have e2 : some (wz.heap.size) = some b := e; injection e2 with e2; omega)
                      have HX8 := Lib.hid (show Blk w7 (wz.heap.size + 1) 3 #[.int .i64 x] from (newBlkH (by simp) _ _).grown hg7 (fun e => by have e2 : some (wz.heap.size + 1) = some wz.heap.size := e; injection e2 with e2; omega))
                      have HB7 := Lib.hid hB7
                      have hs7 := hB7.size
                      clear hown7 hg7 hat7 hB7
                      refine hK _ _ (fun _ => ⟨keepB (HB7.out) hgLz HSz.out.1, keepB (HB7.out) had7z HSz.out.2⟩) ?_
                      clear hK K
                      have HV8 := HV7
                      have HB8 := HB7
                      have hs8 := HB8.out.size
                      refine z_one (i := 12) rfl (by kernel_rfl) (by rfl) (fun K hK => ?_)
                      refine wp_append_any _ _ _ 26 rfl wz.heap.size 3 i0 _ 1 8 Tryz.underlying26 hi0 hz0 hz1 hz2 rfl (by decide) (.slice Aa s.length ca) s.length _ (by rfl) (HV8.out) ((wz.heap.size + 1) + 1) (some ⟨(wz.heap.size + 1), 0, none⟩) 1 1 [.int .i64 x] (by rfl) (reads_one (Nat.lt_succ_self _) (HX8.out.cell 0)) (by intro u hu; simp at hu; subst hu; rfl) (by unfold maxLen; omega) (by omega) (hs8) ?_
                      intro v9 w9 hown9 hg9 hat9
                      have HV9 := Lib.hid (own_snoc hown9)
                      have HB9 := Lib.hid (HB8.out.grown hg9 HB8.out.size (own_row_ge HV8.out))
                      have hs9 := HB9.out.size
                      obtain ⟨Ab, cb, ev9, _, _, _⟩ := own_form hown9
                      subst ev9
                      clear hown9 hg9 hat9
                      refine hK _ _ (fun _ => ⟨keepB (HB9.out) hgLz HSz.out.1, keepB (HB9.out) had7z HSz.out.2⟩) ?_
                      clear hK K
                      refine z_one (i := 13) rfl (by kernel_rfl) (by rfl) (fun K hK => ?_)
                      go_simp
                      refine hK _ _ (fun _ => ⟨keepB (HB9.out.alloc HB9.out.size _) hgLz HSz.out.1, keepB (HB9.out.alloc HB9.out.size _) had7z HSz.out.2⟩) ?_
                      clear hK K
                      have HB10 := Lib.hid (HB9.out.alloc HB9.out.size (.cells #[.slice Ab (s.length + 1) cb] 26))
                      have hs10 := HB10.out.size
                      have HV10 := Lib.hid (show OwnInts (w9.alloc (.cells #[.slice Ab (s.length + 1) cb] 26)) w2.heap.size (.slice Ab (s.length + 1) cb) (s ++ [x]) from own_more (own_kept (row := none) HV9.out (World.grownBy_alloc w9 _ none) (fun g e => by cases e)) hszz)
                      have HN10 := Lib.hid (HNz.out.below_ HB10.out)
                      have HO10 := Lib.hid (HOz.out.below_ HB10.out)
                      have HL10 := Lib.hid (HLz.out.below_ HB10.out)
                      obtain ⟨us10, hr10, hi10⟩ := HN10.out
                      have Hr10 := Lib.hid (And.intro hr10 hi10)
                      clear hr10 hi10
                      try simp only [Act.put, List.setIfInBounds_toArray]
                      refine z_one (i := 14) rfl (by kernel_rfl) (by rfl) (fun K hK => ?_)
                      refine wp_append_any _ _ _ 40 rfl w2.heap.size 26 j0 _ 1 24 Tryz.underlying40 hj0 yz0 yz1 yz2 rfl (by decide) (.slice A11 N2.length c11) N2.length us10 (by rfl) (Hr10.out.1) (w9.heap.size + 1) (some ⟨w9.heap.size, 0, none⟩) 1 1 [.slice Ab (s.length + 1) cb] (by rfl) (reads_one (Nat.lt_succ_self _) (cell_new0 _ _ _)) (by intro u hu; simp at hu; subst hu; rfl) (by unfold maxLen; omega) (by omega) (by omega) ?_
                      intro v14 w14 hown14 hg14 hat14
                      have HN14 := Lib.hid (show OwnSets w14 w2.heap.size v14 (N2 ++ [s ++ [x]]) from OwnSets.snoc Hr10.out.1 Hr10.out.2 HV10.out hown14 hg14)
                      have HO14 := Lib.hid (HO10.out.other Hr10.out.1 hg14 (fun g e e2 => Hap2q.out g e2 e))
                      have HL14 := Lib.hid (HL10.out.other Hr10.out.1 hg14 (fun g e e2 => Hap3q.out g e2 e))
                      have HB14 := Lib.hid (show Below w2.heap.size w2 w14 from (HBz.out.trans (HB10.out.mono hszz)).grown hg14 (by omega) (own_row_ge Hr10.out.1))
                      have hfr : ∀ g, v14.ownBlock = some g → (Value.slice A11 N2.length c11).ownBlock = some g ∨ wz.heap.size ≤ g := fun g e => by
                        rcases hat14 with h | h
                        · left; rw [← h]; exact e
                        · right; rw [h] at e; injection e with e; omega
                      have HapA := Lib.hid (show ∀ g, (Value.slice A8x O2.length c8x).ownBlock = some g → v14.ownBlock ≠ some g from fun g e e2 => by
                        rcases hfr g e2 with h | h
                        · exact Hap2q.out g e h
                        · obtain ⟨usO, hrO, _⟩ := HOz.out
                          have := (own_row_lt hrO g e).2; omega)
                      have HapB := Lib.hid (show ∀ g, (Value.slice (some ⟨gL, 0, none⟩) L.length c9).ownBlock = some g → v14.ownBlock ≠ some g from fun g e e2 => by
                        rcases hfr g e2 with h | h
                        · exact Hap3q.out g e h
                        · obtain ⟨usL, hrL, _⟩ := HLz.out
                          have := (own_row_lt hrL g e).2; omega)
                      have hS14 : w14.cell? ⟨gL, i, none⟩ = some (.slice Au s.length cu) ∧ w14.cell? (ad7.add k) = some (.int .i64 x) := ⟨(World.cell?_of_block (hg14.block gL (by have := HB10.out.size; simp at this ⊢; omega) (fun e => Hap3q.out gL rfl e.symm))).trans (keepB HB10.out hgLz HSz.out.1), (World.cell?_of_block (hg14.block (ad7.add k).block (by have := HB10.out.size; simp at this ⊢; omega) (fun e => by have := own_row_ge Hr10.out.1 _ e.symm; rw [block_of_add] at this; omega))).trans (keepB HB10.out had7z HSz.out.2)⟩
                      clear hown14 hg14 hat14 hfr
                      refine hK _ _ (fun _ => hS14) ?_
                      clear hK K hS14
                      refine z_one (i := 15) rfl (by kernel_rfl) (by rfl) (fun K hK => ?_)
                      go_simp
                      refine hK _ _ (fun h => absurd rfl h) ?_
                      clear hK K
                      refine z_done (by kernel_rfl) ?_ _
                      go_wp2
                      go_roundg (al.length - (k + 1))
                      case rel => exact ⟨k + 1, hkl, rfl, by go_num, by rw [Hext.out]; exact HN14, HO14.out, HL14.out, HB14.out, HapA.out, HapB.out⟩
                      case measure => rw [Hg3.out]; omega
                  · go_simp
                    refine hK _ _ (fun _ => ⟨keepB ((Below.refl wz.heap.size wz).alloc (Nat.le_refl _) _) hgLz HSz.out.1, keepB ((Below.refl wz.heap.size wz).alloc (Nat.le_refl _) _) had7z HSz.out.2⟩) ?_
                    clear hK K
                    refine z_one (i := 1) rfl (by kernel_rfl) (by rfl) (fun K hK => ?_)
                    go_simp
                    refine hK _ _ (fun _ => ⟨keepB (((Below.refl wz.heap.size wz).alloc (Nat.le_refl _) _).alloc (by simp) _) hgLz HSz.out.1, keepB (((Below.refl wz.heap.size wz).alloc (Nat.le_refl _) _).alloc (by simp) _) had7z HSz.out.2⟩) ?_
                    clear hK K
                    refine z_one (i := 6) rfl (by kernel_rfl) (by rfl) (fun K hK => ?_)
                    refine wp_append_any _ _ _ 26 rfl wz.heap.size 3 i0 _ 1 8 Tryz.underlying26 hi0 hz0 hz1 hz2 rfl (by decide) (.slice (some ⟨wz.heap.size + 1, 0, none⟩) 0 0) 0 [] (by rfl) (made_nextT wz (.cells #[.int .i64 x] 3) 3) wz.heap.size Au s.length cu _ (by rfl) (Hrz.out.alloc (Nat.le_refl _) _ |>.alloc (by simp) _) (Hone.out) (by unfold maxLen; omega) (by omega) (by first | (simp; done) | (simp; omega)) ?_
                    intro v7 w7 hown7 hg7 hat7
                    obtain ⟨Aa, ca, ev7, _, _, _⟩ := own_form hown7
                    rw [Nat.zero_add] at ev7
                    subst ev7
                    have HV7 := Lib.hid (show OwnInts w7 wz.heap.size (.slice Aa s.length ca) s by unfold OwnInts; simpa using hown7)
                    have hB7 : Below wz.heap.size wz w7 := (((Below.refl wz.heap.size wz).alloc (Nat.le_refl _) _).alloc (by simp) _).grown hg7 (by simp; try omega) (fun b e => by have e2 : some (wz.heap.size + 1) = some b := e; injection e2 with e2; omega)
                    have HX8 := Lib.hid (show Blk w7 wz.heap.size 3 #[.int .i64 x] from ((Blk.new wz _ _).alloc _).grown hg7 (fun e => by have e2 : some wz.heap.size = some (wz.heap.size + 1) := e; injection e2 with e2; omega))
                    have HB7 := Lib.hid hB7
                    have hs7 := hB7.size
                    clear hown7 hg7 hat7 hB7
                    refine hK _ _ (fun _ => ⟨keepB (HB7.out) hgLz HSz.out.1, keepB (HB7.out) had7z HSz.out.2⟩) ?_
                    clear hK K
                    have HV8 := HV7
                    have HB8 := HB7
                    have hs8 := HB8.out.size
                    refine z_one (i := 12) rfl (by kernel_rfl) (by rfl) (fun K hK => ?_)
                    refine wp_append_any _ _ _ 26 rfl wz.heap.size 3 i0 _ 1 8 Tryz.underlying26 hi0 hz0 hz1 hz2 rfl (by decide) (.slice Aa s.length ca) s.length _ (by rfl) (HV8.out) (wz.heap.size + 1) (some ⟨wz.heap.size, 0, none⟩) 1 1 [.int .i64 x] (by rfl) (reads_one (Nat.lt_succ_self _) (HX8.out.cell 0)) (by intro u hu; simp at hu; subst hu; rfl) (by unfold maxLen; omega) (by omega) (hs8) ?_
                    intro v9 w9 hown9 hg9 hat9
                    have HV9 := Lib.hid (own_snoc hown9)
                    have HB9 := Lib.hid (HB8.out.grown hg9 HB8.out.size (own_row_ge HV8.out))
                    have hs9 := HB9.out.size
                    obtain ⟨Ab, cb, ev9, _, _, _⟩ := own_form hown9
                    subst ev9
                    clear hown9 hg9 hat9
                    refine hK _ _ (fun _ => ⟨keepB (HB9.out) hgLz HSz.out.1, keepB (HB9.out) had7z HSz.out.2⟩) ?_
                    clear hK K
                    refine z_one (i := 13) rfl (by kernel_rfl) (by rfl) (fun K hK => ?_)
                    go_simp
                    refine hK _ _ (fun _ => ⟨keepB (HB9.out.alloc HB9.out.size _) hgLz HSz.out.1, keepB (HB9.out.alloc HB9.out.size _) had7z HSz.out.2⟩) ?_
                    clear hK K
                    have HB10 := Lib.hid (HB9.out.alloc HB9.out.size (.cells #[.slice Ab (s.length + 1) cb] 26))
                    have hs10 := HB10.out.size
                    have HV10 := Lib.hid (show OwnInts (w9.alloc (.cells #[.slice Ab (s.length + 1) cb] 26)) w2.heap.size (.slice Ab (s.length + 1) cb) (s ++ [x]) from own_more (own_kept (row := none) HV9.out (World.grownBy_alloc w9 _ none) (fun g e => by cases e)) hszz)
                    have HN10 := Lib.hid (HNz.out.below_ HB10.out)
                    have HO10 := Lib.hid (HOz.out.below_ HB10.out)
                    have HL10 := Lib.hid (HLz.out.below_ HB10.out)
                    obtain ⟨us10, hr10, hi10⟩ := HN10.out
                    have Hr10 := Lib.hid (And.intro hr10 hi10)
                    clear hr10 hi10
                    try simp only [Act.put, List.setIfInBounds_toArray]
                    refine z_one (i := 14) rfl (by kernel_rfl) (by rfl) (fun K hK => ?_)
                    refine wp_append_any _ _ _ 40 rfl w2.heap.size 26 j0 _ 1 24 Tryz.underlying40 hj0 yz0 yz1 yz2 rfl (by decide) (.slice A11 N2.length c11) N2.length us10 (by rfl) (Hr10.out.1) (w9.heap.size + 1) (some ⟨w9.heap.size, 0, none⟩) 1 1 [.slice Ab (s.length + 1) cb] (by rfl) (reads_one (Nat.lt_succ_self _) (cell_new0 _ _ _)) (by intro u hu; simp at hu; subst hu; rfl) (by unfold maxLen; omega) (by omega) (by omega) ?_
                    intro v14 w14 hown14 hg14 hat14
                    have HN14 := Lib.hid (show OwnSets w14 w2.heap.size v14 (N2 ++ [s ++ [x]]) from OwnSets.snoc Hr10.out.1 Hr10.out.2 HV10.out hown14 hg14)
                    have HO14 := Lib.hid (HO10.out.other Hr10.out.1 hg14 (fun g e e2 => Hap2q.out g e2 e))
                    have HL14 := Lib.hid (HL10.out.other Hr10.out.1 hg14 (fun g e e2 => Hap3q.out g e2 e))
                    have HB14 := Lib.hid (show Below w2.heap.size w2 w14 from (HBz.out.trans (HB10.out.mono hszz)).grown hg14 (by omega) (own_row_ge Hr10.out.1))
                    have hfr : ∀ g, v14.ownBlock = some g → (Value.slice A11 N2.length c11).ownBlock = some g ∨ wz.heap.size ≤ g := fun g e => by
                      rcases hat14 with h | h
                      · left; rw [← h]; exact e
                      · right; rw [h] at e; injection e with e; omega
                    have HapA := Lib.hid (show ∀ g, (Value.slice A8x O2.length c8x).ownBlock = some g → v14.ownBlock ≠ some g from fun g e e2 => by
                      rcases hfr g e2 with h | h
                      · exact Hap2q.out g e h
                      · obtain ⟨usO, hrO, _⟩ := HOz.out
                        have := (own_row_lt hrO g e).2; omega)
                    have HapB := Lib.hid (show ∀ g, (Value.slice (some ⟨gL, 0, none⟩) L.length c9).ownBlock = some g → v14.ownBlock ≠ some g from fun g e e2 => by
                      rcases hfr g e2 with h | h
                      · exact Hap3q.out g e h
                      · obtain ⟨usL, hrL, _⟩ := HLz.out
                        have := (own_row_lt hrL g e).2; omega)
                    have hS14 : w14.cell? ⟨gL, i, none⟩ = some (.slice Au s.length cu) ∧ w14.cell? (ad7.add k) = some (.int .i64 x) := ⟨(World.cell?_of_block (hg14.block gL (by have := HB10.out.size; simp at this ⊢; omega) (fun e => Hap3q.out gL rfl e.symm))).trans (keepB HB10.out hgLz HSz.out.1), (World.cell?_of_block (hg14.block (ad7.add k).block (by have := HB10.out.size; simp at this ⊢; omega) (fun e => by have := own_row_ge Hr10.out.1 _ e.symm; rw [block_of_add] at this; omega))).trans (keepB HB10.out had7z HSz.out.2)⟩
                    clear hown14 hg14 hat14 hfr
                    refine hK _ _ (fun _ => hS14) ?_
                    clear hK K hS14
                    refine z_one (i := 15) rfl (by kernel_rfl) (by rfl) (fun K hK => ?_)
                    go_simp
                    refine hK _ _ (fun h => absurd rfl h) ?_
                    clear hK K
                    refine z_done (by kernel_rfl) ?_ _
                    go_wp2
                    go_roundg (al.length - (k + 1))
                    case rel => exact ⟨k + 1, hkl, rfl, by go_num, by rw [Hext.out]; exact HN14, HO14.out, HL14.out, HB14.out, HapA.out, HapB.out⟩
                    case measure => rw [Hg3.out]; omega
                · obtain ⟨gu, rfl⟩ : ∃ g, Au = some ⟨g, 0, none⟩ := (own_two2 Huq.out).resolve_left (fun h => h0 h.2.1)
                  have hz : ((s.length : Int) == 0) = false := by simpa using (fun e => h0 (by omega) : ¬ (s.length : Int) = 0)
                  have clast : wq.cell? ⟨gu, s.length - 1, none⟩ = some (.int .i64 (s.getD (s.length - 1) 0)) := own_cell Huq.out (by rw [List.getElem?_map, List.getElem?_eq_getElem (by omega), List.getD_eq_getElem?_getD, List.getElem?_eq_getElem (by omega)]; rfl)
                  have hgu := (own_row_lt Huq.out gu rfl).2
                  obtain ⟨ls, hls⟩ : ∃ ls, ls = s.getD (s.length - 1) 0 := ⟨_, rfl⟩
                  rw [← hls] at clast
                  have hs1 : IntKind.i64.wrap ((s.length : Int) - 1) = ((s.length - 1 : Nat) : Int) := by rw [IntKind.wrap_i64]; omega
                  have hs2 : (s.length : Int) - 1 = ((s.length - 1 : Nat) : Int) := by omega
                  have hs3 : ((s.length - 1 : Nat) : Int) < (s.length : Int) := by omega
                  have hs4 : (0 : Int) ≤ (s.length : Int) - 1 := by omega
                  have hs5 : (s.length : Int) - 1 < (s.length : Int) := by omega
                  have hs6 : ((s.length : Int) - 1).toNat = s.length - 1 := by omega
                  by_cases hlx : ls < x
                  · have hfit : Rk.fits s (al.getD k 0) = true := by unfold Rk.fits; rw [← hls, ← Hxx.out]; simp [hlx]
                    have Hext := Lib.hid (show N ++ Rk.extTo al s (k + 1) = N2 ++ [s ++ [x]] by rw [Rk.extTo_yes hkl hfit, ← Hxx.out, HN2.out, List.append_assoc])
                    have hd : decide (ls < x) = true := decide_eq_true hlx
                    clear hfit hls
                    go_wp2
                    go_quiet (fail)
                    go_wp2
                    obtain ⟨wz, hwz⟩ : ∃ wz, wz = (wq.drewN nq).drew := ⟨_, rfl⟩
                    have HNz := Lib.hid (show OwnSets wz w2.heap.size (.slice A11 N2.length c11) N2 by rw [hwz]; exact HNq.out)
                    have HOz := Lib.hid (show OwnSets wz w2.heap.size (.slice A8x O2.length c8x) O2 by rw [hwz]; exact HOq.out)
                    have HLz := Lib.hid (show OwnSets wz w2.heap.size (.slice (some ⟨gL, 0, none⟩) L.length c9) L by rw [hwz]; exact HLq.out)
                    have HBz := Lib.hid (show Below w2.heap.size w2 wz by rw [hwz]; exact below_drewN HBq.out (nq + 1))
                    have HSz := Lib.hid (show wz.cell? ⟨gL, i, none⟩ = some (.slice (some ⟨gu, 0, none⟩) s.length cu) ∧ wz.cell? (ad7.add k) = some (.int .i64 x) by rw [hwz]; exact ⟨cLq, cxq⟩)
                    have Huz := Lib.hid (show OwnInts wz w2.heap.size (.slice (some ⟨gu, 0, none⟩) s.length cu) s by rw [hwz]; exact Huq.out)
                    have Hwz := Lib.hid hwz
                    have hgLz : gL < wz.heap.size := by rw [hwz]; exact hgLq
                    have hszz := HBz.out.size
                    have had7z : (ad7.add k).block < wz.heap.size := by rw [block_of_add]; omega
                    clear hwz
                    have Hrz := Lib.hid (Reads.of_own Huz.out)
                    have Hone := Lib.hid (show ∀ u ∈ s.map (Value.int .i64), u.oneCell' = true from fun u hu => by obtain ⟨y, _, rfl⟩ := List.mem_map.1 hu; rfl)
                    refine z_region (fun w' => w'.cell? ⟨gL, i, none⟩ = some (.slice (some ⟨gu, 0, none⟩) s.length cu) ∧ w'.cell? (ad7.add k) = some (.int .i64 x)) 15 (by kernel_rfl) ?_
                    rw [← Hwz.out]
                    refine z_take (i := 0) (v := ?_) rfl (by kernel_rfl) (by kernel_rfl) (by kernel_rfl) (fun _ _ _ h => h) (by kernel_rfl) (by decide) (HSz.out) (by rfl) (by intro w hSw; obtain ⟨hSa, hSb⟩ := hSw; go_simp; rfl) ?_
                    refine z_take (i := 2) (v := ?_) rfl (by kernel_rfl) (by kernel_rfl) (by kernel_rfl) (fun _ _ _ h => h) (by kernel_rfl) (by decide) (HSz.out) (by rfl) (by intro w hSw; obtain ⟨hSa, hSb⟩ := hSw; go_simp; rfl) ?_
                    refine z_take (i := 3) (v := ?_) rfl (by kernel_rfl) (by kernel_rfl) (by kernel_rfl) (fun _ _ _ h => h) (by kernel_rfl) (by decide) (HSz.out) (by rfl) (by intro w hSw; obtain ⟨hSa, hSb⟩ := hSw; go_simp; rfl) ?_
                    refine z_take (i := 4) (v := ?_) rfl (by kernel_rfl) (by kernel_rfl) (by kernel_rfl) (fun _ _ _ h => h) (by kernel_rfl) (by decide) (HSz.out) (by rfl) (by intro w hSw; obtain ⟨hSa, hSb⟩ := hSw; go_simp; rfl) ?_
                    refine z_take (i := 5) (v := ?_) rfl (by kernel_rfl) (by kernel_rfl) (by kernel_rfl) (fun _ _ _ h => h) (by kernel_rfl) (by decide) (HSz.out) (by rfl) (by intro w hSw; obtain ⟨hSa, hSb⟩ := hSw; go_simp; rfl) ?_
                    refine z_take (i := 7) (v := ?_) rfl (by kernel_rfl) (by kernel_rfl) (by kernel_rfl) (fun _ _ _ h => h) (by kernel_rfl) (by decide) (HSz.out) (by rfl) (by intro w hSw; obtain ⟨hSa, hSb⟩ := hSw; go_simp; rfl) ?_
                    refine z_take (i := 8) (v := ?_) rfl (by kernel_rfl) (by kernel_rfl) (by kernel_rfl) (fun _ _ _ h => h) (by kernel_rfl) (by decide) (HSz.out) (by rfl) (by intro w hSw; obtain ⟨hSa, hSb⟩ := hSw; go_simp; rfl) ?_
                    refine z_take (i := 9) (v := ?_) rfl (by kernel_rfl) (by kernel_rfl) (by kernel_rfl) (fun _ _ _ h => h) (by kernel_rfl) (by decide) (HSz.out) (by rfl) (by intro w hSw; obtain ⟨hSa, hSb⟩ := hSw; go_simp; rfl) ?_
                    refine z_take (i := 10) (v := ?_) rfl (by kernel_rfl) (by kernel_rfl) (by kernel_rfl) (fun _ _ _ h => h) (by kernel_rfl) (by decide) (HSz.out) (by rfl) (by intro w hSw; obtain ⟨hSa, hSb⟩ := hSw; go_simp; rfl) ?_
                    simp only [Act.put, List.setIfInBounds_toArray]
                    refine z_two (i := 1) (j := 11) rfl rfl (by kernel_rfl) (by rfl) (by rfl) (fun K hK => ?_) (fun K hK => ?_)
                    · go_simp
                      refine hK _ _ (fun _ => ⟨keepB ((Below.refl wz.heap.size wz).alloc (Nat.le_refl _) _) hgLz HSz.out.1, keepB ((Below.refl wz.heap.size wz).alloc (Nat.le_refl _) _) had7z HSz.out.2⟩) ?_
                      clear hK K
                      refine z_two (i := 6) (j := 11) rfl rfl (by kernel_rfl) (by rfl) (by rfl) (fun K hK => ?_) (fun K hK => ?_)
                      · refine wp_append_any _ _ _ 26 rfl wz.heap.size 3 i0 _ 1 8 Tryz.underlying26 hi0 hz0 hz1 hz2 rfl (by decide) (.slice (some ⟨wz.heap.size, 0, none⟩) 0 0) 0 [] (by rfl) (World.ownsRow_made wz #[] 0 (Nat.le_refl _) (Nat.zero_le _) rfl) wz.heap.size (some ⟨gu, 0, none⟩) s.length cu _ (by rfl) (Hrz.out.alloc (Nat.le_refl _) _) (Hone.out) (by unfold maxLen; omega) (by omega) (by first | (simp; done) | (simp; omega)) ?_
                        intro v7 w7 hown7 hg7 hat7
                        obtain ⟨Aa, ca, ev7, _, _, _⟩ := own_form hown7
                        rw [Nat.zero_add] at ev7
                        subst ev7
                        have HV7 := Lib.hid (show OwnInts w7 wz.heap.size (.slice Aa s.length ca) s by unfold OwnInts; simpa using hown7)
                        have hB7 : Below wz.heap.size wz w7 := ((Below.refl wz.heap.size wz).alloc (Nat.le_refl _) _).grown hg7 (by simp; try omega) (fun b e => by have e2 : some (wz.heap.size) = some b := e; injection e2 with e2; omega)
                        have HB7 := Lib.hid hB7
                        have hs7 := hB7.size
                        clear hown7 hg7 hat7 hB7
                        refine hK _ _ (fun _ => ⟨keepB (HB7.out) hgLz HSz.out.1, keepB (HB7.out) had7z HSz.out.2⟩) ?_
                        clear hK K
                        refine z_one (i := 11) rfl (by kernel_rfl) (by rfl) (fun K hK => ?_)
                        go_simp
                        refine hK _ _ (fun _ => ⟨keepB (HB7.out.alloc HB7.out.size _) hgLz HSz.out.1, keepB (HB7.out.alloc HB7.out.size _) had7z HSz.out.2⟩) ?_
                        clear hK K
                        have HX8 := Lib.hid (Blk.new w7 3 #[.int .i64 x])
                        have HV8 := Lib.hid (own_kept (w' := w7.alloc (.cells #[.int .i64 x] 3)) (row := none) HV7.out (World.grownBy_alloc w7 _ none) (fun g e => by cases e))
                        have HB8 := Lib.hid (HB7.out.alloc HB7.out.size (.cells #[.int .i64 x] 3))
                        have hs8 := HB8.out.size
                        refine z_one (i := 12) rfl (by kernel_rfl) (by rfl) (fun K hK => ?_)
                        refine wp_append_any _ _ _ 26 rfl wz.heap.size 3 i0 _ 1 8 Tryz.underlying26 hi0 hz0 hz1 hz2 rfl (by decide) (.slice Aa s.length ca) s.length _ (by rfl) (HV8.out) (w7.heap.size + 1) (some ⟨w7.heap.size, 0, none⟩) 1 1 [.int .i64 x] (by rfl) (reads_one (Nat.lt_succ_self _) (HX8.out.cell 0)) (by intro u hu; simp at hu; subst hu; rfl) (by unfold maxLen; omega) (by omega) (hs8) ?_
                        intro v9 w9 hown9 hg9 hat9
                        have HV9 := Lib.hid (own_snoc hown9)
                        have HB9 := Lib.hid (HB8.out.grown hg9 HB8.out.size (own_row_ge HV8.out))
                        have hs9 := HB9.out.size
                        obtain ⟨Ab, cb, ev9, _, _, _⟩ := own_form hown9
                        subst ev9
                        clear hown9 hg9 hat9
                        refine hK _ _ (fun _ => ⟨keepB (HB9.out) hgLz HSz.out.1, keepB (HB9.out) had7z HSz.out.2⟩) ?_
                        clear hK K
                        refine z_one (i := 13) rfl (by kernel_rfl) (by rfl) (fun K hK => ?_)
                        go_simp
                        refine hK _ _ (fun _ => ⟨keepB (HB9.out.alloc HB9.out.size _) hgLz HSz.out.1, keepB (HB9.out.alloc HB9.out.size _) had7z HSz.out.2⟩) ?_
                        clear hK K
                        have HB10 := Lib.hid (HB9.out.alloc HB9.out.size (.cells #[.slice Ab (s.length + 1) cb] 26))
                        have hs10 := HB10.out.size
                        have HV10 := Lib.hid (show OwnInts (w9.alloc (.cells #[.slice Ab (s.length + 1) cb] 26)) w2.heap.size (.slice Ab (s.length + 1) cb) (s ++ [x]) from own_more (own_kept (row := none) HV9.out (World.grownBy_alloc w9 _ none) (fun g e => by cases e)) hszz)
                        have HN10 := Lib.hid (HNz.out.below_ HB10.out)
                        have HO10 := Lib.hid (HOz.out.below_ HB10.out)
                        have HL10 := Lib.hid (HLz.out.below_ HB10.out)
                        obtain ⟨us10, hr10, hi10⟩ := HN10.out
                        have Hr10 := Lib.hid (And.intro hr10 hi10)
                        clear hr10 hi10
                        try simp only [Act.put, List.setIfInBounds_toArray]
                        refine z_one (i := 14) rfl (by kernel_rfl) (by rfl) (fun K hK => ?_)
                        refine wp_append_any _ _ _ 40 rfl w2.heap.size 26 j0 _ 1 24 Tryz.underlying40 hj0 yz0 yz1 yz2 rfl (by decide) (.slice A11 N2.length c11) N2.length us10 (by rfl) (Hr10.out.1) (w9.heap.size + 1) (some ⟨w9.heap.size, 0, none⟩) 1 1 [.slice Ab (s.length + 1) cb] (by rfl) (reads_one (Nat.lt_succ_self _) (cell_new0 _ _ _)) (by intro u hu; simp at hu; subst hu; rfl) (by unfold maxLen; omega) (by omega) (by omega) ?_
                        intro v14 w14 hown14 hg14 hat14
                        have HN14 := Lib.hid (show OwnSets w14 w2.heap.size v14 (N2 ++ [s ++ [x]]) from OwnSets.snoc Hr10.out.1 Hr10.out.2 HV10.out hown14 hg14)
                        have HO14 := Lib.hid (HO10.out.other Hr10.out.1 hg14 (fun g e e2 => Hap2q.out g e2 e))
                        have HL14 := Lib.hid (HL10.out.other Hr10.out.1 hg14 (fun g e e2 => Hap3q.out g e2 e))
                        have HB14 := Lib.hid (show Below w2.heap.size w2 w14 from (HBz.out.trans (HB10.out.mono hszz)).grown hg14 (by omega) (own_row_ge Hr10.out.1))
                        have hfr : ∀ g, v14.ownBlock = some g → (Value.slice A11 N2.length c11).ownBlock = some g ∨ wz.heap.size ≤ g := fun g e => by
                          rcases hat14 with h | h
                          · left; rw [← h]; exact e
                          · right; rw [h] at e; injection e with e; omega
                        have HapA := Lib.hid (show ∀ g, (Value.slice A8x O2.length c8x).ownBlock = some g → v14.ownBlock ≠ some g from fun g e e2 => by
                          rcases hfr g e2 with h | h
                          · exact Hap2q.out g e h
                          · obtain ⟨usO, hrO, _⟩ := HOz.out
                            have := (own_row_lt hrO g e).2; omega)
                        have HapB := Lib.hid (show ∀ g, (Value.slice (some ⟨gL, 0, none⟩) L.length c9).ownBlock = some g → v14.ownBlock ≠ some g from fun g e e2 => by
                          rcases hfr g e2 with h | h
                          · exact Hap3q.out g e h
                          · obtain ⟨usL, hrL, _⟩ := HLz.out
                            have := (own_row_lt hrL g e).2; omega)
                        have hS14 : w14.cell? ⟨gL, i, none⟩ = some (.slice (some ⟨gu, 0, none⟩) s.length cu) ∧ w14.cell? (ad7.add k) = some (.int .i64 x) := ⟨(World.cell?_of_block (hg14.block gL (by have := HB10.out.size; simp at this ⊢; omega) (fun e => Hap3q.out gL rfl e.symm))).trans (keepB HB10.out hgLz HSz.out.1), (World.cell?_of_block (hg14.block (ad7.add k).block (by have := HB10.out.size; simp at this ⊢; omega) (fun e => by have := own_row_ge Hr10.out.1 _ e.symm; rw [block_of_add] at this; omega))).trans (keepB HB10.out had7z HSz.out.2)⟩
                        clear hown14 hg14 hat14 hfr
                        refine hK _ _ (fun _ => hS14) ?_
                        clear hK K hS14
                        refine z_one (i := 15) rfl (by kernel_rfl) (by rfl) (fun K hK => ?_)
                        go_simp
                        refine hK _ _ (fun h => absurd rfl h) ?_
                        clear hK K
                        refine z_done (by kernel_rfl) ?_ _
                        go_wp2
                        go_roundg (al.length - (k + 1))
                        case rel => exact ⟨k + 1, hkl, rfl, by go_num, by rw [Hext.out]; exact HN14, HO14.out, HL14.out, HB14.out, HapA.out, HapB.out⟩
                        case measure => rw [Hg3.out]; omega
                      · go_simp
                        refine hK _ _ (fun _ => ⟨keepB (((Below.refl wz.heap.size wz).alloc (Nat.le_refl _) _).alloc (by simp) _) hgLz HSz.out.1, keepB (((Below.refl wz.heap.size wz).alloc (Nat.le_refl _) _).alloc (by simp) _) had7z HSz.out.2⟩) ?_
                        clear hK K
                        refine z_one (i := 6) rfl (by kernel_rfl) (by rfl) (fun K hK => ?_)
                        refine wp_append_any _ _ _ 26 rfl wz.heap.size 3 i0 _ 1 8 Tryz.underlying26 hi0 hz0 hz1 hz2 rfl (by decide) (.slice (some ⟨wz.heap.size, 0, none⟩) 0 0) 0 [] (by rfl) (own_kept (row := none) (World.ownsRow_made wz #[] 0 (Nat.le_refl _) (Nat.zero_le _) rfl) (World.grownBy_alloc _ _ none) (fun g e => by cases e)) wz.heap.size (some ⟨gu, 0, none⟩) s.length cu _ (by rfl) (Hrz.out.alloc (Nat.le_refl _) _ |>.alloc (by simp) _) (Hone.out) (by unfold maxLen; omega) (by omega) (by first | (simp; done) | (simp; omega)) ?_
                        intro v7 w7 hown7 hg7 hat7
                        obtain ⟨Aa, ca, ev7, _, _, _⟩ := own_form hown7
                        rw [Nat.zero_add] at ev7
                        subst ev7
                        have HV7 := Lib.hid (show OwnInts w7 wz.heap.size (.slice Aa s.length ca) s by unfold OwnInts; simpa using hown7)
                        have hB7 : Below wz.heap.size wz w7 := (((Below.refl wz.heap.size wz).alloc (Nat.le_refl _) _).alloc (by simp) _).grown hg7 (by simp; try omega) (fun b e => by have e2 : some (wz.heap.size) = some b := e; injection e2 with e2; omega)
                        have HX8 := Lib.hid (show Blk w7 (wz.heap.size + 1) 3 #[.int .i64 x] from (newBlkH (by simp) _ _).grown hg7 (fun e => by have e2 : some (wz.heap.size + 1) = some wz.heap.size := e; injection e2 with e2; omega))
                        have HB7 := Lib.hid hB7
                        have hs7 := hB7.size
                        clear hown7 hg7 hat7 hB7
                        refine hK _ _ (fun _ => ⟨keepB (HB7.out) hgLz HSz.out.1, keepB (HB7.out) had7z HSz.out.2⟩) ?_
                        clear hK K
                        have HV8 := HV7
                        have HB8 := HB7
                        have hs8 := HB8.out.size
                        refine z_one (i := 12) rfl (by kernel_rfl) (by rfl) (fun K hK => ?_)
                        refine wp_append_any _ _ _ 26 rfl wz.heap.size 3 i0 _ 1 8 Tryz.underlying26 hi0 hz0 hz1 hz2 rfl (by decide) (.slice Aa s.length ca) s.length _ (by rfl) (HV8.out) ((wz.heap.size + 1) + 1) (some ⟨(wz.heap.size + 1), 0, none⟩) 1 1 [.int .i64 x] (by rfl) (reads_one (Nat.lt_succ_self _) (HX8.out.cell 0)) (by intro u hu; simp at hu; subst hu; rfl) (by unfold maxLen; omega) (by omega) (hs8) ?_
                        intro v9 w9 hown9 hg9 hat9
                        have HV9 := Lib.hid (own_snoc hown9)
                        have HB9 := Lib.hid (HB8.out.grown hg9 HB8.out.size (own_row_ge HV8.out))
                        have hs9 := HB9.out.size
                        obtain ⟨Ab, cb, ev9, _, _, _⟩ := own_form hown9
                        subst ev9
                        clear hown9 hg9 hat9
                        refine hK _ _ (fun _ => ⟨keepB (HB9.out) hgLz HSz.out.1, keepB (HB9.out) had7z HSz.out.2⟩) ?_
                        clear hK K
                        refine z_one (i := 13) rfl (by kernel_rfl) (by rfl) (fun K hK => ?_)
                        go_simp
                        refine hK _ _ (fun _ => ⟨keepB (HB9.out.alloc HB9.out.size _) hgLz HSz.out.1, keepB (HB9.out.alloc HB9.out.size _) had7z HSz.out.2⟩) ?_
                        clear hK K
                        have HB10 := Lib.hid (HB9.out.alloc HB9.out.size (.cells #[.slice Ab (s.length + 1) cb] 26))
                        have hs10 := HB10.out.size
                        have HV10 := Lib.hid (show OwnInts (w9.alloc (.cells #[.slice Ab (s.length + 1) cb] 26)) w2.heap.size (.slice Ab (s.length + 1) cb) (s ++ [x]) from own_more (own_kept (row := none) HV9.out (World.grownBy_alloc w9 _ none) (fun g e => by cases e)) hszz)
                        have HN10 := Lib.hid (HNz.out.below_ HB10.out)
                        have HO10 := Lib.hid (HOz.out.below_ HB10.out)
                        have HL10 := Lib.hid (HLz.out.below_ HB10.out)
                        obtain ⟨us10, hr10, hi10⟩ := HN10.out
                        have Hr10 := Lib.hid (And.intro hr10 hi10)
                        clear hr10 hi10
                        try simp only [Act.put, List.setIfInBounds_toArray]
                        refine z_one (i := 14) rfl (by kernel_rfl) (by rfl) (fun K hK => ?_)
                        refine wp_append_any _ _ _ 40 rfl w2.heap.size 26 j0 _ 1 24 Tryz.underlying40 hj0 yz0 yz1 yz2 rfl (by decide) (.slice A11 N2.length c11) N2.length us10 (by rfl) (Hr10.out.1) (w9.heap.size + 1) (some ⟨w9.heap.size, 0, none⟩) 1 1 [.slice Ab (s.length + 1) cb] (by rfl) (reads_one (Nat.lt_succ_self _) (cell_new0 _ _ _)) (by intro u hu; simp at hu; subst hu; rfl) (by unfold maxLen; omega) (by omega) (by omega) ?_
                        intro v14 w14 hown14 hg14 hat14
                        have HN14 := Lib.hid (show OwnSets w14 w2.heap.size v14 (N2 ++ [s ++ [x]]) from OwnSets.snoc Hr10.out.1 Hr10.out.2 HV10.out hown14 hg14)
                        have HO14 := Lib.hid (HO10.out.other Hr10.out.1 hg14 (fun g e e2 => Hap2q.out g e2 e))
                        have HL14 := Lib.hid (HL10.out.other Hr10.out.1 hg14 (fun g e e2 => Hap3q.out g e2 e))
                        have HB14 := Lib.hid (show Below w2.heap.size w2 w14 from (HBz.out.trans (HB10.out.mono hszz)).grown hg14 (by omega) (own_row_ge Hr10.out.1))
                        have hfr : ∀ g, v14.ownBlock = some g → (Value.slice A11 N2.length c11).ownBlock = some g ∨ wz.heap.size ≤ g := fun g e => by
                          rcases hat14 with h | h
                          · left; rw [← h]; exact e
                          · right; rw [h] at e; injection e with e; omega
                        have HapA := Lib.hid (show ∀ g, (Value.slice A8x O2.length c8x).ownBlock = some g → v14.ownBlock ≠ some g from fun g e e2 => by
                          rcases hfr g e2 with h | h
                          · exact Hap2q.out g e h
                          · obtain ⟨usO, hrO, _⟩ := HOz.out
                            have := (own_row_lt hrO g e).2; omega)
                        have HapB := Lib.hid (show ∀ g, (Value.slice (some ⟨gL, 0, none⟩) L.length c9).ownBlock = some g → v14.ownBlock ≠ some g from fun g e e2 => by
                          rcases hfr g e2 with h | h
                          · exact Hap3q.out g e h
                          · obtain ⟨usL, hrL, _⟩ := HLz.out
                            have := (own_row_lt hrL g e).2; omega)
                        have hS14 : w14.cell? ⟨gL, i, none⟩ = some (.slice (some ⟨gu, 0, none⟩) s.length cu) ∧ w14.cell? (ad7.add k) = some (.int .i64 x) := ⟨(World.cell?_of_block (hg14.block gL (by have := HB10.out.size; simp at this ⊢; omega) (fun e => Hap3q.out gL rfl e.symm))).trans (keepB HB10.out hgLz HSz.out.1), (World.cell?_of_block (hg14.block (ad7.add k).block (by have := HB10.out.size; simp at this ⊢; omega) (fun e => by have := own_row_ge Hr10.out.1 _ e.symm; rw [block_of_add] at this; omega))).trans (keepB HB10.out had7z HSz.out.2)⟩
                        clear hown14 hg14 hat14 hfr
                        refine hK _ _ (fun _ => hS14) ?_
                        clear hK K hS14
                        refine z_one (i := 15) rfl (by kernel_rfl) (by rfl) (fun K hK => ?_)
                        go_simp
                        refine hK _ _ (fun h => absurd rfl h) ?_
                        clear hK K
                        refine z_done (by kernel_rfl) ?_ _
                        go_wp2
                        go_roundg (al.length - (k + 1))
                        case rel => exact ⟨k + 1, hkl, rfl, by go_num, by rw [Hext.out]; exact HN14, HO14.out, HL14.out, HB14.out, HapA.out, HapB.out⟩
                        case measure => rw [Hg3.out]; omega
                    · go_simp
                      refine hK _ _ (fun _ => ⟨keepB ((Below.refl wz.heap.size wz).alloc (Nat.le_refl _) _) hgLz HSz.out.1, keepB ((Below.refl wz.heap.size wz).alloc (Nat.le_refl _) _) had7z HSz.out.2⟩) ?_
                      clear hK K
                      refine z_one (i := 1) rfl (by kernel_rfl) (by rfl) (fun K hK => ?_)
                      go_simp
                      refine hK _ _ (fun _ => ⟨keepB (((Below.refl wz.heap.size wz).alloc (Nat.le_refl _) _).alloc (by simp) _) hgLz HSz.out.1, keepB (((Below.refl wz.heap.size wz).alloc (Nat.le_refl _) _).alloc (by simp) _) had7z HSz.out.2⟩) ?_
                      clear hK K
                      refine z_one (i := 6) rfl (by kernel_rfl) (by rfl) (fun K hK => ?_)
                      refine wp_append_any _ _ _ 26 rfl wz.heap.size 3 i0 _ 1 8 Tryz.underlying26 hi0 hz0 hz1 hz2 rfl (by decide) (.slice (some ⟨wz.heap.size + 1, 0, none⟩) 0 0) 0 [] (by rfl) (made_nextT wz (.cells #[.int .i64 x] 3) 3) wz.heap.size (some ⟨gu, 0, none⟩) s.length cu _ (by rfl) (Hrz.out.alloc (Nat.le_refl _) _ |>.alloc (by simp) _) (Hone.out) (by unfold maxLen; omega) (by omega) (by first | (simp; done) | (simp; omega)) ?_
                      intro v7 w7 hown7 hg7 hat7
                      obtain ⟨Aa, ca, ev7, _, _, _⟩ := own_form hown7
                      rw [Nat.zero_add] at ev7
                      subst ev7
                      have HV7 := Lib.hid (show OwnInts w7 wz.heap.size (.slice Aa s.length ca) s by unfold OwnInts; simpa using hown7)
                      have hB7 : Below wz.heap.size wz w7 := (((Below.refl wz.heap.size wz).alloc (Nat.le_refl _) _).alloc (by simp) _).grown hg7 (by simp; try omega) (fun b e => by have e2 : some (wz.heap.size + 1) = some b := e; injection e2 with e2; omega)
                      have HX8 := Lib.hid (show Blk w7 wz.heap.size 3 #[.int .i64 x] from ((Blk.new wz _ _).alloc _).grown hg7 (fun e => by have e2 : some wz.heap.size = some (wz.heap.size + 1) := e; injection e2 with e2; omega))
                      have HB7 := Lib.hid hB7
                      have hs7 := hB7.size
                      clear hown7 hg7 hat7 hB7
                      refine hK _ _ (fun _ => ⟨keepB (HB7.out) hgLz HSz.out.1, keepB (HB7.out) had7z HSz.out.2⟩) ?_
                      clear hK K
                      have HV8 := HV7
                      have HB8 := HB7
                      have hs8 := HB8.out.size
                      refine z_one (i := 12) rfl (by kernel_rfl) (by rfl) (fun K hK => ?_)
                      refine wp_append_any _ _ _ 26 rfl wz.heap.size 3 i0 _ 1 8 Tryz.underlying26 hi0 hz0 hz1 hz2 rfl (by decide) (.slice Aa s.length ca) s.length _ (by rfl) (HV8.out) (wz.heap.size + 1) (some ⟨wz.heap.size, 0, none⟩) 1 1 [.int .i64 x] (by rfl) (reads_one (Nat.lt_succ_self _) (HX8.out.cell 0)) (by intro u hu; simp at hu; subst hu; rfl) (by unfold maxLen; omega) (by omega) (hs8) ?_
                      intro v9 w9 hown9 hg9 hat9
                      have HV9 := Lib.hid (own_snoc hown9)
                      have HB9 := Lib.hid (HB8.out.grown hg9 HB8.out.size (own_row_ge HV8.out))
                      have hs9 := HB9.out.size
                      obtain ⟨Ab, cb, ev9, _, _, _⟩ := own_form hown9
                      subst ev9
                      clear hown9 hg9 hat9
                      refine hK _ _ (fun _ => ⟨keepB (HB9.out) hgLz HSz.out.1, keepB (HB9.out) had7z HSz.out.2⟩) ?_
                      clear hK K
                      refine z_one (i := 13) rfl (by kernel_rfl) (by rfl) (fun K hK => ?_)
                      go_simp
                      refine hK _ _ (fun _ => ⟨keepB (HB9.out.alloc HB9.out.size _) hgLz HSz.out.1, keepB (HB9.out.alloc HB9.out.size _) had7z HSz.out.2⟩) ?_
                      clear hK K
                      have HB10 := Lib.hid (HB9.out.alloc HB9.out.size (.cells #[.slice Ab (s.length + 1) cb] 26))
                      have hs10 := HB10.out.size
                      have HV10 := Lib.hid (show OwnInts (w9.alloc (.cells #[.slice Ab (s.length + 1) cb] 26)) w2.heap.size (.slice Ab (s.length + 1) cb) (s ++ [x]) from own_more (own_kept (row := none) HV9.out (World.grownBy_alloc w9 _ none) (fun g e => by cases e)) hszz)
                      have HN10 := Lib.hid (HNz.out.below_ HB10.out)
                      have HO10 := Lib.hid (HOz.out.below_ HB10.out)
                      have HL10 := Lib.hid (HLz.out.below_ HB10.out)
                      obtain ⟨us10, hr10, hi10⟩ := HN10.out
                      have Hr10 := Lib.hid (And.intro hr10 hi10)
                      clear hr10 hi10
                      try simp only [Act.put, List.setIfInBounds_toArray]
                      refine z_one (i := 14) rfl (by kernel_rfl) (by rfl) (fun K hK => ?_)
                      refine wp_append_any _ _ _ 40 rfl w2.heap.size 26 j0 _ 1 24 Tryz.underlying40 hj0 yz0 yz1 yz2 rfl (by decide) (.slice A11 N2.length c11) N2.length us10 (by rfl) (Hr10.out.1) (w9.heap.size + 1) (some ⟨w9.heap.size, 0, none⟩) 1 1 [.slice Ab (s.length + 1) cb] (by rfl) (reads_one (Nat.lt_succ_self _) (cell_new0 _ _ _)) (by intro u hu; simp at hu; subst hu; rfl) (by unfold maxLen; omega) (by omega) (by omega) ?_
                      intro v14 w14 hown14 hg14 hat14
                      have HN14 := Lib.hid (show OwnSets w14 w2.heap.size v14 (N2 ++ [s ++ [x]]) from OwnSets.snoc Hr10.out.1 Hr10.out.2 HV10.out hown14 hg14)
                      have HO14 := Lib.hid (HO10.out.other Hr10.out.1 hg14 (fun g e e2 => Hap2q.out g e2 e))
                      have HL14 := Lib.hid (HL10.out.other Hr10.out.1 hg14 (fun g e e2 => Hap3q.out g e2 e))
                      have HB14 := Lib.hid (show Below w2.heap.size w2 w14 from (HBz.out.trans (HB10.out.mono hszz)).grown hg14 (by omega) (own_row_ge Hr10.out.1))
                      have hfr : ∀ g, v14.ownBlock = some g → (Value.slice A11 N2.length c11).ownBlock = some g ∨ wz.heap.size ≤ g := fun g e => by
                        rcases hat14 with h | h
                        · left; rw [← h]; exact e
                        · right; rw [h] at e; injection e with e; omega
                      have HapA := Lib.hid (show ∀ g, (Value.slice A8x O2.length c8x).ownBlock = some g → v14.ownBlock ≠ some g from fun g e e2 => by
                        rcases hfr g e2 with h | h
                        · exact Hap2q.out g e h
                        · obtain ⟨usO, hrO, _⟩ := HOz.out
                          have := (own_row_lt hrO g e).2; omega)
                      have HapB := Lib.hid (show ∀ g, (Value.slice (some ⟨gL, 0, none⟩) L.length c9).ownBlock = some g → v14.ownBlock ≠ some g from fun g e e2 => by
                        rcases hfr g e2 with h | h
                        · exact Hap3q.out g e h
                        · obtain ⟨usL, hrL, _⟩ := HLz.out
                          have := (own_row_lt hrL g e).2; omega)
                      have hS14 : w14.cell? ⟨gL, i, none⟩ = some (.slice (some ⟨gu, 0, none⟩) s.length cu) ∧ w14.cell? (ad7.add k) = some (.int .i64 x) := ⟨(World.cell?_of_block (hg14.block gL (by have := HB10.out.size; simp at this ⊢; omega) (fun e => Hap3q.out gL rfl e.symm))).trans (keepB HB10.out hgLz HSz.out.1), (World.cell?_of_block (hg14.block (ad7.add k).block (by have := HB10.out.size; simp at this ⊢; omega) (fun e => by have := own_row_ge Hr10.out.1 _ e.symm; rw [block_of_add] at this; omega))).trans (keepB HB10.out had7z HSz.out.2)⟩
                      clear hown14 hg14 hat14 hfr
                      refine hK _ _ (fun _ => hS14) ?_
                      clear hK K hS14
                      refine z_one (i := 15) rfl (by kernel_rfl) (by rfl) (fun K hK => ?_)
                      go_simp
                      refine hK _ _ (fun h => absurd rfl h) ?_
                      clear hK K
                      refine z_done (by kernel_rfl) ?_ _
                      go_wp2
                      go_roundg (al.length - (k + 1))
                      case rel => exact ⟨k + 1, hkl, rfl, by go_num, by rw [Hext.out]; exact HN14, HO14.out, HL14.out, HB14.out, HapA.out, HapB.out⟩
                      case measure => rw [Hg3.out]; omega
                  · have hfit : Rk.fits s (al.getD k 0) = false := by unfold Rk.fits; rw [← hls, ← Hxx.out]; simp [hlx, h0]
                    have Hext := Lib.hid (show N ++ Rk.extTo al s (k + 1) = N2 by rw [Rk.extTo_no hkl hfit, HN2.out])
                    have hd : decide (ls < x) = false := decide_eq_false hlx
                    clear hfit hls
                    go_wp2
                    go_quiet (fail)
                    go_wp2
                    go_roundg (al.length - (k + 1))
                    case rel => exact ⟨k + 1, hkl, rfl, by go_num, by rw [Hext.out]; exact HNq, HOq, HLq, below_drewN HBq.out _, Hap2q, Hap3q⟩
                    case measure => rw [Hg3.out]; omega
              · obtain rfl : k = al.length := by omega
                have Hfin := Lib.hid (show N ++ Rk.extTo al s al.length = (L.take (i + 1)).flatMap (Rk.ext al) by rw [Rk.extTo_full, HN.out, Rk.take_flat al L hlt, Hs.out])
                go_wp2
                go_roundg (L.length - (i + 1))
                case rel => exact ⟨i + 1, hlt, rfl, by go_num, by rw [HO2.out.1]; exact HOq, by rw [← Hfin.out]; exact HNq, HLq, HBq, Hap2q, fun g e => ⟨HO2.out.2 g e, Hap3q.out g e⟩⟩
                case measure => rw [Hg2.out]; omega
          · obtain ⟨us8, hr8, hi8⟩ := HO5.out
            have H8 := Lib.hid (And.intro hr8 hi8)
            clear hr8 hi8
            obtain ⟨W6, hW6⟩ : ∃ W6, W6 = w5.alloc (.cells #[.slice AuL s.length cuL] 26) := ⟨_, rfl⟩
            have hb6 : Below w5.heap.size w5 W6 := by rw [hW6]; exact (Below.refl _ w5).alloc (Nat.le_refl _) _
            have HN6 := Lib.hid (HN5.out.below_ hb6)
            have HL6 := Lib.hid (HL5.out.below_ hb6)
            have HB6 := Lib.hid (show Below w2.heap.size w2 W6 from HB5.out.trans (hb6.mono hs5))
            have HU6 := Lib.hid (own_below HU5.out hb6 (Nat.le_refl _))
            have H86 := Lib.hid (And.intro (own_below H8.out.1 hb6 (Nat.le_refl _)) (show ∀ i, i < P8.length → ∃ u, us8[i]? = some u ∧ OwnInts W6 w2.heap.size u (P8.getD i []) from fun i h => by
              obtain ⟨u, h1, h2⟩ := H8.out.2 i h
              exact ⟨u, h1, own_below h2 hb6 (Nat.le_refl _)⟩))
            have hs6 := hb6.size
            have Hc6 := Lib.hid (show W6.cell? ⟨w5.heap.size, 0, none⟩ = some (.slice AuL s.length cuL) by rw [hW6]; exact cell_new0 _ _ _)
            have hs6' : W6.heap.size = w5.heap.size + 1 := by rw [hW6]; simp
            have HW6 := Lib.hid hW6
            clear hW6 hb6 HO5 HN5 HL5
            go_wp2_with (at_builtin; go_must (rw [← HW6.out]; refine wpList_append_any _ rfl _ _ 40 rfl w2.heap.size 26 j0 _ 1 24 Tryz.underlying40 hj0 yz0 yz1 yz2 rfl (by decide) _ P8.length us8 rfl H86.out.1 (w5.heap.size + 1) _ 1 _ [.slice AuL s.length cuL] rfl (reads_one (Nat.lt_succ_self _) Hc6.out) ?e2 ?e3 ?e4 ?e5 ?_))
            case e2 => first | rfl | (intro u hu; simp at hu; subst hu; rfl)
            case e3 => unfold maxLen; omega
            case e4 => omega
            case e5 => omega
            intro v8 w6 hown8 hg8 hat8
            have HOi := Lib.hid (OwnSets.snoc H86.out.1 H86.out.2 HU6.out hown8 hg8)
            have HNi := Lib.hid (HN6.out.other H86.out.1 hg8 (fun g e => hap2.out g e))
            have HLi := Lib.hid (HL6.out.other H86.out.1 hg8 (fun g e e2 => (hap3.out g e2).1 e))
            have HBi := Lib.hid (show Below w2.heap.size w2 w6 from HB6.out.grown hg8 (by omega) (own_row_ge H86.out.1))
            have hfr : ∀ g, v8.ownBlock = some g → (Value.slice A8' P8.length c8').ownBlock = some g ∨ w5.heap.size ≤ g := fun g e => by
              rcases hat8 with h | h
              · left; rw [← h]; exact e
              · right; rw [h] at e; injection e with e; omega
            have Hap2i := Lib.hid (show ∀ g, v8.ownBlock = some g → (Value.slice A11 N.length c11).ownBlock ≠ some g from fun g e e2 => by
              rcases hfr g e with h | h
              · exact hap2.out g h e2
              · have := HNlt.out g e2; omega)
            have Hap3i := Lib.hid (fun g e => (hap3.out g e).2)
            have HO2 := Lib.hid (And.intro (show O ++ (L.take (i + 1)).filter p = P8 ++ [s] by rw [Hf.out, HP8.out]; simp) (show ∀ g, (Value.slice (some ⟨gL, 0, none⟩) L.length c9).ownBlock = some g → v8.ownBlock ≠ some g from fun g e e2 => by
              rcases hfr g e2 with h | h
              · exact (hap3.out g e).1 h
              · have e3 : some gL = some g := e
                injection e3 with e3
                omega))
            obtain ⟨A8x, c8x, ev8⟩ := HOi.out.form
            subst ev8
            obtain ⟨O2, h3⟩ : ∃ O2, O2 = P8 ++ [s] := ⟨_, rfl⟩
            rw [← h3] at HOi Hap2i HO2
            rw [← h3]
            clear h3 hown8 hg8 hat8 hfr hap2 hap3 HB5 HN6 HL6 HB6
            go_wp2
            go_loopg [11, 13] al.length (fun g s11 s13 wy => ∃ k : Nat, k ≤ al.length ∧ g = al.length - k ∧ s13 = .int .i64 k ∧ Hid (OwnSets wy w2.heap.size s11 (N ++ Rk.extTo al s k)) ∧ Hid (OwnSets wy w2.heap.size (.slice A8x O2.length c8x) O2) ∧ Hid (OwnSets wy w2.heap.size (.slice (some ⟨gL, 0, none⟩) L.length c9) L) ∧ Hid (Below w2.heap.size w2 wy) ∧ Hid (∀ g, (Value.slice A8x O2.length c8x).ownBlock = some g → s11.ownBlock ≠ some g) ∧ Hid (∀ g, (Value.slice (some ⟨gL, 0, none⟩) L.length c9).ownBlock = some g → s11.ownBlock ≠ some g))
            case atStart => exact ⟨0, Nat.zero_le _, rfl, rfl, by rw [show Rk.extTo al s 0 = [] from rfl, List.append_nil]; exact HNi, HOi.out, HLi.out, HBi.out, Hap2i.out, Hap3i.out⟩
            case round =>
              obtain ⟨k, hk, hg3, rfl, HNq, HOq, HLq, HBq, Hap2q, Hap3q⟩ := hrel
              have Hg3 := Lib.hid hg3
              clear hg3 HNi HOi HLi HBi Hap2i Hap3i
              obtain ⟨A11, c11, ev11⟩ := HNq.out.form
              subst ev11
              obtain ⟨wq, rfl⟩ : ∃ wq : World, wq = wr := ⟨_, rfl⟩
              have hszq := HBq.out.size
              by_cases hkl : k < al.length
              · obtain ⟨gL', uq, e, hgLq, cLq, huq⟩ := HLq.out.at_ hlt
                injection e with e
                injection e with e
                subst e
                rw [Hs.out] at huq
                obtain ⟨Au, cu, eu, -, -, -⟩ := own_form huq
                subst eu
                have Huq := Lib.hid huq
                obtain ⟨ad7, rfl, had7, hx7⟩ := ints_at Hr7.out hkl
                obtain ⟨x, hxx⟩ : ∃ x, x = al.getD k 0 := ⟨_, rfl⟩
                rw [← hxx] at hx7
                have cxq := keepB HBq.out (p := ad7.add k) (by rw [block_of_add]; exact had7) hx7
                have HNlen := Lib.hid (show (N ++ Rk.extTo al s k).length ≤ 4294967552 by
                  have h1 := Rk.extTo_len al s k
                  have h2 := HNl.out
                  rw [List.length_append]
                  omega)
                have hkz : (k : Int) < (al.length : Int) := by omega
                have hiz : (i : Int) < (L.length : Int) := by omega
                have Hxx := Lib.hid hxx
                clear hx7 hxx huq
                have hsl := Hsl.out
                obtain ⟨N2, hN2⟩ : ∃ N2, N2 = N ++ Rk.extTo al s k := ⟨_, rfl⟩
                rw [← hN2] at HNlen HNq Hap2q Hap3q ⊢
                have hNlen := HNlen.out
                have HN2 := Lib.hid hN2
                clear hN2
                by_cases h0 : s.length = 0
                · have hfit : Rk.fits s (al.getD k 0) = true := by unfold Rk.fits; simp [h0]
                  have Hext := Lib.hid (show N ++ Rk.extTo al s (k + 1) = N2 ++ [s ++ [x]] by rw [Rk.extTo_yes hkl hfit, ← Hxx.out, HN2.out, List.append_assoc])
                  have hz : ((s.length : Int) == 0) = true := by rw [h0]; rfl
                  have hzn : (s.length == 0) = true := by rw [h0]; rfl
                  have hz2 : s = [] := List.eq_nil_of_length_eq_zero h0
                  have Hz2 := Lib.hid hz2
                  clear hfit hz2 h0
                  obtain ⟨n0, hn0⟩ : ∃ n0, n0 = s.length := ⟨_, rfl⟩
                  clear hn0
                  go_wp2
                  go_quiet (fail)
                  go_wp2
                  obtain ⟨wz, hwz⟩ : ∃ wz, wz = (wq.drewN nq).drew := ⟨_, rfl⟩
                  have HNz := Lib.hid (show OwnSets wz w2.heap.size (.slice A11 N2.length c11) N2 by rw [hwz]; exact HNq.out)
                  have HOz := Lib.hid (show OwnSets wz w2.heap.size (.slice A8x O2.length c8x) O2 by rw [hwz]; exact HOq.out)
                  have HLz := Lib.hid (show OwnSets wz w2.heap.size (.slice (some ⟨gL, 0, none⟩) L.length c9) L by rw [hwz]; exact HLq.out)
                  have HBz := Lib.hid (show Below w2.heap.size w2 wz by rw [hwz]; exact below_drewN HBq.out (nq + 1))
                  have HSz := Lib.hid (show wz.cell? ⟨gL, i, none⟩ = some (.slice Au s.length cu) ∧ wz.cell? (ad7.add k) = some (.int .i64 x) by rw [hwz]; exact ⟨cLq, cxq⟩)
                  have Huz := Lib.hid (show OwnInts wz w2.heap.size (.slice Au s.length cu) s by rw [hwz]; exact Huq.out)
                  have Hwz := Lib.hid hwz
                  have hgLz : gL < wz.heap.size := by rw [hwz]; exact hgLq
                  have hszz := HBz.out.size
                  have had7z : (ad7.add k).block < wz.heap.size := by rw [block_of_add]; omega
                  clear hwz
                  have Hrz := Lib.hid (Reads.of_own Huz.out)
                  have Hone := Lib.hid (show ∀ u ∈ s.map (Value.int .i64), u.oneCell' = true from fun u hu => by obtain ⟨y, _, rfl⟩ := List.mem_map.1 hu; rfl)
                  refine z_region (fun w' => w'.cell? ⟨gL, i, none⟩ = some (.slice Au s.length cu) ∧ w'.cell? (ad7.add k) = some (.int .i64 x)) 15 (by kernel_rfl) ?_
                  rw [← Hwz.out]
                  refine z_take (i := 0) (v := ?_) rfl (by kernel_rfl) (by kernel_rfl) (by kernel_rfl) (fun _ _ _ h => h) (by kernel_rfl) (by decide) (HSz.out) (by rfl) (by intro w hSw; obtain ⟨hSa, hSb⟩ := hSw; go_simp; rfl) ?_
                  refine z_take (i := 2) (v := ?_) rfl (by kernel_rfl) (by kernel_rfl) (by kernel_rfl) (fun _ _ _ h => h) (by kernel_rfl) (by decide) (HSz.out) (by rfl) (by intro w hSw; obtain ⟨hSa, hSb⟩ := hSw; go_simp; rfl) ?_
                  refine z_take (i := 3) (v := ?_) rfl (by kernel_rfl) (by kernel_rfl) (by kernel_rfl) (fun _ _ _ h => h) (by kernel_rfl) (by decide) (HSz.out) (by rfl) (by intro w hSw; obtain ⟨hSa, hSb⟩ := hSw; go_simp; rfl) ?_
                  refine z_take (i := 4) (v := ?_) rfl (by kernel_rfl) (by kernel_rfl) (by kernel_rfl) (fun _ _ _ h => h) (by kernel_rfl) (by decide) (HSz.out) (by rfl) (by intro w hSw; obtain ⟨hSa, hSb⟩ := hSw; go_simp; rfl) ?_
                  refine z_take (i := 5) (v := ?_) rfl (by kernel_rfl) (by kernel_rfl) (by kernel_rfl) (fun _ _ _ h => h) (by kernel_rfl) (by decide) (HSz.out) (by rfl) (by intro w hSw; obtain ⟨hSa, hSb⟩ := hSw; go_simp; rfl) ?_
                  refine z_take (i := 7) (v := ?_) rfl (by kernel_rfl) (by kernel_rfl) (by kernel_rfl) (fun _ _ _ h => h) (by kernel_rfl) (by decide) (HSz.out) (by rfl) (by intro w hSw; obtain ⟨hSa, hSb⟩ := hSw; go_simp; rfl) ?_
                  refine z_take (i := 8) (v := ?_) rfl (by kernel_rfl) (by kernel_rfl) (by kernel_rfl) (fun _ _ _ h => h) (by kernel_rfl) (by decide) (HSz.out) (by rfl) (by intro w hSw; obtain ⟨hSa, hSb⟩ := hSw; go_simp; rfl) ?_
                  refine z_take (i := 9) (v := ?_) rfl (by kernel_rfl) (by kernel_rfl) (by kernel_rfl) (fun _ _ _ h => h) (by kernel_rfl) (by decide) (HSz.out) (by rfl) (by intro w hSw; obtain ⟨hSa, hSb⟩ := hSw; go_simp; rfl) ?_
                  refine z_take (i := 10) (v := ?_) rfl (by kernel_rfl) (by kernel_rfl) (by kernel_rfl) (fun _ _ _ h => h) (by kernel_rfl) (by decide) (HSz.out) (by rfl) (by intro w hSw; obtain ⟨hSa, hSb⟩ := hSw; go_simp; rfl) ?_
                  simp only [Act.put, List.setIfInBounds_toArray]
                  refine z_two (i := 1) (j := 11) rfl rfl (by kernel_rfl) (by rfl) (by rfl) (fun K hK => ?_) (fun K hK => ?_)
                  · go_simp
                    refine hK _ _ (fun _ => ⟨keepB ((Below.refl wz.heap.size wz).alloc (Nat.le_refl _) _) hgLz HSz.out.1, keepB ((Below.refl wz.heap.size wz).alloc (Nat.le_refl _) _) had7z HSz.out.2⟩) ?_
                    clear hK K
                    refine z_two (i := 6) (j := 11) rfl rfl (by kernel_rfl) (by rfl) (by rfl) (fun K hK => ?_) (fun K hK => ?_)
                    · refine wp_append_any _ _ _ 26 rfl wz.heap.size 3 i0 _ 1 8 Tryz.underlying26 hi0 hz0 hz1 hz2 rfl (by decide) (.slice (some ⟨wz.heap.size, 0, none⟩) 0 0) 0 [] (by rfl) (World.ownsRow_made wz #[] 0 (Nat.le_refl _) (Nat.zero_le _) rfl) wz.heap.size Au s.length cu _ (by rfl) (Hrz.out.alloc (Nat.le_refl _) _) (Hone.out) (by unfold maxLen; omega) (by omega) (by first | (simp; done) | (simp; omega)) ?_
                      intro v7 w7 hown7 hg7 hat7
                      obtain ⟨Aa, ca, ev7, _, _, _⟩ := own_form hown7
                      rw [Nat.zero_add] at ev7
                      subst ev7
                      have HV7 := Lib.hid (show OwnInts w7 wz.heap.size (.slice Aa s.length ca) s by unfold OwnInts; simpa using hown7)
                      have hB7 : Below wz.heap.size wz w7 := ((Below.refl wz.heap.size wz).alloc (Nat.le_refl _) _).grown hg7 (by simp; try omega) (fun b e => by have e2 : some (wz.heap.size) = some b := e; injection e2 with e2; omega)
                      have HB7 := Lib.hid hB7
                      have hs7 := hB7.size
                      clear hown7 hg7 hat7 hB7
                      refine hK _ _ (fun _ => ⟨keepB (HB7.out) hgLz HSz.out.1, keepB (HB7.out) had7z HSz.out.2⟩) ?_
                      clear hK K
                      refine z_one (i := 11) rfl (by kernel_rfl) (by rfl) (fun K hK => ?_)
                      go_simp
                      refine hK _ _ (fun _ => ⟨keepB (HB7.out.alloc HB7.out.size _) hgLz HSz.out.1, keepB (HB7.out.alloc HB7.out.size _) had7z HSz.out.2⟩) ?_
                      clear hK K
                      have HX8 := Lib.hid (Blk.new w7 3 #[.int .i64 x])
                      have HV8 := Lib.hid (own_kept (w' := w7.alloc (.cells #[.int .i64 x] 3)) (row := none) HV7.out (World.grownBy_alloc w7 _ none) (fun g e => by cases e))
                      have HB8 := Lib.hid (HB7.out.alloc HB7.out.size (.cells #[.int .i64 x] 3))
                      have hs8 := HB8.out.size
                      refine z_one (i := 12) rfl (by kernel_rfl) (by rfl) (fun K hK => ?_)
                      refine wp_append_any _ _ _ 26 rfl wz.heap.size 3 i0 _ 1 8 Tryz.underlying26 hi0 hz0 hz1 hz2 rfl (by decide) (.slice Aa s.length ca) s.length _ (by rfl) (HV8.out) (w7.heap.size + 1) (some ⟨w7.heap.size, 0, none⟩) 1 1 [.int .i64 x] (by rfl) (reads_one (Nat.lt_succ_self _) (HX8.out.cell 0)) (by intro u hu; simp at hu; subst hu; rfl) (by unfold maxLen; omega) (by omega) (hs8) ?_
                      intro v9 w9 hown9 hg9 hat9
                      have HV9 := Lib.hid (own_snoc hown9)
                      have HB9 := Lib.hid (HB8.out.grown hg9 HB8.out.size (own_row_ge HV8.out))
                      have hs9 := HB9.out.size
                      obtain ⟨Ab, cb, ev9, _, _, _⟩ := own_form hown9
                      subst ev9
                      clear hown9 hg9 hat9
                      refine hK _ _ (fun _ => ⟨keepB (HB9.out) hgLz HSz.out.1, keepB (HB9.out) had7z HSz.out.2⟩) ?_
                      clear hK K
                      refine z_one (i := 13) rfl (by kernel_rfl) (by rfl) (fun K hK => ?_)
                      go_simp
                      refine hK _ _ (fun _ => ⟨keepB (HB9.out.alloc HB9.out.size _) hgLz HSz.out.1, keepB (HB9.out.alloc HB9.out.size _) had7z HSz.out.2⟩) ?_
                      clear hK K
                      have HB10 := Lib.hid (HB9.out.alloc HB9.out.size (.cells #[.slice Ab (s.length + 1) cb] 26))
                      have hs10 := HB10.out.size
                      have HV10 := Lib.hid (show OwnInts (w9.alloc (.cells #[.slice Ab (s.length + 1) cb] 26)) w2.heap.size (.slice Ab (s.length + 1) cb) (s ++ [x]) from own_more (own_kept (row := none) HV9.out (World.grownBy_alloc w9 _ none) (fun g e => by cases e)) hszz)
                      have HN10 := Lib.hid (HNz.out.below_ HB10.out)
                      have HO10 := Lib.hid (HOz.out.below_ HB10.out)
                      have HL10 := Lib.hid (HLz.out.below_ HB10.out)
                      obtain ⟨us10, hr10, hi10⟩ := HN10.out
                      have Hr10 := Lib.hid (And.intro hr10 hi10)
                      clear hr10 hi10
                      try simp only [Act.put, List.setIfInBounds_toArray]
                      refine z_one (i := 14) rfl (by kernel_rfl) (by rfl) (fun K hK => ?_)
                      refine wp_append_any _ _ _ 40 rfl w2.heap.size 26 j0 _ 1 24 Tryz.underlying40 hj0 yz0 yz1 yz2 rfl (by decide) (.slice A11 N2.length c11) N2.length us10 (by rfl) (Hr10.out.1) (w9.heap.size + 1) (some ⟨w9.heap.size, 0, none⟩) 1 1 [.slice Ab (s.length + 1) cb] (by rfl) (reads_one (Nat.lt_succ_self _) (cell_new0 _ _ _)) (by intro u hu; simp at hu; subst hu; rfl) (by unfold maxLen; omega) (by omega) (by omega) ?_
                      intro v14 w14 hown14 hg14 hat14
                      have HN14 := Lib.hid (show OwnSets w14 w2.heap.size v14 (N2 ++ [s ++ [x]]) from OwnSets.snoc Hr10.out.1 Hr10.out.2 HV10.out hown14 hg14)
                      have HO14 := Lib.hid (HO10.out.other Hr10.out.1 hg14 (fun g e e2 => Hap2q.out g e2 e))
                      have HL14 := Lib.hid (HL10.out.other Hr10.out.1 hg14 (fun g e e2 => Hap3q.out g e2 e))
                      have HB14 := Lib.hid (show Below w2.heap.size w2 w14 from (HBz.out.trans (HB10.out.mono hszz)).grown hg14 (by omega) (own_row_ge Hr10.out.1))
                      have hfr : ∀ g, v14.ownBlock = some g → (Value.slice A11 N2.length c11).ownBlock = some g ∨ wz.heap.size ≤ g := fun g e => by
                        rcases hat14 with h | h
                        · left; rw [← h]; exact e
                        · right; rw [h] at e; injection e with e; omega
                      have HapA := Lib.hid (show ∀ g, (Value.slice A8x O2.length c8x).ownBlock = some g → v14.ownBlock ≠ some g from fun g e e2 => by
                        rcases hfr g e2 with h | h
                        · exact Hap2q.out g e h
                        · obtain ⟨usO, hrO, _⟩ := HOz.out
                          have := (own_row_lt hrO g e).2; omega)
                      have HapB := Lib.hid (show ∀ g, (Value.slice (some ⟨gL, 0, none⟩) L.length c9).ownBlock = some g → v14.ownBlock ≠ some g from fun g e e2 => by
                        rcases hfr g e2 with h | h
                        · exact Hap3q.out g e h
                        · obtain ⟨usL, hrL, _⟩ := HLz.out
                          have := (own_row_lt hrL g e).2; omega)
                      have hS14 : w14.cell? ⟨gL, i, none⟩ = some (.slice Au s.length cu) ∧ w14.cell? (ad7.add k) = some (.int .i64 x) := ⟨(World.cell?_of_block (hg14.block gL (by have := HB10.out.size; simp at this ⊢; omega) (fun e => Hap3q.out gL rfl e.symm))).trans (keepB HB10.out hgLz HSz.out.1), (World.cell?_of_block (hg14.block (ad7.add k).block (by have := HB10.out.size; simp at this ⊢; omega) (fun e => by have := own_row_ge Hr10.out.1 _ e.symm; rw [block_of_add] at this; omega))).trans (keepB HB10.out had7z HSz.out.2)⟩
                      clear hown14 hg14 hat14 hfr
                      refine hK _ _ (fun _ => hS14) ?_
                      clear hK K hS14
                      refine z_one (i := 15) rfl (by kernel_rfl) (by rfl) (fun K hK => ?_)
                      go_simp
                      refine hK _ _ (fun h => absurd rfl h) ?_
                      clear hK K
                      refine z_done (by kernel_rfl) ?_ _
                      go_wp2
                      go_roundg (al.length - (k + 1))
                      case rel => exact ⟨k + 1, hkl, rfl, by go_num, by rw [Hext.out]; exact HN14, HO14.out, HL14.out, HB14.out, HapA.out, HapB.out⟩
                      case measure => rw [Hg3.out]; omega
                    · go_simp
                      refine hK _ _ (fun _ => ⟨keepB (((Below.refl wz.heap.size wz).alloc (Nat.le_refl _) _).alloc (by simp) _) hgLz HSz.out.1, keepB (((Below.refl wz.heap.size wz).alloc (Nat.le_refl _) _).alloc (by simp) _) had7z HSz.out.2⟩) ?_
                      clear hK K
                      refine z_one (i := 6) rfl (by kernel_rfl) (by rfl) (fun K hK => ?_)
                      refine wp_append_any _ _ _ 26 rfl wz.heap.size 3 i0 _ 1 8 Tryz.underlying26 hi0 hz0 hz1 hz2 rfl (by decide) (.slice (some ⟨wz.heap.size, 0, none⟩) 0 0) 0 [] (by rfl) (own_kept (row := none) (World.ownsRow_made wz #[] 0 (Nat.le_refl _) (Nat.zero_le _) rfl) (World.grownBy_alloc _ _ none) (fun g e => by cases e)) wz.heap.size Au s.length cu _ (by rfl) (Hrz.out.alloc (Nat.le_refl _) _ |>.alloc (by simp) _) (Hone.out) (by unfold maxLen; omega) (by omega) (by first | (simp; done) | (simp; omega)) ?_
                      intro v7 w7 hown7 hg7 hat7
                      obtain ⟨Aa, ca, ev7, _, _, _⟩ := own_form hown7
                      rw [Nat.zero_add] at ev7
                      subst ev7
                      have HV7 := Lib.hid (show OwnInts w7 wz.heap.size (.slice Aa s.length ca) s by unfold OwnInts; simpa using hown7)
                      have hB7 : Below wz.heap.size wz w7 := (((Below.refl wz.heap.size wz).alloc (Nat.le_refl _) _).alloc (by simp) _).grown hg7 (by simp; try omega) (fun b e => by have e2 : some (wz.heap.size) = some b := e; injection e2 with e2; omega)
                      have HX8 := Lib.hid (show Blk w7 (wz.heap.size + 1) 3 #[.int .i64 x] from (newBlkH (by simp) _ _).grown hg7 (fun e => by have e2 : some (wz.heap.size + 1) = some wz.heap.size := e; injection e2 with e2; omega))
                      have HB7 := Lib.hid hB7
                      have hs7 := hB7.size
                      clear hown7 hg7 hat7 hB7
                      refine hK _ _ (fun _ => ⟨keepB (HB7.out) hgLz HSz.out.1, keepB (HB7.out) had7z HSz.out.2⟩) ?_
                      clear hK K
                      have HV8 := HV7
                      have HB8 := HB7
                      have hs8 := HB8.out.size
                      refine z_one (i := 12) rfl (by kernel_rfl) (by rfl) (fun K hK => ?_)
                      refine wp_append_any _ _ _ 26 rfl wz.heap.size 3 i0 _ 1 8 Tryz.underlying26 hi0 hz0 hz1 hz2 rfl (by decide) (.slice Aa s.length ca) s.length _ (by rfl) (HV8.out) ((wz.heap.size + 1) + 1) (some ⟨(wz.heap.size + 1), 0, none⟩) 1 1 [.int .i64 x] (by rfl) (reads_one (Nat.lt_succ_self _) (HX8.out.cell 0)) (by intro u hu; simp at hu; subst hu; rfl) (by unfold maxLen; omega) (by omega) (hs8) ?_
                      intro v9 w9 hown9 hg9 hat9
                      have HV9 := Lib.hid (own_snoc hown9)
                      have HB9 := Lib.hid (HB8.out.grown hg9 HB8.out.size (own_row_ge HV8.out))
                      have hs9 := HB9.out.size
                      obtain ⟨Ab, cb, ev9, _, _, _⟩ := own_form hown9
                      subst ev9
                      clear hown9 hg9 hat9
                      refine hK _ _ (fun _ => ⟨keepB (HB9.out) hgLz HSz.out.1, keepB (HB9.out) had7z HSz.out.2⟩) ?_
                      clear hK K
                      refine z_one (i := 13) rfl (by kernel_rfl) (by rfl) (fun K hK => ?_)
                      go_simp
                      refine hK _ _ (fun _ => ⟨keepB (HB9.out.alloc HB9.out.size _) hgLz HSz.out.1, keepB (HB9.out.alloc HB9.out.size _) had7z HSz.out.2⟩) ?_
                      clear hK K
                      have HB10 := Lib.hid (HB9.out.alloc HB9.out.size (.cells #[.slice Ab (s.length + 1) cb] 26))
                      have hs10 := HB10.out.size
                      have HV10 := Lib.hid (show OwnInts (w9.alloc (.cells #[.slice Ab (s.length + 1) cb] 26)) w2.heap.size (.slice Ab (s.length + 1) cb) (s ++ [x]) from own_more (own_kept (row := none) HV9.out (World.grownBy_alloc w9 _ none) (fun g e => by cases e)) hszz)
                      have HN10 := Lib.hid (HNz.out.below_ HB10.out)
                      have HO10 := Lib.hid (HOz.out.below_ HB10.out)
                      have HL10 := Lib.hid (HLz.out.below_ HB10.out)
                      obtain ⟨us10, hr10, hi10⟩ := HN10.out
                      have Hr10 := Lib.hid (And.intro hr10 hi10)
                      clear hr10 hi10
                      try simp only [Act.put, List.setIfInBounds_toArray]
                      refine z_one (i := 14) rfl (by kernel_rfl) (by rfl) (fun K hK => ?_)
                      refine wp_append_any _ _ _ 40 rfl w2.heap.size 26 j0 _ 1 24 Tryz.underlying40 hj0 yz0 yz1 yz2 rfl (by decide) (.slice A11 N2.length c11) N2.length us10 (by rfl) (Hr10.out.1) (w9.heap.size + 1) (some ⟨w9.heap.size, 0, none⟩) 1 1 [.slice Ab (s.length + 1) cb] (by rfl) (reads_one (Nat.lt_succ_self _) (cell_new0 _ _ _)) (by intro u hu; simp at hu; subst hu; rfl) (by unfold maxLen; omega) (by omega) (by omega) ?_
                      intro v14 w14 hown14 hg14 hat14
                      have HN14 := Lib.hid (show OwnSets w14 w2.heap.size v14 (N2 ++ [s ++ [x]]) from OwnSets.snoc Hr10.out.1 Hr10.out.2 HV10.out hown14 hg14)
                      have HO14 := Lib.hid (HO10.out.other Hr10.out.1 hg14 (fun g e e2 => Hap2q.out g e2 e))
                      have HL14 := Lib.hid (HL10.out.other Hr10.out.1 hg14 (fun g e e2 => Hap3q.out g e2 e))
                      have HB14 := Lib.hid (show Below w2.heap.size w2 w14 from (HBz.out.trans (HB10.out.mono hszz)).grown hg14 (by omega) (own_row_ge Hr10.out.1))
                      have hfr : ∀ g, v14.ownBlock = some g → (Value.slice A11 N2.length c11).ownBlock = some g ∨ wz.heap.size ≤ g := fun g e => by
                        rcases hat14 with h | h
                        · left; rw [← h]; exact e
                        · right; rw [h] at e; injection e with e; omega
                      have HapA := Lib.hid (show ∀ g, (Value.slice A8x O2.length c8x).ownBlock = some g → v14.ownBlock ≠ some g from fun g e e2 => by
                        rcases hfr g e2 with h | h
                        · exact Hap2q.out g e h
                        · obtain ⟨usO, hrO, _⟩ := HOz.out
                          have := (own_row_lt hrO g e).2; omega)
                      have HapB := Lib.hid (show ∀ g, (Value.slice (some ⟨gL, 0, none⟩) L.length c9).ownBlock = some g → v14.ownBlock ≠ some g from fun g e e2 => by
                        rcases hfr g e2 with h | h
                        · exact Hap3q.out g e h
                        · obtain ⟨usL, hrL, _⟩ := HLz.out
                          have := (own_row_lt hrL g e).2; omega)
                      have hS14 : w14.cell? ⟨gL, i, none⟩ = some (.slice Au s.length cu) ∧ w14.cell? (ad7.add k) = some (.int .i64 x) := ⟨(World.cell?_of_block (hg14.block gL (by have := HB10.out.size; simp at this ⊢; omega) (fun e => Hap3q.out gL rfl e.symm))).trans (keepB HB10.out hgLz HSz.out.1), (World.cell?_of_block (hg14.block (ad7.add k).block (by have := HB10.out.size; simp at this ⊢; omega) (fun e => by have := own_row_ge Hr10.out.1 _ e.symm; rw [block_of_add] at this; omega))).trans (keepB HB10.out had7z HSz.out.2)⟩
                      clear hown14 hg14 hat14 hfr
                      refine hK _ _ (fun _ => hS14) ?_
                      clear hK K hS14
                      refine z_one (i := 15) rfl (by kernel_rfl) (by rfl) (fun K hK => ?_)
                      go_simp
                      refine hK _ _ (fun h => absurd rfl h) ?_
                      clear hK K
                      refine z_done (by kernel_rfl) ?_ _
                      go_wp2
                      go_roundg (al.length - (k + 1))
                      case rel => exact ⟨k + 1, hkl, rfl, by go_num, by rw [Hext.out]; exact HN14, HO14.out, HL14.out, HB14.out, HapA.out, HapB.out⟩
                      case measure => rw [Hg3.out]; omega
                  · go_simp
                    refine hK _ _ (fun _ => ⟨keepB ((Below.refl wz.heap.size wz).alloc (Nat.le_refl _) _) hgLz HSz.out.1, keepB ((Below.refl wz.heap.size wz).alloc (Nat.le_refl _) _) had7z HSz.out.2⟩) ?_
                    clear hK K
                    refine z_one (i := 1) rfl (by kernel_rfl) (by rfl) (fun K hK => ?_)
                    go_simp
                    refine hK _ _ (fun _ => ⟨keepB (((Below.refl wz.heap.size wz).alloc (Nat.le_refl _) _).alloc (by simp) _) hgLz HSz.out.1, keepB (((Below.refl wz.heap.size wz).alloc (Nat.le_refl _) _).alloc (by simp) _) had7z HSz.out.2⟩) ?_
                    clear hK K
                    refine z_one (i := 6) rfl (by kernel_rfl) (by rfl) (fun K hK => ?_)
                    refine wp_append_any _ _ _ 26 rfl wz.heap.size 3 i0 _ 1 8 Tryz.underlying26 hi0 hz0 hz1 hz2 rfl (by decide) (.slice (some ⟨wz.heap.size + 1, 0, none⟩) 0 0) 0 [] (by rfl) (made_nextT wz (.cells #[.int .i64 x] 3) 3) wz.heap.size Au s.length cu _ (by rfl) (Hrz.out.alloc (Nat.le_refl _) _ |>.alloc (by simp) _) (Hone.out) (by unfold maxLen; omega) (by omega) (by first | (simp; done) | (simp; omega)) ?_
                    intro v7 w7 hown7 hg7 hat7
                    obtain ⟨Aa, ca, ev7, _, _, _⟩ := own_form hown7
                    rw [Nat.zero_add] at ev7
                    subst ev7
                    have HV7 := Lib.hid (show OwnInts w7 wz.heap.size (.slice Aa s.length ca) s by unfold OwnInts; simpa using hown7)
                    have hB7 : Below wz.heap.size wz w7 := (((Below.refl wz.heap.size wz).alloc (Nat.le_refl _) _).alloc (by simp) _).grown hg7 (by simp; try omega) (fun b e => by have e2 : some (wz.heap.size + 1) = some b := e; injection e2 with e2; omega)
                    have HX8 := Lib.hid (show Blk w7 wz.heap.size 3 #[.int .i64 x] from ((Blk.new wz _ _).alloc _).grown hg7 (fun e => by have e2 : some wz.heap.size = some (wz.heap.size + 1) := e; injection e2 with e2; omega))
                    have HB7 := Lib.hid hB7
                    have hs7 := hB7.size
                    clear hown7 hg7 hat7 hB7
                    refine hK _ _ (fun _ => ⟨keepB (HB7.out) hgLz HSz.out.1, keepB (HB7.out) had7z HSz.out.2⟩) ?_
                    clear hK K
                    have HV8 := HV7
                    have HB8 := HB7
                    have hs8 := HB8.out.size
                    refine z_one (i := 12) rfl (by kernel_rfl) (by rfl) (fun K hK => ?_)
                    refine wp_append_any _ _ _ 26 rfl wz.heap.size 3 i0 _ 1 8 Tryz.underlying26 hi0 hz0 hz1 hz2 rfl (by decide) (.slice Aa s.length ca) s.length _ (by rfl) (HV8.out) (wz.heap.size + 1) (some ⟨wz.heap.size, 0, none⟩) 1 1 [.int .i64 x] (by rfl) (reads_one (Nat.lt_succ_self _) (HX8.out.cell 0)) (by intro u hu; simp at hu; subst hu; rfl) (by unfold maxLen; omega) (by omega) (hs8) ?_
                    intro v9 w9 hown9 hg9 hat9
                    have HV9 := Lib.hid (own_snoc hown9)
                    have HB9 := Lib.hid (HB8.out.grown hg9 HB8.out.size (own_row_ge HV8.out))
                    have hs9 := HB9.out.size
                    obtain ⟨Ab, cb, ev9, _, _, _⟩ := own_form hown9
                    subst ev9
                    clear hown9 hg9 hat9
                    refine hK _ _ (fun _ => ⟨keepB (HB9.out) hgLz HSz.out.1, keepB (HB9.out) had7z HSz.out.2⟩) ?_
                    clear hK K
                    refine z_one (i := 13) rfl (by kernel_rfl) (by rfl) (fun K hK => ?_)
                    go_simp
                    refine hK _ _ (fun _ => ⟨keepB (HB9.out.alloc HB9.out.size _) hgLz HSz.out.1, keepB (HB9.out.alloc HB9.out.size _) had7z HSz.out.2⟩) ?_
                    clear hK K
                    have HB10 := Lib.hid (HB9.out.alloc HB9.out.size (.cells #[.slice Ab (s.length + 1) cb] 26))
                    have hs10 := HB10.out.size
                    have HV10 := Lib.hid (show OwnInts (w9.alloc (.cells #[.slice Ab (s.length + 1) cb] 26)) w2.heap.size (.slice Ab (s.length + 1) cb) (s ++ [x]) from own_more (own_kept (row := none) HV9.out (World.grownBy_alloc w9 _ none) (fun g e => by cases e)) hszz)
                    have HN10 := Lib.hid (HNz.out.below_ HB10.out)
                    have HO10 := Lib.hid (HOz.out.below_ HB10.out)
                    have HL10 := Lib.hid (HLz.out.below_ HB10.out)
                    obtain ⟨us10, hr10, hi10⟩ := HN10.out
                    have Hr10 := Lib.hid (And.intro hr10 hi10)
                    clear hr10 hi10
                    try simp only [Act.put, List.setIfInBounds_toArray]
                    refine z_one (i := 14) rfl (by kernel_rfl) (by rfl) (fun K hK => ?_)
                    refine wp_append_any _ _ _ 40 rfl w2.heap.size 26 j0 _ 1 24 Tryz.underlying40 hj0 yz0 yz1 yz2 rfl (by decide) (.slice A11 N2.length c11) N2.length us10 (by rfl) (Hr10.out.1) (w9.heap.size + 1) (some ⟨w9.heap.size, 0, none⟩) 1 1 [.slice Ab (s.length + 1) cb] (by rfl) (reads_one (Nat.lt_succ_self _) (cell_new0 _ _ _)) (by intro u hu; simp at hu; subst hu; rfl) (by unfold maxLen; omega) (by omega) (by omega) ?_
                    intro v14 w14 hown14 hg14 hat14
                    have HN14 := Lib.hid (show OwnSets w14 w2.heap.size v14 (N2 ++ [s ++ [x]]) from OwnSets.snoc Hr10.out.1 Hr10.out.2 HV10.out hown14 hg14)
                    have HO14 := Lib.hid (HO10.out.other Hr10.out.1 hg14 (fun g e e2 => Hap2q.out g e2 e))
                    have HL14 := Lib.hid (HL10.out.other Hr10.out.1 hg14 (fun g e e2 => Hap3q.out g e2 e))
                    have HB14 := Lib.hid (show Below w2.heap.size w2 w14 from (HBz.out.trans (HB10.out.mono hszz)).grown hg14 (by omega) (own_row_ge Hr10.out.1))
                    have hfr : ∀ g, v14.ownBlock = some g → (Value.slice A11 N2.length c11).ownBlock = some g ∨ wz.heap.size ≤ g := fun g e => by
                      rcases hat14 with h | h
                      · left; rw [← h]; exact e
                      · right; rw [h] at e; injection e with e; omega
                    have HapA := Lib.hid (show ∀ g, (Value.slice A8x O2.length c8x).ownBlock = some g → v14.ownBlock ≠ some g from fun g e e2 => by
                      rcases hfr g e2 with h | h
                      · exact Hap2q.out g e h
                      · obtain ⟨usO, hrO, _⟩ := HOz.out
                        have := (own_row_lt hrO g e).2; omega)
                    have HapB := Lib.hid (show ∀ g, (Value.slice (some ⟨gL, 0, none⟩) L.length c9).ownBlock = some g → v14.ownBlock ≠ some g from fun g e e2 => by
                      rcases hfr g e2 with h | h
                      · exact Hap3q.out g e h
                      · obtain ⟨usL, hrL, _⟩ := HLz.out
                        have := (own_row_lt hrL g e).2; omega)
                    have hS14 : w14.cell? ⟨gL, i, none⟩ = some (.slice Au s.length cu) ∧ w14.cell? (ad7.add k) = some (.int .i64 x) := ⟨(World.cell?_of_block (hg14.block gL (by have := HB10.out.size; simp at this ⊢; omega) (fun e => Hap3q.out gL rfl e.symm))).trans (keepB HB10.out hgLz HSz.out.1), (World.cell?_of_block (hg14.block (ad7.add k).block (by have := HB10.out.size; simp at this ⊢; omega) (fun e => by have := own_row_ge Hr10.out.1 _ e.symm; rw [block_of_add] at this; omega))).trans (keepB HB10.out had7z HSz.out.2)⟩
                    clear hown14 hg14 hat14 hfr
                    refine hK _ _ (fun _ => hS14) ?_
                    clear hK K hS14
                    refine z_one (i := 15) rfl (by kernel_rfl) (by rfl) (fun K hK => ?_)
                    go_simp
                    refine hK _ _ (fun h => absurd rfl h) ?_
                    clear hK K
                    refine z_done (by kernel_rfl) ?_ _
                    go_wp2
                    go_roundg (al.length - (k + 1))
                    case rel => exact ⟨k + 1, hkl, rfl, by go_num, by rw [Hext.out]; exact HN14, HO14.out, HL14.out, HB14.out, HapA.out, HapB.out⟩
                    case measure => rw [Hg3.out]; omega
                · obtain ⟨gu, rfl⟩ : ∃ g, Au = some ⟨g, 0, none⟩ := (own_two2 Huq.out).resolve_left (fun h => h0 h.2.1)
                  have hz : ((s.length : Int) == 0) = false := by simpa using (fun e => h0 (by omega) : ¬ (s.length : Int) = 0)
                  have clast : wq.cell? ⟨gu, s.length - 1, none⟩ = some (.int .i64 (s.getD (s.length - 1) 0)) := own_cell Huq.out (by rw [List.getElem?_map, List.getElem?_eq_getElem (by omega), List.getD_eq_getElem?_getD, List.getElem?_eq_getElem (by omega)]; rfl)
                  have hgu := (own_row_lt Huq.out gu rfl).2
                  obtain ⟨ls, hls⟩ : ∃ ls, ls = s.getD (s.length - 1) 0 := ⟨_, rfl⟩
                  rw [← hls] at clast
                  have hs1 : IntKind.i64.wrap ((s.length : Int) - 1) = ((s.length - 1 : Nat) : Int) := by rw [IntKind.wrap_i64]; omega
                  have hs2 : (s.length : Int) - 1 = ((s.length - 1 : Nat) : Int) := by omega
                  have hs3 : ((s.length - 1 : Nat) : Int) < (s.length : Int) := by omega
                  have hs4 : (0 : Int) ≤ (s.length : Int) - 1 := by omega
                  have hs5 : (s.length : Int) - 1 < (s.length : Int) := by omega
                  have hs6 : ((s.length : Int) - 1).toNat = s.length - 1 := by omega
                  by_cases hlx : ls < x
                  · have hfit : Rk.fits s (al.getD k 0) = true := by unfold Rk.fits; rw [← hls, ← Hxx.out]; simp [hlx]
                    have Hext := Lib.hid (show N ++ Rk.extTo al s (k + 1) = N2 ++ [s ++ [x]] by rw [Rk.extTo_yes hkl hfit, ← Hxx.out, HN2.out, List.append_assoc])
                    have hd : decide (ls < x) = true := decide_eq_true hlx
                    clear hfit hls
                    go_wp2
                    go_quiet (fail)
                    go_wp2
                    obtain ⟨wz, hwz⟩ : ∃ wz, wz = (wq.drewN nq).drew := ⟨_, rfl⟩
                    have HNz := Lib.hid (show OwnSets wz w2.heap.size (.slice A11 N2.length c11) N2 by rw [hwz]; exact HNq.out)
                    have HOz := Lib.hid (show OwnSets wz w2.heap.size (.slice A8x O2.length c8x) O2 by rw [hwz]; exact HOq.out)
                    have HLz := Lib.hid (show OwnSets wz w2.heap.size (.slice (some ⟨gL, 0, none⟩) L.length c9) L by rw [hwz]; exact HLq.out)
                    have HBz := Lib.hid (show Below w2.heap.size w2 wz by rw [hwz]; exact below_drewN HBq.out (nq + 1))
                    have HSz := Lib.hid (show wz.cell? ⟨gL, i, none⟩ = some (.slice (some ⟨gu, 0, none⟩) s.length cu) ∧ wz.cell? (ad7.add k) = some (.int .i64 x) by rw [hwz]; exact ⟨cLq, cxq⟩)
                    have Huz := Lib.hid (show OwnInts wz w2.heap.size (.slice (some ⟨gu, 0, none⟩) s.length cu) s by rw [hwz]; exact Huq.out)
                    have Hwz := Lib.hid hwz
                    have hgLz : gL < wz.heap.size := by rw [hwz]; exact hgLq
                    have hszz := HBz.out.size
                    have had7z : (ad7.add k).block < wz.heap.size := by rw [block_of_add]; omega
                    clear hwz
                    have Hrz := Lib.hid (Reads.of_own Huz.out)
                    have Hone := Lib.hid (show ∀ u ∈ s.map (Value.int .i64), u.oneCell' = true from fun u hu => by obtain ⟨y, _, rfl⟩ := List.mem_map.1 hu; rfl)
                    refine z_region (fun w' => w'.cell? ⟨gL, i, none⟩ = some (.slice (some ⟨gu, 0, none⟩) s.length cu) ∧ w'.cell? (ad7.add k) = some (.int .i64 x)) 15 (by kernel_rfl) ?_
                    rw [← Hwz.out]
                    refine z_take (i := 0) (v := ?_) rfl (by kernel_rfl) (by kernel_rfl) (by kernel_rfl) (fun _ _ _ h => h) (by kernel_rfl) (by decide) (HSz.out) (by rfl) (by intro w hSw; obtain ⟨hSa, hSb⟩ := hSw; go_simp; rfl) ?_
                    refine z_take (i := 2) (v := ?_) rfl (by kernel_rfl) (by kernel_rfl) (by kernel_rfl) (fun _ _ _ h => h) (by kernel_rfl) (by decide) (HSz.out) (by rfl) (by intro w hSw; obtain ⟨hSa, hSb⟩ := hSw; go_simp; rfl) ?_
                    refine z_take (i := 3) (v := ?_) rfl (by kernel_rfl) (by kernel_rfl) (by kernel_rfl) (fun _ _ _ h => h) (by kernel_rfl) (by decide) (HSz.out) (by rfl) (by intro w hSw; obtain ⟨hSa, hSb⟩ := hSw; go_simp; rfl) ?_
                    refine z_take (i := 4) (v := ?_) rfl (by kernel_rfl) (by kernel_rfl) (by kernel_rfl) (fun _ _ _ h => h) (by kernel_rfl) (by decide) (HSz.out) (by rfl) (by intro w hSw; obtain ⟨hSa, hSb⟩ := hSw; go_simp; rfl) ?_
                    refine z_take (i := 5) (v := ?_) rfl (by kernel_rfl) (by kernel_rfl) (by kernel_rfl) (fun _ _ _ h => h) (by kernel_rfl) (by decide) (HSz.out) (by rfl) (by intro w hSw; obtain ⟨hSa, hSb⟩ := hSw; go_simp; rfl) ?_
                    refine z_take (i := 7) (v := ?_) rfl (by kernel_rfl) (by kernel_rfl) (by kernel_rfl) (fun _ _ _ h => h) (by kernel_rfl) (by decide) (HSz.out) (by rfl) (by intro w hSw; obtain ⟨hSa, hSb⟩ := hSw; go_simp; rfl) ?_
                    refine z_take (i := 8) (v := ?_) rfl (by kernel_rfl) (by kernel_rfl) (by kernel_rfl) (fun _ _ _ h => h) (by kernel_rfl) (by decide) (HSz.out) (by rfl) (by intro w hSw; obtain ⟨hSa, hSb⟩ := hSw; go_simp; rfl) ?_
                    refine z_take (i := 9) (v := ?_) rfl (by kernel_rfl) (by kernel_rfl) (by kernel_rfl) (fun _ _ _ h => h) (by kernel_rfl) (by decide) (HSz.out) (by rfl) (by intro w hSw; obtain ⟨hSa, hSb⟩ := hSw; go_simp; rfl) ?_
                    refine z_take (i := 10) (v := ?_) rfl (by kernel_rfl) (by kernel_rfl) (by kernel_rfl) (fun _ _ _ h => h) (by kernel_rfl) (by decide) (HSz.out) (by rfl) (by intro w hSw; obtain ⟨hSa, hSb⟩ := hSw; go_simp; rfl) ?_
                    simp only [Act.put, List.setIfInBounds_toArray]
                    refine z_two (i := 1) (j := 11) rfl rfl (by kernel_rfl) (by rfl) (by rfl) (fun K hK => ?_) (fun K hK => ?_)
                    · go_simp
                      refine hK _ _ (fun _ => ⟨keepB ((Below.refl wz.heap.size wz).alloc (Nat.le_refl _) _) hgLz HSz.out.1, keepB ((Below.refl wz.heap.size wz).alloc (Nat.le_refl _) _) had7z HSz.out.2⟩) ?_
                      clear hK K
                      refine z_two (i := 6) (j := 11) rfl rfl (by kernel_rfl) (by rfl) (by rfl) (fun K hK => ?_) (fun K hK => ?_)
                      · refine wp_append_any _ _ _ 26 rfl wz.heap.size 3 i0 _ 1 8 Tryz.underlying26 hi0 hz0 hz1 hz2 rfl (by decide) (.slice (some ⟨wz.heap.size, 0, none⟩) 0 0) 0 [] (by rfl) (World.ownsRow_made wz #[] 0 (Nat.le_refl _) (Nat.zero_le _) rfl) wz.heap.size (some ⟨gu, 0, none⟩) s.length cu _ (by rfl) (Hrz.out.alloc (Nat.le_refl _) _) (Hone.out) (by unfold maxLen; omega) (by omega) (by first | (simp; done) | (simp; omega)) ?_
                        intro v7 w7 hown7 hg7 hat7
                        obtain ⟨Aa, ca, ev7, _, _, _⟩ := own_form hown7
                        rw [Nat.zero_add] at ev7
                        subst ev7
                        have HV7 := Lib.hid (show OwnInts w7 wz.heap.size (.slice Aa s.length ca) s by unfold OwnInts; simpa using hown7)
                        have hB7 : Below wz.heap.size wz w7 := ((Below.refl wz.heap.size wz).alloc (Nat.le_refl _) _).grown hg7 (by simp; try omega) (fun b e => by have e2 : some (wz.heap.size) = some b := e; injection e2 with e2; omega)
                        have HB7 := Lib.hid hB7
                        have hs7 := hB7.size
                        clear hown7 hg7 hat7 hB7
                        refine hK _ _ (fun _ => ⟨keepB (HB7.out) hgLz HSz.out.1, keepB (HB7.out) had7z HSz.out.2⟩) ?_
                        clear hK K
                        refine z_one (i := 11) rfl (by kernel_rfl) (by rfl) (fun K hK => ?_)
                        go_simp
                        refine hK _ _ (fun _ => ⟨keepB (HB7.out.alloc HB7.out.size _) hgLz HSz.out.1, keepB (HB7.out.alloc HB7.out.size _) had7z HSz.out.2⟩) ?_
                        clear hK K
                        have HX8 := Lib.hid (Blk.new w7 3 #[.int .i64 x])
                        have HV8 := Lib.hid (own_kept (w' := w7.alloc (.cells #[.int .i64 x] 3)) (row := none) HV7.out (World.grownBy_alloc w7 _ none) (fun g e => by cases e))
                        have HB8 := Lib.hid (HB7.out.alloc HB7.out.size (.cells #[.int .i64 x] 3))
                        have hs8 := HB8.out.size
                        refine z_one (i := 12) rfl (by kernel_rfl) (by rfl) (fun K hK => ?_)
                        refine wp_append_any _ _ _ 26 rfl wz.heap.size 3 i0 _ 1 8 Tryz.underlying26 hi0 hz0 hz1 hz2 rfl (by decide) (.slice Aa s.length ca) s.length _ (by rfl) (HV8.out) (w7.heap.size + 1) (some ⟨w7.heap.size, 0, none⟩) 1 1 [.int .i64 x] (by rfl) (reads_one (Nat.lt_succ_self _) (HX8.out.cell 0)) (by intro u hu; simp at hu; subst hu; rfl) (by unfold maxLen; omega) (by omega) (hs8) ?_
                        intro v9 w9 hown9 hg9 hat9
                        have HV9 := Lib.hid (own_snoc hown9)
                        have HB9 := Lib.hid (HB8.out.grown hg9 HB8.out.size (own_row_ge HV8.out))
                        have hs9 := HB9.out.size
                        obtain ⟨Ab, cb, ev9, _, _, _⟩ := own_form hown9
                        subst ev9
                        clear hown9 hg9 hat9
                        refine hK _ _ (fun _ => ⟨keepB (HB9.out) hgLz HSz.out.1, keepB (HB9.out) had7z HSz.out.2⟩) ?_
                        clear hK K
                        refine z_one (i := 13) rfl (by kernel_rfl) (by rfl) (fun K hK => ?_)
                        go_simp
                        refine hK _ _ (fun _ => ⟨keepB (HB9.out.alloc HB9.out.size _) hgLz HSz.out.1, keepB (HB9.out.alloc HB9.out.size _) had7z HSz.out.2⟩) ?_
                        clear hK K
                        have HB10 := Lib.hid (HB9.out.alloc HB9.out.size (.cells #[.slice Ab (s.length + 1) cb] 26))
                        have hs10 := HB10.out.size
                        have HV10 := Lib.hid (show OwnInts (w9.alloc (.cells #[.slice Ab (s.length + 1) cb] 26)) w2.heap.size (.slice Ab (s.length + 1) cb) (s ++ [x]) from own_more (own_kept (row := none) HV9.out (World.grownBy_alloc w9 _ none) (fun g e => by cases e)) hszz)
                        have HN10 := Lib.hid (HNz.out.below_ HB10.out)
                        have HO10 := Lib.hid (HOz.out.below_ HB10.out)
                        have HL10 := Lib.hid (HLz.out.below_ HB10.out)
                        obtain ⟨us10, hr10, hi10⟩ := HN10.out
                        have Hr10 := Lib.hid (And.intro hr10 hi10)
                        clear hr10 hi10
                        try simp only [Act.put, List.setIfInBounds_toArray]
                        refine z_one (i := 14) rfl (by kernel_rfl) (by rfl) (fun K hK => ?_)
                        refine wp_append_any _ _ _ 40 rfl w2.heap.size 26 j0 _ 1 24 Tryz.underlying40 hj0 yz0 yz1 yz2 rfl (by decide) (.slice A11 N2.length c11) N2.length us10 (by rfl) (Hr10.out.1) (w9.heap.size + 1) (some ⟨w9.heap.size, 0, none⟩) 1 1 [.slice Ab (s.length + 1) cb] (by rfl) (reads_one (Nat.lt_succ_self _) (cell_new0 _ _ _)) (by intro u hu; simp at hu; subst hu; rfl) (by unfold maxLen; omega) (by omega) (by omega) ?_
                        intro v14 w14 hown14 hg14 hat14
                        have HN14 := Lib.hid (show OwnSets w14 w2.heap.size v14 (N2 ++ [s ++ [x]]) from OwnSets.snoc Hr10.out.1 Hr10.out.2 HV10.out hown14 hg14)
                        have HO14 := Lib.hid (HO10.out.other Hr10.out.1 hg14 (fun g e e2 => Hap2q.out g e2 e))
                        have HL14 := Lib.hid (HL10.out.other Hr10.out.1 hg14 (fun g e e2 => Hap3q.out g e2 e))
                        have HB14 := Lib.hid (show Below w2.heap.size w2 w14 from (HBz.out.trans (HB10.out.mono hszz)).grown hg14 (by omega) (own_row_ge Hr10.out.1))
                        have hfr : ∀ g, v14.ownBlock = some g → (Value.slice A11 N2.length c11).ownBlock = some g ∨ wz.heap.size ≤ g := fun g e => by
                          rcases hat14 with h | h
                          · left; rw [← h]; exact e
                          · right; rw [h] at e; injection e with e; omega
                        have HapA := Lib.hid (show ∀ g, (Value.slice A8x O2.length c8x).ownBlock = some g → v14.ownBlock ≠ some g from fun g e e2 => by
                          rcases hfr g e2 with h | h
                          · exact Hap2q.out g e h
                          · obtain ⟨usO, hrO, _⟩ := HOz.out
                            have := (own_row_lt hrO g e).2; omega)
                        have HapB := Lib.hid (show ∀ g, (Value.slice (some ⟨gL, 0, none⟩) L.length c9).ownBlock = some g → v14.ownBlock ≠ some g from fun g e e2 => by
                          rcases hfr g e2 with h | h
                          · exact Hap3q.out g e h
                          · obtain ⟨usL, hrL, _⟩ := HLz.out
                            have := (own_row_lt hrL g e).2; omega)
                        have hS14 : w14.cell? ⟨gL, i, none⟩ = some (.slice (some ⟨gu, 0, none⟩) s.length cu) ∧ w14.cell? (ad7.add k) = some (.int .i64 x) := ⟨(World.cell?_of_block (hg14.block gL (by have := HB10.out.size; simp at this ⊢; omega) (fun e => Hap3q.out gL rfl e.symm))).trans (keepB HB10.out hgLz HSz.out.1), (World.cell?_of_block (hg14.block (ad7.add k).block (by have := HB10.out.size; simp at this ⊢; omega) (fun e => by have := own_row_ge Hr10.out.1 _ e.symm; rw [block_of_add] at this; omega))).trans (keepB HB10.out had7z HSz.out.2)⟩
                        clear hown14 hg14 hat14 hfr
                        refine hK _ _ (fun _ => hS14) ?_
                        clear hK K hS14
                        refine z_one (i := 15) rfl (by kernel_rfl) (by rfl) (fun K hK => ?_)
                        go_simp
                        refine hK _ _ (fun h => absurd rfl h) ?_
                        clear hK K
                        refine z_done (by kernel_rfl) ?_ _
                        go_wp2
                        go_roundg (al.length - (k + 1))
                        case rel => exact ⟨k + 1, hkl, rfl, by go_num, by rw [Hext.out]; exact HN14, HO14.out, HL14.out, HB14.out, HapA.out, HapB.out⟩
                        case measure => rw [Hg3.out]; omega
                      · go_simp
                        refine hK _ _ (fun _ => ⟨keepB (((Below.refl wz.heap.size wz).alloc (Nat.le_refl _) _).alloc (by simp) _) hgLz HSz.out.1, keepB (((Below.refl wz.heap.size wz).alloc (Nat.le_refl _) _).alloc (by simp) _) had7z HSz.out.2⟩) ?_
                        clear hK K
                        refine z_one (i := 6) rfl (by kernel_rfl) (by rfl) (fun K hK => ?_)
                        refine wp_append_any _ _ _ 26 rfl wz.heap.size 3 i0 _ 1 8 Tryz.underlying26 hi0 hz0 hz1 hz2 rfl (by decide) (.slice (some ⟨wz.heap.size, 0, none⟩) 0 0) 0 [] (by rfl) (own_kept (row := none) (World.ownsRow_made wz #[] 0 (Nat.le_refl _) (Nat.zero_le _) rfl) (World.grownBy_alloc _ _ none) (fun g e => by cases e)) wz.heap.size (some ⟨gu, 0, none⟩) s.length cu _ (by rfl) (Hrz.out.alloc (Nat.le_refl _) _ |>.alloc (by simp) _) (Hone.out) (by unfold maxLen; omega) (by omega) (by first | (simp; done) | (simp; omega)) ?_
                        intro v7 w7 hown7 hg7 hat7
                        obtain ⟨Aa, ca, ev7, _, _, _⟩ := own_form hown7
                        rw [Nat.zero_add] at ev7
                        subst ev7
                        have HV7 := Lib.hid (show OwnInts w7 wz.heap.size (.slice Aa s.length ca) s by unfold OwnInts; simpa using hown7)
                        have hB7 : Below wz.heap.size wz w7 := (((Below.refl wz.heap.size wz).alloc (Nat.le_refl _) _).alloc (by simp) _).grown hg7 (by simp; try omega) (fun b e => by have e2 : some (wz.heap.size) = some b := e; injection e2 with e2; omega)
                        have HX8 := Lib.hid (show Blk w7 (wz.heap.size + 1) 3 #[.int .i64 x] from (newBlkH (by simp) _ _).grown hg7 (fun e => by have e2 : some (wz.heap.size + 1) = some wz.heap.size := e; injection e2 with e2; omega))
                        have HB7 := Lib.hid hB7
                        have hs7 := hB7.size
                        clear hown7 hg7 hat7 hB7
                        refine hK _ _ (fun _ => ⟨keepB (HB7.out) hgLz HSz.out.1, keepB (HB7.out) had7z HSz.out.2⟩) ?_
                        clear hK K
                        have HV8 := HV7
                        have HB8 := HB7
                        have hs8 := HB8.out.size
                        refine z_one (i := 12) rfl (by kernel_rfl) (by rfl) (fun K hK => ?_)
                        refine wp_append_any _ _ _ 26 rfl wz.heap.size 3 i0 _ 1 8 Tryz.underlying26 hi0 hz0 hz1 hz2 rfl (by decide) (.slice Aa s.length ca) s.length _ (by rfl) (HV8.out) ((wz.heap.size + 1) + 1) (some ⟨(wz.heap.size + 1), 0, none⟩) 1 1 [.int .i64 x] (by rfl) (reads_one (Nat.lt_succ_self _) (HX8.out.cell 0)) (by intro u hu; simp at hu; subst hu; rfl) (by unfold maxLen; omega) (by omega) (hs8) ?_
                        intro v9 w9 hown9 hg9 hat9
                        have HV9 := Lib.hid (own_snoc hown9)
                        have HB9 := Lib.hid (HB8.out.grown hg9 HB8.out.size (own_row_ge HV8.out))
                        have hs9 := HB9.out.size
                        obtain ⟨Ab, cb, ev9, _, _, _⟩ := own_form hown9
                        subst ev9
                        clear hown9 hg9 hat9
                        refine hK _ _ (fun _ => ⟨keepB (HB9.out) hgLz HSz.out.1, keepB (HB9.out) had7z HSz.out.2⟩) ?_
                        clear hK K
                        refine z_one (i := 13) rfl (by kernel_rfl) (by rfl) (fun K hK => ?_)
                        go_simp
                        refine hK _ _ (fun _ => ⟨keepB (HB9.out.alloc HB9.out.size _) hgLz HSz.out.1, keepB (HB9.out.alloc HB9.out.size _) had7z HSz.out.2⟩) ?_
                        clear hK K
                        have HB10 := Lib.hid (HB9.out.alloc HB9.out.size (.cells #[.slice Ab (s.length + 1) cb] 26))
                        have hs10 := HB10.out.size
                        have HV10 := Lib.hid (show OwnInts (w9.alloc (.cells #[.slice Ab (s.length + 1) cb] 26)) w2.heap.size (.slice Ab (s.length + 1) cb) (s ++ [x]) from own_more (own_kept (row := none) HV9.out (World.grownBy_alloc w9 _ none) (fun g e => by cases e)) hszz)
                        have HN10 := Lib.hid (HNz.out.below_ HB10.out)
                        have HO10 := Lib.hid (HOz.out.below_ HB10.out)
                        have HL10 := Lib.hid (HLz.out.below_ HB10.out)
                        obtain ⟨us10, hr10, hi10⟩ := HN10.out
                        have Hr10 := Lib.hid (And.intro hr10 hi10)
                        clear hr10 hi10
                        try simp only [Act.put, List.setIfInBounds_toArray]
                        refine z_one (i := 14) rfl (by kernel_rfl) (by rfl) (fun K hK => ?_)
                        refine wp_append_any _ _ _ 40 rfl w2.heap.size 26 j0 _ 1 24 Tryz.underlying40 hj0 yz0 yz1 yz2 rfl (by decide) (.slice A11 N2.length c11) N2.length us10 (by rfl) (Hr10.out.1) (w9.heap.size + 1) (some ⟨w9.heap.size, 0, none⟩) 1 1 [.slice Ab (s.length + 1) cb] (by rfl) (reads_one (Nat.lt_succ_self _) (cell_new0 _ _ _)) (by intro u hu; simp at hu; subst hu; rfl) (by unfold maxLen; omega) (by omega) (by omega) ?_
                        intro v14 w14 hown14 hg14 hat14
                        have HN14 := Lib.hid (show OwnSets w14 w2.heap.size v14 (N2 ++ [s ++ [x]]) from OwnSets.snoc Hr10.out.1 Hr10.out.2 HV10.out hown14 hg14)
                        have HO14 := Lib.hid (HO10.out.other Hr10.out.1 hg14 (fun g e e2 => Hap2q.out g e2 e))
                        have HL14 := Lib.hid (HL10.out.other Hr10.out.1 hg14 (fun g e e2 => Hap3q.out g e2 e))
                        have HB14 := Lib.hid (show Below w2.heap.size w2 w14 from (HBz.out.trans (HB10.out.mono hszz)).grown hg14 (by omega) (own_row_ge Hr10.out.1))
                        have hfr : ∀ g, v14.ownBlock = some g → (Value.slice A11 N2.length c11).ownBlock = some g ∨ wz.heap.size ≤ g := fun g e => by
                          rcases hat14 with h | h
                          · left; rw [← h]; exact e
                          · right; rw [h] at e; injection e with e; omega
                        have HapA := Lib.hid (show ∀ g, (Value.slice A8x O2.length c8x).ownBlock = some g → v14.ownBlock ≠ some g from fun g e e2 => by
                          rcases hfr g e2 with h | h
                          · exact Hap2q.out g e h
                          · obtain ⟨usO, hrO, _⟩ := HOz.out
                            have := (own_row_lt hrO g e).2; omega)
                        have HapB := Lib.hid (show ∀ g, (Value.slice (some ⟨gL, 0, none⟩) L.length c9).ownBlock = some g → v14.ownBlock ≠ some g from fun g e e2 => by
                          rcases hfr g e2 with h | h
                          · exact Hap3q.out g e h
                          · obtain ⟨usL, hrL, _⟩ := HLz.out
                            have := (own_row_lt hrL g e).2; omega)
                        have hS14 : w14.cell? ⟨gL, i, none⟩ = some (.slice (some ⟨gu, 0, none⟩) s.length cu) ∧ w14.cell? (ad7.add k) = some (.int .i64 x) := ⟨(World.cell?_of_block (hg14.block gL (by have := HB10.out.size; simp at this ⊢; omega) (fun e => Hap3q.out gL rfl e.symm))).trans (keepB HB10.out hgLz HSz.out.1), (World.cell?_of_block (hg14.block (ad7.add k).block (by have := HB10.out.size; simp at this ⊢; omega) (fun e => by have := own_row_ge Hr10.out.1 _ e.symm; rw [block_of_add] at this; omega))).trans (keepB HB10.out had7z HSz.out.2)⟩
                        clear hown14 hg14 hat14 hfr
                        refine hK _ _ (fun _ => hS14) ?_
                        clear hK K hS14
                        refine z_one (i := 15) rfl (by kernel_rfl) (by rfl) (fun K hK => ?_)
                        go_simp
                        refine hK _ _ (fun h => absurd rfl h) ?_
                        clear hK K
                        refine z_done (by kernel_rfl) ?_ _
                        go_wp2
                        go_roundg (al.length - (k + 1))
                        case rel => exact ⟨k + 1, hkl, rfl, by go_num, by rw [Hext.out]; exact HN14, HO14.out, HL14.out, HB14.out, HapA.out, HapB.out⟩
                        case measure => rw [Hg3.out]; omega
                    · go_simp
                      refine hK _ _ (fun _ => ⟨keepB ((Below.refl wz.heap.size wz).alloc (Nat.le_refl _) _) hgLz HSz.out.1, keepB ((Below.refl wz.heap.size wz).alloc (Nat.le_refl _) _) had7z HSz.out.2⟩) ?_
                      clear hK K
                      refine z_one (i := 1) rfl (by kernel_rfl) (by rfl) (fun K hK => ?_)
                      go_simp
                      refine hK _ _ (fun _ => ⟨keepB (((Below.refl wz.heap.size wz).alloc (Nat.le_refl _) _).alloc (by simp) _) hgLz HSz.out.1, keepB (((Below.refl wz.heap.size wz).alloc (Nat.le_refl _) _).alloc (by simp) _) had7z HSz.out.2⟩) ?_
                      clear hK K
                      refine z_one (i := 6) rfl (by kernel_rfl) (by rfl) (fun K hK => ?_)
                      refine wp_append_any _ _ _ 26 rfl wz.heap.size 3 i0 _ 1 8 Tryz.underlying26 hi0 hz0 hz1 hz2 rfl (by decide) (.slice (some ⟨wz.heap.size + 1, 0, none⟩) 0 0) 0 [] (by rfl) (made_nextT wz (.cells #[.int .i64 x] 3) 3) wz.heap.size (some ⟨gu, 0, none⟩) s.length cu _ (by rfl) (Hrz.out.alloc (Nat.le_refl _) _ |>.alloc (by simp) _) (Hone.out) (by unfold maxLen; omega) (by omega) (by first | (simp; done) | (simp; omega)) ?_
                      intro v7 w7 hown7 hg7 hat7
                      obtain ⟨Aa, ca, ev7, _, _, _⟩ := own_form hown7
                      rw [Nat.zero_add] at ev7
                      subst ev7
                      have HV7 := Lib.hid (show OwnInts w7 wz.heap.size (.slice Aa s.length ca) s by unfold OwnInts; simpa using hown7)
                      have hB7 : Below wz.heap.size wz w7 := (((Below.refl wz.heap.size wz).alloc (Nat.le_refl _) _).alloc (by simp) _).grown hg7 (by simp; try omega) (fun b e => by have e2 : some (wz.heap.size + 1) = some b := e; injection e2 with e2; omega)
                      have HX8 := Lib.hid (show Blk w7 wz.heap.size 3 #[.int .i64 x] from ((Blk.new wz _ _).alloc _).grown hg7 (fun e => by have e2 : some wz.heap.size = some (wz.heap.size + 1) := e; injection e2 with e2; omega))
                      have HB7 := Lib.hid hB7
                      have hs7 := hB7.size
                      clear hown7 hg7 hat7 hB7
                      refine hK _ _ (fun _ => ⟨keepB (HB7.out) hgLz HSz.out.1, keepB (HB7.out) had7z HSz.out.2⟩) ?_
                      clear hK K
                      have HV8 := HV7
                      have HB8 := HB7
                      have hs8 := HB8.out.size
                      refine z_one (i := 12) rfl (by kernel_rfl) (by rfl) (fun K hK => ?_)
                      refine wp_append_any _ _ _ 26 rfl wz.heap.size 3 i0 _ 1 8 Tryz.underlying26 hi0 hz0 hz1 hz2 rfl (by decide) (.slice Aa s.length ca) s.length _ (by rfl) (HV8.out) (wz.heap.size + 1) (some ⟨wz.heap.size, 0, none⟩) 1 1 [.int .i64 x] (by rfl) (reads_one (Nat.lt_succ_self _) (HX8.out.cell 0)) (by intro u hu; simp at hu; subst hu; rfl) (by unfold maxLen; omega) (by omega) (hs8) ?_
                      intro v9 w9 hown9 hg9 hat9
                      have HV9 := Lib.hid (own_snoc hown9)
                      have HB9 := Lib.hid (HB8.out.grown hg9 HB8.out.size (own_row_ge HV8.out))
                      have hs9 := HB9.out.size
                      obtain ⟨Ab, cb, ev9, _, _, _⟩ := own_form hown9
                      subst ev9
                      clear hown9 hg9 hat9
                      refine hK _ _ (fun _ => ⟨keepB (HB9.out) hgLz HSz.out.1, keepB (HB9.out) had7z HSz.out.2⟩) ?_
                      clear hK K
                      refine z_one (i := 13) rfl (by kernel_rfl) (by rfl) (fun K hK => ?_)
                      go_simp
                      refine hK _ _ (fun _ => ⟨keepB (HB9.out.alloc HB9.out.size _) hgLz HSz.out.1, keepB (HB9.out.alloc HB9.out.size _) had7z HSz.out.2⟩) ?_
                      clear hK K
                      have HB10 := Lib.hid (HB9.out.alloc HB9.out.size (.cells #[.slice Ab (s.length + 1) cb] 26))
                      have hs10 := HB10.out.size
                      have HV10 := Lib.hid (show OwnInts (w9.alloc (.cells #[.slice Ab (s.length + 1) cb] 26)) w2.heap.size (.slice Ab (s.length + 1) cb) (s ++ [x]) from own_more (own_kept (row := none) HV9.out (World.grownBy_alloc w9 _ none) (fun g e => by cases e)) hszz)
                      have HN10 := Lib.hid (HNz.out.below_ HB10.out)
                      have HO10 := Lib.hid (HOz.out.below_ HB10.out)
                      have HL10 := Lib.hid (HLz.out.below_ HB10.out)
                      obtain ⟨us10, hr10, hi10⟩ := HN10.out
                      have Hr10 := Lib.hid (And.intro hr10 hi10)
                      clear hr10 hi10
                      try simp only [Act.put, List.setIfInBounds_toArray]
                      refine z_one (i := 14) rfl (by kernel_rfl) (by rfl) (fun K hK => ?_)
                      refine wp_append_any _ _ _ 40 rfl w2.heap.size 26 j0 _ 1 24 Tryz.underlying40 hj0 yz0 yz1 yz2 rfl (by decide) (.slice A11 N2.length c11) N2.length us10 (by rfl) (Hr10.out.1) (w9.heap.size + 1) (some ⟨w9.heap.size, 0, none⟩) 1 1 [.slice Ab (s.length + 1) cb] (by rfl) (reads_one (Nat.lt_succ_self _) (cell_new0 _ _ _)) (by intro u hu; simp at hu; subst hu; rfl) (by unfold maxLen; omega) (by omega) (by omega) ?_
                      intro v14 w14 hown14 hg14 hat14
                      have HN14 := Lib.hid (show OwnSets w14 w2.heap.size v14 (N2 ++ [s ++ [x]]) from OwnSets.snoc Hr10.out.1 Hr10.out.2 HV10.out hown14 hg14)
                      have HO14 := Lib.hid (HO10.out.other Hr10.out.1 hg14 (fun g e e2 => Hap2q.out g e2 e))
                      have HL14 := Lib.hid (HL10.out.other Hr10.out.1 hg14 (fun g e e2 => Hap3q.out g e2 e))
                      have HB14 := Lib.hid (show Below w2.heap.size w2 w14 from (HBz.out.trans (HB10.out.mono hszz)).grown hg14 (by omega) (own_row_ge Hr10.out.1))
                      have hfr : ∀ g, v14.ownBlock = some g → (Value.slice A11 N2.length c11).ownBlock = some g ∨ wz.heap.size ≤ g := fun g e => by
                        rcases hat14 with h | h
                        · left; rw [← h]; exact e
                        · right; rw [h] at e; injection e with e; omega
                      have HapA := Lib.hid (show ∀ g, (Value.slice A8x O2.length c8x).ownBlock = some g → v14.ownBlock ≠ some g from fun g e e2 => by
                        rcases hfr g e2 with h | h
                        · exact Hap2q.out g e h
                        · obtain ⟨usO, hrO, _⟩ := HOz.out
                          have := (own_row_lt hrO g e).2; omega)
                      have HapB := Lib.hid (show ∀ g, (Value.slice (some ⟨gL, 0, none⟩) L.length c9).ownBlock = some g → v14.ownBlock ≠ some g from fun g e e2 => by
                        rcases hfr g e2 with h | h
                        · exact Hap3q.out g e h
                        · obtain ⟨usL, hrL, _⟩ := HLz.out
                          have := (own_row_lt hrL g e).2; omega)
                      have hS14 : w14.cell? ⟨gL, i, none⟩ = some (.slice (some ⟨gu, 0, none⟩) s.length cu) ∧ w14.cell? (ad7.add k) = some (.int .i64 x) := ⟨(World.cell?_of_block (hg14.block gL (by have := HB10.out.size; simp at this ⊢; omega) (fun e => Hap3q.out gL rfl e.symm))).trans (keepB HB10.out hgLz HSz.out.1), (World.cell?_of_block (hg14.block (ad7.add k).block (by have := HB10.out.size; simp at this ⊢; omega) (fun e => by have := own_row_ge Hr10.out.1 _ e.symm; rw [block_of_add] at this; omega))).trans (keepB HB10.out had7z HSz.out.2)⟩
                      clear hown14 hg14 hat14 hfr
                      refine hK _ _ (fun _ => hS14) ?_
                      clear hK K hS14
                      refine z_one (i := 15) rfl (by kernel_rfl) (by rfl) (fun K hK => ?_)
                      go_simp
                      refine hK _ _ (fun h => absurd rfl h) ?_
                      clear hK K
                      refine z_done (by kernel_rfl) ?_ _
                      go_wp2
                      go_roundg (al.length - (k + 1))
                      case rel => exact ⟨k + 1, hkl, rfl, by go_num, by rw [Hext.out]; exact HN14, HO14.out, HL14.out, HB14.out, HapA.out, HapB.out⟩
                      case measure => rw [Hg3.out]; omega
                  · have hfit : Rk.fits s (al.getD k 0) = false := by unfold Rk.fits; rw [← hls, ← Hxx.out]; simp [hlx, h0]
                    have Hext := Lib.hid (show N ++ Rk.extTo al s (k + 1) = N2 by rw [Rk.extTo_no hkl hfit, HN2.out])
                    have hd : decide (ls < x) = false := decide_eq_false hlx
                    clear hfit hls
                    go_wp2
                    go_quiet (fail)
                    go_wp2
                    go_roundg (al.length - (k + 1))
                    case rel => exact ⟨k + 1, hkl, rfl, by go_num, by rw [Hext.out]; exact HNq, HOq, HLq, below_drewN HBq.out _, Hap2q, Hap3q⟩
                    case measure => rw [Hg3.out]; omega
              · obtain rfl : k = al.length := by omega
                have Hfin := Lib.hid (show N ++ Rk.extTo al s al.length = (L.take (i + 1)).flatMap (Rk.ext al) by rw [Rk.extTo_full, HN.out, Rk.take_flat al L hlt, Hs.out])
                go_wp2
                go_roundg (L.length - (i + 1))
                case rel => exact ⟨i + 1, hlt, rfl, by go_num, by rw [HO2.out.1]; exact HOq, by rw [← Hfin.out]; exact HNq, HLq, HBq, Hap2q, fun g e => ⟨HO2.out.2 g e, Hap3q.out g e⟩⟩
                case measure => rw [Hg2.out]; omega
        · -- END OF A LAYER
          obtain rfl : i = L.length := by omega
          have E1 := Lib.hid (show Rk.outTo p al (m + 1) = O ++ (L.take L.length).filter p by rw [Hsucc.out.1, List.take_length])
          have E2 := Lib.hid (show Rk.layer al (m + 1) = (L.take L.length).flatMap (Rk.ext al) by rw [Hsucc.out.2, List.take_length])
          obtain ⟨TO, hTO⟩ : ∃ TO, TO = O ++ (L.take L.length).filter p := ⟨_, rfl⟩
          obtain ⟨TL, hTL⟩ : ∃ TL, TL = (L.take L.length).flatMap (Rk.ext al) := ⟨_, rfl⟩
          rw [← hTO] at E1 hO2 hap2 ⊢
          rw [← hTL] at E2 hN2 hap2 ⊢
          clear hTO hTL hap3
          go_wp2
          go_roundg (size + 1 - (m + 1))
          case rel => exact ⟨m + 1, by omega, rfl, by go_num, by rw [E1.out]; exact hO2, by rw [E2.out]; exact hN2, hB2, hap2⟩
          case measure => rw [Hg.out]; omega
    · obtain rfl : m = size + 1 := by omega
      have hmz : decide ((size : Int) + 1 ≤ (size : Int)) = false := decide_eq_false (by omega)
      have HBw := Lib.hid (show Below w.heap.size w wr from HB2.out.trans (hL.out.mono HB2.out.size))
      have Hml := Lib.hid (show ∀ s ∈ Rk.outTo p al (size + 1), s.length ≤ 17592186043904 from fun s hs => by have := ((Rk.outTo_mem p al (size + 1) s).1 hs).1; omega)
      obtain ⟨ok, hok⟩ : ∃ ok, ok = (Rk.hitRun (Rk.smallest xss) size).1 := ⟨_, rfl⟩
      have Hok := Lib.hid hok
      have He := Lib.hid (show Rk.hitErr (setsErr xss) ok size = if ok = true then 0 else 3 by unfold Rk.hitErr; rw [Herr.out, if_neg (by simp), if_neg (by omega), if_neg (by omega)])
      rw [← hok] at Hsame
      clear hok hLy hL hap
      cases ok
      · have h256 := Hsame.out.2 rfl
        have hz : decide ((256 : Int) < ((Rk.outTo p al (size + 1)).length : Int)) = true := decide_eq_true (by omega)
        clear hO
        generalize (Rk.outTo p al (size + 1)).length = ol at *
        go_wp2
        go_ret2
        exact ⟨_, 3, [], rfl, ⟨none, 0, [], rfl, Nat.le_refl _, Nat.zero_le _, Reads.none_, fun i hi => by simp at hi⟩, HBw.out, by rw [← Hok.out, He.out]; rfl, rfl⟩
      · obtain ⟨hs1, hs2⟩ := Hsame.out.1 rfl
        have hz : decide ((256 : Int) < ((Rk.outTo p al (size + 1)).length : Int)) = false := decide_eq_false (by omega)
        have HSt := Lib.hid (hO.out.reads (by omega) Hml.out)
        have Hs1 := Lib.hid hs1
        clear hO hs1
        obtain ⟨OO, hOO⟩ : ∃ OO, OO = Rk.outTo p al (size + 1) := ⟨_, rfl⟩
        rw [← hOO] at HSt hs2 hz Hs1 ⊢
        clear hOO
        go_wp2
        go_ret2
        exact ⟨_, 0, OO, rfl, HSt.out, HBw.out, by rw [← Hok.out, He.out]; rfl, by rw [if_pos rfl]; exact Hs1.out⟩
end Go.Proofs.YtfpmbjobieeidaaGreat
