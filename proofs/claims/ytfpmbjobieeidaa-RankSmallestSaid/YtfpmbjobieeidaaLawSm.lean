/-
  RankSmallest: hitting the smallest ones of some sets is hitting all of them.
-/
import Derived.Test.YtfpmbjobieeidaaExam
import Derived.Test.YtfpmbjobieeidaaRSets
import Derived.Test.YtfpmbjobieeidaaBw
namespace Go.Proofs.Ytfpmbjobieeidaa
open Go.RowKit

theorem setsErr_ok {xss : List (List Int)} (herr : setsErr xss = 0) : xss.length ≤ 256 ∧ ∀ s ∈ xss, Rk.Incr 256 s := by
  have hmany : xss.length ≤ 256 := by
    unfold setsErr at herr
    split at herr
    · cases herr
    · omega
  refine ⟨hmany, ?_⟩
  unfold setsErr at herr
  rw [if_neg (by omega)] at herr
  split at herr
  · rename_i h
    intro s hs
    obtain ⟨i, hi, rfl⟩ := List.mem_iff_getElem.1 hs
    have := h i hi
    rw [List.getD_eq_getElem?_getD, List.getElem?_eq_getElem hi] at this
    exact of_decide_eq_true this
  · cases herr
theorem setsErr_of {xss : List (List Int)} (h1 : xss.length ≤ 256) (h2 : ∀ s ∈ xss, Rk.Incr 256 s) : setsErr xss = 0 := by
  unfold setsErr
  rw [if_neg (by omega), if_pos]
  intro i hi
  exact decide_eq_true (h2 _ (Rk.memD hi))
theorem quiet_same {P : Program} {f : FuncId} {args : Array Value} {w : World} {q x : Nat} {v : Value} (h : Calls P f args (w.drewN (q + x)) fun e w' => e = .returned v ∧ w.drewN (q + x) = w') :
    Calls P f args (w.drewN (q + x)) fun e w'' => e = .returned v ∧ ∃ n, w'' = w.drewN (q + n) := h.mono fun _ _ ⟨he, hw⟩ => ⟨he, x, hw.symm⟩

set_option maxRecDepth 100000 in
set_option maxHeartbeats 4000000 in
theorem rankSmallest_any (v vo : Value) (xss : List (List Int)) (size : Int) (other : List Int) (B : Nat) (w : World) (hv : Sets w B v xss) (ho : Ints w B vo other) (hB : B ≤ w.heap.size) :
    Calls Try.prog 8 #[v, .int .i64 size, vo] w fun e w' => e = .returned (.bool true) ∧ Below w.heap.size w w' := by
  have HR := Lib.hid ranks_any
  obtain ⟨Ao, co, rfl, hon, hom, hor⟩ := ho
  obtain ⟨A, c, vs, rfl, hn, hm, hr, hi⟩ := hv
  have Ho := Lib.hid (show Ints w B (.slice Ao other.length co) other from ⟨Ao, co, rfl, hon, hom, hor⟩)
  have Hv := Lib.hid (show Sets w B (.slice A xss.length c) xss from ⟨A, c, vs, rfl, hn, hm, hr, hi⟩)
  clear hor hon hr hi hn
  have HB := Lib.hid (big_any _ xss size B w Hv.out)
  have HC := Lib.hid (rchecksets_any _ xss B w Hv.out)
  go_enter Try.func8, Try.ntmps8
  go_wp2_with fail
  refine HB.out.mono ?_
  rintro e w0 ⟨⟨b, rfl⟩, rfl⟩
  clear HB
  cases b
  · by_cases h60 : 60 < other.length
    · go_wp2_with fail
      refine (HR.out _).mono ?_
      rintro e w1 ⟨rfl, hb⟩
      go_wp2
      go_ret
      exact ⟨rfl, hb⟩
    · by_cases he : setsErr xss = 0
      · rw [he] at HC
        go_wp2_with fail
        refine HC.out.mono ?_
        rintro e w1 ⟨rfl, q, rfl⟩
        obtain ⟨hmany, hincr⟩ := setsErr_ok he
        have hlong : ∀ s ∈ xss, s.length ≤ 256 := fun s hs => by have := (hincr s hs).length_le; omega
        have hpw : ∀ s ∈ xss, s.Pairwise (· < ·) := fun s hs => (hincr s hs).pairwise
        obtain ⟨_, _, _, hmem, hlen⟩ := Rk.smallest_inv hpw
        have HS := Lib.hid (smallestOf_any _ xss B (w.drewN q) (Hv.out.keep fun _ _ => rfl) hB he hmany hlong)
        have Hell := Lib.hid (setsErr_of (xss := Rk.smallest xss) (by omega) (fun s hs => hincr s (hmem s hs)))
        have Htw := Lib.hid (Rk.smallest_twice hpw)
        have Hhits := Lib.hid (Rk.smallest_hits hpw other)
        have Hap := Lib.hid (fun i k => Rk.smallest_apart (i := i) (k := k) hpw)
        have hLl : (Rk.smallest xss).length ≤ 256 := by omega
        have HLs := Lib.hid (show ∀ s ∈ Rk.smallest xss, s.length ≤ 256 from fun s hs => hlong s (hmem s hs))
        have He := Lib.hid he
        clear hincr hlong hpw hmem he HC
        obtain ⟨L, hL⟩ : ∃ L, Rk.smallest xss = L := ⟨_, rfl⟩
        rw [hL] at HS Hell Htw Hhits Hap hLl HLs
        have HL := Lib.hid hL
        clear hL hlen
        go_wp2_with fail
        refine HS.out.mono ?_
        rintro e w1 ⟨vl, rfl, hown, hb⟩
        have hsets := hown.reads (by omega) (fun s hs => by have := HLs.out s hs; omega)
        have HB1 := Lib.hid (show Below w.heap.size w w1 from (below_drewN (Below.refl _ _) q).trans hb)
        obtain ⟨Al, cl, vsl, rfl, hln, hlm, hlr, hli⟩ := hsets
        have HLv := Lib.hid (show Sets w1 w1.heap.size (.slice Al L.length cl) L from ⟨Al, cl, vsl, rfl, hln, hlm, hlr, hli⟩)
        clear hown hb HS hln hlr hli
        have HC2 := Lib.hid (rchecksets_any _ L _ w1 HLv.out)
        rw [Hell.out] at HC2
        go_wp2_with fail
        refine HC2.out.mono ?_
        rintro e w2 ⟨rfl, q2, rfl⟩
        clear HC2
        have HH1 := Lib.hid (rhits_any _ _ other L w1.heap.size (w1.drewN q2) ((Ho.out.below (HB1.out.mono hB)).more (Nat.le_trans hB HB1.out.size) |>.keep fun _ _ => rfl) (HLv.out.keep fun _ _ => rfl))
        have HH2 := Lib.hid (rhits_any _ _ other xss B (w1.drewN q2) ((Ho.out.below (HB1.out.mono hB)).keep fun _ _ => rfl) ((Hv.out.below (HB1.out.mono hB)).keep fun _ _ => rfl))
        rw [Hhits.out] at HH1
        generalize Rk.hits other xss = hb at *
        have hbb : (hb != hb) = false := by cases hb <;> rfl
        go_wp2_with fail
        refine HH1.out.mono ?_
        rintro e w2 ⟨rfl, rfl⟩
        go_wp2_with fail
        refine HH2.out.mono ?_
        rintro e w2 ⟨rfl, rfl⟩
        clear HH1 HH2 Hhits
        go_wp2
        go_loopg [9] L.length (fun g i wr => ∃ k q : Nat, k ≤ L.length ∧ g = L.length - k ∧ i = .int .i64 k ∧ wr = w1.drewN q)
        case atStart => exact ⟨0, q2, Nat.zero_le _, rfl, rfl, rfl⟩
        case round =>
          obtain ⟨k, q3, hk, hg, rfl, rfl⟩ := hrel
          have Hg := Lib.hid hg
          clear hg
          by_cases hlt : k < L.length
          · go_wp2
            go_loopg [10] L.length (fun g j wr => ∃ m q : Nat, m ≤ L.length ∧ g = L.length - m ∧ j = .int .i64 m ∧ wr = w1.drewN q)
            case atStart => exact ⟨0, q3, Nat.zero_le _, rfl, rfl, rfl⟩
            case round =>
              obtain ⟨m, q4, hm, hg2, rfl, rfl⟩ := hrel
              have Hg2 := Lib.hid hg2
              clear hg2
              by_cases hlt2 : m < L.length
              · by_cases hkm : k = m
                · have hb : ((k : Int) != (m : Int)) = false := by simp [hkm]
                  go_wp2
                  go_quiet (fail)
                  go_wp2
                  go_roundg (L.length - (m + 1))
                  case rel => exact ⟨m + 1, _, hlt2, rfl, by go_num, rfl⟩
                  case measure => rw [Hg2.out]; omega
                · have hb : ((k : Int) != (m : Int)) = true := by simp; omega
                  obtain ⟨Al', cl', vsl', e1, _, _, hr, hi⟩ := HLv.out
                  obtain rfl : Al = Al' := by injection e1
                  obtain ⟨ad, u1, rfl, hb1, hc, hu⟩ := sets_at hr hi hlt
                  obtain ⟨ad', u2, ead, _, hc', hu'⟩ := sets_at hr hi hlt2
                  injection ead with ead
                  subst ead
                  have HI := Lib.hid (fun n => rwithin_any u1 u2 _ _ w1.heap.size (w1.drewN n) (hu.keep fun _ _ => rfl) (hu'.keep fun _ _ => rfl))
                  rw [Hap.out k m hlt hlt2 hkm] at HI
                  clear hr hi e1 hu hu' hkm
                  go_wp2
                  go_quiet ((go_at_call 26; exact quiet_same (HI.out _)))
                  go_wp2
                  go_roundg (L.length - (m + 1))
                  case rel => exact ⟨m + 1, _, hlt2, rfl, by go_num, rfl⟩
                  case measure => rw [Hg2.out]; omega
              · go_wp2
                go_roundg (L.length - (k + 1))
                case rel => exact ⟨k + 1, q4, hlt, rfl, by go_num, rfl⟩
                case measure => rw [Hg.out]; omega
          · by_cases hsz : size < 0 ∨ 3 < size
            · rcases (show size < 0 ∨ 0 ≤ size ∧ 3 < size by omega) with hs | ⟨hs, hs3⟩
              all_goals
                go_wp2_with fail
                refine (HR.out _).mono ?_
                rintro e w2 ⟨rfl, hb⟩
                go_wp2
                go_ret
                exact ⟨rfl, HB1.out.trans ((below_drewN (Below.refl _ _) q3).trans hb |>.mono HB1.out.size)⟩
            · have hs0 : 0 ≤ size := by omega
              have hs3 : size ≤ 3 := by omega
              have HH1 := Lib.hid (hit_any (.slice A xss.length c) xss size B (w1.drewN q3) ((Hv.out.below (HB1.out.mono hB)).keep fun _ _ => rfl) (Nat.le_trans hB HB1.out.size))
              go_wp2_with fail
              refine HH1.out.mono ?_
              rintro e w2 ⟨va, ea, la, rfl, hsa, hba, hea, hla⟩
              rw [HL.out, He.out] at hea
              rw [HL.out] at hla
              have HB2 := Lib.hid (show Below w1.heap.size w1 w2 from (below_drewN (Below.refl _ _) q3).trans hba)
              have HH2 := Lib.hid (hit_any (.slice Al L.length cl) L size _ w2 (HLv.out.below HB2.out) HB2.out.size)
              obtain ⟨Aa, ca, vsa, rfl, han, ham, har, hai⟩ := hsa
              have HSa := Lib.hid (show Sets w2 w2.heap.size (.slice Aa la.length ca) la from ⟨Aa, ca, vsa, rfl, han, ham, har, hai⟩)
              have Hea := Lib.hid hea
              have Hla := Lib.hid hla
              clear HH1 hba har hai han hea hla
              go_wp2_with fail
              refine HH2.out.mono ?_
              rintro e w3 ⟨vb, eb, lb, rfl, hsb, hbb3, heb, hlb⟩
              rw [Htw.out, Hell.out, ← Hea.out] at heb
              subst heb
              rw [Htw.out, ← Hla.out] at hlb
              subst hlb
              have HB3 := Lib.hid (show Below w.heap.size w w3 from HB1.out.trans ((HB2.out.trans (hbb3.mono HB2.out.size)).mono HB1.out.size))
              have HSS := Lib.hid (rsets_any _ _ _ _ w3.heap.size w3 ((HSa.out.below hbb3).more hbb3.size) hsb)
              rw [decide_eq_true rfl] at HSS
              obtain ⟨Ab, cb, vsb, rfl, hbn, hbm, hbr, hbi⟩ := hsb
              have hee : (eb == eb) = true := by simp
              clear HH2 hbb3 hbr hbi hbn Hea Hla
              go_wp2_with fail
              refine HSS.out.mono ?_
              rintro e w4 ⟨rfl, q5, rfl⟩
              go_wp2_with fail
              refine (HR.out _).mono ?_
              rintro e w4 ⟨rfl, hb⟩
              go_wp2
              go_ret
              exact ⟨rfl, HB3.out.trans ((below_drewN (Below.refl _ _) q5).trans hb |>.mono HB3.out.size)⟩
      · go_wp2_with fail
        refine HC.out.mono ?_
        rintro e w1 ⟨rfl, q, rfl⟩
        have hne : (setsErr xss != 0) = true := by simpa using he
        generalize setsErr xss = er at *
        go_wp2_with fail
        refine (HR.out _).mono ?_
        rintro e w1 ⟨rfl, hb⟩
        go_wp2
        go_ret
        exact ⟨rfl, (below_drewN (Below.refl _ _) q).trans hb⟩
  · go_wp2_with fail
    refine (HR.out _).mono ?_
    rintro e w1 ⟨rfl, hb⟩
    go_wp2
    go_ret
    exact ⟨rfl, hb⟩
end Go.Proofs.Ytfpmbjobieeidaa
