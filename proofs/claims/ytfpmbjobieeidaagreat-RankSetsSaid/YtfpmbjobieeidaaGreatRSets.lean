/-
  The walks of the reference's Ahead and Sets, of big, of Smallest.
-/
import Derived.Test.YtfpmbjobieeidaaGreatHas
import Derived.Test.YtfpmbjobieeidaaGreatSets1
import Derived.Test.YtfpmbjobieeidaaGreatHit
namespace Go.Proofs.YtfpmbjobieeidaaGreat
open Go.RowKit

namespace Rk
theorem ahead_step {xs ys : List Int} {k : Nat} (h : k < xs.length) (h' : k < ys.length) : lex (xs.drop k) (ys.drop k) = if xs.getD k 0 < ys.getD k 0 then -1 else if ys.getD k 0 < xs.getD k 0 then 1 else lex (xs.drop (k + 1)) (ys.drop (k + 1)) := by
  rw [drop_cons h, drop_cons h', lex]
end Rk

set_option maxHeartbeats 800000 in
theorem ahead_any (u v : Value) (xs ys : List Int) (B : Nat) (w : World) (hu : Ints w B u xs) (hv : Ints w B v ys) :
    Calls Tryz.prog 110 #[u, v] w fun e w' => e = .returned (.bool (decide (Rk.ord xs ys < 0))) ∧ ∃ n, w' = w.drewN n := by
  obtain ⟨A, c, rfl, hn, hm, hr⟩ := hu
  obtain ⟨A', c', rfl, hn', hm', hr'⟩ := hv
  clear hn hn'
  by_cases hl : xs.length = ys.length
  · have hlz : ((xs.length : Int) != (ys.length : Int)) = false := by simp [hl]
    have Hl := Lib.hid (show Rk.ord xs ys = Rk.lex xs ys by unfold Rk.ord; rw [if_neg (by omega), if_neg (by omega)])
    have hle : xs.length ≤ ys.length := by omega
    have Hlen := Lib.hid hl
    clear hl
    go_enter Tryz.func110, Tryz.ntmps110
    go_wp2
    go_loopg [5] xs.length (fun g i wr => ∃ k q : Nat, k ≤ xs.length ∧ g = xs.length - k ∧ i = .int .i64 k ∧ wr = w.drewN q ∧ Hid (Rk.ord xs ys = Rk.lex (xs.drop k) (ys.drop k)))
    case atStart => exact ⟨0, 0, Nat.zero_le _, rfl, rfl, rfl, Hl.out⟩
    case round =>
      obtain ⟨k, q, hk, hg, rfl, rfl, he⟩ := hrel
      have Hg := Lib.hid hg
      clear hg
      by_cases hlt : k < xs.length
      · obtain ⟨ad, rfl, _, hc⟩ := ints_at hr hlt
        obtain ⟨ad', rfl, _, hc'⟩ := ints_at hr' (show k < ys.length by omega)
        have hk2 : (k : Int) < (ys.length : Int) := by omega
        have Hs := Lib.hid (he.out.trans (Rk.ahead_step hlt (show k < ys.length by omega)))
        clear hr hr' he
        generalize xs.getD k 0 = x at *
        generalize ys.getD k 0 = y at *
        rcases (show x < y ∨ y < x ∨ x = y by omega) with h | h | h
        · have Hr := Lib.hid (show decide (Rk.ord xs ys < 0) = true by rw [Hs.out, if_pos h]; rfl)
          have hb : (x != y) = true := by simp; omega
          have hb2 : decide (x < y) = true := by simpa using h
          clear Hs
          go_wp2
          go_quiet (fail)
          go_wp2
          go_quiet (fail)
          go_wp2
          go_ret
          exact ⟨ret_bool Hr.out.symm, _, World.drewN_drewN .. |>.trans (World.drewN_drewN ..)⟩
        · have Hr := Lib.hid (show decide (Rk.ord xs ys < 0) = false by rw [Hs.out, if_neg (by omega), if_pos h]; rfl)
          have hb : (x != y) = true := by simp; omega
          have hb2 : decide (x < y) = false := by simp; omega
          clear Hs
          go_wp2
          go_quiet (fail)
          go_wp2
          go_quiet (fail)
          go_wp2
          go_ret
          exact ⟨ret_bool Hr.out.symm, _, World.drewN_drewN .. |>.trans (World.drewN_drewN ..)⟩
        · have Hr := Lib.hid (show Rk.ord xs ys = Rk.lex (xs.drop (k + 1)) (ys.drop (k + 1)) by rw [Hs.out, if_neg (by omega), if_neg (by omega)])
          have hb : (x != y) = false := by simpa using h
          clear Hs h
          go_wp2
          go_quiet (fail)
          go_wp2
          go_roundg (xs.length - (k + 1))
          case rel => exact ⟨k + 1, _, hlt, rfl, by go_num, rfl, Hr⟩
          case measure => rw [Hg.out]; omega
      · obtain rfl : k = xs.length := by omega
        have Hr := Lib.hid (show decide (Rk.ord xs ys < 0) = false by
          rw [he.out, List.drop_of_length_le (Nat.le_refl _), List.drop_of_length_le (by rw [Hlen.out]; exact Nat.le_refl _)]; rfl)
        clear hr hr' he
        go_wp2
        go_ret
        exact ⟨ret_bool Hr.out.symm, q, rfl⟩
  · have hlz : ((xs.length : Int) != (ys.length : Int)) = true := by simp; omega
    rcases (show xs.length < ys.length ∨ ys.length < xs.length by omega) with h | h
    · have Hr := Lib.hid (show decide (Rk.ord xs ys < 0) = true by unfold Rk.ord; simp [h])
      clear hr hr' hl
      go_enter Tryz.func110, Tryz.ntmps110
      go_wp2
      go_ret
      exact ⟨ret_bool (by rw [Hr.out]), 0, rfl⟩
    · have Hr := Lib.hid (show decide (Rk.ord xs ys < 0) = false by unfold Rk.ord; rw [if_neg (by omega), if_pos h]; rfl)
      clear hr hr' hl
      go_enter Tryz.func110, Tryz.ntmps110
      go_wp2
      go_ret
      exact ⟨ret_bool (by rw [Hr.out]; simp; omega), 0, rfl⟩

set_option maxHeartbeats 800000 in
theorem rsets_any (u v : Value) (xss yss : List (List Int)) (B : Nat) (w : World) (hu : Sets w B u xss) (hv : Sets w B v yss) :
    Calls Tryz.prog 16 #[u, v] w fun e w' => e = .returned (.bool (decide (xss = yss))) ∧ ∃ n, w' = w.drewN n := by
  obtain ⟨A, c, vs, rfl, hn, hm, hr, hi⟩ := hu
  obtain ⟨A', c', vs', rfl, hn', hm', hr', hi'⟩ := hv
  clear hn hn'
  by_cases hl : xss.length = yss.length
  · have hlz : ((xss.length : Int) != (yss.length : Int)) = false := by simp [hl]
    have Hl := Lib.hid hl
    have hle : xss.length ≤ yss.length := by omega
    clear hl
    go_enter Tryz.func16, Tryz.ntmps16
    go_wp2
    go_loopg [5] xss.length (fun g i wr => ∃ k q : Nat, k ≤ xss.length ∧ g = xss.length - k ∧ i = .int .i64 k ∧ wr = w.drewN q ∧ Hid (∀ j, j < k → xss.getD j [] = yss.getD j []))
    case atStart => exact ⟨0, 0, Nat.zero_le _, rfl, rfl, rfl, fun j h => by omega⟩
    case round =>
      obtain ⟨k, q, hk, hg, rfl, rfl, he⟩ := hrel
      have Hg := Lib.hid hg
      clear hg
      by_cases hlt : k < xss.length
      · obtain ⟨ad, u1, rfl, _, hc, hu⟩ := sets_at hr hi hlt
        obtain ⟨ad', u2, rfl, _, hc', hu'⟩ := sets_at hr' hi' (show k < yss.length by omega)
        have hk2 : (k : Int) < (yss.length : Int) := by omega
        have HI := Lib.hid (fun m => rints_any u1 u2 _ _ B (w.drewN m) (hu.keep fun _ _ => rfl) (hu'.keep fun _ _ => rfl))
        by_cases hx : xss.getD k [] = yss.getD k []
        · have He := Lib.hid (show ∀ j, j < k + 1 → xss.getD j [] = yss.getD j [] from fun j hj => by
            by_cases e : j = k
            · rw [e]; exact hx
            · exact he.out j (by omega))
          rw [decide_eq_true hx] at HI
          clear hr hr' he hx hi hi' hu hu'
          go_wp2
          go_quiet ((go_at_call 46; refine (HI.out _).mono ?_; rintro e w2 ⟨h1, n, h2⟩; exact ⟨h1, _, h2.trans ((World.drewN_drewN ..).trans (congrArg w.drewN (Nat.add_assoc ..)))⟩))
          go_wp2
          go_roundg (xss.length - (k + 1))
          case rel => exact ⟨k + 1, _, hlt, rfl, by go_num, rfl, He⟩
          case measure => rw [Hg.out]; omega
        · have Hr := Lib.hid (show decide (xss = yss) = false from decide_eq_false (fun e => hx (by rw [e])))
          rw [decide_eq_false hx] at HI
          clear hr hr' he hx hi hi' hu hu'
          go_wp2
          go_quiet ((go_at_call 46; refine (HI.out _).mono ?_; rintro e w2 ⟨h1, n, h2⟩; exact ⟨h1, _, h2.trans ((World.drewN_drewN ..).trans (congrArg w.drewN (Nat.add_assoc ..)))⟩))
          go_wp2
          go_ret
          exact ⟨ret_bool Hr.out.symm, _, World.drewN_drewN ..⟩
      · obtain rfl : k = xss.length := by omega
        have Hr := Lib.hid (show decide (xss = yss) = true from decide_eq_true (by
          apply List.ext_getElem Hl.out
          intro i h1 h2
          have := he.out i h1
          rw [List.getD_eq_getElem?_getD, List.getD_eq_getElem?_getD, List.getElem?_eq_getElem h1, List.getElem?_eq_getElem h2] at this
          exact this))
        clear hr hr' he hi hi'
        go_wp2
        go_ret
        exact ⟨ret_bool Hr.out.symm, q, rfl⟩
  · have hlz : ((xss.length : Int) != (yss.length : Int)) = true := by simp; omega
    have Hr := Lib.hid (show decide (xss = yss) = false from decide_eq_false (fun e => hl (by rw [e])))
    clear hl hr hr' hi hi'
    go_enter Tryz.func16, Tryz.ntmps16
    go_wp2
    go_ret
    exact ⟨ret_bool Hr.out.symm, 0, rfl⟩

set_option maxHeartbeats 800000 in
/-- Smallest at sets that may be. -/
theorem smallestOf_any (v : Value) (xss : List (List Int)) (B : Nat) (w : World) (hv : Sets w B v xss) (hB : B ≤ w.heap.size) (he : setsErr xss = 0) (hmany : xss.length ≤ 256) (hlong : ∀ s ∈ xss, s.length ≤ 256) :
    Calls Tryz.prog 20 #[v] w fun e w' => ∃ v', e = .returned (.tuple #[v', .int .i64 0]) ∧ OwnSets w' w.heap.size v' (Rk.smallest xss) ∧ Below w.heap.size w w' := by
  have HC := Lib.hid (checksets_any v xss B w hv)
  rw [he] at HC
  have HS := Lib.hid (smallest_any v xss B w hv hB (by omega) (fun s hs => by have := hlong s hs; omega))
  clear he hmany hlong
  go_enter Tryz.func20, Tryz.ntmps20
  go_wp2_with (first | (go_at_call 22; refine HC.out.mono ?_; rintro e w' ⟨rfl, rfl⟩) | (go_at_call 54; refine HS.out.mono ?_; rintro e w' ⟨v1, rfl, hown, hb⟩))
  go_ret2
  exact ⟨_, rfl, hown, hb⟩

def AnyBool (e : Ending) : Prop := ∃ b, e = .returned (.bool b)
set_option maxRecDepth 20000 in
set_option maxHeartbeats 2000000 in
theorem big_any (v : Value) (xss : List (List Int)) (size : Int) (B : Nat) (w : World) (hv : Sets w B v xss) :
    Calls Tryz.prog 19 #[v, .int .i64 size] w fun e w' => AnyBool e ∧ w = w' := by
  obtain ⟨A, c, vs, rfl, hn, hm, hr, hi⟩ := hv
  clear hn
  go_enter Tryz.func19, Tryz.ntmps19
  go_wp2
  go_loop [5, 6] (fun s i => ∃ k n : Nat, k ≤ xss.length ∧ k ≤ 300 ∧ i = .int .i64 k ∧ s = .int .i64 n ∧ n ≤ 1000 * k) (fun _ i => 300 - (intOf i).toNat)
  case atStart => exact ⟨0, 0, Nat.zero_le _, Nat.zero_le _, rfl, rfl, Nat.le_refl _⟩
  case round =>
    obtain ⟨k, n, hk, hk3, rfl, rfl, hb⟩ := hrel
    by_cases hlt : k < xss.length ∧ k < 300
    · obtain ⟨hlt, hlt3⟩ := hlt
      obtain ⟨ad, u, rfl, _, hc, hu⟩ := sets_at hr hi hlt
      obtain ⟨A1, c1, rfl, _, hm1, _⟩ := hu
      clear hr hi
      generalize xss.getD k [] = s at *
      by_cases hs : s.length ≤ 1000
      · go_wp2
        go_round
        case rel => exact ⟨k + 1, n + s.length, hlt, hlt3, by go_num, by go_num, by omega⟩
        case measure => simp [intOf]; omega
      · go_wp2
        go_round
        case rel => exact ⟨k + 1, n + 1000, hlt, hlt3, by go_num, by go_num, by omega⟩
        case measure => simp [intOf]; omega
    · clear hr hi
      have hx : ¬ k < xss.length ∨ k < xss.length ∧ 300 ≤ k := by omega
      rcases hx with hx | ⟨hx, hx3⟩
      all_goals
        rcases (show (20 < xss.length ∧ xss.length ≤ 256) ∨ 300 < xss.length ∨ (xss.length ≤ 20 ∧ xss.length ≤ 300) ∨ (20 < xss.length ∧ 256 < xss.length ∧ xss.length ≤ 300) by omega) with ⟨h1, h2⟩ | h1 | ⟨h1, h2⟩ | ⟨h1, h2, h3⟩
        all_goals
          rcases (show 60 < n ∨ n ≤ 60 ∧ size ≠ 3 ∨ 30 < n ∧ n ≤ 60 ∧ size = 3 ∨ n ≤ 30 ∧ size = 3 by omega) with g1 | ⟨g1, g2⟩ | ⟨g1, g2, g3⟩ | ⟨g1, g2⟩
          all_goals
            first
            | (exfalso; omega)
            | ((first
                | (have g4 : (size == 3) = false := by simpa using g2)
                | (have g4 : (size == 3) = true := by simp; omega)
                | skip)
               go_wp2
               all_goals
                 go_ret
                 exact ⟨⟨_, rfl⟩, rfl⟩)
end Go.Proofs.YtfpmbjobieeidaaGreat
