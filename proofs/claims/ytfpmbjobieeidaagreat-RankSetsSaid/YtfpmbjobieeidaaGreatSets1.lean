/-
  The walks of slices.Compare, order, within, ints.
-/
import Derived.Test.YtfpmbjobieeidaaGreatBase
import Derived.Test.YtfpmbjobieeidaaGreatPlainA
import Derived.Test.YtfpmbjobieeidaaGreatShelf
namespace Go.Proofs.YtfpmbjobieeidaaGreat
open Go.RowKit

theorem cmp_case (x y c : Int) (h : x < y ∧ c = -1 ∨ x = y ∧ c = 0 ∨ y < x ∧ c = 1) (w : World) :
    Calls Tryz.prog 105 #[.int .i64 x, .int .i64 y] w fun e w' => e = .returned (.int .i64 c) ∧ w = w' := by
  have e : Lib.compareInt x y = c := by
    unfold Lib.compareInt
    rcases h with ⟨h, rfl⟩ | ⟨h, rfl⟩ | ⟨h, rfl⟩
    · simp [h]
    · subst h; simp
    · rw [if_neg (by omega), if_pos h]
  have h := Tryz.cmp_Compare_int x y w
  rw [e] at h
  exact h.mono fun _ _ ⟨he, hw⟩ => ⟨he, hw.symm⟩

set_option maxHeartbeats 1000000 in
theorem slicesCompare_any (u v : Value) (xs ys : List Int) (B : Nat) (w : World) (hu : Ints w B u xs) (hv : Ints w B v ys) :
    Calls Tryz.prog 106 #[u, v] w fun e w' => e = .returned (.int .i64 (Rk.lex xs ys)) ∧ w = w' := by
  obtain ⟨A, c, rfl, hn, hm, hr⟩ := hu
  obtain ⟨A', c', rfl, hn', hm', hr'⟩ := hv
  have hlen : xs.length ≤ 17592186043904 := by omega
  have hlen' : ys.length ≤ 17592186043904 := by omega
  clear hn hm hn' hm'
  go_enter Tryz.func106, Tryz.ntmps106
  go_wp2
  go_loop [11] (fun i => ∃ k : Nat, k ≤ xs.length ∧ k ≤ ys.length ∧ i = .int .i64 k ∧ Hid (Rk.lex xs ys = Rk.lex (xs.drop k) (ys.drop k))) (fun i => xs.length - (intOf i).toNat)
  case atStart => exact ⟨0, Nat.zero_le _, Nat.zero_le _, rfl, rfl⟩
  case round =>
    obtain ⟨k, hk, hk', rfl, hi⟩ := hrel
    by_cases hlt : k < xs.length
    · obtain ⟨ad, rfl, _, hc⟩ := ints_at hr hlt
      by_cases hlt' : k < ys.length
      · obtain ⟨ad', rfl, _, hc'⟩ := ints_at hr' hlt'
        have Hs := Lib.hid (show Rk.lex xs ys = if xs.getD k 0 < ys.getD k 0 then -1 else if ys.getD k 0 < xs.getD k 0 then 1 else Rk.lex (xs.drop (k + 1)) (ys.drop (k + 1)) by
          rw [hi.out, Rk.drop_cons hlt, Rk.drop_cons hlt', Rk.lex])
        clear hr hr' hi
        generalize xs.getD k 0 = x at *
        generalize ys.getD k 0 = y at *
        rcases (show x < y ∨ y < x ∨ x = y by omega) with h | h | h
        · have Hr := Lib.hid (show Rk.lex xs ys = -1 by rw [Hs.out, if_pos h])
          clear Hs
          go_wp2_with (go_at_call 105; refine (cmp_case _ _ (-1) (.inl ⟨h, rfl⟩) _).mono ?_; rintro e w' ⟨rfl, rfl⟩)
          go_ret
          exact ⟨ret_int Hr.out.symm, rfl⟩
        · have Hr := Lib.hid (show Rk.lex xs ys = 1 by rw [Hs.out, if_neg (by omega), if_pos h])
          clear Hs
          go_wp2_with (go_at_call 105; refine (cmp_case _ _ 1 (.inr (.inr ⟨h, rfl⟩)) _).mono ?_; rintro e w' ⟨rfl, rfl⟩)
          go_ret
          exact ⟨ret_int Hr.out.symm, rfl⟩
        · have Hr := Lib.hid (show Rk.lex xs ys = Rk.lex (xs.drop (k + 1)) (ys.drop (k + 1)) by rw [Hs.out, if_neg (by omega), if_neg (by omega)])
          clear Hs
          subst h
          go_wp2_with (go_at_call 105; refine (cmp_case _ _ 0 (.inr (.inl ⟨rfl, rfl⟩)) _).mono ?_; rintro e w' ⟨rfl, rfl⟩)
          go_round
          case rel => exact ⟨k + 1, by omega, by omega, by go_num, Hr⟩
          case measure => simp [intOf]; omega
      · have Hr := Lib.hid (show Rk.lex xs ys = 1 by
          rw [hi.out, Rk.drop_cons hlt, List.drop_of_length_le (show ys.length ≤ k by omega), Rk.lex])
        clear hr hr' hi
        go_wp2
        go_ret
        exact ⟨ret_int Hr.out.symm, rfl⟩
    · have he := hi.out
      rw [List.drop_of_length_le (show xs.length ≤ k by omega)] at he
      by_cases hlt' : k < ys.length
      · have Hr := Lib.hid (show Rk.lex xs ys = -1 by rw [he, Rk.drop_cons hlt', Rk.lex])
        clear hi he
        go_wp2
        go_ret
        exact ⟨ret_int Hr.out.symm, rfl⟩
      · have Hr := Lib.hid (show Rk.lex xs ys = 0 by rw [he, List.drop_of_length_le (show ys.length ≤ k by omega), Rk.lex])
        clear hi he
        go_wp2
        go_ret
        exact ⟨ret_int Hr.out.symm, rfl⟩

set_option maxHeartbeats 400000 in
theorem order_any (u v : Value) (xs ys : List Int) (B : Nat) (w : World) (hu : Ints w B u xs) (hv : Ints w B v ys) :
    Calls Tryz.prog 64 #[u, v] w fun e w' => e = .returned (.int .i64 (Rk.ord xs ys)) ∧ w = w' := by
  have Hc := Lib.hid (slicesCompare_any u v xs ys B w hu hv)
  obtain ⟨A, c, rfl, hn, hm, hr⟩ := hu
  obtain ⟨A', c', rfl, hn', hm', hr'⟩ := hv
  clear hn hm hn' hm' hr hr'
  rcases (show xs.length < ys.length ∨ ys.length < xs.length ∨ xs.length = ys.length by omega) with h | h | h
  · have Hr := Lib.hid (show Rk.ord xs ys = -1 by unfold Rk.ord; rw [if_pos h])
    go_enter Tryz.func64, Tryz.ntmps64
    go_wp2_with (go_at_call 105; refine (cmp_case _ _ (-1) (.inl ⟨by omega, rfl⟩) _).mono ?_; rintro e w' ⟨rfl, rfl⟩)
    go_ret
    exact ⟨ret_int Hr.out.symm, rfl⟩
  · have Hr := Lib.hid (show Rk.ord xs ys = 1 by unfold Rk.ord; rw [if_neg (by omega), if_pos h])
    go_enter Tryz.func64, Tryz.ntmps64
    go_wp2_with (go_at_call 105; refine (cmp_case _ _ 1 (.inr (.inr ⟨by omega, rfl⟩)) _).mono ?_; rintro e w' ⟨rfl, rfl⟩)
    go_ret
    exact ⟨ret_int Hr.out.symm, rfl⟩
  · have Hr := Lib.hid (show Rk.ord xs ys = Rk.lex xs ys by unfold Rk.ord; rw [if_neg (by omega), if_neg (by omega)])
    have h1 : (xs.length : Int) ≤ ys.length := by omega
    have h2 : (ys.length : Int) ≤ xs.length := by omega
    clear h
    go_enter Tryz.func64, Tryz.ntmps64
    go_wp2_with (first | (go_at_call 105; refine (cmp_case _ _ 0 (.inr (.inl ⟨by omega, rfl⟩)) _).mono ?_; rintro e w' ⟨rfl, rfl⟩) | (go_at_call 106; refine Hc.out.mono ?_; rintro e w' ⟨rfl, rfl⟩))
    go_ret
    exact ⟨ret_int Hr.out.symm, rfl⟩

set_option maxHeartbeats 1000000 in
theorem within_any (u v : Value) (xs ys : List Int) (B : Nat) (w : World) (hu : Ints w B u xs) (hv : Ints w B v ys) :
    Calls Tryz.prog 99 #[u, v] w fun e w' => e = .returned (.bool (Rk.within xs ys)) ∧ w = w' := by
  obtain ⟨A, c, rfl, hn, hm, hr⟩ := hu
  obtain ⟨A', c', rfl, hn', hm', hr'⟩ := hv
  have hlen : xs.length ≤ 17592186043904 := by omega
  have hlen' : ys.length ≤ 17592186043904 := by omega
  clear hn hm hn' hm'
  go_enter Tryz.func99, Tryz.ntmps99
  go_wp2
  go_loop [5, 10] (fun q i => ∃ k l : Nat, k ≤ xs.length ∧ l ≤ ys.length ∧ i = .int .i64 k ∧ q = .int .i64 l ∧ Hid (Rk.within xs ys = Rk.within (xs.drop k) (ys.drop l))) (fun _ i => xs.length - (intOf i).toNat)
  case atStart => exact ⟨0, 0, Nat.zero_le _, Nat.zero_le _, rfl, rfl, rfl⟩
  case round =>
    obtain ⟨k, l, hk, hl, rfl, rfl, hi⟩ := hrel
    by_cases hlt : k < xs.length
    · obtain ⟨ad, rfl, _, hc⟩ := ints_at hr hlt
      have Hs := Lib.hid (show Rk.within xs ys = Rk.wcheck (xs.getD k 0) (xs.drop (k + 1)) ((ys.drop l).dropWhile (· < xs.getD k 0)) by
        rw [hi.out, Rk.drop_cons hlt, Rk.within_cons])
      clear hi hr
      generalize xs.getD k 0 = x at *
      go_wp2
      go_loop [5] (fun q => ∃ m : Nat, m ≤ ys.length ∧ q = .int .i64 m ∧ Hid ((ys.drop l).dropWhile (· < x) = (ys.drop m).dropWhile (· < x))) (fun q => ys.length - (intOf q).toNat)
      case atStart => exact ⟨l, hl, rfl, rfl⟩
      case round =>
        obtain ⟨m, hm, rfl, hj⟩ := hrel
        by_cases hlt' : m < ys.length
        · obtain ⟨ad', rfl, _, hc'⟩ := ints_at hr' hlt'
          have he := hj.out
          rw [Rk.drop_cons hlt', List.dropWhile_cons] at he
          by_cases hy : ys.getD m 0 < x
          · have Hj := Lib.hid (show (ys.drop l).dropWhile (· < x) = (ys.drop (m + 1)).dropWhile (· < x) by rw [he, if_pos (decide_eq_true hy)])
            clear hj he hr' Hs
            generalize ys.getD m 0 = y at *
            go_wp2
            go_round
            case rel => exact ⟨m + 1, by omega, by go_num, Hj⟩
            case measure => simp [intOf]; omega
          · have he' : (ys.drop l).dropWhile (· < x) = ys.getD m 0 :: ys.drop (m + 1) := by rw [he, if_neg (by rw [decide_eq_false hy]; exact Bool.false_ne_true)]
            have hs := Hs.out
            rw [he'] at hs
            rw [Rk.wcheck] at hs
            by_cases hyx : ys.getD m 0 = x
            · rw [if_pos hyx, ← Rk.drop_cons hlt'] at hs
              have Hr := Lib.hid hs
              clear hj he he' hs Hs hr'
              have hy1 : ys.getD m 0 ≤ x := by omega
              have hy2 : (ys.getD m 0 != x) = false := by simp only [bne_eq_false_iff_eq]; exact hyx
              have hmb : ((m : Int) == ys.length) = false := by simp; omega
              have hmc : ¬ (m : Int) = ys.length := by omega
              clear hyx
              generalize ys.getD m 0 = y at *
              go_wp2
              all_goals
                refine ⟨⟨k + 1, m, by omega, by omega, by go_num, rfl, Hr⟩, ?_⟩
                simp [intOf]; omega
            · rw [if_neg hyx] at hs
              have Hr := Lib.hid hs
              have hy3 : (ys.getD m 0 != x) = true := by rw [bne_iff_ne]; exact hyx
              have hmb : ((m : Int) == ys.length) = false := by simp; omega
              clear hj he he' hs Hs hr' hyx
              generalize ys.getD m 0 = y at *
              go_wp2
              go_ret
              exact ⟨ret_bool Hr.out.symm, rfl⟩
        · have hs := Hs.out
          rw [hj.out, List.drop_of_length_le (show ys.length ≤ m by omega)] at hs
          replace hs : Rk.within xs ys = false := hs
          have Hr := Lib.hid hs
          clear hj hs Hs
          have hm1 : (m : Int) = ys.length := by omega
          have hm2 : ((m : Int) == ys.length) = true := by simp [hm1]
          clear hm1
          go_wp2
          go_ret
          exact ⟨ret_bool Hr.out.symm, rfl⟩
    · have Hr := Lib.hid (show Rk.within xs ys = true by
        rw [hi.out, List.drop_of_length_le (show xs.length ≤ k by omega)]; unfold Rk.within; rfl)
      clear hi
      go_wp2
      go_ret
      exact ⟨ret_bool Hr.out.symm, rfl⟩

end Go.Proofs.YtfpmbjobieeidaaGreat
