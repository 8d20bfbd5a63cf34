/-
  The walks of the reference's has, Within, Hits, Ahead, Sets.
-/
import Derived.Test.YtfpmbjobieeidaaGreatRInts
import Derived.Test.YtfpmbjobieeidaaGreatPlainJ
namespace Go.Proofs.YtfpmbjobieeidaaGreat
open Go.RowKit

set_option maxHeartbeats 400000 in
theorem has_any (u : Value) (xs : List Int) (n : Int) (B : Nat) (w : World) (hu : Ints w B u xs) :
    Calls Tryz.prog 51 #[u, .int .i64 n] w fun e w' => e = .returned (.bool (decide (n ∈ xs))) ∧ w = w' := by
  obtain ⟨A, c, rfl, hn, hm, hr⟩ := hu
  clear hn
  go_enter Tryz.func51, Tryz.ntmps51
  go_wp2
  go_loop [5] (fun i => ∃ k : Nat, k ≤ xs.length ∧ i = .int .i64 k ∧ Hid (∀ j, j < k → xs.getD j 0 ≠ n)) (fun i => xs.length - (intOf i).toNat)
  case atStart => exact ⟨0, Nat.zero_le _, rfl, fun j h => by omega⟩
  case round =>
    obtain ⟨k, hk, rfl, he⟩ := hrel
    by_cases hlt : k < xs.length
    · obtain ⟨ad, rfl, _, hc⟩ := ints_at hr hlt
      by_cases hx : xs.getD k 0 = n
      · have Hr := Lib.hid (show decide (n ∈ xs) = true from decide_eq_true (by rw [← hx]; exact Rk.memD hlt))
        have hb : (xs.getD k 0 == n) = true := by simpa using hx
        clear hr he hx
        generalize xs.getD k 0 = x at *
        go_wp2
        go_ret
        exact ⟨ret_bool Hr.out.symm, rfl⟩
      · have He := Lib.hid (show ∀ j, j < k + 1 → xs.getD j 0 ≠ n from fun j hj => by
          by_cases e : j = k
          · rw [e]; exact hx
          · exact he.out j (by omega))
        have hb : (xs.getD k 0 == n) = false := by simpa using hx
        clear hr he hx
        generalize xs.getD k 0 = x at *
        go_wp2
        go_round
        case rel => exact ⟨k + 1, hlt, by go_num, He⟩
        case measure => simp [intOf]; omega
    · have Hr := Lib.hid (show decide (n ∈ xs) = false from decide_eq_false (fun h => by
        obtain ⟨j, hj, e⟩ := Rk.mem_getD (d := 0) h
        exact he.out j (by omega) e))
      clear hr he
      go_wp2
      go_ret
      exact ⟨ret_bool Hr.out.symm, rfl⟩

set_option maxHeartbeats 400000 in
theorem rwithin_any (u v : Value) (xs ys : List Int) (B : Nat) (w : World) (hu : Ints w B u xs) (hv : Ints w B v ys) :
    Calls Tryz.prog 100 #[u, v] w fun e w' => e = .returned (.bool (Rk.sub xs ys)) ∧ w = w' := by
  have HH := Lib.hid (fun n => has_any v ys n B w hv)
  obtain ⟨A, c, rfl, hn, hm, hr⟩ := hu
  clear hn hv
  go_enter Tryz.func100, Tryz.ntmps100
  go_wp2
  go_loop [5] (fun i => ∃ k : Nat, k ≤ xs.length ∧ i = .int .i64 k ∧ Hid (∀ j, j < k → xs.getD j 0 ∈ ys)) (fun i => xs.length - (intOf i).toNat)
  case atStart => exact ⟨0, Nat.zero_le _, rfl, fun j h => by omega⟩
  case round =>
    obtain ⟨k, hk, rfl, he⟩ := hrel
    by_cases hlt : k < xs.length
    · obtain ⟨ad, rfl, _, hc⟩ := ints_at hr hlt
      by_cases hx : xs.getD k 0 ∈ ys
      · have He := Lib.hid (show ∀ j, j < k + 1 → xs.getD j 0 ∈ ys from fun j hj => by
          by_cases e : j = k
          · rw [e]; exact hx
          · exact he.out j (by omega))
        have H1 := Lib.hid (HH.out (xs.getD k 0))
        rw [decide_eq_true hx] at H1
        clear hr he hx HH
        generalize xs.getD k 0 = x at *
        go_wp2_with (go_at_call 51; refine H1.out.mono ?_; rintro e w' ⟨rfl, rfl⟩)
        go_round
        case rel => exact ⟨k + 1, hlt, by go_num, He⟩
        case measure => simp [intOf]; omega
      · have Hr := Lib.hid (show Rk.sub xs ys = false from decide_eq_false (fun h => hx (h _ (Rk.memD hlt))))
        have H1 := Lib.hid (HH.out (xs.getD k 0))
        rw [decide_eq_false hx] at H1
        clear hr he hx HH
        generalize xs.getD k 0 = x at *
        go_wp2_with (go_at_call 51; refine H1.out.mono ?_; rintro e w' ⟨rfl, rfl⟩)
        go_ret
        exact ⟨ret_bool Hr.out.symm, rfl⟩
    · have Hr := Lib.hid (show Rk.sub xs ys = true from decide_eq_true (fun x h => by
        obtain ⟨j, hj, e⟩ := Rk.mem_getD (d := 0) h
        rw [← e]
        exact he.out j (by omega)))
      clear hr he HH
      go_wp2
      go_ret
      exact ⟨ret_bool Hr.out.symm, rfl⟩

set_option maxHeartbeats 800000 in
theorem rhits_any (u v : Value) (set : List Int) (xss : List (List Int)) (B : Nat) (w : World) (hu : Ints w B u set) (hv : Sets w B v xss) :
    Calls Tryz.prog 70 #[u, v] w fun e w' => e = .returned (.bool (Rk.hits set xss)) ∧ w = w' := by
  have HH := Lib.hid (fun n => has_any u set n B w hu)
  obtain ⟨A, c, vs, rfl, hn, hm, hr, hi⟩ := hv
  clear hn hu
  go_enter Tryz.func70, Tryz.ntmps70
  go_wp2
  go_loop [5] (fun i => ∃ k : Nat, k ≤ xss.length ∧ i = .int .i64 k ∧ Hid (∀ j, j < k → Rk.meets set (xss.getD j []) = true)) (fun i => xss.length - (intOf i).toNat)
  case atStart => exact ⟨0, Nat.zero_le _, rfl, fun j h => by omega⟩
  case round =>
    obtain ⟨k, hk, rfl, he⟩ := hrel
    by_cases hlt : k < xss.length
    · obtain ⟨ad, us, rfl, _, hc, hus⟩ := sets_at hr hi hlt
      obtain ⟨A1, c1, rfl, hn1, hm1, hr1⟩ := hus
      have Hmem := Lib.hid (show xss.getD k [] ∈ xss from Rk.memD hlt)
      have He := Lib.hid (show Rk.meets set (xss.getD k []) = true → ∀ j, j < k + 1 → Rk.meets set (xss.getD j []) = true from fun hx j hj => by
          by_cases e : j = k
          · rw [e]; exact hx
          · exact he.out j (by omega))
      clear hr hi hn1 he
      generalize xss.getD k [] = s at *
      go_wp2
      go_loop [6, 7] (fun b i => ∃ j : Nat, j ≤ s.length ∧ i = .int .i64 j ∧ b = .bool (Rk.meets set (s.take j))) (fun _ i => s.length - (intOf i).toNat)
      case atStart => exact ⟨0, Nat.zero_le _, rfl, rfl⟩
      case round =>
        obtain ⟨j, hj, rfl, rfl⟩ := hrel
        by_cases hlt' : j < s.length
        · obtain ⟨ad1, rfl, _, hc1⟩ := ints_at hr1 hlt'
          have hs := Lib.hid (Rk.meets_take set s j hlt')
          have H1 := Lib.hid (HH.out (s.getD j 0))
          clear hr1 HH He Hmem
          generalize Rk.meets set (s.take j) = b at *
          generalize decide (s.getD j 0 ∈ set) = b2 at *
          generalize s.getD j 0 = x at *
          cases b
          · go_wp2_with (go_at_call 51; refine H1.out.mono ?_; rintro e w' ⟨rfl, rfl⟩)
            go_round
            case rel => exact ⟨j + 1, hlt', by go_num, by rw [hs.out]; rfl⟩
            case measure => simp [intOf]; omega
          · go_wp2
            go_round
            case rel => exact ⟨j + 1, hlt', by go_num, by rw [hs.out]; rfl⟩
            case measure => simp [intOf]; omega
        · rw [List.take_of_length_le (show s.length ≤ j by omega)]
          by_cases hx : Rk.meets set s = true
          · have He' := Lib.hid (He.out hx)
            rw [hx]
            clear hr1 HH He Hmem hx
            go_wp2
            go_round
            case rel => exact ⟨k + 1, hlt, by go_num, He'⟩
            case measure => simp [intOf]; omega
          · have Hr := Lib.hid (show Rk.hits set xss = false by
              unfold Rk.hits
              rw [List.all_eq_false]
              exact ⟨s, Hmem.out, hx⟩)
            simp only [Bool.not_eq_true] at hx
            rw [hx]
            clear hr1 HH He Hmem hx
            go_wp2
            go_ret
            exact ⟨ret_bool Hr.out.symm, rfl⟩
    · have Hr := Lib.hid (show Rk.hits set xss = true by
        unfold Rk.hits
        rw [List.all_eq_true]
        intro s h
        obtain ⟨j, hj, e⟩ := Rk.mem_getD (d := []) h
        rw [← e]
        exact he.out j (by omega))
      clear hr hi he HH
      go_wp2
      go_ret
      exact ⟨ret_bool Hr.out.symm, rfl⟩
end Go.Proofs.YtfpmbjobieeidaaGreat
