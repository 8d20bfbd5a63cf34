/-
  The walk of the reference's ints.
  The walks of the law's and the reference's ints.
-/
import Derived.Test.YtfpmbjobieeidaaGreatBase
namespace Go.Proofs.YtfpmbjobieeidaaGreat
open Go.RowKit

set_option maxHeartbeats 400000 in
theorem rints_any (u v : Value) (xs ys : List Int) (B : Nat) (w : World) (hu : Ints w B u xs) (hv : Ints w B v ys) :
    Calls Tryz.prog 46 #[u, v] w fun e w' => e = .returned (.bool (decide (xs = ys))) ∧ ∃ n, w' = w.drewN n := by
  obtain ⟨A, c, rfl, hn, hm, hr⟩ := hu
  obtain ⟨A', c', rfl, hn', hm', hr'⟩ := hv
  clear hn hn'
  by_cases hl : xs.length = ys.length
  · have hlz : ((xs.length : Int) != (ys.length : Int)) = false := by simp [hl]
    have Hl := Lib.hid hl
    have hle : xs.length ≤ ys.length := by omega
    clear hl
    go_enter Tryz.func46, Tryz.ntmps46
    go_wp2
    go_loopg [5] xs.length (fun g i wr => ∃ k q : Nat, k ≤ xs.length ∧ g = xs.length - k ∧ i = .int .i64 k ∧ wr = w.drewN q ∧ Hid (∀ j, j < k → xs.getD j 0 = ys.getD j 0))
    case atStart => exact ⟨0, 0, Nat.zero_le _, rfl, rfl, rfl, fun j h => by omega⟩
    case round =>
      obtain ⟨k, q, hk, hg, rfl, rfl, he⟩ := hrel
      have Hg := Lib.hid hg
      clear hg
      by_cases hlt : k < xs.length
      · obtain ⟨ad, rfl, _, hc⟩ := ints_at hr hlt
        obtain ⟨ad', rfl, _, hc'⟩ := ints_at hr' (show k < ys.length by omega)
        have hk2 : (k : Int) < (ys.length : Int) := by omega
        by_cases hx : xs.getD k 0 = ys.getD k 0
        · have He := Lib.hid (show ∀ j, j < k + 1 → xs.getD j 0 = ys.getD j 0 from fun j hj => by
            by_cases e : j = k
            · rw [e]; exact hx
            · exact he.out j (by omega))
          rw [← hx] at hc'
          clear hr hr' he hx
          generalize xs.getD k 0 = x at *
          go_wp2
          go_quiet (fail)
          go_wp2
          go_roundg (xs.length - (k + 1))
          case rel => exact ⟨k + 1, _, hlt, rfl, by go_num, rfl, He⟩
          case measure => rw [Hg.out]; omega
        · have Hr := Lib.hid (show decide (xs = ys) = false from decide_eq_false (fun e => hx (by rw [e])))
          have hb : (xs.getD k 0 != ys.getD k 0) = true := by simpa using hx
          clear hr hr' he hx
          generalize xs.getD k 0 = x at *
          generalize ys.getD k 0 = y at *
          go_wp2
          go_quiet (fail)
          go_wp2
          go_ret
          exact ⟨ret_bool Hr.out.symm, _, World.drewN_drewN ..⟩
      · obtain rfl : k = xs.length := by omega
        have Hr := Lib.hid (show decide (xs = ys) = true from decide_eq_true (by
          apply List.ext_getElem Hl.out
          intro i h1 h2
          have := he.out i h1
          rw [List.getD_eq_getElem?_getD, List.getD_eq_getElem?_getD, List.getElem?_eq_getElem h1, List.getElem?_eq_getElem h2] at this
          exact this))
        clear hr hr' he
        go_wp2
        go_ret
        exact ⟨ret_bool Hr.out.symm, q, rfl⟩
  · have hlz : ((xs.length : Int) != (ys.length : Int)) = true := by simp; omega
    have Hr := Lib.hid (show decide (xs = ys) = false from decide_eq_false (fun e => hl (by rw [e])))
    clear hl hr hr'
    go_enter Tryz.func46, Tryz.ntmps46
    go_wp2
    go_ret
    exact ⟨ret_bool Hr.out.symm, 0, rfl⟩
end Go.Proofs.YtfpmbjobieeidaaGreat
namespace Go.Proofs.YtfpmbjobieeidaaGreat
open Go.RowKit

set_option maxHeartbeats 400000 in
theorem ints_any (u v : Value) (xs ys : List Int) (B : Nat) (w : World) (hu : Ints w B u xs) (hv : Ints w B v ys) :
    Calls Tryz.prog 32 #[u, v] w fun e w' => e = .returned (.bool (decide (xs = ys))) ∧ ∃ n, w' = w.drewN n := by
  obtain ⟨A, c, rfl, hn, hm, hr⟩ := hu
  obtain ⟨A', c', rfl, hn', hm', hr'⟩ := hv
  clear hn hn'
  by_cases hl : xs.length = ys.length
  · have hlz : ((xs.length : Int) != (ys.length : Int)) = false := by simp [hl]
    have Hl := Lib.hid hl
    have hle : xs.length ≤ ys.length := by omega
    clear hl
    go_enter Tryz.func32, Tryz.ntmps32
    go_wp2
    go_loopg [5] xs.length (fun g i wr => ∃ k q : Nat, k ≤ xs.length ∧ g = xs.length - k ∧ i = .int .i64 k ∧ wr = w.drewN q ∧ Hid (∀ j, j < k → xs.getD j 0 = ys.getD j 0))
    case atStart => exact ⟨0, 0, Nat.zero_le _, rfl, rfl, rfl, fun j h => by omega⟩
    case round =>
      obtain ⟨k, q, hk, hg, rfl, rfl, he⟩ := hrel
      have Hg := Lib.hid hg
      clear hg
      by_cases hlt : k < xs.length
      · obtain ⟨ad, rfl, _, hc⟩ := ints_at hr hlt
        obtain ⟨ad', rfl, _, hc'⟩ := ints_at hr' (show k < ys.length by omega)
        have hk2 : (k : Int) < (ys.length : Int) := by omega
        by_cases hx : xs.getD k 0 = ys.getD k 0
        · have He := Lib.hid (show ∀ j, j < k + 1 → xs.getD j 0 = ys.getD j 0 from fun j hj => by
            by_cases e : j = k
            · rw [e]; exact hx
            · exact he.out j (by omega))
          rw [← hx] at hc'
          clear hr hr' he hx
          generalize xs.getD k 0 = x at *
          go_wp2
          go_quiet (fail)
          go_wp2
          go_roundg (xs.length - (k + 1))
          case rel => exact ⟨k + 1, _, hlt, rfl, by go_num, rfl, He⟩
          case measure => rw [Hg.out]; omega
        · have Hr := Lib.hid (show decide (xs = ys) = false from decide_eq_false (fun e => hx (by rw [e])))
          have hb : (xs.getD k 0 != ys.getD k 0) = true := by simpa using hx
          clear hr hr' he hx
          generalize xs.getD k 0 = x at *
          generalize ys.getD k 0 = y at *
          go_wp2
          go_quiet (fail)
          go_wp2
          go_ret
          exact ⟨ret_bool Hr.out.symm, _, World.drewN_drewN ..⟩
      · obtain rfl : k = xs.length := by omega
        have Hr := Lib.hid (show decide (xs = ys) = true from decide_eq_true (by
          apply List.ext_getElem Hl.out
          intro i h1 h2
          have := he.out i h1
          rw [List.getD_eq_getElem?_getD, List.getD_eq_getElem?_getD, List.getElem?_eq_getElem h1, List.getElem?_eq_getElem h2] at this
          exact this))
        clear hr hr' he
        go_wp2
        go_ret
        exact ⟨ret_bool Hr.out.symm, q, rfl⟩
  · have hlz : ((xs.length : Int) != (ys.length : Int)) = true := by simp; omega
    have Hr := Lib.hid (show decide (xs = ys) = false from decide_eq_false (fun e => hl (by rw [e])))
    clear hl hr hr'
    go_enter Tryz.func32, Tryz.ntmps32
    go_wp2
    go_ret
    exact ⟨ret_bool Hr.out.symm, 0, rfl⟩
end Go.Proofs.YtfpmbjobieeidaaGreat
