/-
  The walks of the reference's CheckSpectrum, of wide.
-/
import Derived.Test.YtfpmbjobieeidaaGreatSpec
import Derived.Test.YtfpmbjobieeidaaGreatRSets
namespace Go.Proofs.YtfpmbjobieeidaaGreat
open Go.RowKit

set_option maxHeartbeats 1600000 in
theorem rcheckspectrum_any (parts : Int) (v : Value) (rows : List RowL) (B : Nat) (w : World) (hv : Rows w B v rows) (hB : B ≤ w.heap.size) :
    Calls Tryz.prog 10 #[.agg #[.int .i64 parts, v]] w fun e w' => e = .returned (.int .i64 (specErr parts rows)) ∧ Below w.heap.size w w' := by
  obtain ⟨A, c, vs, rfl, hn, hm, hr, hi⟩ := hv
  clear hn
  rcases (show parts < 1 ∨ 1 ≤ parts ∧ 256 < parts ∨ 1 ≤ parts ∧ parts ≤ 256 ∧ 64 < rows.length ∨ 1 ≤ parts ∧ parts ≤ 256 ∧ rows.length ≤ 64 by omega) with h1 | ⟨h1, h2⟩ | ⟨h1, h2, h3⟩ | ⟨h1, h2, h3⟩
  · have He := Lib.hid (show specErr parts rows = 1 by unfold specErr; rw [if_pos h1])
    clear hr hi
    go_enter Tryz.func10, Tryz.ntmps10
    go_wp2
    go_ret
    exact ⟨ret_int He.out.symm, below_alloc0 _ _⟩
  · have He := Lib.hid (show specErr parts rows = 3 by unfold specErr; rw [if_neg (by omega), if_pos (.inl h2)])
    clear hr hi
    go_enter Tryz.func10, Tryz.ntmps10
    go_wp2
    go_ret
    exact ⟨ret_int He.out.symm, below_alloc0 _ _⟩
  · have He := Lib.hid (show specErr parts rows = 3 by unfold specErr; rw [if_neg (by omega), if_pos (.inr h3)])
    clear hr hi
    go_enter Tryz.func10, Tryz.ntmps10
    go_wp2
    go_ret
    exact ⟨ret_int He.out.symm, below_alloc0 _ _⟩
  · obtain ⟨W, hW⟩ : ∃ W, W = w.alloc (.cells #[.int .i64 parts, .slice A rows.length c] 24) := ⟨_, rfl⟩
    have hs : Blk W w.heap.size 24 #[.int .i64 parts, .slice A rows.length c] := by rw [hW]; exact Blk.new w _ _
    have hbW : Below w.heap.size w W := by rw [hW]; exact below_alloc0 _ _
    have hr' := hr.below (hbW.mono hB)
    have hi' : ∀ i, i < rows.length → ∃ u, vs[i * 2]? = some u ∧ vs[i * 2 + 1]? = some (.bool (Rk.rowAt rows i).2) ∧ Ints W B u (Rk.rowAt rows i).1 := fun i h => by obtain ⟨u, a, b, d⟩ := hi i h; exact ⟨u, a, b, d.below (hbW.mono hB)⟩
    have Hr := Lib.hid hr'
    have Hi := Lib.hid hi'
    have HbW := Lib.hid hbW
    have HW := Lib.hid hW
    have s0 : W.cell? ⟨w.heap.size, 0, none⟩ = some (.int .i64 parts) := hs.cell 0
    have s1 : W.cell? ⟨w.heap.size, 1, none⟩ = some (.slice A rows.length c) := hs.cell 1
    clear hr hi hr' hi' hbW hW hs
    go_enter Tryz.func10, Tryz.ntmps10
    go_wp2
    go_loopg [3] rows.length (fun g i wr => ∃ k q : Nat, k ≤ rows.length ∧ g = rows.length - k ∧ i = .int .i64 k ∧ wr = W.drewN q ∧ Hid (∀ i, i < k → Rk.incr parts (Rk.rowAt rows i).1 = true))
    case atStart => exact ⟨0, 0, Nat.zero_le _, rfl, rfl, HW.out.symm, fun i h => by omega⟩
    case round =>
      obtain ⟨k, q, hk, hg, rfl, rfl, hp⟩ := hrel
      have Hg := Lib.hid hg
      clear hg
      by_cases hlt : k < rows.length
      · obtain ⟨ad, u, rfl, hadb, hc0, hc1, hu⟩ := rows_at Hr.out Hi.out hlt
        have HS := Lib.hid (fun m => set_any u _ parts B (W.drewN m) (hu.keep fun _ _ => rfl))
        by_cases hin : Rk.incr parts (Rk.rowAt rows k).1 = true
        · have Hp := Lib.hid (show ∀ i, i < k + 1 → Rk.incr parts (Rk.rowAt rows i).1 = true from fun i h => by
            by_cases e : i = k
            · subst e; exact hin
            · exact hp.out i (by omega))
          rw [hin] at HS
          clear hin hp hu hc1
          go_wp2
          go_quiet ((go_at_call 38; refine (HS.out _).mono ?_; rintro e w2 ⟨h1, n, h2⟩; exact ⟨h1, _, h2.trans ((World.drewN_drewN ..).trans (congrArg W.drewN (Nat.add_assoc ..)))⟩))
          go_wp2
          go_roundg (rows.length - (k + 1))
          case rel => exact ⟨k + 1, _, by omega, rfl, by go_num, rfl, Hp⟩
          case measure => rw [Hg.out]; omega
        · simp only [Bool.not_eq_true] at hin
          have He := Lib.hid (show specErr parts rows = 1 by
            unfold specErr
            rw [if_neg (by omega), if_neg (by omega), if_neg (fun h => by rw [h k hlt] at hin; cases hin)])
          rw [hin] at HS
          clear hin hp hu hc1
          go_wp2
          go_quiet ((go_at_call 38; refine (HS.out _).mono ?_; rintro e w2 ⟨h1, n, h2⟩; exact ⟨h1, _, h2.trans ((World.drewN_drewN ..).trans (congrArg W.drewN (Nat.add_assoc ..)))⟩))
          go_wp2
          go_ret
          exact ⟨ret_int He.out.symm, below_drewN (below_drewN HbW.out _) _⟩
      · obtain rfl : k = rows.length := by omega
        have He := Lib.hid (show specErr parts rows = 0 by unfold specErr; rw [if_neg (by omega), if_neg (by omega), if_pos hp.out])
        clear hp
        go_wp2
        go_ret
        exact ⟨ret_int He.out.symm, below_drewN HbW.out _⟩

set_option maxRecDepth 20000 in
set_option maxHeartbeats 3000000 in
theorem wide_any (parts : Int) (v : Value) (rows : List RowL) (B : Nat) (w : World) (hv : Rows w B v rows) (hB : B ≤ w.heap.size) :
    Calls Tryz.prog 5 #[.agg #[.int .i64 parts, v]] w fun e w' => AnyBool e ∧ Below w.heap.size w w' := by
  obtain ⟨A, c, vs, rfl, hn, hm, hr, hi⟩ := hv
  clear hn
  obtain ⟨W, hW⟩ : ∃ W, W = w.alloc (.cells #[.int .i64 parts, .slice A rows.length c] 24) := ⟨_, rfl⟩
  have hs : Blk W w.heap.size 24 #[.int .i64 parts, .slice A rows.length c] := by rw [hW]; exact Blk.new w _ _
  have hbW : Below w.heap.size w W := by rw [hW]; exact below_alloc0 _ _
  have hr' := hr.below (hbW.mono hB)
  have hi' : ∀ i, i < rows.length → ∃ u, vs[i * 2]? = some u ∧ vs[i * 2 + 1]? = some (.bool (Rk.rowAt rows i).2) ∧ Ints W B u (Rk.rowAt rows i).1 := fun i h => by obtain ⟨u, a, b, d⟩ := hi i h; exact ⟨u, a, b, d.below (hbW.mono hB)⟩
  have Hr := Lib.hid hr'
  have Hi := Lib.hid hi'
  have HbW := Lib.hid hbW
  have HW := Lib.hid hW
  have s0 : W.cell? ⟨w.heap.size, 0, none⟩ = some (.int .i64 parts) := hs.cell 0
  have s1 : W.cell? ⟨w.heap.size, 1, none⟩ = some (.slice A rows.length c) := hs.cell 1
  clear hr hi hr' hi' hbW hW hs
  go_enter Tryz.func5, Tryz.ntmps5
  go_wp2
  go_loopg [3, 4] 100 (fun g s i wr => ∃ k n : Nat, k ≤ rows.length ∧ k ≤ 71 ∧ g = 100 - k ∧ i = .int .i64 k ∧ s = .int .i64 n ∧ n ≤ 1000 * k ∧ wr = W)
  case atStart => exact ⟨0, 0, Nat.zero_le _, Nat.zero_le _, rfl, rfl, rfl, Nat.le_refl _, HW.out.symm⟩
  case round =>
    obtain ⟨k, n, hk, hk3, hg, rfl, rfl, hb, rfl⟩ := hrel
    have Hg := Lib.hid hg
    clear hg
    by_cases hlt : k < rows.length ∧ k ≤ 70
    · obtain ⟨hlt, hlt3⟩ := hlt
      obtain ⟨ad, u, rfl, hadb, hc0, hc1, hu⟩ := rows_at Hr.out Hi.out hlt
      obtain ⟨A1, c1, rfl, _, hm1, _⟩ := hu
      clear hc1
      generalize (Rk.rowAt rows k).1 = s at *
      by_cases hs : s.length ≤ 1000
      · go_wp2
        go_roundg (100 - (k + 1))
        case rel => exact ⟨k + 1, n + s.length, hlt, by omega, rfl, by go_num, by go_num, by omega, rfl⟩
        case measure => rw [Hg.out]; omega
      · go_wp2
        go_roundg (100 - (k + 1))
        case rel => exact ⟨k + 1, n + 1000, hlt, by omega, rfl, by go_num, by go_num, by omega, rfl⟩
        case measure => rw [Hg.out]; omega
    · have hx : ¬ k < rows.length ∨ k < rows.length ∧ 70 < k := by omega
      rcases hx with hx | ⟨hx, hx3⟩
      all_goals
        rcases (show 70 < rows.length ∨ rows.length ≤ 70 by omega) with h1 | h1
        all_goals
          rcases (show 600 < n ∨ n ≤ 600 ∧ 40 < parts ∧ parts ≤ 256 ∨ n ≤ 600 ∧ parts ≤ 40 ∨ n ≤ 600 ∧ 40 < parts ∧ 256 < parts by omega) with g1 | ⟨g1, g2, g3⟩ | ⟨g1, g2⟩ | ⟨g1, g2, g3⟩
          all_goals
            first
            | (exfalso; omega)
            | (go_wp2
               all_goals
                 go_ret
                 exact ⟨⟨_, rfl⟩, HbW.out⟩)
end Go.Proofs.YtfpmbjobieeidaaGreat
