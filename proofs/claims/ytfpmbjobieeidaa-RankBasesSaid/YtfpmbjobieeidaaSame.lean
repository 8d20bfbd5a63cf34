/-
  The walk of SameSpectrum.
-/
import Derived.Test.YtfpmbjobieeidaaSpec
import Derived.Test.YtfpmbjobieeidaaRInts
import Derived.Test.YtfpmbjobieeidaaPlainJ
import Derived.BigQuiet
namespace Go.Proofs.Ytfpmbjobieeidaa
open Go.RowKit

set_option maxRecDepth 20000 in
set_option maxHeartbeats 2000000 in
theorem samespec_any (p1 p2 : Int) (v1 v2 : Value) (rows1 rows2 : List RowL) (B : Nat) (w : World) (hv1 : Rows w B v1 rows1) (hv2 : Rows w B v2 rows2) (hB : B ≤ w.heap.size) :
    Calls Try.prog 39 #[.agg #[.int .i64 p1, v1], .agg #[.int .i64 p2, v2]] w fun e w' => e = .returned (.bool (decide (p1 = p2 ∧ rows1 = rows2))) ∧ Below w.heap.size w w' := by
  obtain ⟨A, c, vs, rfl, hn, hm, hr, hi⟩ := hv1
  obtain ⟨A', c', vs', rfl, hn', hm', hr', hi'⟩ := hv2
  clear hn hn'
  obtain ⟨W, hW⟩ : ∃ W, W = (w.alloc (.cells #[.int .i64 p1, .slice A rows1.length c] 48)).alloc (.cells #[.int .i64 p2, .slice A' rows2.length c'] 48) := ⟨_, rfl⟩
  have hs : Blk W w.heap.size 48 #[.int .i64 p1, .slice A rows1.length c] := by rw [hW]; exact (Blk.new w _ _).alloc _
  have hs' : Blk W (w.heap.size + 1) 48 #[.int .i64 p2, .slice A' rows2.length c'] := by
    rw [hW]
    have := Blk.new (w.alloc (.cells #[.int .i64 p1, .slice A rows1.length c] 48)) 48 #[.int .i64 p2, .slice A' rows2.length c']
    simpa using this
  have hbW : Below w.heap.size w W := by rw [hW]; exact ((Below.refl _ _).alloc (Nat.le_refl _) _).alloc (by simp) _
  have hr1 := hr.below (hbW.mono hB)
  have hr2 := hr'.below (hbW.mono hB)
  have hi1 : ∀ i, i < rows1.length → ∃ u, vs[i * 2]? = some u ∧ vs[i * 2 + 1]? = some (.bool (Rk.rowAt rows1 i).2) ∧ Ints W B u (Rk.rowAt rows1 i).1 := fun i h => by obtain ⟨u, a, b, d⟩ := hi i h; exact ⟨u, a, b, d.below (hbW.mono hB)⟩
  have hi2 : ∀ i, i < rows2.length → ∃ u, vs'[i * 2]? = some u ∧ vs'[i * 2 + 1]? = some (.bool (Rk.rowAt rows2 i).2) ∧ Ints W B u (Rk.rowAt rows2 i).1 := fun i h => by obtain ⟨u, a, b, d⟩ := hi' i h; exact ⟨u, a, b, d.below (hbW.mono hB)⟩
  have Hr := Lib.hid hr1
  have Hi := Lib.hid hi1
  have Hr' := Lib.hid hr2
  have Hi' := Lib.hid hi2
  have HbW := Lib.hid hbW
  have HW := Lib.hid hW
  have s0 : W.cell? ⟨w.heap.size, 0, none⟩ = some (.int .i64 p1) := hs.cell 0
  have s1 : W.cell? ⟨w.heap.size, 1, none⟩ = some (.slice A rows1.length c) := hs.cell 1
  have t0 : W.cell? ⟨w.heap.size + 1, 0, none⟩ = some (.int .i64 p2) := hs'.cell 0
  have t1 : W.cell? ⟨w.heap.size + 1, 1, none⟩ = some (.slice A' rows2.length c') := hs'.cell 1
  clear hr hi hr' hi' hr1 hr2 hi1 hi2 hbW hW hs hs'
  by_cases hp : p1 = p2
  · have hpb : (p1 != p2) = false := by simpa using hp
    by_cases hl : rows1.length = rows2.length
    · have hlz : ((rows1.length : Int) != (rows2.length : Int)) = false := by simp [hl]
      have Hl := Lib.hid hl
      have Hp := Lib.hid hp
      have hle : rows1.length ≤ rows2.length := by omega
      clear hl hp
      go_enter Try.func39, Try.ntmps39
      go_wp2_with fail
      rw [← HW.out]
      go_wp2
      go_loopg [5] rows1.length (fun g i wr => ∃ k q : Nat, k ≤ rows1.length ∧ g = rows1.length - k ∧ i = .int .i64 k ∧ wr = W.drewN q ∧ Hid (∀ j, j < k → Rk.rowAt rows1 j = Rk.rowAt rows2 j))
      case atStart => exact ⟨0, 0, Nat.zero_le _, rfl, rfl, rfl, fun j h => by omega⟩
      case round =>
        obtain ⟨k, q, hk, hg, rfl, rfl, he⟩ := hrel
        have Hg := Lib.hid hg
        clear hg
        by_cases hlt : k < rows1.length
        · obtain ⟨ad, u, rfl, hadb, hc0, hc1, hu⟩ := rows_at Hr.out Hi.out hlt
          obtain ⟨ad', u', rfl, hadb', hc0', hc1', hu'⟩ := rows_at Hr'.out Hi'.out (show k < rows2.length by omega)
          have hk2 : (k : Int) < (rows2.length : Int) := by omega
          have hq1 : W.cell? ⟨(ad.add (k * 2)).block, (ad.add (k * 2)).off + 1, none⟩ = some (.bool (Rk.rowAt rows1 k).2) := by
            have h := hc1
            rw [← add_of_add] at h
            exact h
          have hq2 : W.cell? ⟨(ad'.add (k * 2)).block, (ad'.add (k * 2)).off + 1, none⟩ = some (.bool (Rk.rowAt rows2 k).2) := by
            have h := hc1'
            rw [← add_of_add] at h
            exact h
          have HI := Lib.hid (fun m => rints_any u u' _ _ B (W.drewN m) (hu.keep fun _ _ => rfl) (hu'.keep fun _ _ => rfl))
          have Hno := Lib.hid (show Rk.rowAt rows1 k ≠ Rk.rowAt rows2 k → decide (p1 = p2 ∧ rows1 = rows2) = false from fun h => decide_eq_false (fun e => h (by rw [e.2])))
          have Hye := Lib.hid (show Rk.rowAt rows1 k = Rk.rowAt rows2 k → ∀ j, j < k + 1 → Rk.rowAt rows1 j = Rk.rowAt rows2 j from fun h j hj => by
            by_cases e : j = k
            · rw [e]; exact h
            · exact he.out j (by omega))
          clear hu hu' hc1 hc1' he
          generalize Rk.rowAt rows1 k = r1 at *
          generalize Rk.rowAt rows2 k = r2 at *
          obtain ⟨x1, f1⟩ := r1
          obtain ⟨x2, f2⟩ := r2
          simp only at hq1 hq2 HI
          by_cases hf : f1 = f2
          · subst hf
            have hfb : (f1 != f1) = false := by cases f1 <;> rfl
            by_cases hx : x1 = x2
            · subst hx
              rw [decide_eq_true rfl] at HI
              have He := Lib.hid (Hye.out rfl)
              clear Hye Hno
              cases f1
              all_goals
                go_wp2
                go_quiet ((go_at_call 67; refine (HI.out _).mono ?_; rintro e w2 ⟨h1, n, h2⟩; exact ⟨h1, _, h2.trans ((World.drewN_drewN ..).trans (congrArg W.drewN (Nat.add_assoc ..)))⟩))
                go_wp2
                go_roundg (rows1.length - (k + 1))
                case rel => exact ⟨k + 1, _, by omega, rfl, by go_num, rfl, He⟩
                case measure => rw [Hg.out]; omega
            · rw [decide_eq_false hx] at HI
              have Hr := Lib.hid (Hno.out (fun e => hx (congrArg Prod.fst e)))
              clear Hye Hno hx
              cases f1
              all_goals
                go_wp2
                go_quiet ((go_at_call 67; refine (HI.out _).mono ?_; rintro e w2 ⟨h1, n, h2⟩; exact ⟨h1, _, h2.trans ((World.drewN_drewN ..).trans (congrArg W.drewN (Nat.add_assoc ..)))⟩))
                go_wp2
                go_ret
                exact ⟨ret_bool Hr.out.symm, below_drewN (below_drewN HbW.out _) _⟩
          · have Hr := Lib.hid (Hno.out (fun e => hf (congrArg Prod.snd e)))
            clear Hye Hno HI
            cases f1 <;> cases f2
            all_goals
              first
              | (exfalso; exact hf rfl)
              | (clear hf
                 go_wp2
                 go_quiet (fail)
                 go_wp2
                 go_ret
                 exact ⟨ret_bool Hr.out.symm, below_drewN (below_drewN HbW.out _) _⟩)
        · obtain rfl : k = rows1.length := by omega
          have hee : decide (p1 = p2 ∧ rows1 = rows2) = true := decide_eq_true ⟨Hp.out, by
            apply List.ext_getElem Hl.out
            intro i h1 h2
            have := he.out i h1
            unfold Rk.rowAt at this
            rw [List.getD_eq_getElem?_getD, List.getD_eq_getElem?_getD, List.getElem?_eq_getElem h1, List.getElem?_eq_getElem h2] at this
            exact this⟩
          have Hee := Lib.hid hee
          clear he hee
          go_wp2
          go_ret
          exact ⟨ret_bool Hee.out.symm, below_drewN HbW.out _⟩
    · have hlz : ((rows1.length : Int) != (rows2.length : Int)) = true := by simp; omega
      have Hee := Lib.hid (show decide (p1 = p2 ∧ rows1 = rows2) = false from decide_eq_false (fun e => hl (by rw [e.2])))
      clear hl hp
      go_enter Try.func39, Try.ntmps39
      go_wp2
      go_ret
      exact ⟨ret_bool Hee.out.symm, HW.out ▸ HbW.out⟩
  · have hpb : (p1 != p2) = true := by simpa using hp
    have Hee := Lib.hid (show decide (p1 = p2 ∧ rows1 = rows2) = false from decide_eq_false (fun e => hp e.1))
    clear hp
    go_enter Try.func39, Try.ntmps39
    go_wp2
    go_ret
    exact ⟨ret_bool Hee.out.symm, HW.out ▸ HbW.out⟩
end Go.Proofs.Ytfpmbjobieeidaa
