/-
  The walks of Blame: the closure, slices.IndexFunc, slices.ContainsFunc, rank's and the reference's.
-/
import Derived.Test.YtfpmbjobieeidaaGreatConf
import Derived.Test.YtfpmbjobieeidaaGreatContains
import Derived.Test.YtfpmbjobieeidaaGreatHas
namespace Go.Proofs.YtfpmbjobieeidaaGreat
open Go.RowKit

set_option maxHeartbeats 400000 in
theorem blmf_any (g : Nat) (uh : Value) (hits : List Int) (n : Int) (B : Nat) (w : World) (hc : w.cell? ⟨g, 0, none⟩ = some uh) (hu : Ints w B uh hits) :
    Calls Tryz.prog 69 #[.int .i64 n, .pointer (some ⟨g, 0, none⟩)] w fun e w' => e = .returned (.bool (decide (n ∈ hits))) ∧ w = w' := by
  have HC := Lib.hid (contains_any uh hits n B w hu)
  obtain ⟨A, c, rfl, -, -, -⟩ := hu
  go_enter Tryz.func69, Tryz.ntmps69
  go_wp2_with fail
  refine HC.out.mono ?_
  rintro e w' ⟨rfl, rfl⟩
  go_wp2
  go_ret
  exact ⟨rfl, rfl⟩

set_option maxHeartbeats 400000 in
theorem indexF_any (u : Value) (xs : List Int) (g : Nat) (uh : Value) (hits : List Int) (B : Nat) (w : World) (hx : Ints w B u xs) (hc : w.cell? ⟨g, 0, none⟩ = some uh) (hu : Ints w B uh hits) :
    Calls Tryz.prog 107 #[u, .func (.func 69) #[] #[.pointer (some ⟨g, 0, none⟩)]] w fun e w' => (∃ i : Int, e = .returned (.int .i64 i) ∧ (0 ≤ i ↔ Rk.meets hits xs = true)) ∧ w = w' := by
  have HF := Lib.hid (fun n => blmf_any g uh hits n B w hc hu)
  obtain ⟨A, c, rfl, hn, hm, hr⟩ := hx
  clear hn hc hu
  go_enter Tryz.func107, Tryz.ntmps107
  go_wp2
  go_loopg [8] xs.length (fun g s wr => ∃ k : Nat, k ≤ xs.length ∧ g = xs.length - k ∧ s = .int .i64 k ∧ wr = w ∧ Hid (∀ j, j < k → xs.getD j 0 ∉ hits))
  case atStart => exact ⟨0, Nat.zero_le _, rfl, rfl, rfl, fun j h => absurd h (by omega)⟩
  case round =>
    obtain ⟨k, hk, hg, rfl, rfl, he⟩ := hrel
    have Hg := Lib.hid hg
    clear hg
    by_cases hlt : k < xs.length
    · obtain ⟨ad, rfl, _, hck⟩ := ints_at hr hlt
      have HFk := Lib.hid (HF.out (xs.getD k 0))
      obtain ⟨bb, hbb⟩ : ∃ bb, bb = decide (xs.getD k 0 ∈ hits) := ⟨_, rfl⟩
      rw [← hbb] at HFk
      have hkz : (k : Int) < (xs.length : Int) := by omega
      cases bb
      · have He := Lib.hid (show ∀ j, j < k + 1 → xs.getD j 0 ∉ hits from fun j hj => by
          by_cases e : j = k
          · rw [e]; exact of_decide_eq_false hbb.symm
          · exact he.out j (by omega))
        clear hbb hr he
        generalize xs.getD k 0 = x at *
        go_wp2_with fail
        refine HFk.out.mono ?_
        rintro e w' ⟨rfl, rfl⟩
        go_wp2
        go_roundg (xs.length - (k + 1))
        case rel => exact ⟨k + 1, hlt, rfl, by go_num, rfl, He⟩
        case measure => rw [Hg.out]; omega
      · have Hr := Lib.hid (show Rk.meets hits xs = true from Rk.meets_iff.2 ⟨xs.getD k 0, Rk.memD hlt, of_decide_eq_true hbb.symm⟩)
        clear hbb hr he
        generalize xs.getD k 0 = x at *
        go_wp2_with fail
        refine HFk.out.mono ?_
        rintro e w' ⟨rfl, rfl⟩
        go_wp2
        go_ret
        exact ⟨⟨k, rfl, ⟨fun _ => Hr.out, fun _ => by omega⟩⟩, rfl⟩
    · have Hr := Lib.hid (show ¬ Rk.meets hits xs = true from fun h => by
        obtain ⟨x, h1, h2⟩ := Rk.meets_iff.1 h
        obtain ⟨j, hj, e⟩ := Rk.mem_getD (d := 0) h1
        exact he.out j (by omega) (by rw [e]; exact h2))
      clear hr he
      go_wp2
      go_ret
      exact ⟨⟨-1, rfl, ⟨fun h => absurd h (by decide), fun h => absurd h Hr.out⟩⟩, rfl⟩

set_option maxHeartbeats 400000 in
theorem containsF_any (u : Value) (xs : List Int) (g : Nat) (uh : Value) (hits : List Int) (B : Nat) (w : World) (hx : Ints w B u xs) (hc : w.cell? ⟨g, 0, none⟩ = some uh) (hu : Ints w B uh hits) :
    Calls Tryz.prog 68 #[u, .func (.func 69) #[] #[.pointer (some ⟨g, 0, none⟩)]] w fun e w' => e = .returned (.bool (Rk.meets hits xs)) ∧ w = w' := by
  have HI := Lib.hid (indexF_any u xs g uh hits B w hx hc hu)
  clear hx hc hu
  go_enter Tryz.func68, Tryz.ntmps68
  go_wp2_with fail
  refine HI.out.mono ?_
  rintro e w' ⟨⟨i, rfl, hi⟩, rfl⟩
  have Hi := Lib.hid (show decide (0 ≤ i) = Rk.meets hits xs by rw [Bool.eq_iff_iff, decide_eq_true_eq]; exact hi)
  clear hi
  go_wp2
  go_ret
  exact ⟨ret_bool Hi.out, rfl⟩
end Go.Proofs.YtfpmbjobieeidaaGreat
