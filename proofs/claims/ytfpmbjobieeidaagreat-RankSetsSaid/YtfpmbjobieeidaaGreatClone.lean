/-
  The walks of slices.Clone at []int and at [][]int.
-/
import Derived.Test.YtfpmbjobieeidaaGreatBase
namespace Go.Proofs.YtfpmbjobieeidaaGreat
open Go.RowKit

theorem info_int : (Tryz.prog.info? 3).map (fun i => (i.zero, i.size, i.bytes)) = some (some (.int .i64 0), 1, 8) := by kernel_rfl

set_option maxHeartbeats 1000000 in
theorem cloneInts_any (A : Option Addr) (n c : Nat) (vs : List Value) (B : Nat) (w : World) (hr : Reads w B 1 A n vs) (hB : B ≤ w.heap.size) (hone : ∀ u ∈ vs, u.oneCell' = true) (hbig : n * 8 ≤ 140737488355328) (hnil : A = none → n = 0) :
    Calls Tryz.prog 61 #[.slice A n c] w fun e w' => ∃ v', e = .returned v' ∧ w'.ownsRow w.heap.size 3 1 v' n vs ∧ Below w.heap.size w w' := by
  have q22 : ∀ (w : World) (a : Option Addr) (n c n' c' : Nat), (binOp .eql 26 (.slice a n c) (.slice none n' c')).run Tryz.prog w = .ok (.bool a.isNone) w := fun w a n c n' c' => Lib.run_eql_slice_nil w _ _ a n c n' c' Tryz.underlying26
  rcases A with _ | ad
  · obtain rfl := hnil rfl
    have hv : vs = [] := List.eq_nil_of_length_eq_zero (by simpa using hr.1)
    subst hv
    clear hr hnil
    go_enter Tryz.func61, Tryz.ntmps61
    go_wp2
    go_ret
    exact ⟨_, rfl, ⟨by simp, .inl ⟨rfl, rfl⟩⟩, Below.refl _ _⟩
  · obtain ⟨i0, hi, hz0, hz1, hz2⟩ := info_parts info_int
    have hlen := hr.1
    have Hc := Lib.hid (show ∀ j u, vs[j]? = some u → (w.alloc (.cells #[] 3)).cell? (ad.add j) = some u from fun j u hj => by
      have hjn : j < n := by
        have := (List.getElem?_eq_some_iff.1 hj).1
        omega
      obtain ⟨ad', e, hb, hc⟩ := hr.2 (by omega)
      obtain rfl : ad = ad' := Option.some.inj e
      exact (World.cell?_alloc_lt w _ _ (by rw [block_of_add]; omega)).trans (hc j u hj))
    have Hlen := Lib.hid (show vs.length = n * 1 from hlen)
    clear hr hnil hlen
    go_enter Tryz.func61, Tryz.ntmps61
    go_wp2_with (at_builtin; refine wpList_append_own _ rfl _ _ 26 rfl w.heap.size 3 i0 (.int .i64 0) 1 8 Tryz.underlying26 hi hz0 hz1 hz2 rfl (by decide) _ _ _ rfl (World.ownsRow_made w #[] 0 (Nat.le_refl _) (Nat.zero_le _) rfl) ad n c vs rfl Hlen.out Hc.out hone ?qc4 ?qc5 ?qc6 ?_)
    case qc4 => unfold maxLen; omega
    case qc5 => omega
    case qc6 => simp
    intro v' w1 hown hgrow hnil
    go_wp2
    go_ret
    exact ⟨v', rfl, by simpa using hown, ((Below.refl _ w).alloc (Nat.le_refl _) _).grown hgrow (by simp) (by intro k hk; simp [Value.ownBlock] at hk; omega)⟩

theorem info_ints : (Tryz.prog.info? 26).map (fun i => (i.zero, i.size, i.bytes)) = some (some (.slice none 0 0), 1, 24) := by kernel_rfl

set_option maxHeartbeats 1000000 in
theorem cloneSets_any (A : Option Addr) (n c : Nat) (vs : List Value) (B : Nat) (w : World) (hr : Reads w B 1 A n vs) (hB : B ≤ w.heap.size) (hone : ∀ u ∈ vs, u.oneCell' = true) (hbig : n * 24 ≤ 140737488355328) (hnil : A = none → n = 0) :
    Calls Tryz.prog 98 #[.slice A n c] w fun e w' => ∃ v', e = .returned v' ∧ w'.ownsRow w.heap.size 26 1 v' n vs ∧ Below w.heap.size w w' := by
  have q22 : ∀ (w : World) (a : Option Addr) (n c n' c' : Nat), (binOp .eql 40 (.slice a n c) (.slice none n' c')).run Tryz.prog w = .ok (.bool a.isNone) w := fun w a n c n' c' => Lib.run_eql_slice_nil w _ _ a n c n' c' Tryz.underlying40
  rcases A with _ | ad
  · obtain rfl := hnil rfl
    have hv : vs = [] := List.eq_nil_of_length_eq_zero (by simpa using hr.1)
    subst hv
    clear hr hnil
    go_enter Tryz.func98, Tryz.ntmps98
    go_wp2
    go_ret
    exact ⟨_, rfl, ⟨by simp, .inl ⟨rfl, rfl⟩⟩, Below.refl _ _⟩
  · obtain ⟨i0, hi, hz0, hz1, hz2⟩ := info_parts info_ints
    have hlen := hr.1
    have Hc := Lib.hid (show ∀ j u, vs[j]? = some u → (w.alloc (.cells #[] 26)).cell? (ad.add j) = some u from fun j u hj => by
      have hjn : j < n := by
        have := (List.getElem?_eq_some_iff.1 hj).1
        omega
      obtain ⟨ad', e, hb, hc⟩ := hr.2 (by omega)
      obtain rfl : ad = ad' := Option.some.inj e
      exact (World.cell?_alloc_lt w _ _ (by rw [block_of_add]; omega)).trans (hc j u hj))
    have Hlen := Lib.hid (show vs.length = n * 1 from hlen)
    clear hr hnil hlen
    go_enter Tryz.func98, Tryz.ntmps98
    go_wp2_with (at_builtin; refine wpList_append_own _ rfl _ _ 40 rfl w.heap.size 26 i0 (.slice none 0 0) 1 24 Tryz.underlying40 hi hz0 hz1 hz2 rfl (by decide) _ _ _ rfl (World.ownsRow_made w #[] 0 (Nat.le_refl _) (Nat.zero_le _) rfl) ad n c vs rfl Hlen.out Hc.out hone ?qc4 ?qc5 ?qc6 ?_)
    case qc4 => unfold maxLen; omega
    case qc5 => omega
    case qc6 => simp
    intro v' w1 hown hgrow hnil
    go_wp2
    go_ret
    exact ⟨v', rfl, by simpa using hown, ((Below.refl _ w).alloc (Nat.le_refl _) _).grown hgrow (by simp) (by intro k hk; simp [Value.ownBlock] at hk; omega)⟩

end Go.Proofs.YtfpmbjobieeidaaGreat
