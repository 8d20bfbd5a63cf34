/-
  The walk of chosen.
-/
import Derived.Test.YtfpmbjobieeidaaGrow
namespace Go.Proofs.Ytfpmbjobieeidaa
open Go.RowKit

namespace Rk
/-- The places below k that are set. -/
def chosenTo (f : Nat → Bool) (k : Nat) : List Int := ((List.range k).filter f).map fun i => ((i : Nat) : Int)
theorem chosenTo_yes {f : Nat → Bool} {k : Nat} (h : f k = true) : chosenTo f (k + 1) = chosenTo f k ++ [(k : Int)] := by
  unfold chosenTo
  rw [List.range_succ, List.filter_append, List.map_append]
  simp [h]
theorem chosenTo_no {f : Nat → Bool} {k : Nat} (h : f k = false) : chosenTo f (k + 1) = chosenTo f k := by
  unfold chosenTo
  rw [List.range_succ, List.filter_append, List.map_append]
  simp [h]
theorem chosenTo_len (f : Nat → Bool) (k : Nat) : (chosenTo f k).length ≤ k := by
  unfold chosenTo
  have := List.length_filter_le f (List.range k)
  simp at this ⊢
  exact this
theorem chosenTo_mem {f : Nat → Bool} {k : Nat} {x : Int} : x ∈ chosenTo f k ↔ ∃ i, i < k ∧ f i = true ∧ x = (i : Int) := by
  unfold chosenTo
  simp only [List.mem_map, List.mem_filter, List.mem_range]
  constructor
  · rintro ⟨i, ⟨h1, h2⟩, h3⟩; exact ⟨i, h1, h2, h3.symm⟩
  · rintro ⟨i, h1, h2, h3⟩; exact ⟨i, ⟨h1, h2⟩, h3.symm⟩
theorem chosenTo_congr {f g : Nat → Bool} {k : Nat} (h : ∀ i, i < k → f i = g i) : chosenTo f k = chosenTo g k := by
  unfold chosenTo
  congr 1
  exact List.filter_congr fun i hi => h i (List.mem_range.1 hi)
end Rk

/-- A slice of Bools reads as a function. -/
def Bools (w : World) (B : Nat) (v : Value) (n : Nat) (f : Nat → Bool) : Prop := ∃ A c, v = .slice A n c ∧ (0 < n → ∃ ad, A = some ad ∧ ad.block < B) ∧ ∀ ad, A = some ad → ∀ j, j < n → w.cell? (ad.add j) = some (.bool (f j))

set_option maxRecDepth 20000 in
set_option maxHeartbeats 1600000 in
theorem chosen_any (v : Value) (n : Nat) (f : Nat → Bool) (B : Nat) (w : World) (hv : Bools w B v n f) (hB : B ≤ w.heap.size) (hn : n ≤ 256) :
    Calls Try.prog 72 #[v] w fun e w' => ∃ v', e = .returned v' ∧ OwnInts w' w.heap.size v' (Rk.chosenTo f n) ∧ Below w.heap.size w w' := by
  obtain ⟨A, c, rfl, hA, hc⟩ := hv
  obtain ⟨i0, hi0, hz0, hz1, hz2⟩ := info_parts info_int
  have HA := Lib.hid hA
  have HC := Lib.hid hc
  clear hA hc
  go_enter Try.func72, Try.ntmps72
  go_wp2
  go_loopg [3, 8] n (fun g u i wr => ∃ k : Nat, k ≤ n ∧ g = n - k ∧ i = .int .i64 k ∧ Hid (OwnInts wr w.heap.size u (Rk.chosenTo f k)) ∧ Hid (Below w.heap.size w wr))
  case atStart => exact ⟨0, Nat.zero_le _, rfl, rfl, ⟨by simp [Rk.chosenTo], .inl ⟨rfl, by simp [Rk.chosenTo]⟩⟩, Below.refl _ _⟩
  case round =>
    obtain ⟨k, hk, hg, rfl, ho, hb⟩ := hrel
    have Hg := Lib.hid hg
    clear hg
    by_cases hlt : k < n
    · obtain ⟨ad, rfl, hadB⟩ := HA.out (by omega)
      have hcw : wr.cell? (ad.add k) = some (.bool (f k)) := ((hb.out.mono hB).cell (by rw [block_of_add]; exact hadB)).trans (HC.out ad rfl k hlt)
      have Hl := Lib.hid (Rk.chosenTo_len f k)
      rcases Bool.eq_false_or_eq_true (f k) with hf | hf
      rotate_left
      · rw [hf] at hcw
        have Ho := Lib.hid (show OwnInts wr w.heap.size _ (Rk.chosenTo f (k + 1)) by rw [Rk.chosenTo_no hf]; exact ho.out)
        clear Hl ho hf
        go_wp2
        go_roundg (n - (k + 1))
        case rel => exact ⟨k + 1, hlt, rfl, by go_num, Ho, hb⟩
        case measure => rw [Hg.out]; omega
      · rw [hf] at hcw
        have Hy := Lib.hid (Rk.chosenTo_yes hf)
        clear hf
        go_wp2_with (at_builtin; go_must (refine wpList_append_any _ rfl _ _ 37 rfl w.heap.size 3 i0 _ 1 8 Try.underlying37 hi0 hz0 hz1 hz2 rfl (by decide) _ (Rk.chosenTo f k).length _ rfl (own_kept ho.out (World.grownBy_alloc _ _ none) (fun g e => by cases e)) (wr.heap.size + 1) _ 1 _ [.int .i64 k] rfl (reads_one (by omega) (cell_new0 _ _ _)) ?d2 ?d3 ?d4 ?d5 ?_))
        case d2 => first | rfl | (intro u hu; simp at hu; subst hu; rfl)
        case d3 => have := Hl.out; unfold maxLen; omega
        case d4 => have := Hl.out; omega
        case d5 => have := hb.out.size; simp; omega
        intro v2 w2 hown2 hg2 hat2
        have Ho := Lib.hid (show OwnInts w2 w.heap.size v2 (Rk.chosenTo f (k + 1)) by rw [Hy.out]; exact own_snoc hown2)
        have Hb := Lib.hid (show Below w.heap.size w w2 from (hb.out.alloc hb.out.size _).grown hg2 (by have := hb.out.size; simp; omega) (fun k hk => own_row_ge ho.out k hk))
        clear hown2 hg2 hat2 Hy Hl ho hb
        go_wp2
        go_roundg (n - (k + 1))
        case rel => exact ⟨k + 1, hlt, rfl, by go_num, Ho, Hb⟩
        case measure => rw [Hg.out]; omega
    · obtain rfl : k = n := by omega
      go_wp2
      go_ret
      exact ⟨_, rfl, ho.out, hb.out⟩
end Go.Proofs.Ytfpmbjobieeidaa
