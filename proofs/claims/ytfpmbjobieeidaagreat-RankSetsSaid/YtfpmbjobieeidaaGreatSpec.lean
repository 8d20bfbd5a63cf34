/-
  Spectra in memory, and the walk of CheckSpectrum.
-/
import Derived.Test.YtfpmbjobieeidaaGreatIncr
namespace Go.Proofs.YtfpmbjobieeidaaGreat
open Go.RowKit

theorem below_alloc0 (w : World) (o : Obj) : Below w.heap.size w (w.alloc o) := (Below.refl _ _).alloc (Nat.le_refl _) _
abbrev RowL := List Int × Bool
def Rk.rowAt (rows : List RowL) (i : Nat) : RowL := rows.getD i ([], false)

/-- The rows of a spectrum. -/
def Rows (w : World) (B : Nat) (v : Value) (rows : List RowL) : Prop :=
  ∃ A c vs, v = .slice A rows.length c ∧ rows.length ≤ c ∧ rows.length ≤ 4398046510976 ∧ Reads w B 2 A rows.length vs ∧
    ∀ i, i < rows.length → ∃ u, vs[i * 2]? = some u ∧ vs[i * 2 + 1]? = some (.bool (Rk.rowAt rows i).2) ∧ Ints w B u (Rk.rowAt rows i).1
section
variable {w w' : World} {B B' : Nat} {v : Value} {rows : List RowL}
theorem Rows.keep (h : Rows w B v rows) (hk : ∀ p : Addr, p.block < B → w'.cell? p = w.cell? p) : Rows w' B v rows := by
  obtain ⟨A, c, vs, e, hn, hm, hr, hi⟩ := h
  exact ⟨A, c, vs, e, hn, hm, hr.keep hk, fun i h => by obtain ⟨u, h1, h2, h3⟩ := hi i h; exact ⟨u, h1, h2, h3.keep hk⟩⟩
theorem Rows.below (h : Rows w B v rows) (hb : Below B w w') : Rows w' B v rows := h.keep fun _ hp => hb.cell hp
theorem Rows.more (h : Rows w B v rows) (hB : B ≤ B') : Rows w B' v rows := by
  obtain ⟨A, c, vs, e, hn, hm, hr, hi⟩ := h
  exact ⟨A, c, vs, e, hn, hm, hr.more hB, fun i h => by obtain ⟨u, h1, h2, h3⟩ := hi i h; exact ⟨u, h1, h2, h3.more hB⟩⟩
theorem rows_at {A : Option Addr} {vs : List Value} (hr : Reads w B 2 A rows.length vs) (hi : ∀ i, i < rows.length → ∃ u, vs[i * 2]? = some u ∧ vs[i * 2 + 1]? = some (.bool (Rk.rowAt rows i).2) ∧ Ints w B u (Rk.rowAt rows i).1) {k : Nat} (hk : k < rows.length) :
    ∃ ad u, A = some ad ∧ ad.block < B ∧ w.cell? (ad.add (k * 2)) = some u ∧ w.cell? (ad.add (k * 2 + 1)) = some (.bool (Rk.rowAt rows k).2) ∧ Ints w B u (Rk.rowAt rows k).1 := by
  obtain ⟨ad, e, hb, hc⟩ := hr.2 (by omega)
  obtain ⟨u, h1, h2, h3⟩ := hi k hk
  exact ⟨ad, u, e, hb, hc _ _ h1, hc _ _ h2, h3⟩
end

/-- The error of a spectrum. -/
def specErr (parts : Int) (rows : List RowL) : Int :=
  if parts < 1 then 1 else if 256 < parts ∨ 64 < rows.length then 3
  else if ∀ i, i < rows.length → Rk.incr parts (Rk.rowAt rows i).1 = true then 0 else 1

set_option maxHeartbeats 800000 in
theorem checkspectrum_any (parts : Int) (v : Value) (rows : List RowL) (B : Nat) (w : World) (hv : Rows w B v rows) (hB : B ≤ w.heap.size) :
    Calls Tryz.prog 9 #[.agg #[.int .i64 parts, v]] w fun e w' => e = .returned (.int .i64 (specErr parts rows)) ∧ Below w.heap.size w w' := by
  obtain ⟨A, c, vs, rfl, hn, hm, hr, hi⟩ := hv
  clear hn
  by_cases h1 : parts < 1
  · have He := Lib.hid (show specErr parts rows = 1 by unfold specErr; rw [if_pos h1])
    clear hr hi
    go_enter Tryz.func9, Tryz.ntmps9
    go_wp2
    go_ret
    exact ⟨ret_int He.out.symm, (Below.refl _ _).alloc (Nat.le_refl _) _⟩
  · by_cases h2 : 256 < parts
    · have He := Lib.hid (show specErr parts rows = 3 by unfold specErr; rw [if_neg h1, if_pos (.inl h2)])
      clear hr hi
      go_enter Tryz.func9, Tryz.ntmps9
      go_wp2
      go_ret
      exact ⟨ret_int He.out.symm, (Below.refl _ _).alloc (Nat.le_refl _) _⟩
    · by_cases h3 : 64 < rows.length
      · have He := Lib.hid (show specErr parts rows = 3 by unfold specErr; rw [if_neg h1, if_pos (.inr h3)])
        clear hr hi
        go_enter Tryz.func9, Tryz.ntmps9
        go_wp2
        go_ret
        exact ⟨ret_int He.out.symm, (Below.refl _ _).alloc (Nat.le_refl _) _⟩
      · have Hr := Lib.hid hr
        have Hi := Lib.hid hi
        clear hr hi
        go_enter Tryz.func9, Tryz.ntmps9
        have hs := Lib.hid (Blk.new w 24 #[.int .i64 parts, .slice A rows.length c])
        go_wp2
        go_loopg [20] rows.length (fun g i wr => ∃ k : Nat, k ≤ rows.length ∧ g = rows.length - k ∧ i = .int .i64 k ∧ Below (w.heap.size + 1) (w.alloc (.cells #[.int .i64 parts, .slice A rows.length c] 24)) wr ∧ Hid (∀ i, i < k → Rk.incr parts (Rk.rowAt rows i).1 = true))
        case atStart => exact ⟨0, Nat.zero_le _, rfl, rfl, Below.refl _ _, fun i h => by omega⟩
        case round =>
          obtain ⟨k, hk, hg, rfl, hb, hp⟩ := hrel
          have Hg := Lib.hid hg
          clear hg
          have hb0 : Below w.heap.size w wr := (below_alloc0 w _).trans (hb.mono (by omega))
          by_cases hlt : k < rows.length
          · obtain ⟨ad, u, rfl, hadb, hc0, hc1, hu⟩ := rows_at Hr.out Hi.out hlt
            obtain ⟨Au, cu, eu⟩ : ∃ Au cu, u = .slice Au (Rk.rowAt rows k).1.length cu := by
              obtain ⟨A1, c1, e, _⟩ := hu
              exact ⟨A1, c1, e⟩
            subst eu
            have hc0' := (hb0.cell (p := ad.add (k * 2)) (by rw [block_of_add]; omega)).trans hc0
            have hc1' := (hb0.cell (p := ad.add (k * 2 + 1)) (by rw [block_of_add]; omega)).trans hc1
            have hc1'' : wr.cell? ⟨(ad.add (k * 2)).block, (ad.add (k * 2)).off + 1, none⟩ = some (.bool (Rk.rowAt rows k).2) := by
              have h := hc1'
              rw [← add_of_add] at h
              exact h
            have hs' := hs.out.below hb (by omega)
            have s0 : wr.cell? ⟨w.heap.size, 0, none⟩ = some (.int .i64 parts) := hs'.cell 0
            have lts := hs'.lt
            have Hu := Lib.hid (fun o => increasing_any _ _ parts B (wr.alloc o) (hu.below ((hb0.mono hB).alloc (by omega) o)))
            have Hb := Lib.hid hb
            have Hp := Lib.hid (show Rk.incr parts (Rk.rowAt rows k).1 = true → ∀ i, i < k + 1 → Rk.incr parts (Rk.rowAt rows i).1 = true from fun hin i h => by
              by_cases e : i = k
              · subst e; exact hin
              · exact hp.out i (by omega))
            have Hq := Lib.hid (show Rk.incr parts (Rk.rowAt rows k).1 = false → specErr parts rows = 1 from fun hin => by
              unfold specErr
              rw [if_neg (by omega), if_neg (by omega), if_neg (fun h => by rw [h k hlt] at hin; cases hin)])
            generalize (Rk.rowAt rows k).2 = bb at *
            generalize Rk.incr parts (Rk.rowAt rows k).1 = rb at *
            generalize (Rk.rowAt rows k).1.length = ln at *
            clear hb hb0 hu hc0 hc1 hp hs'
            cases rb
            · have Hq2 := Lib.hid (Hq.out rfl)
              clear Hq
              go_wp2_with (go_at_call 37; refine (Hu.out _).mono ?_; rintro e w' ⟨rfl, rfl⟩)
              go_ret
              have h4 := (below_alloc0 w _).trans (Hb.out.mono (Nat.le_succ _))
              exact ⟨ret_int Hq2.out.symm, h4.alloc h4.size _⟩
            · have Hp2 := Lib.hid (Hp.out rfl)
              go_wp2_with (go_at_call 37; refine (Hu.out _).mono ?_; rintro e w' ⟨rfl, rfl⟩)
              go_roundg (rows.length - (k + 1))
              case rel => exact ⟨k + 1, by omega, rfl, by go_num, Hb.out.alloc (by omega) _, Hp2⟩
              case measure => rw [Hg.out]; omega
          · obtain rfl : k = rows.length := by omega
            have He := Lib.hid (show specErr parts rows = 0 by unfold specErr; rw [if_neg (by omega), if_neg (by omega), if_pos hp.out])
            have Hb := Lib.hid hb0
            clear hb hb0 hp
            go_wp2
            go_ret
            exact ⟨ret_int He.out.symm, Hb.out⟩

end Go.Proofs.YtfpmbjobieeidaaGreat
