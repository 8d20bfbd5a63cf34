/-
  The walk of SameRank; what a list of standings holds.
-/
import Derived.Test.YtfpmbjobieeidaaGreatRankM
import Derived.BigQuiet
namespace Go.Proofs.YtfpmbjobieeidaaGreat
open Go.RowKit

theorem fld_ext {a b : Rk.Stn} (h : ∀ j, j < 5 → fld a j = fld b j) : a = b := by
  obtain ⟨a0, ⟨a1, a2⟩, a3, a4⟩ := a
  obtain ⟨b0, ⟨b1, b2⟩, b3, b4⟩ := b
  have h0 : ((a0 : Nat) : Int) = b0 := h 0 (by decide)
  have h1 : a1 = b1 := h 1 (by decide)
  have h2 : a2 = b2 := h 2 (by decide)
  have h3 : a3 = b3 := h 3 (by decide)
  have h4 : a4 = b4 := h 4 (by decide)
  have h0' : a0 = b0 := by omega
  rw [h0', h1, h2, h3, h4]

set_option maxRecDepth 20000 in
set_option maxHeartbeats 1000000 in
/-- Two rankings that are equal. -/
theorem samerank_yes (u v : Value) (l : List Rk.Stn) (B : Nat) (w : World) (hu : Stns w B u l) (hv : Stns w B v l) :
    Calls Tryz.prog 13 #[u, v] w fun e w' => e = .returned (.bool true) ∧ ∃ q, w' = w.drewN q := by
  obtain ⟨A, c, rfl, hl, hc⟩ := hu
  obtain ⟨A', c', rfl, _, hc'⟩ := hv
  have Hc := Lib.hid hc
  have Hc' := Lib.hid hc'
  clear hc hc'
  go_enter Tryz.func13, Tryz.ntmps13
  go_wp2
  go_loopg [5] l.length (fun g i wr => ∃ k q : Nat, k ≤ l.length ∧ g = l.length - k ∧ i = .int .i64 k ∧ wr = w.drewN q)
  case atStart => exact ⟨0, 0, Nat.zero_le _, rfl, rfl, rfl⟩
  case round =>
    obtain ⟨k, q, hk, hg, rfl, rfl⟩ := hrel
    have Hg := Lib.hid hg
    clear hg
    by_cases hlt : k < l.length
    · obtain ⟨ga, rfl, _, ca⟩ := Hc.out (by omega)
      obtain ⟨gb, rfl, _, cb⟩ := Hc'.out (by omega)
      have a0 := ca k 0 hlt (by decide)
      have a1 := ca k 1 hlt (by decide)
      have a2 := ca k 2 hlt (by decide)
      have a3 := ca k 3 hlt (by decide)
      have a4 := ca k 4 hlt (by decide)
      have b0 := cb k 0 hlt (by decide)
      have b1 := cb k 1 hlt (by decide)
      have b2 := cb k 2 hlt (by decide)
      have b3 := cb k 3 hlt (by decide)
      have b4 := cb k 4 hlt (by decide)
      rw [Nat.add_zero] at a0 b0
      have hkk : (k : Int) < (l.length : Int) := by omega
      clear ca cb
      generalize fld (l.getD k (0, (0, 0), 0, 0)) 0 = x0 at *
      generalize fld (l.getD k (0, (0, 0), 0, 0)) 1 = x1 at *
      generalize fld (l.getD k (0, (0, 0), 0, 0)) 2 = x2 at *
      generalize fld (l.getD k (0, (0, 0), 0, 0)) 3 = x3 at *
      generalize fld (l.getD k (0, (0, 0), 0, 0)) 4 = x4 at *
      have hgd := fun (x y : Operand) W => gd_stn W .neq x y #[.int .i64 x0, .int .i64 x1, .int .i64 x2, .int .i64 x3, .int .i64 x4] #[.int .i64 x0, .int .i64 x1, .int .i64 x2, .int .i64 x3, .int .i64 x4]
      have hne := fun W => neq_stn W x0 x1 x2 x3 x4 x0 x1 x2 x3 x4
      have hb : (!(x0 == x0 && ((x1 == x1 && x2 == x2) && (x3 == x3 && x4 == x4)))) = false := by simp
      rw [hb] at hne
      clear hb
      go_wp2
      go_quiet (fail)
      go_wp2
      go_roundg (l.length - (k + 1))
      case rel => exact ⟨k + 1, _, hlt, rfl, by go_num, rfl⟩
      case measure => rw [Hg.out]; omega
    · go_wp2
      go_ret
      exact ⟨rfl, q, rfl⟩
end Go.Proofs.YtfpmbjobieeidaaGreat
