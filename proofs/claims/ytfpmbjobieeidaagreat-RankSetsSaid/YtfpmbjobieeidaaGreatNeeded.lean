/-
  The walk of Hit's inner function needed.
-/
import Derived.Test.YtfpmbjobieeidaaGreatMarks
import Derived.Test.YtfpmbjobieeidaaGreatPlainA
import Derived.Deep.RegionHeld3
import Derived.StillTailTactics
namespace Go.Proofs.YtfpmbjobieeidaaGreat
open Go.RowKit

/-- The table: which sets each number is in. -/
def Table (w : World) (g : Nat) (H : Nat → Nat) : Prop := ∃ cur, Blk w g 91 cur ∧ cur.size = 1024 ∧ ∀ n j, n < 256 → j < 4 → cur[n * 4 + j]? = some (.int .u64 (Rk.wd (H n) j : Int))
theorem Table.cell {w : World} {g : Nat} {H : Nat → Nat} (h : Table w g H) {n j : Nat} (hn : n < 256) (hj : j < 4) : w.cell? ⟨g, n * 4 + j, none⟩ = some (.int .u64 (Rk.wd (H n) j : Int)) := by
  obtain ⟨cur, hb, _, hc⟩ := h
  rw [hb.cell]
  exact hc n j hn hj
theorem Table.below {w w' : World} {g : Nat} {H : Nat → Nat} {B : Nat} (h : Table w g H) (hb : Below B w w') (hg : g < B) : Table w' g H := by
  obtain ⟨cur, hk, hs, hc⟩ := h
  exact ⟨cur, hk.below hb hg, hs, hc⟩
theorem Table.lt {w : World} {g : Nat} {H : Nat → Nat} (h : Table w g H) : g < w.heap.size := by
  obtain ⟨cur, hk, _⟩ := h
  exact hk.lt

set_option maxRecDepth 100000 in
set_option maxHeartbeats 1000000 in
theorem needed_any (v : Value) (l : List Int) (B : Nat) (w : World) (gh gH gs N c : Nat) (As : Option Addr) (H : Nat → Nat) (hv : Ints w B v l) (hB : B ≤ w.heap.size) (hl : ∀ x ∈ l, 0 ≤ x ∧ x < 256) (hN : N ≤ 256)
    (hh : Blk w gh 89 #[.slice (some ⟨gH, 0, none⟩) 256 256]) (ht : Table w gH H) (hs : Blk w gs 40 #[.slice As N c]) :
    Calls Tryz.prog 57 #[v, .pointer (some ⟨gh, 0, none⟩), .pointer (some ⟨gs, 0, none⟩)] w fun e w' => e = .returned (.bool (Rk.needed H N l)) ∧ Below w.heap.size w w' := by
  obtain ⟨A, cv, rfl, hn, hm, hr⟩ := hv
  clear hn
  have Hr := Lib.hid (hr.more hB)
  have Hh := Lib.hid hh
  have Ht := Lib.hid ht
  have Hs := Lib.hid hs
  have Hl := Lib.hid hl
  clear hr hh ht hs hl
  go_enter Tryz.func57, Tryz.ntmps57
  go_wp2
  go_loopg [11] l.length (fun g i wr => ∃ k : Nat, k ≤ l.length ∧ g = l.length - k ∧ i = .int .i64 k ∧ Below w.heap.size w wr ∧ Hid (∀ i, i < k → 0 ≤ Rk.fo (Rk.rest H l i l.length) N))
  case atStart => exact ⟨0, Nat.zero_le _, rfl, rfl, Below.refl _ _, fun i h => by omega⟩
  case round =>
    obtain ⟨k, hk, hg, rfl, hbr, hok⟩ := hrel
    have Hg := Lib.hid hg
    clear hg
    by_cases hlt : k < l.length
    · go_wp2
      obtain ⟨wo, rfl⟩ : ∃ wo : World, wo = wr := ⟨_, rfl⟩
      go_loopg [16] l.length (fun g i W1 => ∃ m : Nat, m ≤ l.length ∧ g = l.length - m ∧ i = .int .i64 m ∧ Below wo.heap.size wo W1 ∧
        Blk W1 wo.heap.size 91 #[.int .u64 (Rk.wd (Rk.rest H l k m) 0 : Int), .int .u64 (Rk.wd (Rk.rest H l k m) 1 : Int), .int .u64 (Rk.wd (Rk.rest H l k m) 2 : Int), .int .u64 (Rk.wd (Rk.rest H l k m) 3 : Int)])
      case atStart => 
        refine ⟨0, Nat.zero_le _, rfl, rfl, (Below.refl _ _).alloc (Nat.le_refl _) _, ?_⟩
        simp only [Rk.rest, Rk.wd_zero]
        exact Blk.new _ _ _
      case round =>
        obtain ⟨m, hm', hgm, rfl, hbx, hK⟩ := hrel
        have Hgm := Lib.hid hgm
        clear hgm
        by_cases hltm : m < l.length
        · obtain ⟨ad, e, hadb, hc⟩ := ints_at Hr.out hltm
          subst e
          have hx := Hl.out _ (Rk.getD_mem hltm)
          have hc1 : wr.cell? (ad.add m) = some (.int .i64 (l.getD m 0)) := (hbx.cell (by rw [block_of_add]; exact Nat.lt_of_lt_of_le hadb hbr.size)).trans ((hbr.cell (by rw [block_of_add]; exact hadb)).trans hc)
          clear hc
          by_cases hmk : m = k
          · have hmk' : ((m : Int) != k) = false := by simp [hmk]
            have HK := Lib.hid (show Rk.rest H l k (m + 1) = Rk.rest H l k m by rw [Rk.rest, if_pos hmk])
            have HKb := Lib.hid hK
            clear hK hmk
            go_wp2
            go_roundg (l.length - (m + 1))
            case rel => exact ⟨m + 1, by omega, rfl, by go_num, hbx, by rw [HK.out]; exact HKb.out⟩
            case measure => rw [Hgm.out]; omega
          · have hmk' : ((m : Int) != k) = true := by simp; omega
            obtain ⟨x, hx'⟩ : ∃ x : Nat, l.getD m 0 = x := ⟨(l.getD m 0).toNat, by omega⟩
            have HK := Lib.hid (show Rk.rest H l k (m + 1) = Rk.rest H l k m ||| H x by rw [Rk.rest, if_neg hmk, hx']; rfl)
            rw [hx'] at hc1
            have hx3 : x < 256 := by omega
            clear hx' hx hmk
            have hw0 := Nat.le_trans hbr.size hbx.size
            have b0 := (Hh.out.below hbr Hh.out.lt).below hbx (Nat.lt_of_lt_of_le Hh.out.lt hbr.size)
            have bT := (Ht.out.below hbr Ht.out.lt).below hbx (Nat.lt_of_lt_of_le Ht.out.lt hbr.size)
            have c0 : wr.cell? ⟨gh, 0, none⟩ = some (.slice (some ⟨gH, 0, none⟩) 256 256) := b0.cell 0
            have t0 := bT.cell hx3 (show 0 < 4 by decide)
            have t1 := bT.cell hx3 (show 1 < 4 by decide)
            have t2 := bT.cell hx3 (show 2 < 4 by decide)
            have t3 := bT.cell hx3 (show 3 < 4 by decide)
            have r0 := hK.cell 0
            have r1 := hK.cell 1
            have r2 := hK.cell 2
            have r3 := hK.cell 3
            simp at r0 r1 r2 r3 t0
            have z0' := hK.frozen 0
            have z1' := hK.frozen 1
            have z2' := hK.frozen 2
            have z3' := hK.frozen 3
            have HKb := Lib.hid hK
            have hlb := hK.lt
            clear hK b0 bT
            have Hor := Lib.hid (fun W => or_any (Rk.rest H l k m) (H x) W)
            unfold mk at Hor
            generalize Rk.wd (H x) 0 = y0 at *
            generalize Rk.wd (H x) 1 = y1 at *
            generalize Rk.wd (H x) 2 = y2 at *
            generalize Rk.wd (H x) 3 = y3 at *
            generalize Rk.wd (Rk.rest H l k m) 0 = z0 at *
            generalize Rk.wd (Rk.rest H l k m) 1 = z1 at *
            generalize Rk.wd (Rk.rest H l k m) 2 = z2 at *
            generalize Rk.wd (Rk.rest H l k m) 3 = z3 at *
            go_wp2
            go_region_with (go_at_call 58; refine (Hor.out _).mono ?_; rintro e w1 ⟨rfl, hb1⟩; have g0 := (hb1.cell (p := ⟨wo.heap.size, 0, none⟩) hlb).trans r0; have g1 := (hb1.cell (p := ⟨wo.heap.size, 1, none⟩) hlb).trans r1; have g2 := (hb1.cell (p := ⟨wo.heap.size, 2, none⟩) hlb).trans r2; have g3 := (hb1.cell (p := ⟨wo.heap.size, 3, none⟩) hlb).trans r3; have k0 := (hb1.frozen (p := ⟨wo.heap.size, 0, none⟩) hlb).trans z0'; have k1 := (hb1.frozen (p := ⟨wo.heap.size, 1, none⟩) hlb).trans z1'; have k2 := (hb1.frozen (p := ⟨wo.heap.size, 2, none⟩) hlb).trans z2'; have k3 := (hb1.frozen (p := ⟨wo.heap.size, 3, none⟩) hlb).trans z3')
            all_goals
              replace hb1 : Below wr.heap.size wr w1 := ⟨hb1.os, hb1.tape, hb1.output, hb1.size, hb1.block⟩
              go_wp2
              go_roundg (l.length - (m + 1))
              case rel =>
                refine ⟨m + 1, by omega, rfl, by go_num, ?_, ?_⟩
                · exact (((((hbx.trans (Below.mono hb1 hbx.size))).setCell (Nat.le_refl _) _).setCell (Nat.le_refl _) _).setCell (Nat.le_refl _) _).setCell (Nat.le_refl _) _
                · rw [HK.out]
                  exact ((((HKb.out.below hb1 hlb).set_ 0 _).set_ 1 _).set_ 2 _).set_ 3 _
              case measure => rw [Hgm.out]; omega
        · obtain rfl : m = l.length := by omega
          have hlb := hK.lt
          have r0 := hK.cell 0
          have r1 := hK.cell 1
          have r2 := hK.cell 2
          have r3 := hK.cell 3
          simp at r0 r1 r2 r3
          have hbw : Below w.heap.size w wr := hbr.trans (hbx.mono hbr.size)
          have s0 : wr.cell? ⟨gs, 0, none⟩ = some (.slice As N c) := (Hs.out.below hbw Hs.out.lt).cell 0
          have Hop := Lib.hid (fun W => open_any (Rk.rest H l k l.length) N W hN)
          unfold mk at Hop
          have Hfo := Lib.hid (Rk.fo_cases (Rk.rest H l k l.length) N)
          clear hK
          cases hfo : decide (0 ≤ Rk.fo (Rk.rest H l k l.length) N) with
          | true =>
            have hfo' : 0 ≤ Rk.fo (Rk.rest H l k l.length) N := of_decide_eq_true hfo
            have Hok := Lib.hid (show ∀ i, i < k + 1 → 0 ≤ Rk.fo (Rk.rest H l i l.length) N from fun i h => by
              by_cases e : i = k
              · subst e; exact hfo'
              · exact hok.out i (by omega))
            clear hfo hok
            generalize Rk.fo (Rk.rest H l k l.length) N = f at *
            generalize Rk.wd (Rk.rest H l k l.length) 0 = z0 at *
            generalize Rk.wd (Rk.rest H l k l.length) 1 = z1 at *
            generalize Rk.wd (Rk.rest H l k l.length) 2 = z2 at *
            generalize Rk.wd (Rk.rest H l k l.length) 3 = z3 at *
            go_wp2_with (go_at_call 59; refine (Hop.out _).mono ?_; rintro e w1 ⟨rfl, hb1⟩)
            go_roundg (l.length - (k + 1))
            case rel => exact ⟨k + 1, by omega, rfl, by go_num, hbw.trans (hb1.mono hbw.size), Hok⟩
            case measure => rw [Hg.out]; omega
          | false =>
            have hfo' : Rk.fo (Rk.rest H l k l.length) N < 0 := Int.not_le.1 (of_decide_eq_false hfo)
            have Hr' := Lib.hid (show Rk.needed H N l = false from decide_eq_false fun h => by have := h k hlt; omega)
            clear hfo hok
            generalize Rk.fo (Rk.rest H l k l.length) N = f at *
            generalize Rk.wd (Rk.rest H l k l.length) 0 = z0 at *
            generalize Rk.wd (Rk.rest H l k l.length) 1 = z1 at *
            generalize Rk.wd (Rk.rest H l k l.length) 2 = z2 at *
            generalize Rk.wd (Rk.rest H l k l.length) 3 = z3 at *
            go_wp2_with (go_at_call 59; refine (Hop.out _).mono ?_; rintro e w1 ⟨rfl, hb1⟩)
            go_ret
            exact ⟨ret_bool Hr'.out.symm, hbw.trans (hb1.mono hbw.size)⟩
    · obtain rfl : k = l.length := by omega
      have Hr' := Lib.hid (show Rk.needed H N l = true from decide_eq_true hok.out)
      clear hok
      go_wp2
      go_ret
      exact ⟨ret_bool Hr'.out.symm, hbr⟩

end Go.Proofs.YtfpmbjobieeidaaGreat
