/-
  The walks of marks: add, or, open.
-/
import Derived.Test.YtfpmbjobieeidaaGreatBase
import Derived.Test.YtfpmbjobieeidaaGreatPlainA
namespace Go.Proofs.YtfpmbjobieeidaaGreat
open Go.RowKit

/-- A set of at most 256 numbers as the program keeps it. -/
def mk (m : Nat) : Value := .agg #[.int .u64 (Rk.wd m 0 : Int), .int .u64 (Rk.wd m 1 : Int), .int .u64 (Rk.wd m 2 : Int), .int .u64 (Rk.wd m 3 : Int)]

theorem or_u64 {a b : Nat} (ha : a < 18446744073709551616) (hb : b < 18446744073709551616) : bits .or .u64 (a : Int) (b : Int) = ((a ||| b : Nat) : Int) := u64_or_nat a b ha hb
theorem shl_u64 {b : Nat} (hb : b < 64) : IntKind.u64.wrap (2 ^ b) = ((2 ^ b : Nat) : Int) := by
  have h : 2 ^ b < 2 ^ 64 := Nat.pow_lt_pow_right (by decide) hb
  rw [IntKind.wrap_u64]
  have e : (2 : Int) ^ b = ((2 ^ b : Nat) : Int) := by simp
  rw [e]
  generalize 2 ^ b = y at *
  omega

set_option maxHeartbeats 1000000 in
theorem add_any (g o : Nat) (i x : Nat) (w : World) (h1 : i < 256) (hx : x < 18446744073709551616)
    (hc : w.cell? ⟨g, o + i / 64, none⟩ = some (.int .u64 x)) (hf : w.frozen? ⟨g, o + i / 64, none⟩ = false) :
    Calls Tryz.prog 56 #[.pointer (some ⟨g, o, none⟩), .int .i64 i] w fun e w' => e = .returned (.tuple #[]) ∧ ∃ q, w' = (w.setCell ⟨g, o + i / 64, none⟩ (.int .u64 ((x ||| 2 ^ (i % 64) : Nat) : Int))).drewN q := by
  have hm : i % 64 < 64 := Nat.mod_lt _ (by decide)
  have He := Lib.hid (show bits .or .u64 (x : Int) (IntKind.u64.wrap (2 ^ (i % 64))) = ((x ||| 2 ^ (i % 64) : Nat) : Int) by
    rw [shl_u64 hm, or_u64 hx (Nat.lt_of_lt_of_le (Nat.pow_lt_pow_right (by decide) hm) (by decide))])
  clear hm
  go_enter Tryz.func56, Tryz.ntmps56
  go_wp2
  go_region
  go_wp2
  go_end0
  exact ⟨rfl, 1, by rw [He.out]; rfl⟩

set_option maxHeartbeats 1000000 in
theorem open_any (m : Nat) (n : Nat) (w : World) (hn : n ≤ 256) :
    Calls Tryz.prog 59 #[mk m, .int .i64 n] w fun e w' => e = .returned (.int .i64 (Rk.fo m n)) ∧ Below w.heap.size w w' := by
  unfold mk
  have hcell : ∀ j, j < 4 → (w.alloc (.cells #[.int .u64 (Rk.wd m 0 : Int), .int .u64 (Rk.wd m 1 : Int), .int .u64 (Rk.wd m 2 : Int), .int .u64 (Rk.wd m 3 : Int)] 91)).cell? ⟨w.heap.size, j, none⟩ = some (.int .u64 (Rk.wd m j : Int)) := fun j hj => by
    rw [(Blk.new w 91 _).cell]
    rcases (show j = 0 ∨ j = 1 ∨ j = 2 ∨ j = 3 by omega) with rfl | rfl | rfl | rfl <;> rfl
  have Hcell := Lib.hid hcell
  clear hcell
  generalize Rk.wd m 0 = a0 at *
  generalize Rk.wd m 1 = a1 at *
  generalize Rk.wd m 2 = a2 at *
  generalize Rk.wd m 3 = a3 at *
  go_enter Tryz.func59, Tryz.ntmps59
  go_wp2
  go_loopg [7] n (fun g i wr => ∃ k : Nat, k ≤ n ∧ g = n - k ∧ i = .int .i64 k ∧ wr = w.alloc (.cells #[.int .u64 a0, .int .u64 a1, .int .u64 a2, .int .u64 a3] 91) ∧ Hid (∀ j, j < k → m.testBit j = true))
  case atStart => exact ⟨0, Nat.zero_le _, rfl, rfl, rfl, fun j h => by omega⟩
  case round =>
    obtain ⟨k, hk, hg, rfl, rfl, hall⟩ := hrel
    have Hg := Lib.hid hg
    clear hg
    by_cases hlt : k < n
    · have hc := Hcell.out (k / 64) (by omega)
      have hb := Rk.bit_ask (Rk.wd m (k / 64)) (k % 64)
      rw [Rk.wd_bit] at hb
      generalize Rk.wd m (k / 64) = x at *
      cases ht : m.testBit k with
      | true =>
        rw [ht] at hb
        replace hb : (((x : Int) / 2 ^ (k % 64)).tmod 2 == 0) = false := hb
        have Hall := Lib.hid (show ∀ j, j < k + 1 → m.testBit j = true from fun j h => by
          by_cases e : j = k
          · subst e; exact ht
          · exact hall.out j (by omega))
        clear hall ht
        go_wp2
        go_roundg (n - (k + 1))
        case rel => exact ⟨k + 1, by omega, rfl, by go_num, rfl, Hall⟩
        case measure => rw [Hg.out]; omega
      | false =>
        rw [ht] at hb
        replace hb : (((x : Int) / 2 ^ (k % 64)).tmod 2 == 0) = true := hb
        have Hf := Lib.hid (Rk.fo_some hlt ht hall.out)
        clear hall ht
        go_wp2
        go_ret
        exact ⟨ret_int Hf.out.symm, (Below.refl _ _).alloc (Nat.le_refl _) _⟩
    · obtain rfl : k = n := by omega
      have Hf := Lib.hid (Rk.fo_none hall.out)
      clear hall
      go_wp2
      go_ret
      exact ⟨ret_int Hf.out.symm, (Below.refl _ _).alloc (Nat.le_refl _) _⟩

def orw (a b k j : Nat) : Nat := if j < k then a ||| b else a

set_option maxHeartbeats 1000000 in
theorem or_any (m m' : Nat) (w : World) :
    Calls Tryz.prog 58 #[mk m, mk m'] w fun e w' => e = .returned (mk (m ||| m')) ∧ Below w.heap.size w w' := by
  have Hfin := Lib.hid (show mk (m ||| m') = .agg #[.int .u64 ((Rk.wd m 0 ||| Rk.wd m' 0 : Nat) : Int), .int .u64 ((Rk.wd m 1 ||| Rk.wd m' 1 : Nat) : Int), .int .u64 ((Rk.wd m 2 ||| Rk.wd m' 2 : Nat) : Int), .int .u64 ((Rk.wd m 3 ||| Rk.wd m' 3 : Nat) : Int)] by
    unfold mk; rw [Rk.wd_or, Rk.wd_or, Rk.wd_or, Rk.wd_or])
  have H0 := or_u64 (Rk.wd_lt m 0) (Rk.wd_lt m' 0)
  have H1 := or_u64 (Rk.wd_lt m 1) (Rk.wd_lt m' 1)
  have H2 := or_u64 (Rk.wd_lt m 2) (Rk.wd_lt m' 2)
  have H3 := or_u64 (Rk.wd_lt m 3) (Rk.wd_lt m' 3)
  unfold mk
  generalize Rk.wd m 0 = a0 at *
  generalize Rk.wd m 1 = a1 at *
  generalize Rk.wd m 2 = a2 at *
  generalize Rk.wd m 3 = a3 at *
  generalize Rk.wd m' 0 = b0 at *
  generalize Rk.wd m' 1 = b1 at *
  generalize Rk.wd m' 2 = b2 at *
  generalize Rk.wd m' 3 = b3 at *
  go_enter Tryz.func58, Tryz.ntmps58
  go_wp2
  go_loopg [6] 4 (fun g i wr => ∃ k : Nat, k ≤ 4 ∧ g = 4 - k ∧ i = .int .i64 k ∧
    Blk wr w.heap.size 91 #[.int .u64 (orw a0 b0 k 0 : Nat), .int .u64 (orw a1 b1 k 1 : Nat), .int .u64 (orw a2 b2 k 2 : Nat), .int .u64 (orw a3 b3 k 3 : Nat)] ∧
    Blk wr (w.heap.size + 1) 91 #[.int .u64 b0, .int .u64 b1, .int .u64 b2, .int .u64 b3] ∧ Blk wr (w.heap.size + 1 + 1) 91 #[.int .u64 0, .int .u64 0, .int .u64 0, .int .u64 0] ∧ Below w.heap.size w wr)
  case atStart =>
    refine ⟨0, by omega, rfl, rfl, ((Blk.new w 91 _).alloc _).alloc _, ?_, ?_, (((Below.refl _ _).alloc (Nat.le_refl _) _).alloc (by simp) _).alloc (by simp; omega) _⟩
    · have h := (Blk.new (w.alloc (.cells #[.int .u64 (a0 : Int), .int .u64 (a1 : Int), .int .u64 (a2 : Int), .int .u64 (a3 : Int)] 91)) 91 #[.int .u64 (b0 : Int), .int .u64 (b1 : Int), .int .u64 (b2 : Int), .int .u64 (b3 : Int)]).alloc (.cells #[.int .u64 0, .int .u64 0, .int .u64 0, .int .u64 0] 91)
      simpa using h
    · have h := (Blk.new ((w.alloc (.cells #[.int .u64 (a0 : Int), .int .u64 (a1 : Int), .int .u64 (a2 : Int), .int .u64 (a3 : Int)] 91)).alloc (.cells #[.int .u64 (b0 : Int), .int .u64 (b1 : Int), .int .u64 (b2 : Int), .int .u64 (b3 : Int)] 91)) 91 #[.int .u64 0, .int .u64 0, .int .u64 0, .int .u64 0])
      simpa using h
  case round =>
    obtain ⟨k, hk, hg, rfl, hB1, hB2, hB3, hbl⟩ := hrel
    have Hg := Lib.hid hg
    clear hg
    have Hbl := Lib.hid hbl
    have KB1 := Lib.hid hB1
    have KB2 := Lib.hid hB2
    have KB3 := Lib.hid hB3
    rcases (show k = 0 ∨ k = 1 ∨ k = 2 ∨ k = 3 ∨ k = 4 by omega) with rfl | rfl | rfl | rfl | rfl
    case inr.inr.inr.inr =>
      have c0 : wr.cell? ⟨w.heap.size, 0, none⟩ = some (.int .u64 ((a0 ||| b0 : Nat) : Int)) := hB1.cell 0
      have c1 : wr.cell? ⟨w.heap.size, 1, none⟩ = some (.int .u64 ((a1 ||| b1 : Nat) : Int)) := hB1.cell 1
      have c2 : wr.cell? ⟨w.heap.size, 2, none⟩ = some (.int .u64 ((a2 ||| b2 : Nat) : Int)) := hB1.cell 2
      have c3 : wr.cell? ⟨w.heap.size, 3, none⟩ = some (.int .u64 ((a3 ||| b3 : Nat) : Int)) := hB1.cell 3
      have d0 : wr.cell? ⟨w.heap.size + 1 + 1, 0, none⟩ = some (.int .u64 0) := hB3.cell 0
      have d1 : wr.cell? ⟨w.heap.size + 1 + 1, 1, none⟩ = some (.int .u64 0) := hB3.cell 1
      have d2 : wr.cell? ⟨w.heap.size + 1 + 1, 2, none⟩ = some (.int .u64 0) := hB3.cell 2
      have d3 : wr.cell? ⟨w.heap.size + 1 + 1, 3, none⟩ = some (.int .u64 0) := hB3.cell 3
      have f0 := hB3.frozen 0
      have f1 := hB3.frozen 1
      have f2 := hB3.frozen 2
      have f3 := hB3.frozen 3
      clear hB1 hB2 hB3 hbl
      go_wp2
      refine bodyPost_ret (v := .agg #[.int .u64 ((a0 ||| b0 : Nat) : Int), .int .u64 ((a1 ||| b1 : Nat) : Int), .int .u64 ((a2 ||| b2 : Nat) : Int), .int .u64 ((a3 ||| b3 : Nat) : Int)]) (by simp [results, Tryz.results58, go_sem, d0, d1, d2, d3]) rfl ⟨(congrArg Ending.returned Hfin.out).symm, ?_⟩
      exact (((Hbl.out.setCell (by simp; omega) _).setCell (by simp; omega) _).setCell (by simp; omega) _).setCell (by simp; omega) _
    case inl =>
      have c0 : wr.cell? ⟨w.heap.size, 0, none⟩ = some (.int .u64 (a0 : Int)) := hB1.cell 0
      have d0 : wr.cell? ⟨w.heap.size + 1, 0, none⟩ = some (.int .u64 (b0 : Int)) := hB2.cell 0
      have f0 := hB1.frozen 0
      clear hB1 hB2 hB3 hbl
      go_wp2
      go_region
      go_wp2
      go_roundg (4 - (0 + 1))
      case rel => exact ⟨0 + 1, by omega, rfl, by go_num, KB1.out.set_ 0 _, KB2.out.far (by simp) _, KB3.out.far (by simp; omega) _, (Hbl.out.setCell (by simp) _).drew⟩
      case measure => rw [Hg.out]; omega
    case inr.inl =>
      have c0 : wr.cell? ⟨w.heap.size, 1, none⟩ = some (.int .u64 (a1 : Int)) := hB1.cell 1
      have d0 : wr.cell? ⟨w.heap.size + 1, 1, none⟩ = some (.int .u64 (b1 : Int)) := hB2.cell 1
      have f0 := hB1.frozen 1
      clear hB1 hB2 hB3 hbl
      go_wp2
      go_region
      go_wp2
      go_roundg (4 - (1 + 1))
      case rel => exact ⟨1 + 1, by omega, rfl, by go_num, KB1.out.set_ 1 _, KB2.out.far (by simp) _, KB3.out.far (by simp; omega) _, (Hbl.out.setCell (by simp) _).drew⟩
      case measure => rw [Hg.out]; omega
    case inr.inr.inl =>
      have c0 : wr.cell? ⟨w.heap.size, 2, none⟩ = some (.int .u64 (a2 : Int)) := hB1.cell 2
      have d0 : wr.cell? ⟨w.heap.size + 1, 2, none⟩ = some (.int .u64 (b2 : Int)) := hB2.cell 2
      have f0 := hB1.frozen 2
      clear hB1 hB2 hB3 hbl
      go_wp2
      go_region
      go_wp2
      go_roundg (4 - (2 + 1))
      case rel => exact ⟨2 + 1, by omega, rfl, by go_num, KB1.out.set_ 2 _, KB2.out.far (by simp) _, KB3.out.far (by simp; omega) _, (Hbl.out.setCell (by simp) _).drew⟩
      case measure => rw [Hg.out]; omega
    case inr.inr.inr.inl =>
      have c0 : wr.cell? ⟨w.heap.size, 3, none⟩ = some (.int .u64 (a3 : Int)) := hB1.cell 3
      have d0 : wr.cell? ⟨w.heap.size + 1, 3, none⟩ = some (.int .u64 (b3 : Int)) := hB2.cell 3
      have f0 := hB1.frozen 3
      clear hB1 hB2 hB3 hbl
      go_wp2
      go_region
      go_wp2
      go_roundg (4 - (3 + 1))
      case rel => exact ⟨3 + 1, by omega, rfl, by go_num, KB1.out.set_ 3 _, KB2.out.far (by simp) _, KB3.out.far (by simp; omega) _, (Hbl.out.setCell (by simp) _).drew⟩
      case measure => rw [Hg.out]; omega

end Go.Proofs.YtfpmbjobieeidaaGreat
