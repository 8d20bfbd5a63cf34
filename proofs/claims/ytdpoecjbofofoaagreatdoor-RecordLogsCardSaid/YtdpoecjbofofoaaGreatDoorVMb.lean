/-
  Contract: Shape of the specification's.
  What is no row of bytes stays when numbers are put behind bytes.
  Contract: the program's Encode.
  Contract: the specification's Encode.
-/
import Derived.Test.YtdpoecjbofofoaaGreatDoorVMa
import Derived.Deep.RegionHeld3
import Derived.Deep.DrawnRows
namespace Go.Proofs.YtdpoecjbofofoaaGreatDoor
open Go.RowKit
set_option maxRecDepth 20000 in
set_option maxHeartbeats 1600000 in
theorem rshape_any (v : Value) (l : Rb.Lg) (B : Nat) (w : World) (hv : RdL w B v l) (hB : B ≤ w.heap.size) :
    Calls Tryz.prog 11 #[v] w fun e w' => e = .returned (.int .i64 (Rb.shape l)) ∧ Below w.heap.size w w' := by
  obtain ⟨pv, iv, cv, rfl, ⟨Ap, cp, rfl, -, hr⟩, ⟨Ai, ci, rfl, -, -, -⟩, ⟨Ac, cc, rfl, -, -, -⟩⟩ := hv
  by_cases hg : 65536 < l.picks.length ∨ 1024 < l.inputs.length ∨ 1024 < l.clocks.length
  · rw [Rb.shape_great hg]
    clear hr
    generalize l.picks.length = p at *
    generalize l.inputs.length = i at *
    generalize l.clocks.length = c at *
    generalize l.steps = s at *
    generalize l.sum = u at *
    cases h1 : decide ((p : Int) > 65536) <;> cases h2 : decide ((i : Int) > 1024) <;> cases h3 : decide ((c : Int) > 1024) <;>
    first
    | (exfalso; simp at h1 h2 h3; omega)
    | (clear hg
       go_enter Tryz.func11, Tryz.ntmps11
       go_wp2
       go_ret
       exact ⟨rfl, (Below.refl _ _).alloc (Nat.le_refl _) _⟩)
  · have h1 : decide ((l.picks.length : Int) > 65536) = false := by simp; omega
    have h2 : decide ((l.inputs.length : Int) > 1024) = false := by simp; omega
    have h3 : decide ((l.clocks.length : Int) > 1024) = false := by simp; omega
    have hn : l.picks.length ≤ 65536 := by omega
    have HN := Lib.hid (fun h => Rb.shape_none (l := l) hg h)
    have HY := Lib.hid (fun n h => Rb.shape_some (l := l) hg (n := n) h)
    have HR := Lib.hid hr
    clear hg hr
    go_enter Tryz.func11, Tryz.ntmps11
    go_wp2
    go_loopg [3, 4] l.picks.length (fun g s i wr => ∃ (k : Nat) (sum last : Int), k ≤ l.picks.length ∧ g = l.picks.length - k ∧ i = .int .i64 k ∧ s = .int .i64 sum ∧ Hid (last = if k = 0 then -1 else (l.picks.getD (k - 1) (0, 0)).1) ∧ 0 ≤ sum ∧ sum ≤ 65536 ∧ Hid (Rb.shapeGo l.picks 0 (-1) = Rb.shapeGo (l.picks.drop k) sum last) ∧ Hid (Below (w.heap.size + 1) (w.alloc (.cells #[.slice Ap l.picks.length cp, .slice Ai l.inputs.length ci, .slice Ac l.clocks.length cc, .int .i64 l.steps, .int .u64 (l.sum : Int)] 26)) wr))
    case atStart => exact ⟨0, 0, -1, Nat.zero_le _, rfl, rfl, rfl, Lib.hid rfl, by omega, by omega, Lib.hid rfl, Lib.hid (Below.refl _ _)⟩
    case round =>
      obtain ⟨k, sum, last, hk, hg, rfl, rfl, hl, hs0, hs1, he, hb⟩ := hrel
      have Hg := Lib.hid hg
      have H0 := Lib.hid (((Below.refl w.heap.size w).alloc (Nat.le_refl _) _).trans (hb.out.mono (Nat.le_succ _)))
      have hz1 : w.heap.size + 1 ≤ wr.heap.size := by have := hb.out.size; simpa using this
      have hz : w.heap.size ≤ wr.heap.size := by omega
      clear hg
      have hbx : wr.cell? ⟨w.heap.size, 0, none⟩ = some (.slice Ap l.picks.length cp) := (hb.out.cell (by show w.heap.size < _; omega)).trans ((Blk.new w 26 _).cell 0)
      by_cases hlt : k < l.picks.length
      · obtain ⟨ad, rfl, hadb, hc0, hd0⟩ := picks_at HR.out hlt
        have HR2 := Lib.hid HR.out
        have hc : wr.cell? (ad.add (k * 2)) = some (.int .i64 (l.picks.getD k (0, 0)).1) := (hb.out.cell (by rw [block_of_add]; omega)).trans ((World.cell?_alloc_lt w _ _ (by rw [block_of_add]; omega)).trans hc0)
        have hd : wr.cell? ⟨(ad.add (k * 2)).block, (ad.add (k * 2)).off + 1, none⟩ = some (.int .i64 (l.picks.getD k (0, 0)).2) := (hb.out.cell (by show (ad.add (k * 2)).block < _; rw [block_of_add]; omega)).trans ((World.cell?_alloc_lt w _ _ (by show (ad.add (k * 2)).block < _; rw [block_of_add]; omega)).trans hd0)
        have HD := Lib.hid (Rb.go_drop hlt sum last)
        clear hc0 hd0
        have HL := Lib.hid (show (l.picks.getD k (0, 0)).1 = if k + 1 = 0 then -1 else (l.picks.getD (k + 1 - 1) (0, 0)).1 by rw [if_neg (by omega), Nat.add_sub_cancel])
        generalize (l.picks.getD k (0, 0)).1 = t at *
        generalize (l.picks.getD k (0, 0)).2 = c at *
        have H4 := Lib.hid (fun h => HN.out (he.out.trans (HD.out.trans (if_pos h))))
        by_cases x : t < 0 ∨ 8 ≤ t ∨ t = last ∨ c < 1 ∨ 65536 - sum < c
        · have H5 := Lib.hid (H4.out x)
          clear H4 HD he
          by_cases x1 : t < 0
          · have b1 : decide (t < 0) = true := by simpa using x1
            clear x
            go_wp2
            go_quiet (fail)
            go_wp2
            go_ret
            exact ⟨ret_int H5.out, below_drewN (H0.out.alloc hz _) _⟩
          have b1 : decide (t < 0) = false := by simpa using x1
          by_cases x2 : 8 ≤ t
          · have b2 : decide (t ≥ 8) = true := by simpa using x2
            clear x
            go_wp2
            go_quiet (fail)
            go_wp2
            go_ret
            exact ⟨ret_int H5.out, below_drewN (H0.out.alloc hz _) _⟩
          have b2 : decide (t ≥ 8) = false := by simp; omega
          by_cases x4 : c < 1
          · have b4 : decide (c < 1) = true := by simpa using x4
            clear x
            go_wp2
            go_quiet (fail)
            go_wp2
            go_ret
            exact ⟨ret_int H5.out, below_drewN (H0.out.alloc hz _) _⟩
          have b4 : decide (c < 1) = false := by simpa using x4
          have hw0 : IntKind.i64.wrap (65536 - sum) = 65536 - sum := IntWalk.i64_in _ (by omega)
          by_cases x5 : 65536 - sum < c
          · have b5 : decide (c > 65536 - sum) = true := by simpa using x5
            clear x
            go_wp2
            go_quiet (fail)
            go_wp2
            go_ret
            exact ⟨ret_int H5.out, below_drewN (H0.out.alloc hz _) _⟩
          have b5 : decide (c > 65536 - sum) = false := by simpa using x5
          have x3 : t = last := by omega
          have hk0 : 0 < k := by
            rcases Nat.eq_zero_or_pos k with h0 | h0
            · have := hl.out; rw [if_pos h0] at this; omega
            · exact h0
          have hl2 := hl.out
          rw [if_neg (by omega)] at hl2
          have hlp : wr.cell? (ad.add ((k - 1) * 2)) = some (.int .i64 t) := by
            obtain ⟨ad2, h2, h3, h4, -⟩ := picks_at HR2.out (show k - 1 < l.picks.length by omega)
            cases h2
            rw [x3, hl2]
            exact (hb.out.cell (by rw [block_of_add]; omega)).trans ((World.cell?_alloc_lt w _ _ (by rw [block_of_add]; omega)).trans h4)
          have b6 : decide ((k : Int) > 0) = true := by simp; omega
          clear x x3 hl2 hl
          have hk1 : k - 1 < l.picks.length := by omega
          have hkz : (0 : Int) ≤ (k : Int) - 1 := by omega
          have hkt : ((k : Int) - 1).toNat = k - 1 := by omega
          have hkk : IntKind.i64.wrap ((k : Int) - 1) = (k : Int) - 1 := IntWalk.i64_in _ (by omega)
          have hz2 : w.heap.size < wr.heap.size := by omega
          have hbx2 : (wr.alloc (.cells #[.int .i64 t, .int .i64 c] 56)).cell? ⟨w.heap.size, 0, none⟩ = some (.slice (some ad) l.picks.length cp) := (World.cell?_alloc_lt _ _ _ hz2).trans hbx
          have hlp2 : (wr.alloc (.cells #[.int .i64 t, .int .i64 c] 56)).cell? (ad.add ((k - 1) * 2)) = some (.int .i64 t) := (World.cell?_alloc_lt _ _ _ (by rw [block_of_add]; omega)).trans hlp
          have hkl : (k : Int) - 1 < (l.picks.length : Int) := by omega
          go_wp2
          go_quiet (fail)
          go_wp2
          go_ret
          exact ⟨ret_int H5.out, below_drewN (H0.out.alloc hz _) _⟩
        · have b1 : decide (t < 0) = false := by simp; omega
          have b2 : decide (t ≥ 8) = false := by simp; omega
          have b4 : decide (c < 1) = false := by simp; omega
          have b5 : decide (c > 65536 - sum) = false := by simp; omega
          have hw0 : IntKind.i64.wrap (65536 - sum) = 65536 - sum := IntWalk.i64_in _ (by omega)
          have hx3 : t ≠ last := by omega
          have HE := Lib.hid (he.out.trans (HD.out.trans (if_neg x)))
          have hs2 : 0 ≤ sum + c := by omega
          have hs3 : sum + c ≤ 65536 := by omega
          have hw1 : IntKind.i64.wrap (sum + c) = sum + c := IntWalk.i64_in _ (by omega)
          clear H4 HD he x
          rcases Nat.eq_zero_or_pos k with hk0 | hk0
          · have b6 : decide ((k : Int) > 0) = false := by simp; omega
            have b8 : decide (0 < k) = false := by simp; omega
            have b9 : ¬ 0 < k := by omega
            clear hx3 hk0
            go_wp2
            go_quiet (fail)
            go_wp2
            go_roundg (l.picks.length - (k + 1))
            case rel => exact ⟨k + 1, sum + c, t, hlt, rfl, by go_num, rfl, HL, hs2, hs3, HE, Lib.hid (below_drewN (hb.out.alloc hz1 _) _)⟩
            case measure => rw [Hg.out]; omega
          · have hl2 := hl.out
            rw [if_neg (by omega)] at hl2
            have hlp : wr.cell? (ad.add ((k - 1) * 2)) = some (.int .i64 last) := by
              obtain ⟨ad2, h2, h3, h4, -⟩ := picks_at HR2.out (show k - 1 < l.picks.length by omega)
              cases h2
              rw [hl2]
              exact (hb.out.cell (by rw [block_of_add]; omega)).trans ((World.cell?_alloc_lt w _ _ (by rw [block_of_add]; omega)).trans h4)
            have b6 : decide ((k : Int) > 0) = true := by simp; omega
            have b7 : (last == t) = false := by simp; exact fun h => hx3 h.symm
            clear hx3 hl2 hl
            have hk1 : k - 1 < l.picks.length := by omega
            have hkz : (0 : Int) ≤ (k : Int) - 1 := by omega
            have hkt : ((k : Int) - 1).toNat = k - 1 := by omega
            have hkk : IntKind.i64.wrap ((k : Int) - 1) = (k : Int) - 1 := IntWalk.i64_in _ (by omega)
            have hz2 : w.heap.size < wr.heap.size := by omega
            have hbx2 : (wr.alloc (.cells #[.int .i64 t, .int .i64 c] 56)).cell? ⟨w.heap.size, 0, none⟩ = some (.slice (some ad) l.picks.length cp) := (World.cell?_alloc_lt _ _ _ hz2).trans hbx
            have hlp2 : (wr.alloc (.cells #[.int .i64 t, .int .i64 c] 56)).cell? (ad.add ((k - 1) * 2)) = some (.int .i64 last) := (World.cell?_alloc_lt _ _ _ (by rw [block_of_add]; omega)).trans hlp
            have hkl : (k : Int) - 1 < (l.picks.length : Int) := by omega
            go_wp2
            go_quiet (fail)
            go_wp2
            go_roundg (l.picks.length - (k + 1))
            case rel => exact ⟨k + 1, sum + c, t, hlt, rfl, by go_num, rfl, HL, hs2, hs3, HE, Lib.hid (below_drewN (hb.out.alloc hz1 _) _)⟩
            case measure => rw [Hg.out]; omega
      · obtain rfl : k = l.picks.length := by omega
        have HE := Lib.hid (he.out.trans (by rw [Rb.drop_all]; rfl : Rb.shapeGo (l.picks.drop l.picks.length) sum last = some sum))
        have H6 := Lib.hid (HY.out sum HE.out)
        have hst : wr.cell? ⟨w.heap.size, 3, none⟩ = some (.int .i64 l.steps) := (hb.out.cell (by show w.heap.size < _; omega)).trans ((Blk.new w 26 _).cell 3)
        clear he
        by_cases y : sum = l.steps
        · have y' : (l.steps != sum) = false := by simp [y]
          have H7 := Lib.hid ((if_pos y).symm.trans H6.out)
          clear H6 y
          generalize l.steps = st at *
          go_wp2
          go_ret
          exact ⟨ret_int H7.out, H0.out⟩
        · have y' : (l.steps != sum) = true := by simp; exact fun h => y h.symm
          have H7 := Lib.hid ((if_neg y).symm.trans H6.out)
          clear H6 y
          generalize l.steps = st at *
          go_wp2
          go_ret
          exact ⟨ret_int H7.out, H0.out⟩
end Go.Proofs.YtdpoecjbofofoaaGreatDoor
namespace Go.Proofs.YtdpoecjbofofoaaGreatDoor
open Go.RowKit
/-- Each block that is no row of bytes is as it was. -/
def KeepT (w w' : World) : Prop := ∀ g t cs, t ≠ 5 → Blk w g t cs → Blk w' g t cs
theorem KeepT.refl (w : World) : KeepT w w := fun _ _ _ _ h => h
theorem KeepT.trans {w w' w'' : World} (h : KeepT w w') (k : KeepT w' w'') : KeepT w w'' := fun g t cs ht hb => k g t cs ht (h g t cs ht hb)
theorem KeepT.append {w0 w w' : World} {base : Nat} {v : Value} {l : List Nat} (h : KeepT w0 w) (ho : OwnB w base v l) (o : Obj) (hg : (w.alloc o).grownBy w' v.ownBlock) : KeepT w0 w' := fun g t cs ht hb =>
  ((h g t cs ht hb).alloc o).grown hg (fun e => own_blk_ne ho (h g t cs ht hb) (Ne.symm ht) e.symm)
set_option maxRecDepth 20000 in
set_option maxHeartbeats 1600000 in
theorem varint_kt (v : Value) (l : List Nat) (n : Nat) (base : Nat) (w : World) (hv : OwnB w base v l) (hB : base ≤ w.heap.size) (hn : n < 18446744073709551616) (hl : l.length ≤ 1000000000000) :
    Calls Tryz.prog 18 #[v, .int .u64 n] w fun e w' => ∃ v', e = .returned v' ∧ OwnB w' base v' (l ++ Rb.vi n) ∧ Below base w w' ∧ KeepT w w' := by
  obtain ⟨i0, hi0, hz0, hz1, hz2⟩ := info_parts info_u8
  have Hv := Lib.hid hv
  clear hv
  go_enter Tryz.func18, Tryz.ntmps18
  go_wp2
  go_loopg [0, 1] n (fun g u i wr => ∃ (m : Nat) (pre : List Nat), g = m ∧ i = .int .u64 m ∧ m < 18446744073709551616 ∧ Hid (Rb.vi n = pre ++ Rb.vi m ∧ pre.length ≤ 20 ∧ m * 128 ^ pre.length ≤ n) ∧ Hid (OwnB wr base u (l ++ pre)) ∧ Hid (Below base w wr) ∧ Hid (KeepT w wr))
  case atStart => exact ⟨n, [], rfl, rfl, hn, Lib.hid ⟨rfl, by simp, by simp⟩, Lib.hid (by simpa using Hv.out), Lib.hid (Below.refl _ _), Lib.hid (KeepT.refl _)⟩
  case round =>
    obtain ⟨m, pre, hg, rfl, hm, hp, ho, hb, hkt⟩ := hrel
    have Hg := Lib.hid hg
    clear hg
    by_cases h128 : 128 ≤ m
    · have h128' := h128
      have h1 : ((m : Int) ≥ 128) = True := by simp; omega
      have Hor := Lib.hid (or128 m)
      have Hm := Lib.hid hm
      have Hn := Lib.hid hn
      have Hp := Lib.hid hp.out
      go_wp2_with (at_builtin; go_must (refine wpList_append_any _ rfl _ _ 30 rfl base 5 i0 _ 1 1 Tryz.underlying30 hi0 hz0 hz1 hz2 rfl (by decide) _ (l ++ pre).length _ rfl (own_kept ho.out (World.grownBy_alloc _ _ none) (fun g e => by cases e)) (wr.heap.size + 1) _ 1 _ [.int .u8 ((m % 128 + 128 : Nat) : Int)] rfl (reads_1 (by omega) (by rw [Hor.out]; exact cell_new1 _ _ _)) ?d2 ?d3 ?d4 ?d5 ?_))
      case d2 => intro u hu; simp at hu; subst hu; rfl
      case d3 => have := Hp.out.2.1; unfold maxLen; simp; omega
      case d4 => have := Hp.out.2.1; simp; omega
      case d5 => have := hb.out.size; simp; omega
      intro v2 w2 hown2 hg2 hat2
      have Ho := Lib.hid (show OwnB w2 base v2 (l ++ (pre ++ [m % 128 + 128])) by unfold OwnB; simpa [Nat.add_assoc, List.append_assoc] using hown2)
      have Hb := Lib.hid (show Below base w w2 from (hb.out.alloc (Nat.le_trans hB hb.out.size) _).grown hg2 (by have := hb.out.size; simp; omega) (fun k hk => own_ge ho.out k hk))
      have Hk := Lib.hid (hkt.out.append ho.out _ hg2)
      clear hkt hown2 hg2 hat2 ho hb hp hm h1
      go_wp2
      go_roundg (m / 128)
      case rel =>
        refine ⟨m / 128, pre ++ [m % 128 + 128], rfl, by simp, by have := Hm.out; omega, Lib.hid ⟨?_, ?_, ?_⟩, Ho, Hb, Hk⟩
        · rw [Hp.out.1, Rb.vi_big h128', List.append_assoc]; rfl
        · have h1 := Hp.out.2.2
          have h2 := Hn.out
          rw [List.length_append, List.length_singleton]
          rcases Nat.lt_or_ge pre.length 10 with g | g
          · omega
          · have h3 : 128 ^ 10 ≤ 128 ^ pre.length := Nat.pow_le_pow_right (by omega) g
            have h4 : 128 * 128 ^ 10 ≤ m * 128 ^ pre.length := Nat.mul_le_mul h128' h3
            omega
        · have h1 := Hp.out.2.2
          rw [List.length_append, List.length_singleton, Nat.pow_succ]
          have h2 : m / 128 * (128 ^ pre.length * 128) = (m / 128 * 128) * 128 ^ pre.length := by rw [Nat.mul_comm (128 ^ pre.length) 128, Nat.mul_assoc]
          rw [h2]
          exact Nat.le_trans (Nat.mul_le_mul_right _ (Nat.div_mul_le_self m 128)) h1
      case measure => rw [Hg.out]; omega
    · have Hp := Lib.hid hp.out
      have hlt : m < 128 := by omega
      have h1 : ((m : Int) ≥ 128) = False := by simp; omega
      have hm2 : (m : Int) % 256 = m := by omega
      go_wp2_with (at_builtin; go_must (refine wpList_append_any _ rfl _ _ 30 rfl base 5 i0 _ 1 1 Tryz.underlying30 hi0 hz0 hz1 hz2 rfl (by decide) _ (l ++ pre).length _ rfl (own_kept ho.out (World.grownBy_alloc _ _ none) (fun g e => by cases e)) (wr.heap.size + 1) _ 1 _ [.int .u8 (m : Int)] rfl (reads_1 (by omega) (cell_new1 _ _ _)) ?d2 ?d3 ?d4 ?d5 ?_))
      case d2 => intro u hu; simp at hu; subst hu; rfl
      case d3 => have := Hp.out.2.1; unfold maxLen; simp; omega
      case d4 => have := Hp.out.2.1; simp; omega
      case d5 => have := hb.out.size; simp; omega
      intro v2 w2 hown2 hg2 hat2
      have Ho := Lib.hid (show OwnB w2 base v2 (l ++ Rb.vi n) by rw [Hp.out.1, Rb.vi_small hlt]; unfold OwnB; simpa [Nat.add_assoc, List.append_assoc] using hown2)
      have Hb := Lib.hid (show Below base w w2 from (hb.out.alloc (Nat.le_trans hB hb.out.size) _).grown hg2 (by have := hb.out.size; simp; omega) (fun k hk => own_ge ho.out k hk))
      have Hk := Lib.hid (hkt.out.append ho.out _ hg2)
      clear hkt hown2 hg2 hat2 ho hb hp hm h1 hm2
      go_wp2
      go_ret
      exact ⟨_, rfl, Ho.out, Hb.out, Hk.out⟩
end Go.Proofs.YtdpoecjbofofoaaGreatDoor
namespace Go.Proofs.YtdpoecjbofofoaaGreatDoor
open Go.RowKit
attribute [local go_sem ↓] Go.wp_at_zero Go.wp_at_succ
namespace Rb
theorem encP_append : ∀ (a b : List (Int × Int)), encP (a ++ b) = encP a ++ encP b
  | [], b => rfl
  | x :: a, b => by
    show vi x.1.toNat ++ (vi x.2.toNat ++ encP (a ++ b)) = (vi x.1.toNat ++ (vi x.2.toNat ++ encP a)) ++ encP b
    rw [encP_append a b]; simp [List.append_assoc]
theorem encP_take {l : List (Int × Int)} {k : Nat} (h : k < l.length) : encP (l.take (k + 1)) = (encP (l.take k) ++ vi (l.getD k (0, 0)).1.toNat) ++ vi (l.getD k (0, 0)).2.toNat := by
  rw [List.take_add_one, List.getElem?_eq_getElem h, encP_append, List.getD_eq_getElem?_getD, List.getElem?_eq_getElem h]
  simp [encP]
theorem encP_le : ∀ (a : List (Int × Int)), (∀ x ∈ a, 0 ≤ x.1 ∧ x.1 < 8 ∧ 1 ≤ x.2 ∧ x.2 ≤ 65536) → (encP a).length ≤ 20 * a.length
  | [], _ => by simp [encP]
  | x :: a, h => by
    have h0 := h x List.mem_cons_self
    have h1 := vi_len10 (n := x.1.toNat) (by omega)
    have h3 := vi_len10 (n := x.2.toNat) (by omega)
    have h2 := encP_le a fun y hy => h y (List.mem_cons_of_mem _ hy)
    simp only [encP, List.length_append, List.length_cons]; omega
theorem at_of {l : List (Int × Int)} (h : ∀ x ∈ l, 0 ≤ x.1 ∧ x.1 < 8 ∧ 1 ≤ x.2 ∧ x.2 ≤ 65536) {k : Nat} (hk : k < l.length) : ∃ t c : Nat, l.getD k (0, 0) = ((t : Int), (c : Int)) ∧ t < 8 ∧ c ≤ 65536 := by
  rw [List.getD_eq_getElem?_getD, List.getElem?_eq_getElem hk]
  have := h _ (List.getElem_mem hk)
  refine ⟨l[k].1.toNat, l[k].2.toNat, ?_, by omega, by omega⟩
  apply Prod.ext <;> simp <;> omega
theorem vi_bytes (n : Nat) : Bytes (vi n) := vi_byte n
theorem Bytes.app {a b : List Nat} (h : Bytes a) (k : Bytes b) : Bytes (a ++ b) := fun x hx => (List.mem_append.1 hx).elim (h x) (k x)
theorem encP_bytes : ∀ l : List (Int × Int), Bytes (encP l)
  | [] => fun x hx => by cases hx
  | x :: l => (vi_bytes _).app ((vi_bytes _).app (encP_bytes l))
theorem encV_bytes : ∀ l : List Int, Bytes (encV l)
  | [] => fun x hx => by cases hx
  | x :: l => (vi_bytes _).app (encV_bytes l)
theorem values_bytes (l : List Int) : Bytes (values l) := (vi_bytes _).app (encV_bytes l)
theorem head_bytes : Bytes head := by unfold Bytes head; decide
theorem body_bytes (l : Lg) : Bytes (head ++ body l) := head_bytes.app ((vi_bytes _).app ((vi_bytes _).app ((encP_bytes _).app ((values_bytes _).app ((values_bytes _).app (lows_byte 8 l.sum))))))
theorem values_le {l : List Int} (h : ∀ v ∈ l, I64 v) (hn : l.length ≤ 1000000) : (values l).length ≤ 20000000 := by
  have h1 := vi_len10 (n := l.length) (by omega)
  have h2 := encV_le l h
  unfold values
  rw [List.length_append]; omega
end Rb
theorem RdL.below {w w' : World} {B : Nat} {v : Value} {l : Rb.Lg} (h : RdL w B v l) (hb : Below B w w') : RdL w' B v l := by
  obtain ⟨p, i, c, rfl, h1, h2, h3⟩ := h
  exact ⟨p, i, c, rfl, h1.below hb, h2.below hb, h3.below hb⟩
theorem RdL.more {w : World} {B B' : Nat} {v : Value} {l : Rb.Lg} (h : RdL w B v l) (hb : B ≤ B') : RdL w B' v l := by
  obtain ⟨p, i, c, rfl, h1, h2, h3⟩ := h
  exact ⟨p, i, c, rfl, h1.more hb, h2.more hb, h3.more hb⟩
theorem keepC {B : Nat} {w w' : World} (h : Below B w w') {p : Addr} (hp : p.block < B) {u : Value} (hc : w.cell? p = some u) : w'.cell? p = some u := (h.cell hp).trans hc
theorem ownB_more {w : World} {base base' : Nat} {v : Value} {l : List Nat} (h : OwnB w base v l) (hb : base' ≤ base) : OwnB w base' v l := own_more h hb
theorem ownB_head (w : World) (base : Nat) (hb : base ≤ w.heap.size) : OwnB (w.alloc (.cells #[.int .u8 83, .int .u8 76, .int .u8 79, .int .u8 71, .int .u8 1] 5)) base (.slice (some ⟨w.heap.size, 0, none⟩) 5 5) Rb.head :=
  World.ownsRow_lit w #[.int .u8 83, .int .u8 76, .int .u8 79, .int .u8 71, .int .u8 1] 5 hb (by decide) rfl
set_option maxRecDepth 20000 in
set_option maxHeartbeats 1600000 in
theorem encode_bad (v : Value) (l : Rb.Lg) (B : Nat) (w : World) (hv : RdL w B v l) (hB : B ≤ w.heap.size) (hs : Rb.shape l ≠ 0) :
    Calls Tryz.prog 8 #[v] w fun e w' => e = .returned (.tuple #[.slice none 0 0, .int .i64 (Rb.shape l)]) ∧ Below w.heap.size w w' := by
  have HS := Lib.hid (fun (W : World) (hb : Below w.heap.size w W) => shape_any v l B W (hv.below (hb.mono hB)) (Nat.le_trans hB hb.size))
  obtain ⟨pv, iv, cv, rfl, -, -, -⟩ := hv
  have hs1 : (Rb.shape l != 0) = true := by simpa using hs
  clear hs
  generalize Rb.shape l = s at *
  go_enter Tryz.func8, Tryz.ntmps8
  go_wp2_with fail
  refine (HS.out _ ((Below.refl _ _).alloc (Nat.le_refl _) _)).mono ?_
  rintro e w1 ⟨rfl, h1⟩
  have H1 := Lib.hid (((Below.refl w.heap.size w).alloc (Nat.le_refl _) _).trans (h1.mono (by simp)))
  clear h1 HS
  go_wp2
  exact bodyPost_ret (v := .tuple #[.slice none 0 0, .int .i64 s]) (by simp [results, Tryz.results8, go_sem]) rfl ⟨rfl, H1.out⟩

set_option maxRecDepth 20000 in
set_option maxHeartbeats 1600000 in
theorem encode_any (v : Value) (l : Rb.Lg) (B : Nat) (w : World) (hv : RdL w B v l) (hB : B ≤ w.heap.size) (hf : Rb.Fit l) :
    Calls Tryz.prog 8 #[v] w fun e w' => ∃ v', e = .returned (.tuple #[v', .int .i64 0]) ∧ OwnB w' w.heap.size v' (Rb.enc l) ∧ Below w.heap.size w w' := by
  obtain ⟨hsh, hfi, hfc, hfs⟩ := hf
  obtain ⟨hp0, hi0, hc0, hst0, hst1, hpk⟩ := Rb.shape_inv hsh
  have HS := Lib.hid (fun (W : World) (hb : Below w.heap.size w W) => shape_any v l B W (hv.below (hb.mono hB)) (Nat.le_trans hB hb.size))
  rw [hsh] at HS
  obtain ⟨steps, picks, inputs, clocks, sum⟩ := l
  obtain ⟨st, rfl⟩ : ∃ st : Nat, steps = st := ⟨steps.toNat, by simp at hst0; omega⟩
  obtain ⟨pv, iv, cv, rfl, ⟨Ap, cp, rfl, hp1, hp⟩, hi, hc⟩ := hv
  simp only at *
  have HV := Lib.hid (fun (u : Value) (pre : List Nat) (n : Nat) (W : World) h1 h2 h3 h4 => varint_any u pre n (w.heap.size + 1) W h1 h2 h3 h4)
  have HW := Lib.hid (fun (u : Value) (pre : List Nat) (n : Nat) (W : World) h1 h2 h3 h4 => varint_kt u pre n (w.heap.size + 1) W h1 h2 h3 h4)
  have HP := Lib.hid hp
  have HK := Lib.hid hpk
  have HI := Lib.hid hi
  have HC := Lib.hid hc
  have HFI := Lib.hid hfi
  have HFC := Lib.hid hfc
  clear hp hpk hi hc hfi hfc hsh hp1 hst0
  go_enter Tryz.func8, Tryz.ntmps8
  go_wp2_with fail
  refine (HS.out _ ((Below.refl _ _).alloc (Nat.le_refl _) _)).mono ?_
  rintro e wo ⟨rfl, h1⟩
  have H1 := Lib.hid (show Below (w.heap.size + 1) _ wo by simpa using h1)
  have q : ∀ i : Nat, wo.cell? ⟨w.heap.size, i, none⟩ = (#[.slice Ap picks.length cp, iv, cv, .int .i64 (st : Int), .int .u64 (sum : Int)] : Array Value)[i]? := fun i => (H1.out.cell (Nat.lt_succ_self _)).trans ((Blk.new w 26 #[.slice Ap picks.length cp, iv, cv, .int .i64 (st : Int), .int .u64 (sum : Int)]).cell i)
  have q0 : wo.cell? ⟨w.heap.size, 0, none⟩ = some (.slice Ap picks.length cp) := q 0
  have q1 : wo.cell? ⟨w.heap.size, 1, none⟩ = some iv := q 1
  have q2 : wo.cell? ⟨w.heap.size, 2, none⟩ = some cv := q 2
  have q3 : wo.cell? ⟨w.heap.size, 3, none⟩ = some (.int .i64 (st : Int)) := q 3
  have q4 : wo.cell? ⟨w.heap.size, 4, none⟩ = some (.int .u64 (sum : Int)) := q 4
  have hsz : w.heap.size + 1 ≤ wo.heap.size := by have := h1.size; simpa using this
  have hsz' : w.heap.size < wo.heap.size := by omega
  clear h1 HS q
  have e1 : IntKind.u64.wrap (st : Int) = (st : Int) := by rw [IntKind.wrap_u64]; omega
  have e2 : IntKind.u64.wrap (picks.length : Int) = (picks.length : Int) := by rw [IntKind.wrap_u64]; omega
  have hl0 : (Rb.head ++ Rb.vi st).length ≤ 20 := by have := Rb.vi_len10 (n := st) (by omega); rw [List.length_append]; simp [Rb.head]; omega
  have hl1 : (Rb.head ++ Rb.vi st ++ Rb.vi picks.length).length ≤ 40 := by have := Rb.vi_len10 (n := picks.length) (by omega); rw [List.length_append]; omega
  go_wp2
  go_region_held3 (fun w' => w'.cell? ⟨w.heap.size, 3, none⟩ = some (.int .i64 (st : Int)) ∧ w'.cell? ⟨w.heap.size, 0, none⟩ = some (.slice Ap picks.length cp))
    (first
      | exact ⟨keepC hb2 (Nat.lt_succ_self _) q3, keepC hb2 (Nat.lt_succ_self _) q0⟩
      | exact ⟨keepC hb1 (Nat.lt_succ_self _) q3, keepC hb1 (Nat.lt_succ_self _) q0⟩
      | go_keep)
    (first
      | (go_at_call 18
         (with_reducible refine (HV.out _ (Rb.head ++ Rb.vi st) picks.length _ ho1 ?x1 ?x2 ?x3).mono ?_)
         case x1 => exact Nat.le_trans hsz hb1.size
         case x2 => omega
         case x3 => omega
         rintro e w2 ⟨v2, rfl, ho2, hb2'⟩
         have hb2 : Below (w.heap.size + 1) wo w2 := hb1.trans hb2')
      | (go_at_call 18
         (with_reducible refine (HV.out _ Rb.head st _ ?y1 ?y2 ?y3 ?y4).mono ?_)
         case y1 => exact ownB_head _ _ hsz
         case y2 => simp; omega
         case y3 => omega
         case y4 => decide
         rintro e w1 ⟨v1, rfl, ho1, hb1'⟩
         have hb1 : Below (w.heap.size + 1) wo w1 := (((Below.refl _ _).alloc hsz _).drew).trans hb1'))
  have Ho2 := Lib.hid ho2
  have Hb2 := Lib.hid hb2
  have k0 := keepC hb2 (Nat.lt_succ_self _) q0
  have HQ1 := Lib.hid q1
  have HQ2 := Lib.hid q2
  have HQ4 := Lib.hid q4
  clear e1 e2 q0 q1 q2 q3 q4 ho2 hb2 hb2' ho1 hb1 hb1'
  go_wp2
  go_loopg [5, 26] picks.length (fun g b i wr => ∃ k : Nat, k ≤ picks.length ∧ g = picks.length - k ∧ i = .int .i64 k ∧ Hid (OwnB wr (w.heap.size + 1) b (Rb.head ++ Rb.vi st ++ Rb.vi picks.length ++ Rb.encP (picks.take k))) ∧ Hid (Below (w.heap.size + 1) wo wr))
  case atStart => exact ⟨0, Nat.zero_le _, rfl, rfl, Lib.hid (by simpa [Rb.encP] using Ho2.out), Lib.hid Hb2.out⟩
  case round =>
    obtain ⟨k, hk, hg, rfl, ho, hb⟩ := hrel
    have Hg := Lib.hid hg
    clear hg
    have hlen : (Rb.head ++ Rb.vi st ++ Rb.vi picks.length ++ Rb.encP (picks.take k)).length ≤ 1400000 := by
      have h2 := Rb.encP_le (picks.take k) fun y hy => HK.out y (List.mem_of_mem_take hy)
      rw [List.length_take] at h2
      rw [List.length_append]; omega
    by_cases hlt : k < picks.length
    · obtain ⟨t, c, ht, ht1, hc1⟩ := Rb.at_of HK.out hlt
      obtain ⟨ad, rfl, hadb, hc0, hd0⟩ := picks_at HP.out hlt
      rw [ht] at hc0 hd0
      have hlow : ad.block < w.heap.size + 1 := by omega
      have kc : wr.cell? (ad.add (k * 2)) = some (.int .i64 (t : Int)) := keepC (hb.out) (by rw [block_of_add]; exact hlow) (keepC H1.out (by rw [block_of_add]; exact hlow) ((World.cell?_alloc_lt w _ _ (by rw [block_of_add]; omega)).trans hc0))
      have kd : wr.cell? ⟨(ad.add (k * 2)).block, (ad.add (k * 2)).off + 1, none⟩ = some (.int .i64 (c : Int)) := keepC hb.out (by show (ad.add (k * 2)).block < _; rw [block_of_add]; exact hlow) (keepC H1.out (by show (ad.add (k * 2)).block < _; rw [block_of_add]; exact hlow) ((World.cell?_alloc_lt w _ _ (by show (ad.add (k * 2)).block < _; rw [block_of_add]; omega)).trans hd0))
      have He := Lib.hid (Rb.encP_take hlt)
      rw [ht] at He
      clear ht hc0 hd0
      have e1 : IntKind.u64.wrap (t : Int) = (t : Int) := by rw [IntKind.wrap_u64]; omega
      have e2 : IntKind.u64.wrap (c : Int) = (c : Int) := by rw [IntKind.wrap_u64]; omega
      have hzr : w.heap.size + 1 ≤ wr.heap.size := Nat.le_trans hsz hb.out.size
      have hl2 : (Rb.head ++ Rb.vi st ++ Rb.vi picks.length ++ Rb.encP (picks.take k) ++ Rb.vi t).length ≤ 1400010 := by have := Rb.vi_len10 (n := t) (by omega); rw [List.length_append]; omega
      have hbn := Blk.new wr 56 #[.int .i64 (t : Int), .int .i64 (c : Int)]
      have HZ := Lib.hid hbn
      clear hbn
      have hBr : Below (w.heap.size + 1) wr (wr.alloc (.cells #[.int .i64 (t : Int), .int .i64 (c : Int)] 56)) := (Below.refl _ _).alloc hzr _
      have HoA := Lib.hid (own_kept ho.out (World.grownBy_alloc wr (.cells #[.int .i64 (t : Int), .int .i64 (c : Int)] 56) none) (fun g e => by cases e))
      have HBr := Lib.hid hBr
      clear hBr
      have ht3 : 56 ≠ 5 := by decide
      have hS0 : (wr.alloc (.cells #[.int .i64 (t : Int), .int .i64 (c : Int)] 56)).cell? ⟨wr.heap.size, 0, none⟩ = some (.int .i64 (t : Int)) ∧ (wr.alloc (.cells #[.int .i64 (t : Int), .int .i64 (c : Int)] 56)).cell? ⟨wr.heap.size, 1, none⟩ = some (.int .i64 (c : Int)) := ⟨HZ.out.cell 0, HZ.out.cell 1⟩
      go_wp2
      go_region_held3 (fun w' => w'.cell? ⟨wr.heap.size, 0, none⟩ = some (.int .i64 (t : Int)) ∧ w'.cell? ⟨wr.heap.size, 1, none⟩ = some (.int .i64 (c : Int)))
        (first
          | exact ⟨hZ2.cell 0, hZ2.cell 1⟩
          | exact ⟨hZ1.cell 0, hZ1.cell 1⟩
          | exact hS0
          | go_keep)
        (first
          | (go_at_call 18
             (with_reducible refine (HW.out _ (Rb.head ++ Rb.vi st ++ Rb.vi picks.length ++ Rb.encP (picks.take k) ++ Rb.vi t) c _ ho3 ?x1 ?x2 ?x3).mono ?_)
             case x1 => exact Nat.le_trans hzr hb3.size
             case x2 => omega
             case x3 => omega
             rintro e w4 ⟨v4, rfl, ho4, hb4', hk4⟩
             have hb4 : Below (w.heap.size + 1) wr w4 := hb3.trans hb4'
             have hZ2 := hk4 _ _ _ ht3 hZ1)
          | (go_at_call 18
             (with_reducible refine (HW.out _ (Rb.head ++ Rb.vi st ++ Rb.vi picks.length ++ Rb.encP (picks.take k)) t _ ?y1 ?y2 ?y3 ?y4).mono ?_)
             case y1 => exact HoA.out
             case y2 => simp; omega
             case y3 => omega
             case y4 => omega
             rintro e w3 ⟨v3, rfl, ho3, hb3', hk3⟩
             have hb3 : Below (w.heap.size + 1) wr w3 := HBr.out.drew.trans hb3'
             have hZ1 := hk3 _ _ _ ht3 HZ.out))
      have HO := Lib.hid (show OwnB w4 (w.heap.size + 1) v4 (Rb.head ++ Rb.vi st ++ Rb.vi picks.length ++ Rb.encP (picks.take (k + 1))) by
        rw [He.out]; simp only [Int.toNat_natCast, List.append_assoc]; simpa only [List.append_assoc] using ho4)
      have HB4 := Lib.hid (hb.out.trans hb4)
      clear ho3 ho4 hb3 hb4 hb3' hb4' hk3 hk4 hZ1 hZ2
      go_wp2
      go_roundg (picks.length - (k + 1))
      case rel => exact ⟨k + 1, hlt, rfl, by go_num, HO, HB4⟩
      case measure => rw [Hg.out]; omega
    · obtain rfl : k = picks.length := by omega
      have hP0 : (Rb.head ++ Rb.vi st ++ Rb.vi picks.length ++ Rb.encP picks).length ≤ 1400000 := by rw [List.take_length] at hlen; exact hlen
      have Hob := Lib.hid (show OwnB wr (w.heap.size + 1) _ (Rb.head ++ Rb.vi st ++ Rb.vi picks.length ++ Rb.encP picks) by have := ho.out; rw [List.take_length] at this; exact this)
      have HEnc := Lib.hid (show Rb.enc ⟨(st : Int), picks, inputs, clocks, sum⟩ = (Rb.head ++ Rb.vi st ++ Rb.vi picks.length ++ Rb.encP picks ++ Rb.values inputs ++ Rb.values clocks ++ Rb.lows sum 8) ++ Rb.lows (Rb.fnv (Rb.head ++ Rb.vi st ++ Rb.vi picks.length ++ Rb.encP picks ++ Rb.values inputs ++ Rb.values clocks ++ Rb.lows sum 8)) 4 by
        unfold Rb.enc Rb.body; simp [List.append_assoc])
      have HByt := Lib.hid (show Rb.Bytes (Rb.head ++ Rb.vi st ++ Rb.vi picks.length ++ Rb.encP picks ++ Rb.values inputs ++ Rb.values clocks ++ Rb.lows sum 8) by
        have := Rb.body_bytes ⟨(st : Int), picks, inputs, clocks, sum⟩
        unfold Rb.body at this; simpa [List.append_assoc] using this)
      have hP1 : (Rb.head ++ Rb.vi st ++ Rb.vi picks.length ++ Rb.encP picks ++ Rb.values inputs).length ≤ 30000000 := by have := Rb.values_le HFI.out (by omega); rw [List.length_append]; omega
      have hP2 : (Rb.head ++ Rb.vi st ++ Rb.vi picks.length ++ Rb.encP picks ++ Rb.values inputs ++ Rb.values clocks).length ≤ 60000000 := by have := Rb.values_le HFC.out (by omega); rw [List.length_append]; omega
      clear ho hlen HP HK hlt hk k0
      generalize (Rb.head ++ Rb.vi st ++ Rb.vi picks.length ++ Rb.encP picks) = P0 at *
      have hl8 := Rb.lows_len 8 sum
      have hzr : w.heap.size + 1 ≤ wr.heap.size := Nat.le_trans hsz hb.out.size
      have hS0 : wr.cell? ⟨w.heap.size, 1, none⟩ = some iv ∧ wr.cell? ⟨w.heap.size, 2, none⟩ = some cv ∧ wr.cell? ⟨w.heap.size, 4, none⟩ = some (.int .u64 (sum : Int)) := ⟨keepC hb.out (Nat.lt_succ_self _) HQ1.out, keepC hb.out (Nat.lt_succ_self _) HQ2.out, keepC hb.out (Nat.lt_succ_self _) HQ4.out⟩
      obtain ⟨x1, x2, x4⟩ := hS0
      have HIr := Lib.hid (fun (W : World) (h : Below (w.heap.size + 1) wr W) => (((HI.out.below (((Below.refl B w).alloc hB _)))).below (H1.out.mono (by omega))).below ((hb.out.trans h).mono (show B ≤ w.heap.size + 1 by omega)))
      have HCr := Lib.hid (fun (W : World) (h : Below (w.heap.size + 1) wr W) => (((HC.out.below (((Below.refl B w).alloc hB _)))).below (H1.out.mono (by omega))).below ((hb.out.trans h).mono (show B ≤ w.heap.size + 1 by omega)))
      have HVal := Lib.hid (fun (u lv : Value) (bl : List Nat) (xs : List Int) (W : World) h1 h2 h3 h4 h5 h6 h7 => values_any u lv bl xs (w.heap.size + 1) B W h1 h2 h3 h4 h5 h6 h7)
      have HFx := Lib.hid (fun (W : World) => fixed_any sum 8 W hfs (by omega))
      obtain ⟨i0, hi0', hz0, hz1, hz2⟩ := info_parts info_u8
      have Hone := Lib.hid (fun (l : List Nat) => (show ∀ u ∈ l.map (fun (b : Nat) => Value.int .u8 (b : Int)), u.oneCell' = true from fun u hu => by
        obtain ⟨b, -, rfl⟩ := List.mem_map.1 hu; rfl))
      go_wp2
      go_region_held3 (fun w' => w'.cell? ⟨w.heap.size, 1, none⟩ = some iv ∧ w'.cell? ⟨w.heap.size, 2, none⟩ = some cv ∧ w'.cell? ⟨w.heap.size, 4, none⟩ = some (.int .u64 (sum : Int)))
        (first
          | exact ⟨keepC hb8 (Nat.lt_succ_self _) x1, keepC hb8 (Nat.lt_succ_self _) x2, keepC hb8 (Nat.lt_succ_self _) x4⟩
          | exact ⟨keepC hb7 (Nat.lt_succ_self _) x1, keepC hb7 (Nat.lt_succ_self _) x2, keepC hb7 (Nat.lt_succ_self _) x4⟩
          | exact ⟨keepC hb6 (Nat.lt_succ_self _) x1, keepC hb6 (Nat.lt_succ_self _) x2, keepC hb6 (Nat.lt_succ_self _) x4⟩
          | exact ⟨keepC hb5 (Nat.lt_succ_self _) x1, keepC hb5 (Nat.lt_succ_self _) x2, keepC hb5 (Nat.lt_succ_self _) x4⟩
          | go_keep)
        (first
          | (refine step_append_any _ rfl _ _ 30 (by rfl) (w.heap.size + 1) 5 i0 _ 1 1 Tryz.underlying30 hi0' hz0 hz1 hz2 rfl (by decide) v6 (P0 ++ Rb.values inputs ++ Rb.values clocks).length _ (by rfl) (own_below ho6.out hb7'.out (Nat.le_refl _)) w7.heap.size A7 (Rb.lows sum 8).length c7 _ (by rfl) hr7.out (Hone.out _) (by unfold maxLen; omega) (by omega) (Nat.le_trans hzr hb7.size) ?_
             intro v8 w8 hown8 hg8 hat8
             have hb8 : Below (w.heap.size + 1) wr w8 := hb7.grown hg8 (Nat.le_trans hzr hb7.size) (fun k hk => own_ge ho6.out k hk)
             have ho8 := Lib.hid (show OwnB w8 (w.heap.size + 1) v8 (P0 ++ Rb.values inputs ++ Rb.values clocks ++ Rb.lows sum 8) by unfold OwnB; rw [List.length_append, List.map_append]; exact hown8)
             clear hown8 hg8 hat8)
          | (go_at_call 20
             refine (HFx.out _).mono ?_
             rintro e w7 ⟨v7, rfl, ho7, hb7''⟩
             have hb7' := Lib.hid hb7''
             have hb7 : Below (w.heap.size + 1) wr w7 := hb6.trans (hb7''.mono (Nat.le_trans hzr hb6.size))
             obtain ⟨A7, c7, rfl, -, hr7', -⟩ := own_form ho7
             have hr7 := Lib.hid hr7'
             clear ho7 hb7'' hr7')
          | (go_at_call 19
             (with_reducible refine (HVal.out _ _ (P0 ++ Rb.values inputs) clocks _ ?x0 ?x1 ?x5 ?x2 HFC.out ?x3 ?x4).mono ?_)
             case x0 => exact ho5.out
             case x5 => exact HCr.out _ hb5
             case x1 => exact Nat.le_trans hzr hb5.size
             case x2 => omega
             case x3 => omega
             case x4 => omega
             rintro e w6 ⟨v6, rfl, ho6', hb6'⟩
             have ho6 := Lib.hid ho6'
             have hb6 : Below (w.heap.size + 1) wr w6 := hb5.trans hb6'
             clear ho6' hb6')
          | (go_at_call 19
             (with_reducible refine (HVal.out _ _ P0 inputs _ ?x0 ?x1 ?x5 ?x2 HFI.out ?x3 ?x4).mono ?_)
             case x0 => exact Hob.out
             case x5 => exact HIr.out _ (Below.refl _ _).drew
             case x1 => exact hzr
             case x2 => omega
             case x3 => omega
             case x4 => omega
             rintro e w5 ⟨v5, rfl, ho5', hb5'⟩
             have ho5 := Lib.hid ho5'
             have hb5 : Below (w.heap.size + 1) wr w5 := (Below.refl _ _).drew.trans hb5'
             clear ho5' hb5'))
      have hP3 : (P0 ++ Rb.values inputs ++ Rb.values clocks ++ Rb.lows sum 8).length ≤ 70000000 := by rw [List.length_append]; omega
      generalize (P0 ++ Rb.values inputs ++ Rb.values clocks ++ Rb.lows sum 8) = P3 at *
      have Hb8 := Lib.hid hb8
      have HCk := Lib.hid (fun (u : Value) (W : World) h1 h2 => check_any u P3 W.heap.size W h1 HByt.out h2)
      have hz8 : w.heap.size + 1 ≤ w8.heap.size := Nat.le_trans hzr hb8.size
      clear hb5 hb6 hb7 hb8 ho5 ho6 hb7' hr7 x1 x2 x4 HIr HCr HVal HFx
      go_wp2_with fail
      refine (HCk.out _ _ (rdB_of_own ho8.out) (by omega)).mono ?_
      rintro e w9 ⟨v9, rfl, ho9, hb9⟩
      have hl4 := Rb.lows_len 4 (Rb.fnv P3)
      obtain ⟨A9, c9, rfl, -, hr9, -⟩ := own_form ho9
      have Hr9 := Lib.hid hr9
      have Hb9 := Lib.hid hb9
      clear ho9 hr9 hb9 HCk
      go_wp2_with (at_builtin; go_must (refine wpList_append_any _ rfl _ _ 30 rfl (w.heap.size + 1) 5 i0 _ 1 1 Tryz.underlying30 hi0' hz0 hz1 hz2 rfl (by decide) _ P3.length _ rfl (own_below ho8.out Hb9.out (Nat.le_refl _)) w9.heap.size A9 (Rb.lows (Rb.fnv P3) 4).length c9 _ rfl Hr9.out ?d2 ?d3 ?d4 ?d5 ?_))
      case d2 => exact Hone.out _
      case d3 => unfold maxLen; omega
      case d4 => omega
      case d5 => exact Nat.le_trans hz8 Hb9.out.size
      intro va wa hown hg hat
      have hzw : w.heap.size ≤ wo.heap.size := by omega
      have HB := Lib.hid ((((Below.refl w.heap.size w).alloc (Nat.le_refl _) _).trans (H1.out.mono (Nat.le_succ _))).trans ((hb.out.trans Hb8.out).mono (Nat.le_succ _)))
      have HBa := Lib.hid ((HB.out.trans (Hb9.out.mono (by omega))).grown hg (by have := Hb9.out.size; omega) (fun k hk => by have := own_ge ho8.out k hk; omega))
      have Hoa := Lib.hid (show OwnB wa w.heap.size va (Rb.enc ⟨(st : Int), picks, inputs, clocks, sum⟩) by
        rw [HEnc.out]; refine ownB_more (base := w.heap.size + 1) ?_ (Nat.le_succ _); unfold OwnB; rw [List.length_append, List.map_append]; exact hown)
      clear hown hg hat
      go_wp2_with fail
      exact bodyPost_ret (v := .tuple #[va, .int .i64 0]) (by simp [results, Tryz.results8, go_sem]) rfl ⟨_, rfl, Hoa.out, HBa.out⟩
end Go.Proofs.YtdpoecjbofofoaaGreatDoor
namespace Go.Proofs.YtdpoecjbofofoaaGreatDoor
open Go.RowKit
attribute [local go_sem ↓] Go.wp_at_zero Go.wp_at_succ
set_option maxRecDepth 20000 in
set_option maxHeartbeats 1600000 in
theorem rencode_bad (v : Value) (l : Rb.Lg) (B : Nat) (w : World) (hv : RdL w B v l) (hB : B ≤ w.heap.size) (hs : Rb.shape l ≠ 0) :
    Calls Tryz.prog 9 #[v] w fun e w' => e = .returned (.tuple #[.slice none 0 0, .int .i64 (Rb.shape l)]) ∧ Below w.heap.size w w' := by
  have HS := Lib.hid (fun (W : World) (hb : Below w.heap.size w W) => rshape_any v l B W (hv.below (hb.mono hB)) (Nat.le_trans hB hb.size))
  obtain ⟨pv, iv, cv, rfl, -, -, -⟩ := hv
  have hs1 : (Rb.shape l != 0) = true := by simpa using hs
  clear hs
  generalize Rb.shape l = s at *
  go_enter Tryz.func9, Tryz.ntmps9
  go_wp2_with fail
  refine (HS.out _ ((Below.refl _ _).alloc (Nat.le_refl _) _)).mono ?_
  rintro e w1 ⟨rfl, h1⟩
  have H1 := Lib.hid (((Below.refl w.heap.size w).alloc (Nat.le_refl _) _).trans (h1.mono (by simp)))
  clear h1 HS
  go_wp2
  exact bodyPost_ret (v := .tuple #[.slice none 0 0, .int .i64 s]) (by simp [results, Tryz.results9, go_sem]) rfl ⟨rfl, H1.out⟩

set_option maxRecDepth 20000 in
set_option maxHeartbeats 1600000 in
theorem rencode_any (v : Value) (l : Rb.Lg) (B : Nat) (w : World) (hv : RdL w B v l) (hB : B ≤ w.heap.size) (hf : Rb.Fit l) :
    Calls Tryz.prog 9 #[v] w fun e w' => ∃ v', e = .returned (.tuple #[v', .int .i64 0]) ∧ OwnB w' w.heap.size v' (Rb.enc l) ∧ Below w.heap.size w w' := by
  obtain ⟨hsh, hfi, hfc, hfs⟩ := hf
  obtain ⟨hp0, hi0, hc0, hst0, hst1, hpk⟩ := Rb.shape_inv hsh
  have HS := Lib.hid (fun (W : World) (hb : Below w.heap.size w W) => rshape_any v l B W (hv.below (hb.mono hB)) (Nat.le_trans hB hb.size))
  rw [hsh] at HS
  obtain ⟨steps, picks, inputs, clocks, sum⟩ := l
  obtain ⟨st, rfl⟩ : ∃ st : Nat, steps = st := ⟨steps.toNat, by simp at hst0; omega⟩
  obtain ⟨pv, iv, cv, rfl, ⟨Ap, cp, rfl, hp1, hp⟩, hi, hc⟩ := hv
  simp only at *
  have HV := Lib.hid (fun (u : Value) (pre : List Nat) (n : Nat) (W : World) h1 h2 h3 h4 => rvarint_any u pre n (w.heap.size + 1) W h1 h2 h3 h4)
  have HZ := Lib.hid (fun (x : Int) (W : World) h => zigzag_any x W h)
  have HP := Lib.hid hp
  have HK := Lib.hid hpk
  have HI := Lib.hid hi
  have HC := Lib.hid hc
  have HFI := Lib.hid hfi
  have HFC := Lib.hid hfc
  clear hp hpk hi hc hfi hfc hsh hp1 hst0
  go_enter Tryz.func9, Tryz.ntmps9
  go_wp2_with fail
  refine (HS.out _ ((Below.refl _ _).alloc (Nat.le_refl _) _)).mono ?_
  rintro e wo ⟨rfl, h1⟩
  have H1 := Lib.hid (show Below (w.heap.size + 1) _ wo by simpa using h1)
  have q : ∀ i : Nat, wo.cell? ⟨w.heap.size, i, none⟩ = (#[.slice Ap picks.length cp, iv, cv, .int .i64 (st : Int), .int .u64 (sum : Int)] : Array Value)[i]? := fun i => (H1.out.cell (Nat.lt_succ_self _)).trans ((Blk.new w 26 #[.slice Ap picks.length cp, iv, cv, .int .i64 (st : Int), .int .u64 (sum : Int)]).cell i)
  have q0 : wo.cell? ⟨w.heap.size, 0, none⟩ = some (.slice Ap picks.length cp) := q 0
  have q1 : wo.cell? ⟨w.heap.size, 1, none⟩ = some iv := q 1
  have q2 : wo.cell? ⟨w.heap.size, 2, none⟩ = some cv := q 2
  have q3 : wo.cell? ⟨w.heap.size, 3, none⟩ = some (.int .i64 (st : Int)) := q 3
  have q4 : wo.cell? ⟨w.heap.size, 4, none⟩ = some (.int .u64 (sum : Int)) := q 4
  have hsz : w.heap.size + 1 ≤ wo.heap.size := by have := h1.size; simpa using this
  have hsz' : w.heap.size < wo.heap.size := by omega
  clear h1 HS q
  have e1 : IntKind.u64.wrap (st : Int) = (st : Int) := by rw [IntKind.wrap_u64]; omega
  have e2 : IntKind.u64.wrap (picks.length : Int) = (picks.length : Int) := by rw [IntKind.wrap_u64]; omega
  have hl0 : (Rb.head ++ Rb.vi st).length ≤ 20 := by have := Rb.vi_len10 (n := st) (by omega); rw [List.length_append]; simp [Rb.head]; omega
  have hl1 : (Rb.head ++ Rb.vi st ++ Rb.vi picks.length).length ≤ 40 := by have := Rb.vi_len10 (n := picks.length) (by omega); rw [List.length_append]; omega
  have hbA : Below (w.heap.size + 1) wo (wo.alloc (.cells #[.int .u8 83, .int .u8 76, .int .u8 79, .int .u8 71, .int .u8 1] 5)) := (Below.refl _ _).alloc hsz _
  have kA3 := keepC hbA (Nat.lt_succ_self _) q3
  have HbA := Lib.hid hbA
  have HQ0 := Lib.hid q0
  have HQ1 := Lib.hid q1
  have HQ2 := Lib.hid q2
  have HQ4 := Lib.hid q4
  clear q0 q1 q2 q3 q4 hbA
  go_wp2_with fail
  refine (HV.out _ Rb.head st _ (ownB_head _ _ hsz) (by simp; omega) (by omega) (by decide)).mono ?_
  rintro e w1 ⟨v1, rfl, ho1, hb1⟩
  have Ho1 := Lib.hid ho1
  have Hb1 := Lib.hid (HbA.out.trans hb1)
  have kB0 := keepC Hb1.out (Nat.lt_succ_self _) HQ0.out
  clear ho1 hb1 kA3 e1
  go_wp2_with fail
  refine (HV.out _ (Rb.head ++ Rb.vi st) picks.length _ Ho1.out (Nat.le_trans hsz Hb1.out.size) (by omega) (by omega)).mono ?_
  rintro e w2 ⟨v2, rfl, ho2, hb2⟩
  have Ho2 := Lib.hid ho2
  have Hb2 := Lib.hid (Hb1.out.trans hb2)
  clear ho2 hb2 kB0 e2
  go_wp2
  go_loopg [5, 6] picks.length (fun g b i wr => ∃ k : Nat, k ≤ picks.length ∧ g = picks.length - k ∧ i = .int .i64 k ∧ Hid (OwnB wr (w.heap.size + 1) b (Rb.head ++ Rb.vi st ++ Rb.vi picks.length ++ Rb.encP (picks.take k))) ∧ Hid (Below (w.heap.size + 1) wo wr))
  case atStart => exact ⟨0, Nat.zero_le _, rfl, rfl, Lib.hid (by simpa [Rb.encP] using Ho2.out), Lib.hid Hb2.out⟩
  case round =>
    obtain ⟨k, hk, hg, rfl, ho, hb⟩ := hrel
    have Hg := Lib.hid hg
    clear hg
    have hlen : (Rb.head ++ Rb.vi st ++ Rb.vi picks.length ++ Rb.encP (picks.take k)).length ≤ 1400000 := by
      have h2 := Rb.encP_le (picks.take k) fun y hy => HK.out y (List.mem_of_mem_take hy)
      rw [List.length_take] at h2
      rw [List.length_append]; omega
    have kb := keepC hb.out (Nat.lt_succ_self _) HQ0.out
    by_cases hlt : k < picks.length
    · obtain ⟨t, c, ht, ht1, hc1⟩ := Rb.at_of HK.out hlt
      obtain ⟨ad, rfl, hadb, hc0, hd0⟩ := picks_at HP.out hlt
      rw [ht] at hc0 hd0
      have hlow : ad.block < w.heap.size + 1 := by omega
      have hlow2 : (ad.add (k * 2)).block < w.heap.size + 1 := by rw [block_of_add]; exact hlow
      have kc : wr.cell? (ad.add (k * 2)) = some (.int .i64 (t : Int)) := keepC (hb.out) hlow2 (keepC H1.out hlow2 ((World.cell?_alloc_lt w _ _ (by rw [block_of_add]; omega)).trans hc0))
      have kd : wr.cell? ⟨(ad.add (k * 2)).block, (ad.add (k * 2)).off + 1, none⟩ = some (.int .i64 (c : Int)) := keepC hb.out (by exact hlow2) (keepC H1.out (by exact hlow2) ((World.cell?_alloc_lt w _ _ (by show (ad.add (k * 2)).block < _; rw [block_of_add]; omega)).trans hd0))
      have He := Lib.hid (Rb.encP_take hlt)
      rw [ht] at He
      clear ht hc0 hd0
      have e1 : IntKind.u64.wrap (t : Int) = (t : Int) := by rw [IntKind.wrap_u64]; omega
      have e2 : IntKind.u64.wrap (c : Int) = (c : Int) := by rw [IntKind.wrap_u64]; omega
      have r1 : (0 : Int) ≤ (k : Int) := by omega
      have r2 : (k : Int) < (picks.length : Int) := by omega
      have hzr : w.heap.size + 1 ≤ wr.heap.size := Nat.le_trans hsz hb.out.size
      have hl2 : (Rb.head ++ Rb.vi st ++ Rb.vi picks.length ++ Rb.encP (picks.take k) ++ Rb.vi t).length ≤ 1400010 := by have := Rb.vi_len10 (n := t) (by omega); rw [List.length_append]; omega
      go_wp2
      go_region_held3 (fun w' => w'.cell? ⟨w.heap.size, 0, none⟩ = some (.slice (some ad) picks.length cp) ∧ w'.cell? (ad.add (k * 2)) = some (.int .i64 (t : Int)) ∧ w'.cell? ⟨(ad.add (k * 2)).block, (ad.add (k * 2)).off + 1, none⟩ = some (.int .i64 (c : Int)))
        (first
          | exact ⟨keepC hb4 (Nat.lt_succ_self _) kb, keepC hb4 hlow2 kc, keepC hb4 (by exact hlow2) kd⟩
          | exact ⟨keepC hb3 (Nat.lt_succ_self _) kb, keepC hb3 hlow2 kc, keepC hb3 (by exact hlow2) kd⟩
          | go_keep)
        (first
          | (go_at_call 22
             (with_reducible refine (HV.out _ (Rb.head ++ Rb.vi st ++ Rb.vi picks.length ++ Rb.encP (picks.take k) ++ Rb.vi t) c _ ho3 ?x1 ?x2 ?x3).mono ?_)
             case x1 => exact Nat.le_trans hzr hb3.size
             case x2 => omega
             case x3 => omega
             rintro e w4 ⟨v4, rfl, ho4, hb4'⟩
             have hb4 : Below (w.heap.size + 1) wr w4 := hb3.trans hb4')
          | (go_at_call 22
             (with_reducible refine (HV.out _ (Rb.head ++ Rb.vi st ++ Rb.vi picks.length ++ Rb.encP (picks.take k)) t _ ?y1 ?y2 ?y3 ?y4).mono ?_)
             case y1 => exact ho.out
             case y2 => exact hzr
             case y3 => omega
             case y4 => omega
             rintro e w3 ⟨v3, rfl, ho3, hb3'⟩
             have hb3 : Below (w.heap.size + 1) wr w3 := (Below.refl _ _).drew.trans hb3'))
      have HO := Lib.hid (show OwnB w4 (w.heap.size + 1) v4 (Rb.head ++ Rb.vi st ++ Rb.vi picks.length ++ Rb.encP (picks.take (k + 1))) by
        rw [He.out]; simp only [Int.toNat_natCast, List.append_assoc]; simpa only [List.append_assoc] using ho4)
      have HB4 := Lib.hid (hb.out.trans hb4)
      clear ho3 ho4 hb3 hb4 hb3' hb4' kb kc kd e1 e2
      go_wp2
      go_roundg (picks.length - (k + 1))
      case rel => exact ⟨k + 1, hlt, rfl, by go_num, HO, HB4⟩
      case measure => rw [Hg.out]; omega
    · obtain rfl : k = picks.length := by omega
      have hP0 : (Rb.head ++ Rb.vi st ++ Rb.vi picks.length ++ Rb.encP picks).length ≤ 1400000 := by rw [List.take_length] at hlen; exact hlen
      have Hob := Lib.hid (show OwnB wr (w.heap.size + 1) _ (Rb.head ++ Rb.vi st ++ Rb.vi picks.length ++ Rb.encP picks) by have := ho.out; rw [List.take_length] at this; exact this)
      have HEnc := Lib.hid (show Rb.enc ⟨(st : Int), picks, inputs, clocks, sum⟩ = (Rb.head ++ Rb.vi st ++ Rb.vi picks.length ++ Rb.encP picks ++ Rb.values inputs ++ Rb.values clocks ++ Rb.lows sum 8) ++ Rb.lows (Rb.fnv (Rb.head ++ Rb.vi st ++ Rb.vi picks.length ++ Rb.encP picks ++ Rb.values inputs ++ Rb.values clocks ++ Rb.lows sum 8)) 4 by
        unfold Rb.enc Rb.body; simp [List.append_assoc])
      have HByt := Lib.hid (show Rb.Bytes (Rb.head ++ Rb.vi st ++ Rb.vi picks.length ++ Rb.encP picks ++ Rb.values inputs ++ Rb.values clocks ++ Rb.lows sum 8) by
        have := Rb.body_bytes ⟨(st : Int), picks, inputs, clocks, sum⟩
        unfold Rb.body at this; simpa [List.append_assoc] using this)
      clear ho hlen HP HK hlt hk
      generalize (Rb.head ++ Rb.vi st ++ Rb.vi picks.length ++ Rb.encP picks) = P0 at *
      have Hbr := Lib.hid hb.out
      have hzr : w.heap.size + 1 ≤ wr.heap.size := Nat.le_trans hsz hb.out.size
      clear hb
      obtain ⟨Ai, ci, rfl, -, hi1, hir⟩ := HI.out
      have Hir := Lib.hid hir
      clear hir
      have kbi := keepC Hbr.out (Nat.lt_succ_self _) HQ1.out
      have eLi : IntKind.u64.wrap (inputs.length : Int) = (inputs.length : Int) := by rw [IntKind.wrap_u64]; omega
      have hPvi : (P0 ++ Rb.vi inputs.length).length ≤ 1400000 + 10 := by have := Rb.vi_len10 (n := inputs.length) (by omega); rw [List.length_append]; omega
      go_wp2_with fail
      refine (HV.out _ P0 inputs.length _ Hob.out hzr (by omega) (by omega)).mono ?_
      rintro e wai ⟨vai, rfl, hoi, hbi⟩
      have HoAi := Lib.hid hoi
      have HbAi := Lib.hid (Hbr.out.trans hbi)
      clear hoi hbi eLi kbi
      go_wp2
      go_loopg [5, 7] inputs.length (fun g b i wl => ∃ k : Nat, k ≤ inputs.length ∧ g = inputs.length - k ∧ i = .int .i64 k ∧ Hid (OwnB wl (w.heap.size + 1) b (P0 ++ Rb.vi inputs.length ++ Rb.encV (inputs.take k))) ∧ Hid (Below (w.heap.size + 1) wo wl))
      case atStart => exact ⟨0, Nat.zero_le _, rfl, rfl, Lib.hid (by simpa [Rb.encV] using HoAi.out), Lib.hid HbAi.out⟩
      case round =>
        obtain ⟨k, hk, hg, rfl, ho, hb⟩ := hrel
        have Hg := Lib.hid hg
        clear hg
        obtain ⟨wli, rfl⟩ : ∃ x : World, x = wr := ⟨_, rfl⟩
        have hlen : (P0 ++ Rb.vi inputs.length ++ Rb.encV (inputs.take k)).length ≤ 1400000 + 20000 := by
          have h2 := Rb.encV_le (inputs.take k) fun y hy => HFI.out y (List.mem_of_mem_take hy)
          rw [List.length_take] at h2
          rw [List.length_append]; omega
        have kb := keepC hb.out (Nat.lt_succ_self _) HQ1.out
        have hzri : w.heap.size + 1 ≤ wli.heap.size := Nat.le_trans hsz hb.out.size
        by_cases hlt : k < inputs.length
        · obtain ⟨ad, rfl, hadb, hc0⟩ := ints_at Hir.out hlt
          have hlow : (ad.add k).block < w.heap.size + 1 := by rw [block_of_add]; omega
          have kc := keepC hb.out hlow (keepC H1.out hlow ((World.cell?_alloc_lt w _ _ (by rw [block_of_add]; omega)).trans hc0))
          have Hx := Lib.hid (Rb.i64_at HFI.out hlt)
          have He := Lib.hid (Rb.encV_take hlt)
          clear hc0
          generalize inputs.getD k 0 = x at *
          go_wp2_with fail
          refine (HZ.out x _ Hx.out).mono ?_
          rintro e w3 ⟨rfl, rfl⟩
          go_wp2_with fail
          refine (HV.out _ (P0 ++ Rb.vi inputs.length ++ Rb.encV (inputs.take k)) (Rb.zz x) _ ho.out hzri (Rb.zz_lt Hx.out) (by omega)).mono ?_
          rintro e w4 ⟨v4, rfl, ho4, hb4⟩
          have HO := Lib.hid (show OwnB w4 (w.heap.size + 1) v4 (P0 ++ Rb.vi inputs.length ++ Rb.encV (inputs.take (k + 1))) by rw [He.out, ← List.append_assoc]; exact ho4)
          have HB4 := Lib.hid (hb.out.trans hb4)
          clear ho4 hb4 kb kc ho hb
          go_wp2
          go_roundg (inputs.length - (k + 1))
          case rel => exact ⟨k + 1, hlt, rfl, by go_num, HO, HB4⟩
          case measure => rw [Hg.out]; omega
        · obtain rfl : k = inputs.length := by omega
          have hPi : (P0 ++ Rb.values inputs).length ≤ 1400000 + 20000 := by rw [List.take_length] at hlen; unfold Rb.values; rw [← List.append_assoc]; exact hlen
          have HoLi := Lib.hid (show OwnB _ (w.heap.size + 1) _ (P0 ++ Rb.values inputs) by have := ho.out; rw [List.take_length] at this; unfold Rb.values; rw [← List.append_assoc]; exact this)
          have HbLi := Lib.hid hb.out
          clear ho hb hlen hk hlt Hg
          obtain ⟨Ac, cc, rfl, -, hc1, hcr⟩ := HC.out
          have Hcr := Lib.hid hcr
          clear hcr
          have kbc := keepC HbLi.out (Nat.lt_succ_self _) HQ2.out
          have eLc : IntKind.u64.wrap (clocks.length : Int) = (clocks.length : Int) := by rw [IntKind.wrap_u64]; omega
          have hPvc : ((P0 ++ Rb.values inputs) ++ Rb.vi clocks.length).length ≤ 1500000 + 10 := by have := Rb.vi_len10 (n := clocks.length) (by omega); rw [List.length_append]; omega
          go_wp2_with fail
          refine (HV.out _ (P0 ++ Rb.values inputs) clocks.length _ HoLi.out hzri (by omega) (by omega)).mono ?_
          rintro e wac ⟨vac, rfl, hoc, hbc⟩
          have HoAc := Lib.hid hoc
          have HbAc := Lib.hid (HbLi.out.trans hbc)
          clear hoc hbc eLc kbc
          go_wp2
          go_loopg [5, 8] clocks.length (fun g b i wl => ∃ k : Nat, k ≤ clocks.length ∧ g = clocks.length - k ∧ i = .int .i64 k ∧ Hid (OwnB wl (w.heap.size + 1) b ((P0 ++ Rb.values inputs) ++ Rb.vi clocks.length ++ Rb.encV (clocks.take k))) ∧ Hid (Below (w.heap.size + 1) wo wl))
          case atStart => exact ⟨0, Nat.zero_le _, rfl, rfl, Lib.hid (by simpa [Rb.encV] using HoAc.out), Lib.hid HbAc.out⟩
          case round =>
            obtain ⟨k, hk, hg, rfl, ho, hb⟩ := hrel
            have Hg := Lib.hid hg
            clear hg
            obtain ⟨wlc, rfl⟩ : ∃ x : World, x = wr := ⟨_, rfl⟩
            have hlen : ((P0 ++ Rb.values inputs) ++ Rb.vi clocks.length ++ Rb.encV (clocks.take k)).length ≤ 1500000 + 20000 := by
              have h2 := Rb.encV_le (clocks.take k) fun y hy => HFC.out y (List.mem_of_mem_take hy)
              rw [List.length_take] at h2
              rw [List.length_append]; omega
            have kb := keepC hb.out (Nat.lt_succ_self _) HQ2.out
            have hzrc : w.heap.size + 1 ≤ wlc.heap.size := Nat.le_trans hsz hb.out.size
            by_cases hlt : k < clocks.length
            · obtain ⟨ad, rfl, hadb, hc0⟩ := ints_at Hcr.out hlt
              have hlow : (ad.add k).block < w.heap.size + 1 := by rw [block_of_add]; omega
              have kc := keepC hb.out hlow (keepC H1.out hlow ((World.cell?_alloc_lt w _ _ (by rw [block_of_add]; omega)).trans hc0))
              have Hx := Lib.hid (Rb.i64_at HFC.out hlt)
              have He := Lib.hid (Rb.encV_take hlt)
              clear hc0
              generalize clocks.getD k 0 = x at *
              go_wp2_with fail
              refine (HZ.out x _ Hx.out).mono ?_
              rintro e w3 ⟨rfl, rfl⟩
              go_wp2_with fail
              refine (HV.out _ ((P0 ++ Rb.values inputs) ++ Rb.vi clocks.length ++ Rb.encV (clocks.take k)) (Rb.zz x) _ ho.out hzrc (Rb.zz_lt Hx.out) (by omega)).mono ?_
              rintro e w4 ⟨v4, rfl, ho4, hb4⟩
              have HO := Lib.hid (show OwnB w4 (w.heap.size + 1) v4 ((P0 ++ Rb.values inputs) ++ Rb.vi clocks.length ++ Rb.encV (clocks.take (k + 1))) by rw [He.out, ← List.append_assoc]; exact ho4)
              have HB4 := Lib.hid (hb.out.trans hb4)
              clear ho4 hb4 kb kc ho hb
              go_wp2
              go_roundg (clocks.length - (k + 1))
              case rel => exact ⟨k + 1, hlt, rfl, by go_num, HO, HB4⟩
              case measure => rw [Hg.out]; omega
            · obtain rfl : k = clocks.length := by omega
              have hPc : ((P0 ++ Rb.values inputs) ++ Rb.values clocks).length ≤ 1500000 + 20000 := by rw [List.take_length] at hlen; unfold Rb.values; rw [← List.append_assoc]; exact hlen
              have HoLc := Lib.hid (show OwnB _ (w.heap.size + 1) _ ((P0 ++ Rb.values inputs) ++ Rb.values clocks) by have := ho.out; rw [List.take_length] at this; unfold Rb.values; rw [← List.append_assoc]; exact this)
              have HbLc := Lib.hid hb.out
              clear ho hb hlen hk hlt Hg
              have kb4 := keepC HbLc.out (Nat.lt_succ_self _) HQ4.out
              have HLo := Lib.hid (fun (u : Value) (W : World) h1 h2 h3 => lows_any u (P0 ++ Rb.values inputs ++ Rb.values clocks) sum 8 (w.heap.size + 1) W h1 h2 hfs (by omega) h3)
              have hl8 := Rb.lows_len 8 sum
              go_wp2_with fail
              refine (HLo.out _ _ HoLc.out hzrc (by omega)).mono ?_
              rintro e w8 ⟨v8, rfl, ho8, hb8⟩
              have Ho8 := Lib.hid ho8
              have Hb8 := Lib.hid (HbLc.out.trans hb8)
              have hP3 : (P0 ++ Rb.values inputs ++ Rb.values clocks ++ Rb.lows sum 8).length ≤ 70000000 := by rw [List.length_append]; omega
              generalize (P0 ++ Rb.values inputs ++ Rb.values clocks ++ Rb.lows sum 8) = P3 at *
              have HSe := Lib.hid (fun (u : Value) (W : World) h1 h2 => sealed_any u P3 W.heap.size W h1 (Nat.le_refl _) HByt.out h2)
              clear ho8 hb8 kb4 HLo
              go_wp2_with fail
              refine (HSe.out _ _ (rdB_of_own Ho8.out) (by omega)).mono ?_
              rintro e wa ⟨va, rfl, hoa, hba⟩
              have hzw : w.heap.size ≤ wo.heap.size := by omega
              have hz8 := Hb8.out.size
              have HB := Lib.hid ((((Below.refl w.heap.size w).alloc (Nat.le_refl _) _).trans (H1.out.mono (Nat.le_succ _))).trans (Hb8.out.mono (Nat.le_succ _)))
              have HBa := Lib.hid (HB.out.trans (hba.mono (by omega)))
              have Hoa := Lib.hid (show OwnB wa w.heap.size va (Rb.enc ⟨(st : Int), picks, inputs, clocks, sum⟩) by
                rw [HEnc.out]; exact ownB_more hoa (by omega))
              clear hoa hba
              go_wp2_with fail
              exact bodyPost_ret (v := .tuple #[va, .int .i64 0]) (by simp [results, Tryz.results9, go_sem]) rfl ⟨_, rfl, Hoa.out, HBa.out⟩
end Go.Proofs.YtdpoecjbofofoaaGreatDoor
