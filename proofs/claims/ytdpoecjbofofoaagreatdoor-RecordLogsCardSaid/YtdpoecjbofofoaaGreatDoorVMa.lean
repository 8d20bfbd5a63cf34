/-
  Bytes of the call's own; numbers put behind bytes: the program's varint and the specification's.
  Contracts: the specification's varint; the lowest bytes of a number; the sums of bytes.
  Contracts: fixed, check, folded, zigzag, values, Sealed.
  Contracts: values, Sealed.
  Contracts: Sealed.
  Contracts: lists compared: SameOut, SamePicks.
  Contracts: SamePicks.
  Logs in memory; contracts: GreatLog, SameLog.
  Contracts: SameLog of two equal logs.
  Contract: TwinLog.
  Contracts: Shape of the program's and of the specification's.
-/
import Derived.Test.YtdpoecjbofofoaaGreatDoorBase
import Derived.Test.YtdpoecjbofofoaaGreatDoorVPlain
import Derived.Laws.StructEq
import Derived.Shelf.SlicesE.Kit
namespace Go.Proofs.YtdpoecjbofofoaaGreatDoor
open Go.RowKit

theorem info_u8 : (Tryz.prog.info? 5).map (fun i => (i.zero, i.size, i.bytes)) = some (some (.int .u8 0), 1, 1) := by kernel_rfl
/-- A row of bytes of the call's own. -/
def OwnB (w : World) (base : Nat) (v : Value) (l : List Nat) : Prop := w.ownsRow base 5 1 v l.length (l.map fun (b : Nat) => Value.int .u8 (b : Int))
theorem OwnB.nil (w : World) (base : Nat) : OwnB w base (.slice none 0 0) [] := ⟨by simp, .inl ⟨rfl, rfl⟩⟩
theorem ownB_snoc {w : World} {base : Nat} {v : Value} {l : List Nat} {x : Nat} (h : w.ownsRow base 5 1 v (l.length + 1) ((l.map fun (b : Nat) => Value.int .u8 (b : Int)) ++ [.int .u8 (x : Int)])) : OwnB w base v (l ++ [x]) := by
  unfold OwnB
  simpa using h
theorem own_ge {w : World} {base : Nat} {e : TypeId} {n s : Nat} {v : Value} {xs : List Value} (h : w.ownsRow base e s v n xs) : ∀ k, v.ownBlock = some k → base ≤ k := by
  intro k hk
  obtain ⟨A, c, rfl, _, _, hb⟩ := own_form h
  cases A with
  | none => simp [Value.ownBlock] at hk
  | some ad => simp [Value.ownBlock] at hk; have := hb ad rfl; omega
theorem cell_new1 (w : World) (t : TypeId) (u : Value) : (w.alloc (.cells #[u] t)).cell? ⟨w.heap.size, 0, none⟩ = some u := (Blk.new w t #[u]).cell 0
theorem reads_1 {w : World} {g B : Nat} {u : Value} (hb : g < B) (h : w.cell? ⟨g, 0, none⟩ = some u) : Reads w B 1 (some ⟨g, 0, none⟩) 1 [u] :=
  ⟨rfl, fun _ => ⟨_, rfl, hb, fun j v hj => by
    cases j with
    | zero => simp at hj; subst hj; rw [add_zero_]; exact h
    | succ j => simp at hj⟩⟩

set_option maxRecDepth 100000 in
theorem or128 (m : Nat) : bits .or .u8 ((m : Int) % 256) 128 = ((m % 128 + 128 : Nat) : Int) := by
  have h := u8_or_nat (m % 256) 128 (by omega) (by omega)
  have e : ∀ x : Fin 256, x.val ||| 128 = x.val % 128 + 128 := by decide
  have e2 := e ⟨m % 256, by omega⟩
  simp only at e2
  rw [e2, show m % 256 % 128 = m % 128 by omega] at h
  rw [← h, show ((m % 256 : Nat) : Int) = (m : Int) % 256 by omega]; rfl

set_option maxRecDepth 20000 in
set_option maxHeartbeats 1600000 in
theorem varint_any (v : Value) (l : List Nat) (n : Nat) (base : Nat) (w : World) (hv : OwnB w base v l) (hB : base ≤ w.heap.size) (hn : n < 18446744073709551616) (hl : l.length ≤ 1000000000000) :
    Calls Tryz.prog 18 #[v, .int .u64 n] w fun e w' => ∃ v', e = .returned v' ∧ OwnB w' base v' (l ++ Rb.vi n) ∧ Below base w w' := by
  obtain ⟨i0, hi0, hz0, hz1, hz2⟩ := info_parts info_u8
  have Hv := Lib.hid hv
  clear hv
  go_enter Tryz.func18, Tryz.ntmps18
  go_wp2
  go_loopg [0, 1] n (fun g u i wr => ∃ (m : Nat) (pre : List Nat), g = m ∧ i = .int .u64 m ∧ m < 18446744073709551616 ∧ Hid (Rb.vi n = pre ++ Rb.vi m ∧ pre.length ≤ 20 ∧ m * 128 ^ pre.length ≤ n) ∧ Hid (OwnB wr base u (l ++ pre)) ∧ Hid (Below base w wr))
  case atStart => exact ⟨n, [], rfl, rfl, hn, Lib.hid ⟨rfl, by simp, by simp⟩, Lib.hid (by simpa using Hv.out), Lib.hid (Below.refl _ _)⟩
  case round =>
    obtain ⟨m, pre, hg, rfl, hm, hp, ho, hb⟩ := hrel
    have Hg := Lib.hid hg
    clear hg
    by_cases h128 : 128 ≤ m
    · have h128' := h128
      have h1 : ((m : Int) ≥ 128) = True := by simp; omega
      have Hor := Lib.hid (or128 m)
      have Hm := Lib.hid hm
      have Hn := Lib.hid hn
      have Hp := Lib.hid hp.out
      go_wp2_with (at_builtin; go_must (refine wpList_append_any _ rfl _ _ 30 rfl base 5 i0 _ 1 1 Tryz.underlying30 hi0 hz0 hz1 hz2 rfl (by decide) _ (l ++ pre).length _ rfl (own_kept ho.out (World.grownBy_alloc _ _ none) (fun g e => by cases e)) (wr.heap.size + 1) _ 1 _ [.int .u8 ((m % 128 + 128 : Nat) : Int)] rfl (reads_1 (by omega) (by rw [Hor.out]; exact cell_new1 _ _ _)) ?d2 ?d3 ?d4 ?d5 ?_))
      case d2 => intro u hu; simp at hu; subst hu; rfl
      case d3 => have := Hp.out.2.1; unfold maxLen; simp; omega
      case d4 => have := Hp.out.2.1; simp; omega
      case d5 => have := hb.out.size; simp; omega
      intro v2 w2 hown2 hg2 hat2
      have Ho := Lib.hid (show OwnB w2 base v2 (l ++ (pre ++ [m % 128 + 128])) by unfold OwnB; simpa [Nat.add_assoc, List.append_assoc] using hown2)
      have Hb := Lib.hid (show Below base w w2 from (hb.out.alloc (Nat.le_trans hB hb.out.size) _).grown hg2 (by have := hb.out.size; simp; omega) (fun k hk => own_ge ho.out k hk))
      clear hown2 hg2 hat2 ho hb hp hm h1
      go_wp2
      go_roundg (m / 128)
      case rel =>
        refine ⟨m / 128, pre ++ [m % 128 + 128], rfl, by simp, by have := Hm.out; omega, Lib.hid ⟨?_, ?_, ?_⟩, Ho, Hb⟩
        · rw [Hp.out.1, Rb.vi_big h128', List.append_assoc]; rfl
        · have h1 := Hp.out.2.2
          have h2 := Hn.out
          rw [List.length_append, List.length_singleton]
          rcases Nat.lt_or_ge pre.length 10 with g | g
          · omega
          · have h3 : 128 ^ 10 ≤ 128 ^ pre.length := Nat.pow_le_pow_right (by omega) g
            have h4 : 128 * 128 ^ 10 ≤ m * 128 ^ pre.length := Nat.mul_le_mul h128' h3
            omega
        · have h1 := Hp.out.2.2
          rw [List.length_append, List.length_singleton, Nat.pow_succ]
          have h2 : m / 128 * (128 ^ pre.length * 128) = (m / 128 * 128) * 128 ^ pre.length := by rw [Nat.mul_comm (128 ^ pre.length) 128, Nat.mul_assoc]
          rw [h2]
          exact Nat.le_trans (Nat.mul_le_mul_right _ (Nat.div_mul_le_self m 128)) h1
      case measure => rw [Hg.out]; omega
    · have Hp := Lib.hid hp.out
      have hlt : m < 128 := by omega
      have h1 : ((m : Int) ≥ 128) = False := by simp; omega
      have hm2 : (m : Int) % 256 = m := by omega
      go_wp2_with (at_builtin; go_must (refine wpList_append_any _ rfl _ _ 30 rfl base 5 i0 _ 1 1 Tryz.underlying30 hi0 hz0 hz1 hz2 rfl (by decide) _ (l ++ pre).length _ rfl (own_kept ho.out (World.grownBy_alloc _ _ none) (fun g e => by cases e)) (wr.heap.size + 1) _ 1 _ [.int .u8 (m : Int)] rfl (reads_1 (by omega) (cell_new1 _ _ _)) ?d2 ?d3 ?d4 ?d5 ?_))
      case d2 => intro u hu; simp at hu; subst hu; rfl
      case d3 => have := Hp.out.2.1; unfold maxLen; simp; omega
      case d4 => have := Hp.out.2.1; simp; omega
      case d5 => have := hb.out.size; simp; omega
      intro v2 w2 hown2 hg2 hat2
      have Ho := Lib.hid (show OwnB w2 base v2 (l ++ Rb.vi n) by rw [Hp.out.1, Rb.vi_small hlt]; unfold OwnB; simpa [Nat.add_assoc, List.append_assoc] using hown2)
      have Hb := Lib.hid (show Below base w w2 from (hb.out.alloc (Nat.le_trans hB hb.out.size) _).grown hg2 (by have := hb.out.size; simp; omega) (fun k hk => own_ge ho.out k hk))
      clear hown2 hg2 hat2 ho hb hp hm h1 hm2
      go_wp2
      go_ret
      exact ⟨_, rfl, Ho.out, Hb.out⟩
end Go.Proofs.YtdpoecjbofofoaaGreatDoor
namespace Go.Proofs.YtdpoecjbofofoaaGreatDoor
open Go.RowKit

set_option maxRecDepth 20000 in
set_option maxHeartbeats 1600000 in
theorem rvarint_any (v : Value) (l : List Nat) (n : Nat) (base : Nat) (w : World) (hv : OwnB w base v l) (hB : base ≤ w.heap.size) (hn : n < 18446744073709551616) (hl : l.length ≤ 1000000000000) :
    Calls Tryz.prog 22 #[v, .int .u64 n] w fun e w' => ∃ v', e = .returned v' ∧ OwnB w' base v' (l ++ Rb.vi n) ∧ Below base w w' := by
  obtain ⟨i0, hi0, hz0, hz1, hz2⟩ := info_parts info_u8
  have Hv := Lib.hid hv
  clear hv
  go_enter Tryz.func22, Tryz.ntmps22
  go_wp2
  go_loopg [0, 1] n (fun g u i wr => ∃ (m : Nat) (pre : List Nat), g = m ∧ i = .int .u64 m ∧ m < 18446744073709551616 ∧ Hid (Rb.vi n = pre ++ Rb.vi m ∧ pre.length ≤ 20 ∧ m * 128 ^ pre.length ≤ n) ∧ Hid (OwnB wr base u (l ++ pre)) ∧ Hid (Below base w wr))
  case atStart => exact ⟨n, [], rfl, rfl, hn, Lib.hid ⟨rfl, by simp, by simp⟩, Lib.hid (by simpa using Hv.out), Lib.hid (Below.refl _ _)⟩
  case round =>
    obtain ⟨m, pre, hg, rfl, hm, hp, ho, hb⟩ := hrel
    have Hg := Lib.hid hg
    clear hg
    by_cases h128 : 128 ≤ m
    · have h128' := h128
      have h1 : ((m : Int) > 127) = True := by simp; omega
      have Hm := Lib.hid hm
      have Hn := Lib.hid hn
      have Hp := Lib.hid hp.out
      have hc1 : ((m : Int) % 128) % 256 = (m : Int) % 128 := by omega
      have hc2 : ((m : Int) % 128 + 128) % 256 = ((m % 128 + 128 : Nat) : Int) := by omega
      go_wp2_with (at_builtin; go_must (refine wpList_append_any _ rfl _ _ 30 rfl base 5 i0 _ 1 1 Tryz.underlying30 hi0 hz0 hz1 hz2 rfl (by decide) _ (l ++ pre).length _ rfl (own_kept ho.out (World.grownBy_alloc _ _ none) (fun g e => by cases e)) (wr.heap.size + 1) _ 1 _ [.int .u8 ((m % 128 + 128 : Nat) : Int)] rfl (reads_1 (by omega) (cell_new1 _ _ _)) ?d2 ?d3 ?d4 ?d5 ?_))
      case d2 => intro u hu; simp at hu; subst hu; rfl
      case d3 => have := Hp.out.2.1; unfold maxLen; simp; omega
      case d4 => have := Hp.out.2.1; simp; omega
      case d5 => have := hb.out.size; simp; omega
      intro v2 w2 hown2 hg2 hat2
      have Ho := Lib.hid (show OwnB w2 base v2 (l ++ (pre ++ [m % 128 + 128])) by unfold OwnB; simpa [Nat.add_assoc, List.append_assoc] using hown2)
      have Hb := Lib.hid (show Below base w w2 from (hb.out.alloc (Nat.le_trans hB hb.out.size) _).grown hg2 (by have := hb.out.size; simp; omega) (fun k hk => own_ge ho.out k hk))
      clear hown2 hg2 hat2 ho hb hp hm h1 hc1 hc2
      go_wp2
      go_roundg (m / 128)
      case rel =>
        refine ⟨m / 128, pre ++ [m % 128 + 128], rfl, by simp; rw [IntKind.wrap_u64]; have := Hm.out; omega, by have := Hm.out; omega, Lib.hid ⟨?_, ?_, ?_⟩, Ho, Hb⟩
        · rw [Hp.out.1, Rb.vi_big h128', List.append_assoc]; rfl
        · have h1 := Hp.out.2.2
          have h2 := Hn.out
          rw [List.length_append, List.length_singleton]
          rcases Nat.lt_or_ge pre.length 10 with g | g
          · omega
          · have h3 : 128 ^ 10 ≤ 128 ^ pre.length := Nat.pow_le_pow_right (by omega) g
            have h4 : 128 * 128 ^ 10 ≤ m * 128 ^ pre.length := Nat.mul_le_mul h128' h3
            omega
        · have h1 := Hp.out.2.2
          rw [List.length_append, List.length_singleton, Nat.pow_succ]
          have h2 : m / 128 * (128 ^ pre.length * 128) = (m / 128 * 128) * 128 ^ pre.length := by rw [Nat.mul_comm (128 ^ pre.length) 128, Nat.mul_assoc]
          rw [h2]
          exact Nat.le_trans (Nat.mul_le_mul_right _ (Nat.div_mul_le_self m 128)) h1
      case measure => rw [Hg.out]; omega
    · have Hp := Lib.hid hp.out
      have hlt : m < 128 := by omega
      have h1 : ((m : Int) > 127) = False := by simp; omega
      have hm2 : (m : Int) % 256 = m := by omega
      go_wp2_with (at_builtin; go_must (refine wpList_append_any _ rfl _ _ 30 rfl base 5 i0 _ 1 1 Tryz.underlying30 hi0 hz0 hz1 hz2 rfl (by decide) _ (l ++ pre).length _ rfl (own_kept ho.out (World.grownBy_alloc _ _ none) (fun g e => by cases e)) (wr.heap.size + 1) _ 1 _ [.int .u8 (m : Int)] rfl (reads_1 (by omega) (cell_new1 _ _ _)) ?d2 ?d3 ?d4 ?d5 ?_))
      case d2 => intro u hu; simp at hu; subst hu; rfl
      case d3 => have := Hp.out.2.1; unfold maxLen; simp; omega
      case d4 => have := Hp.out.2.1; simp; omega
      case d5 => have := hb.out.size; simp; omega
      intro v2 w2 hown2 hg2 hat2
      have Ho := Lib.hid (show OwnB w2 base v2 (l ++ Rb.vi n) by rw [Hp.out.1, Rb.vi_small hlt]; unfold OwnB; simpa [Nat.add_assoc, List.append_assoc] using hown2)
      have Hb := Lib.hid (show Below base w w2 from (hb.out.alloc (Nat.le_trans hB hb.out.size) _).grown hg2 (by have := hb.out.size; simp; omega) (fun k hk => own_ge ho.out k hk))
      clear hown2 hg2 hat2 ho hb hp hm h1 hm2
      go_wp2
      go_ret
      exact ⟨_, rfl, Ho.out, Hb.out⟩

namespace Rb
theorem lows_snoc : ∀ (k n : Nat), lows n (k + 1) = lows n k ++ [n / 256 ^ k % 256]
  | 0, n => by simp [lows]
  | k + 1, n => by
    have h := lows_snoc k (n / 256)
    show n % 256 :: lows (n / 256) (k + 1) = (n % 256 :: lows (n / 256) k) ++ _
    rw [h, Nat.div_div_eq_div_mul, Nat.pow_succ, Nat.mul_comm (256 ^ k) 256]; rfl
end Rb
set_option maxRecDepth 20000 in
set_option maxHeartbeats 1600000 in
theorem lows_any (v : Value) (l : List Nat) (n k : Nat) (base : Nat) (w : World) (hv : OwnB w base v l) (hB : base ≤ w.heap.size) (hn : n < 18446744073709551616) (hk : k ≤ 8) (hl : l.length ≤ 1000000000000) :
    Calls Tryz.prog 25 #[v, .int .u64 n, .int .i64 k] w fun e w' => ∃ v', e = .returned v' ∧ OwnB w' base v' (l ++ Rb.lows n k) ∧ Below base w w' := by
  obtain ⟨i0, hi0, hz0, hz1, hz2⟩ := info_parts info_u8
  have Hv := Lib.hid hv
  have Hn := Lib.hid hn
  clear hv hn
  go_enter Tryz.func25, Tryz.ntmps25
  go_wp2
  go_loopg [0, 1, 7] k (fun g u i c wr => ∃ j : Nat, j ≤ k ∧ g = k - j ∧ (∃ m : Nat, i = .int .u64 m ∧ m < 18446744073709551616 ∧ Hid (m = n / 256 ^ j)) ∧ c = .int .i64 j ∧ Hid (OwnB wr base u (l ++ Rb.lows n j)) ∧ Hid (Below base w wr))
  case atStart => exact ⟨0, Nat.zero_le _, rfl, ⟨n, rfl, Hn.out, Lib.hid (by simp)⟩, rfl, Lib.hid (by simpa [Rb.lows] using Hv.out), Lib.hid (Below.refl _ _)⟩
  case round =>
    obtain ⟨j, hj, hg, ⟨m, rfl, hm, hmn⟩, rfl, ho, hb⟩ := hrel
    have Hg := Lib.hid hg
    clear hg
    by_cases hlt : j < k
    · have hlen := Rb.lows_len j n
      have Hm := Lib.hid hm
      clear hm
      go_wp2_with (at_builtin; go_must (refine wpList_append_any _ rfl _ _ 30 rfl base 5 i0 _ 1 1 Tryz.underlying30 hi0 hz0 hz1 hz2 rfl (by decide) _ (l ++ Rb.lows n j).length _ rfl (own_kept ho.out (World.grownBy_alloc _ _ none) (fun g e => by cases e)) (wr.heap.size + 1) _ 1 _ [.int .u8 ((m : Int) % 256)] rfl (reads_1 (by omega) (cell_new1 _ _ _)) ?d2 ?d3 ?d4 ?d5 ?_))
      case d2 => intro u hu; simp at hu; subst hu; rfl
      case d3 => unfold maxLen; simp; omega
      case d4 => simp; omega
      case d5 => have := hb.out.size; simp; omega
      intro v2 w2 hown2 hg2 hat2
      have Ho := Lib.hid (show OwnB w2 base v2 (l ++ Rb.lows n (j + 1)) by rw [Rb.lows_snoc, ← hmn.out]; unfold OwnB; simpa [Nat.add_assoc, List.append_assoc, Rb.lows_len] using hown2)
      have Hb := Lib.hid (show Below base w w2 from (hb.out.alloc (Nat.le_trans hB hb.out.size) _).grown hg2 (by have := hb.out.size; simp; omega) (fun k hk => own_ge ho.out k hk))
      clear hown2 hg2 hat2 ho hb
      go_wp2
      go_roundg (k - (j + 1))
      case rel => exact ⟨j + 1, hlt, rfl, ⟨m / 256, by simp; rw [IntKind.wrap_u64]; have := Hm.out; omega, by have := Hm.out; omega, Lib.hid (by rw [hmn.out, Nat.div_div_eq_div_mul, Nat.pow_succ])⟩, by go_num, Ho, Hb⟩
      case measure => rw [Hg.out]; omega
    · obtain rfl : j = k := by omega
      go_wp2
      go_ret
      exact ⟨_, rfl, ho.out, hb.out⟩
/-- A slice that reads as bytes, below block B. -/
def RdB (w : World) (B : Nat) (v : Value) (l : List Nat) : Prop := ∃ A c, v = .slice A l.length c ∧ l.length ≤ c ∧ Reads w B 1 A l.length (l.map fun (b : Nat) => Value.int .u8 (b : Int))
theorem rdB_at {w : World} {B : Nat} {A : Option Addr} {l : List Nat} {k : Nat} (h : Reads w B 1 A l.length (l.map fun (b : Nat) => Value.int .u8 (b : Int))) (hk : k < l.length) : ∃ ad, A = some ad ∧ ad.block < B ∧ w.cell? (ad.add k) = some (.int .u8 ((l.getD k 0 : Nat) : Int)) := by
  obtain ⟨ad, u, e, hb, hu, hc⟩ := h.at_ hk
  refine ⟨ad, e, hb, hc.trans ?_⟩
  rw [List.getElem?_map, List.getElem?_eq_getElem hk] at hu
  rw [List.getD_eq_getElem?_getD, List.getElem?_eq_getElem hk]
  simpa using hu.symm
namespace Rb
theorem foldl_step {α : Type} (f : α → Nat → α) (s : α) {l : List Nat} {k : Nat} (h : k < l.length) : (l.take (k + 1)).foldl f s = f ((l.take k).foldl f s) (l.getD k 0) := by
  rw [List.take_add_one, List.getElem?_eq_getElem h, List.foldl_append, List.getD_eq_getElem?_getD, List.getElem?_eq_getElem h]; rfl
theorem fnv_step {l : List Nat} {k : Nat} (h : k < l.length) : fnv (l.take (k + 1)) = (fnv (l.take k) ^^^ l.getD k 0) * 1099511628211 % 18446744073709551616 := foldl_step _ _ h
theorem fnv_lt (l : List Nat) : fnv l < 18446744073709551616 := by
  have h : ∀ (l : List Nat) (s : Nat), s < 18446744073709551616 → l.foldl (fun s c => (s ^^^ c) * 1099511628211 % 18446744073709551616) s < 18446744073709551616 := by
    intro l
    induction l with
    | nil => intro s h; exact h
    | cons b l ih => intro s _; exact ih _ (Nat.mod_lt _ (by omega))
  exact h l _ (by omega)
theorem bytes_at {l : List Nat} (h : Bytes l) (k : Nat) : l.getD k 0 < 256 := by
  rw [List.getD_eq_getElem?_getD]
  rcases Nat.lt_or_ge k l.length with g | g
  · rw [List.getElem?_eq_getElem g]; exact h _ (List.getElem_mem g)
  · rw [List.getElem?_eq_none g]; simp
end Rb
set_option maxRecDepth 20000 in
set_option maxHeartbeats 1600000 in
theorem rfnv_any (v : Value) (l : List Nat) (B : Nat) (w : World) (hv : RdB w B v l) (hl : Rb.Bytes l) (hn : l.length ≤ 1000000000000) :
    Calls Tryz.prog 30 #[v] w fun e w' => e = .returned (.int .u64 (Rb.fnv l)) ∧ w' = w := by
  obtain ⟨A, c, rfl, hc, hr⟩ := hv
  have Hr := Lib.hid hr
  have Hl := Lib.hid hl
  clear hr hc hl
  go_enter Tryz.func30, Tryz.ntmps30
  go_wp2
  go_loopg [3, 4] l.length (fun g s i wr => ∃ k : Nat, k ≤ l.length ∧ g = l.length - k ∧ (∃ m : Nat, s = .int .u64 m ∧ m < 18446744073709551616 ∧ Hid (m = Rb.fnv (l.take k))) ∧ i = .int .i64 k ∧ wr = w)
  case atStart => exact ⟨0, Nat.zero_le _, rfl, ⟨_, rfl, by decide, Lib.hid (by simp [Rb.fnv])⟩, rfl, rfl⟩
  case round =>
    obtain ⟨k, hk, hg, ⟨m, rfl, hm, hmn⟩, rfl, rfl⟩ := hrel
    have Hg := Lib.hid hg
    clear hg
    by_cases hlt : k < l.length
    · obtain ⟨ad, rfl, _, hcell⟩ := rdB_at Hr.out hlt
      have hb := Rb.bytes_at Hl.out k
      have Hs := Lib.hid (Rb.fnv_step hlt)
      generalize l.getD k 0 = b at *
      have hx := u64_xor_nat m b hm (by omega)
      have hb2 : (b : Int) % 18446744073709551616 = b := by omega
      have Hm := Lib.hid hm
      have Hb := Lib.hid hb
      clear hm hb
      go_wp2
      go_roundg (l.length - (k + 1))
      case rel => exact ⟨k + 1, hlt, rfl, ⟨Rb.fnv (l.take (k + 1)), by rw [Hs.out, ← hmn.out]; simp; rw [IntKind.wrap_u64], Rb.fnv_lt _, Lib.hid rfl⟩, by go_num, rfl⟩
      case measure => rw [Hg.out]; omega
    · obtain rfl : k = l.length := by omega
      have e : m = Rb.fnv l := by rw [hmn.out, List.take_length]
      subst e
      go_wp2
      go_ret
      exact ⟨rfl, rfl⟩
end Go.Proofs.YtdpoecjbofofoaaGreatDoor
namespace Go.Proofs.YtdpoecjbofofoaaGreatDoor
open Go.RowKit

set_option maxRecDepth 20000 in
set_option maxHeartbeats 1600000 in
theorem fixed_any (n k : Nat) (w : World) (hn : n < 18446744073709551616) (hk : k ≤ 8) :
    Calls Tryz.prog 20 #[.int .u64 n, .int .i64 k] w fun e w' => ∃ v', e = .returned v' ∧ OwnB w' w.heap.size v' (Rb.lows n k) ∧ Below w.heap.size w w' := by
  obtain ⟨i0, hi0, hz0, hz1, hz2⟩ := info_parts info_u8
  obtain ⟨base, hbase⟩ : ∃ b, b = w.heap.size := ⟨_, rfl⟩
  have hB : base ≤ w.heap.size := by omega
  rw [← hbase]
  have Hn := Lib.hid hn
  clear hn hbase
  go_enter Tryz.func20, Tryz.ntmps20
  go_wp2
  go_loopg [5, 8] k (fun g u c wr => ∃ j : Nat, j ≤ k ∧ g = k - j ∧ c = .int .i64 j ∧ Hid (OwnB wr base u (Rb.lows n j)) ∧ Hid (Below base w wr))
  case atStart => exact ⟨0, Nat.zero_le _, rfl, rfl, Lib.hid (OwnB.nil _ _), Lib.hid (Below.refl _ _)⟩
  case round =>
    obtain ⟨j, hj, hg, rfl, ho, hb⟩ := hrel
    have Hg := Lib.hid hg
    clear hg
    by_cases hlt : j < k
    · have hlen := Rb.lows_len j n
      have hj7 : j ≤ 7 := by omega
      have e8 : (2 : Int) ^ (8 * j) = ((256 ^ j : Nat) : Int) := by rw [show (256 : Nat) = 2 ^ 8 from rfl, ← Nat.pow_mul, Int.natCast_pow]; rfl
      have Hq := Lib.hid (show ((n : Int) / 2 ^ (8 * j)) % 256 = ((n / 256 ^ j % 256 : Nat) : Int) by rw [e8, ← Int.natCast_ediv]; omega)
      clear e8
      go_wp2_with (at_builtin; go_must (refine wpList_append_any _ rfl _ _ 30 rfl base 5 i0 _ 1 1 Tryz.underlying30 hi0 hz0 hz1 hz2 rfl (by decide) _ (Rb.lows n j).length _ rfl (own_kept ho.out (World.grownBy_alloc _ _ none) (fun g e => by cases e)) (wr.heap.size + 1) _ 1 _ [.int .u8 ((n / 256 ^ j % 256 : Nat) : Int)] rfl (reads_1 (by omega) (by rw [Hq.out]; exact cell_new1 _ _ _)) ?d2 ?d3 ?d4 ?d5 ?_))
      case d2 => intro u hu; simp at hu; subst hu; rfl
      case d3 => unfold maxLen; simp; omega
      case d4 => simp; omega
      case d5 => have := hb.out.size; simp; omega
      intro v2 w2 hown2 hg2 hat2
      have Ho := Lib.hid (show OwnB w2 base v2 (Rb.lows n (j + 1)) by rw [Rb.lows_snoc]; unfold OwnB; simpa [Nat.add_assoc, List.append_assoc, Rb.lows_len] using hown2)
      have Hb := Lib.hid (show Below base w w2 from (hb.out.alloc (Nat.le_trans hB hb.out.size) _).grown hg2 (by have := hb.out.size; simp; omega) (fun k hk => own_ge ho.out k hk))
      clear hown2 hg2 hat2 ho hb
      go_wp2
      go_roundg (k - (j + 1))
      case rel => exact ⟨j + 1, hlt, rfl, by go_num, Ho, Hb⟩
      case measure => rw [Hg.out]; omega
    · obtain rfl : j = k := by omega
      go_wp2
      go_ret
      exact ⟨_, rfl, ho.out, hb.out⟩

set_option maxRecDepth 20000 in
set_option maxHeartbeats 1600000 in
theorem check_any (v : Value) (l : List Nat) (B : Nat) (w : World) (hv : RdB w B v l) (hl : Rb.Bytes l) (hn : l.length ≤ 1000000000000) :
    Calls Tryz.prog 21 #[v] w fun e w' => ∃ v', e = .returned v' ∧ OwnB w' w.heap.size v' (Rb.lows (Rb.fnv l) 4) ∧ Below w.heap.size w w' := by
  obtain ⟨A, c, rfl, hc, hr⟩ := hv
  have Hr := Lib.hid hr
  have Hl := Lib.hid hl
  have Hf := Lib.hid (fun W => fixed_any (Rb.fnv l) 4 W (Rb.fnv_lt l) (by omega))
  clear hr hc hl
  go_enter Tryz.func21, Tryz.ntmps21
  go_wp2
  go_loopg [3, 8] l.length (fun g s i wr => ∃ k : Nat, k ≤ l.length ∧ g = l.length - k ∧ (∃ m : Nat, s = .int .u64 m ∧ m < 18446744073709551616 ∧ Hid (m = Rb.fnv (l.take k))) ∧ i = .int .i64 k ∧ wr = w)
  case atStart => exact ⟨0, Nat.zero_le _, rfl, ⟨_, rfl, by decide, Lib.hid (by simp [Rb.fnv])⟩, rfl, rfl⟩
  case round =>
    obtain ⟨k, hk, hg, ⟨m, rfl, hm, hmn⟩, rfl, rfl⟩ := hrel
    have Hg := Lib.hid hg
    clear hg
    by_cases hlt : k < l.length
    · obtain ⟨ad, rfl, _, hcell⟩ := rdB_at Hr.out hlt
      have hb := Rb.bytes_at Hl.out k
      have Hs := Lib.hid (Rb.fnv_step hlt)
      clear Hf
      generalize l.getD k 0 = b at *
      have hx := u64_xor_nat m b hm (by omega)
      have hb2 : (b : Int) % 18446744073709551616 = b := by omega
      have Hm := Lib.hid hm
      have Hb := Lib.hid hb
      clear hm hb
      go_wp2
      go_roundg (l.length - (k + 1))
      case rel => exact ⟨k + 1, hlt, rfl, ⟨Rb.fnv (l.take (k + 1)), by rw [Hs.out, ← hmn.out]; simp; rw [IntKind.wrap_u64], Rb.fnv_lt _, Lib.hid rfl⟩, by go_num, rfl⟩
      case measure => rw [Hg.out]; omega
    · obtain rfl : k = l.length := by omega
      have e : m = Rb.fnv l := by rw [hmn.out, List.take_length]
      subst e
      clear hmn Hl
      go_wp2_with fail
      refine (Hf.out _).mono ?_
      rintro e w1 ⟨v', rfl, h1, h2⟩
      have H1 := Lib.hid h1
      have H2 := Lib.hid h2
      clear h1 h2 Hf
      go_wp2
      go_ret
      exact ⟨_, rfl, H1.out, H2.out⟩

theorem not_u64 (m : Nat) (hm : m < 18446744073709551616) : bits .xor .u64 IntKind.u64.max (m : Int) = ((18446744073709551615 - m : Nat) : Int) := by
  have h := u64_xor_nat 18446744073709551615 m (by decide) hm
  have e : (IntKind.u64.max : Int) = ((18446744073709551615 : Nat) : Int) := by decide
  rw [e, h]
  have h1 : (BitVec.allOnes 64 ^^^ BitVec.ofNat 64 m).toNat = 18446744073709551615 ^^^ m := by
    rw [BitVec.toNat_xor, BitVec.toNat_allOnes, BitVec.toNat_ofNat, Nat.mod_eq_of_lt (show m < 2 ^ 64 by omega)]
  have h2 : (BitVec.allOnes 64 ^^^ BitVec.ofNat 64 m).toNat = 18446744073709551615 - m := by
    rw [BitVec.allOnes_xor, BitVec.toNat_not, BitVec.toNat_ofNat, Nat.mod_eq_of_lt (show m < 2 ^ 64 by omega)]
  rw [← h1, h2]
set_option maxHeartbeats 800000 in
theorem folded_any (x : Int) (w : World) (hx : Rb.I64 x) :
    Calls Tryz.prog 40 #[.int .i64 x] w fun e w' => e = .returned (.int .u64 (Rb.zz x)) ∧ w' = w := by
  obtain ⟨h1, h2⟩ := hx
  by_cases h : x < 0
  · have hz := Lib.hid (show Rb.zz x = 2 * (-(x + 1)).toNat + 1 by unfold Rb.zz; rw [if_pos h])
    go_enter Tryz.func40, Tryz.ntmps40
    go_wp2
    go_ret
    have hw : IntKind.u64.wrap (IntKind.u64.wrap x * 2) = (((2 * x + 18446744073709551616).toNat : Nat) : Int) := by
      rw [IntKind.wrap_u64, IntKind.wrap_u64]; omega
    refine ⟨?_, rfl⟩
    show Ending.returned (.int .u64 (bits BinOp.xor IntKind.u64 IntKind.u64.max (IntKind.u64.wrap (IntKind.u64.wrap x * 2)))) = _
    rw [hw, not_u64 _ (by omega)]
    exact ret_int (by rw [hz.out]; omega)
  · have hz := Lib.hid (show Rb.zz x = 2 * x.toNat by unfold Rb.zz; rw [if_neg h])
    go_enter Tryz.func40, Tryz.ntmps40
    go_wp2
    go_ret
    exact ⟨ret_int (by rw [hz.out]; omega), rfl⟩
set_option maxHeartbeats 800000 in
theorem zigzag_any (x : Int) (w : World) (hx : Rb.I64 x) :
    Calls Tryz.prog 23 #[.int .i64 x] w fun e w' => e = .returned (.int .u64 (Rb.zz x)) ∧ w' = w := by
  obtain ⟨h1, h2⟩ := hx
  by_cases h : x < 0
  · have hz := Lib.hid (show Rb.zz x = 2 * (-(x + 1)).toNat + 1 by unfold Rb.zz; rw [if_pos h])
    go_enter Tryz.func23, Tryz.ntmps23
    go_wp2
    go_ret
    exact ⟨ret_int (by rw [hz.out]; omega), rfl⟩
  · have hz := Lib.hid (show Rb.zz x = 2 * x.toNat by unfold Rb.zz; rw [if_neg h])
    go_enter Tryz.func23, Tryz.ntmps23
    go_wp2
    go_ret
    exact ⟨ret_int (by rw [hz.out]; omega), rfl⟩
end Go.Proofs.YtdpoecjbofofoaaGreatDoor
namespace Go.Proofs.YtdpoecjbofofoaaGreatDoor
open Go.RowKit
namespace Rb
theorem vi_len : ∀ (k n : Nat), n < 128 ^ (k + 1) → (vi n).length ≤ k + 1
  | 0, n, h => by rw [vi_small (by simpa using h)]; simp
  | k + 1, n, h => by
    rcases Nat.lt_or_ge n 128 with g | g
    · rw [vi_small g]; simp
    · rw [vi_big g]
      rw [Nat.pow_succ] at h
      have := vi_len k (n / 128) (by omega)
      simp only [List.length_cons]; omega
theorem vi_len10 {n : Nat} (h : n < 18446744073709551616) : (vi n).length ≤ 10 := vi_len 9 n (by
  have : (18446744073709551616 : Nat) ≤ 128 ^ 10 := by decide
  omega)
theorem encV_append : ∀ (a b : List Int), encV (a ++ b) = encV a ++ encV b
  | [], b => rfl
  | x :: a, b => by
    show vi (zz x) ++ encV (a ++ b) = (vi (zz x) ++ encV a) ++ encV b
    rw [encV_append a b, List.append_assoc]
theorem encV_le : ∀ (a : List Int), (∀ v ∈ a, I64 v) → (encV a).length ≤ 10 * a.length
  | [], _ => by simp [encV]
  | x :: a, h => by
    have h1 := vi_len10 (zz_lt (h x List.mem_cons_self))
    have h2 := encV_le a fun y hy => h y (List.mem_cons_of_mem _ hy)
    simp only [encV, List.length_append, List.length_cons]; omega
theorem encV_take {l : List Int} {k : Nat} (h : k < l.length) : encV (l.take (k + 1)) = encV (l.take k) ++ vi (zz (l.getD k 0)) := by
  rw [List.take_add_one, List.getElem?_eq_getElem h, encV_append, List.getD_eq_getElem?_getD, List.getElem?_eq_getElem h]
  simp [encV]
theorem i64_at {l : List Int} (h : ∀ v ∈ l, I64 v) {k : Nat} (hk : k < l.length) : I64 (l.getD k 0) := by
  rw [List.getD_eq_getElem?_getD, List.getElem?_eq_getElem hk]; exact h _ (List.getElem_mem hk)
end Rb
set_option maxRecDepth 20000 in
set_option maxHeartbeats 1600000 in
theorem values_any (v lv : Value) (bl : List Nat) (l : List Int) (base B : Nat) (w : World) (hv : OwnB w base v bl) (hB : base ≤ w.heap.size) (hr : Ints w B lv l) (hBb : B ≤ base) (hi : ∀ x ∈ l, Rb.I64 x) (hbl : bl.length ≤ 100000000000) (hl : l.length ≤ 1000000) :
    Calls Tryz.prog 19 #[v, lv] w fun e w' => ∃ v', e = .returned v' ∧ OwnB w' base v' (bl ++ Rb.values l) ∧ Below base w w' := by
  obtain ⟨A, c, rfl, hn, hm, hr⟩ := hr
  have Hr := Lib.hid hr
  have Hi := Lib.hid hi
  have HV := Lib.hid (fun (u : Value) (pre : List Nat) (n : Nat) (W : World) h1 h2 h3 h4 => varint_any u pre n base W h1 h2 h3 h4)
  have HF := Lib.hid (fun (x : Int) (W : World) h => folded_any x W h)
  have Hv := Lib.hid hv
  clear hn hm hr hi hv
  go_enter Tryz.func19, Tryz.ntmps19
  go_wp2_with fail
  refine (HV.out _ bl l.length _ Hv.out hB (by omega) (by omega)).mono ?_
  rintro e w1 ⟨v1, rfl, h1, h2⟩
  have H1 := Lib.hid h1
  have H2 := Lib.hid h2
  clear h1 h2 Hv
  go_wp2
  go_loopg [0, 14] l.length (fun g u i wr => ∃ k : Nat, k ≤ l.length ∧ g = l.length - k ∧ i = .int .i64 k ∧ Hid (OwnB wr base u (bl ++ Rb.vi l.length ++ Rb.encV (l.take k))) ∧ Hid (Below base w wr))
  case atStart => exact ⟨0, Nat.zero_le _, rfl, rfl, Lib.hid (by simpa [Rb.encV] using H1.out), Lib.hid H2.out⟩
  case round =>
    obtain ⟨k, hk, hg, rfl, ho, hb⟩ := hrel
    have Hg := Lib.hid hg
    clear hg
    by_cases hlt : k < l.length
    · obtain ⟨ad, rfl, hadb, hc0⟩ := ints_at Hr.out hlt
      have hcell : wr.cell? (ad.add k) = some (.int .i64 (l.getD k 0)) := ((hb.out.mono hBb).cell (by rw [block_of_add]; exact hadb)).trans hc0
      have Hx := Lib.hid (Rb.i64_at Hi.out hlt)
      have He := Lib.hid (Rb.encV_take hlt)
      have Hlen := Lib.hid (show (bl ++ Rb.vi l.length ++ Rb.encV (l.take k)).length ≤ 200000000000 by
        have h1 := Rb.vi_len10 (show l.length < 18446744073709551616 by omega)
        have h2 := Rb.encV_le (l.take k) fun y hy => Hi.out y (List.mem_of_mem_take hy)
        rw [List.length_take] at h2
        simp only [List.length_append]; omega)
      generalize l.getD k 0 = x at *
      clear hc0
      go_wp2_with fail
      refine (HF.out x _ Hx.out).mono ?_
      rintro e w2 ⟨rfl, rfl⟩
      go_wp2_with fail
      refine (HV.out _ (bl ++ Rb.vi l.length ++ Rb.encV (l.take k)) (Rb.zz x) _ ho.out (Nat.le_trans hB hb.out.size) (Rb.zz_lt Hx.out) (by have := Hlen.out; omega)).mono ?_
      rintro e w3 ⟨v3, rfl, h3, h4⟩
      have H3 := Lib.hid (show OwnB w3 base v3 (bl ++ Rb.vi l.length ++ Rb.encV (l.take (k + 1))) by rw [He.out, ← List.append_assoc]; exact h3)
      have H4 := Lib.hid (hb.out.trans h4)
      clear h3 h4 ho hb
      go_wp2
      go_roundg (l.length - (k + 1))
      case rel => exact ⟨k + 1, hlt, rfl, by go_num, H3, H4⟩
      case measure => rw [Hg.out]; omega
    · obtain rfl : k = l.length := by omega
      have Ho := Lib.hid (show OwnB wr base _ (bl ++ Rb.values l) by have := ho.out; rw [List.take_length] at this; unfold Rb.values; rw [← List.append_assoc]; exact this)
      clear ho
      go_wp2
      go_ret
      exact ⟨_, rfl, Ho.out, hb.out⟩
end Go.Proofs.YtdpoecjbofofoaaGreatDoor
namespace Go.Proofs.YtdpoecjbofofoaaGreatDoor
open Go.RowKit
theorem rdB_of_own {w : World} {base : Nat} {v : Value} {l : List Nat} (h : OwnB w base v l) : RdB w w.heap.size v l := by
  obtain ⟨A, c, rfl, hc, hr, -⟩ := own_form h
  exact ⟨A, c, rfl, hc, hr⟩
theorem RdB.below {w w' : World} {B : Nat} {v : Value} {l : List Nat} (h : RdB w B v l) (hb : Below B w w') : RdB w' B v l := by
  obtain ⟨A, c, rfl, hc, hr⟩ := h
  exact ⟨A, c, rfl, hc, hr.below hb⟩
theorem RdB.more {w : World} {B B' : Nat} {v : Value} {l : List Nat} (h : RdB w B v l) (hb : B ≤ B') : RdB w B' v l := by
  obtain ⟨A, c, rfl, hc, hr⟩ := h
  exact ⟨A, c, rfl, hc, hr.more hb⟩
set_option maxRecDepth 20000 in
set_option maxHeartbeats 1600000 in
theorem sealed_any (v : Value) (l : List Nat) (B : Nat) (w : World) (hv : RdB w B v l) (hB : B ≤ w.heap.size) (hl : Rb.Bytes l) (hn : l.length ≤ 100000000000) :
    Calls Tryz.prog 24 #[v] w fun e w' => ∃ v', e = .returned v' ∧ OwnB w' w.heap.size v' (l ++ Rb.lows (Rb.fnv l) 4) ∧ Below w.heap.size w w' := by
  obtain ⟨i0, hi0, hz0, hz1, hz2⟩ := info_parts info_u8
  have HN := Lib.hid (fun W h => rfnv_any v l B W h hl (by omega))
  have HL := Lib.hid (fun u W h1 h2 => lows_any u l (Rb.fnv l) 4 w.heap.size W h1 h2 (Rb.fnv_lt l) (by omega) (by omega))
  have HV := Lib.hid hv
  obtain ⟨A, c, rfl, hc, hr⟩ := hv
  have Hr := Lib.hid hr
  have Hb1 := Lib.hid (show ∀ u ∈ l.map fun (b : Nat) => Value.int .u8 (b : Int), u.oneCell' = true from fun u hu => by
    obtain ⟨b, -, rfl⟩ := List.mem_map.1 hu; rfl)
  clear hr hc
  go_enter Tryz.func24, Tryz.ntmps24
  go_wp2_with (at_builtin; go_must (refine wpList_append_any _ rfl _ _ 30 rfl w.heap.size 5 i0 _ 1 1 Tryz.underlying30 hi0 hz0 hz1 hz2 rfl (by decide) _ ([] : List Nat).length _ rfl (OwnB.nil w w.heap.size) B _ l.length _ (l.map fun (b : Nat) => Value.int .u8 (b : Int)) rfl Hr.out ?d2 ?d3 ?d4 ?d5 ?_))
  case d2 => exact Hb1.out
  case d3 => unfold maxLen; simp; omega
  case d4 => simp; omega
  case d5 => simp
  intro v2 w2 hown2 hg2 hat2
  have Ho := Lib.hid (show OwnB w2 w.heap.size v2 l by unfold OwnB; simpa using hown2)
  have Hb := Lib.hid (show Below w.heap.size w w2 from (Below.refl _ _).grown hg2 (Nat.le_refl _) (fun k hk => by simp [Value.ownBlock] at hk))
  clear hown2 hg2 hat2 Hr
  go_wp2_with fail
  refine (HN.out _ (HV.out.below (Hb.out.mono hB))).mono ?_
  rintro e w3 ⟨rfl, rfl⟩
  clear HN HV
  go_wp2_with fail
  refine (HL.out _ _ Ho.out Hb.out.size).mono ?_
  rintro e w4 ⟨v4, rfl, h1, h2⟩
  have H1 := Lib.hid h1
  have H2 := Lib.hid (Hb.out.trans h2)
  clear h1 h2
  go_wp2
  go_ret
  exact ⟨_, rfl, H1.out, H2.out⟩
end Go.Proofs.YtdpoecjbofofoaaGreatDoor
namespace Go.Proofs.YtdpoecjbofofoaaGreatDoor
open Go.RowKit

set_option maxHeartbeats 400000 in
theorem sameOut_any (u v : Value) (xs ys : List Int) (B : Nat) (w : World) (hu : Ints w B u xs) (hv : Ints w B v ys) :
    Calls Tryz.prog 26 #[u, v] w fun e w' => e = .returned (.bool (decide (xs = ys))) ∧ ∃ n, w' = w.drewN n := by
  obtain ⟨A, c, rfl, hn, hm, hr⟩ := hu
  obtain ⟨A', c', rfl, hn', hm', hr'⟩ := hv
  clear hn hn'
  by_cases hl : xs.length = ys.length
  · have hlz : ((xs.length : Int) != (ys.length : Int)) = false := by simp [hl]
    have Hl := Lib.hid hl
    have hle : xs.length ≤ ys.length := by omega
    clear hl
    go_enter Tryz.func26, Tryz.ntmps26
    go_wp2
    go_loopg [5] xs.length (fun g i wr => ∃ k q : Nat, k ≤ xs.length ∧ g = xs.length - k ∧ i = .int .i64 k ∧ wr = w.drewN q ∧ Hid (∀ j, j < k → xs.getD j 0 = ys.getD j 0))
    case atStart => exact ⟨0, 0, Nat.zero_le _, rfl, rfl, rfl, fun j h => by omega⟩
    case round =>
      obtain ⟨k, q, hk, hg, rfl, rfl, he⟩ := hrel
      have Hg := Lib.hid hg
      clear hg
      by_cases hlt : k < xs.length
      · obtain ⟨ad, rfl, _, hc⟩ := ints_at hr hlt
        obtain ⟨ad', rfl, _, hc'⟩ := ints_at hr' (show k < ys.length by omega)
        have hk2 : (k : Int) < (ys.length : Int) := by omega
        by_cases hx : xs.getD k 0 = ys.getD k 0
        · have He := Lib.hid (show ∀ j, j < k + 1 → xs.getD j 0 = ys.getD j 0 from fun j hj => by
            by_cases e : j = k
            · rw [e]; exact hx
            · exact he.out j (by omega))
          rw [← hx] at hc'
          clear hr hr' he hx
          generalize xs.getD k 0 = x at *
          go_wp2
          go_quiet (fail)
          go_wp2
          go_roundg (xs.length - (k + 1))
          case rel => exact ⟨k + 1, _, hlt, rfl, by go_num, rfl, He⟩
          case measure => rw [Hg.out]; omega
        · have Hr := Lib.hid (show decide (xs = ys) = false from decide_eq_false (fun e => hx (by rw [e])))
          have hb : (xs.getD k 0 != ys.getD k 0) = true := by simpa using hx
          clear hr hr' he hx
          generalize xs.getD k 0 = x at *
          generalize ys.getD k 0 = y at *
          go_wp2
          go_quiet (fail)
          go_wp2
          go_ret
          exact ⟨ret_bool Hr.out.symm, _, World.drewN_drewN ..⟩
      · obtain rfl : k = xs.length := by omega
        have Hr := Lib.hid (show decide (xs = ys) = true from decide_eq_true (by
          apply List.ext_getElem Hl.out
          intro i h1 h2
          have := he.out i h1
          rw [List.getD_eq_getElem?_getD, List.getD_eq_getElem?_getD, List.getElem?_eq_getElem h1, List.getElem?_eq_getElem h2] at this
          exact this))
        clear hr hr' he
        go_wp2
        go_ret
        exact ⟨ret_bool Hr.out.symm, q, rfl⟩
  · have hlz : ((xs.length : Int) != (ys.length : Int)) = true := by simp; omega
    have Hr := Lib.hid (show decide (xs = ys) = false from decide_eq_false (fun e => hl (by rw [e])))
    clear hl hr hr'
    go_enter Tryz.func26, Tryz.ntmps26
    go_wp2
    go_ret
    exact ⟨ret_bool Hr.out.symm, 0, rfl⟩

/-- A slice that reads as picks. -/
def cellsP : List (Int × Int) → List Value
  | [] => []
  | x :: l => .int .i64 x.1 :: .int .i64 x.2 :: cellsP l
theorem cellsP_len : ∀ l : List (Int × Int), (cellsP l).length = l.length * 2
  | [] => rfl
  | x :: l => by simp only [cellsP, List.length_cons, cellsP_len l]; omega
theorem cellsP_at : ∀ {l : List (Int × Int)} {k : Nat}, k < l.length → (cellsP l)[k * 2]? = some (.int .i64 (l.getD k (0, 0)).1) ∧ (cellsP l)[k * 2 + 1]? = some (.int .i64 (l.getD k (0, 0)).2)
  | [], k, h => absurd h (Nat.not_lt_zero _)
  | x :: l, 0, _ => ⟨rfl, rfl⟩
  | x :: l, k + 1, h => by
    have := cellsP_at (l := l) (k := k) (by simpa using h)
    rw [show (k + 1) * 2 = k * 2 + 1 + 1 by omega]
    simpa [cellsP] using this
def Picks (w : World) (B : Nat) (v : Value) (l : List (Int × Int)) : Prop := ∃ A c, v = .slice A l.length c ∧ l.length ≤ c ∧ Reads w B 2 A l.length (cellsP l)
theorem picks_at {w : World} {B : Nat} {A : Option Addr} {l : List (Int × Int)} {k : Nat} (h : Reads w B 2 A l.length (cellsP l)) (hk : k < l.length) :
    ∃ ad, A = some ad ∧ ad.block < B ∧ w.cell? (ad.add (k * 2)) = some (.int .i64 (l.getD k (0, 0)).1) ∧ w.cell? ⟨(ad.add (k * 2)).block, (ad.add (k * 2)).off + 1, none⟩ = some (.int .i64 (l.getD k (0, 0)).2) := by
  obtain ⟨ad, e, hb, hc⟩ := h.2 (by omega)
  obtain ⟨h1, h2⟩ := cellsP_at hk
  have h3 := hc _ _ h2
  rw [← add_of_add] at h3
  exact ⟨ad, e, hb, hc _ _ h1, h3⟩
end Go.Proofs.YtdpoecjbofofoaaGreatDoor
namespace Go.Proofs.YtdpoecjbofofoaaGreatDoor
open Go.RowKit
section
variable (w : World)
theorem gd_pick (op : BinOp) (x y : Operand) (u v : Array Value) : (eqGuard op 56 x y (.agg u) (.agg v)).run Tryz.prog w = .ok () w := run_eqGuard_agg w op 56 x y u v (by kernel_rfl)
theorem eqIn_pick (k : Nat) (a b c d : Int) : (Op.equalIn (k + 2) 56 (.agg #[.int .i64 a, .int .i64 b]) (.agg #[.int .i64 c, .int .i64 d])).run Tryz.prog w = .ok (a == c && b == d) w := by
  have u3 := Tryz.underlying3
  have a3 := Tryz.isAgg3
  have z3 := Tryz.sizeOf3
  have hS : Tryz.prog.underlying 56 = some (.struct (Tryz.prog.fieldsOf 56)) := by kernel_rfl
  have hp : Tryz.prog.stoodInHeld 56 = false := by kernel_rfl
  rw [show k + 2 = (k + 1) + 1 from rfl, run_equalIn_struct w (k + 1) 56 _ _ hS hp]
  simp only [Program.fieldsOf, Tryz.underlying56]
  go_simp
  by_cases h1 : a = c <;> by_cases h2 : b = d <;> simp [h1, h2]
theorem neq_pick (a b c d : Int) : (binOp .neq 56 (.agg #[.int .i64 a, .int .i64 b]) (.agg #[.int .i64 c, .int .i64 d])).run Tryz.prog w = .ok (.bool (!(a == c && b == d))) w := by
  rw [run_neq_struct, show (10000 : Nat) = 9998 + 2 from rfl, eqIn_pick]; rfl
end
set_option maxHeartbeats 800000 in
theorem samePicks_any (u v : Value) (xs ys : List (Int × Int)) (B : Nat) (w : World) (hu : Picks w B u xs) (hv : Picks w B v ys) (hx0 : xs.length ≤ 1000000000) :
    Calls Tryz.prog 17 #[u, v] w fun e w' => e = .returned (.bool (decide (xs = ys))) ∧ ∃ n, w' = w.drewN n := by
  obtain ⟨A, c, rfl, hn, hr⟩ := hu
  obtain ⟨A', c', rfl, hn', hr'⟩ := hv
  clear hn hn'
  by_cases hl : xs.length = ys.length
  · have hlz : ((xs.length : Int) != (ys.length : Int)) = false := by simp [hl]
    have Hl := Lib.hid hl
    have hle : xs.length ≤ ys.length := by omega
    clear hl
    have gd := gd_pick
    go_enter Tryz.func17, Tryz.ntmps17
    go_wp2
    go_loopg [5] xs.length (fun g i wr => ∃ k q : Nat, k ≤ xs.length ∧ g = xs.length - k ∧ i = .int .i64 k ∧ wr = w.drewN q ∧ Hid (∀ j, j < k → xs.getD j (0, 0) = ys.getD j (0, 0)))
    case atStart => exact ⟨0, 0, Nat.zero_le _, rfl, rfl, rfl, fun j h => by omega⟩
    case round =>
      obtain ⟨k, q, hk, hg, rfl, rfl, he⟩ := hrel
      have Hg := Lib.hid hg
      clear hg
      by_cases hlt : k < xs.length
      · obtain ⟨ad, rfl, _, hc, hd⟩ := picks_at hr hlt
        obtain ⟨ad', rfl, _, hc', hd'⟩ := picks_at hr' (show k < ys.length by omega)
        have hk2 : (k : Int) < (ys.length : Int) := by omega
        by_cases hx : xs.getD k (0, 0) = ys.getD k (0, 0)
        · have He := Lib.hid (show ∀ j, j < k + 1 → xs.getD j (0, 0) = ys.getD j (0, 0) from fun j hj => by
            by_cases e : j = k
            · rw [e]; exact hx
            · exact he.out j (by omega))
          rw [← hx] at hc' hd'
          have hq := fun W => neq_pick W (xs.getD k (0, 0)).1 (xs.getD k (0, 0)).2 (xs.getD k (0, 0)).1 (xs.getD k (0, 0)).2
          clear hr hr' he hx
          generalize (xs.getD k (0, 0)).1 = x at *
          generalize (xs.getD k (0, 0)).2 = y at *
          simp only [beq_self_eq_true, Bool.and_self, Bool.not_true] at hq
          go_wp2
          go_quiet (fail)
          go_wp2
          go_roundg (xs.length - (k + 1))
          case rel => exact ⟨k + 1, _, hlt, rfl, by go_num, rfl, He⟩
          case measure => rw [Hg.out]; omega
        · have Hr := Lib.hid (show decide (xs = ys) = false from decide_eq_false (fun e => hx (by rw [e])))
          have hb : (!((xs.getD k (0, 0)).1 == (ys.getD k (0, 0)).1 && (xs.getD k (0, 0)).2 == (ys.getD k (0, 0)).2)) = true := by
            rw [Bool.not_eq_true', Bool.and_eq_false_iff]
            by_cases h1 : (xs.getD k (0, 0)).1 = (ys.getD k (0, 0)).1
            · refine .inr ?_
              have : (xs.getD k (0, 0)).2 ≠ (ys.getD k (0, 0)).2 := fun h2 => hx (Prod.ext h1 h2)
              simpa using this
            · exact .inl (by simpa using h1)
          have hq := fun W => neq_pick W (xs.getD k (0, 0)).1 (xs.getD k (0, 0)).2 (ys.getD k (0, 0)).1 (ys.getD k (0, 0)).2
          simp only [hb] at hq
          clear hr hr' he hx hb
          generalize (xs.getD k (0, 0)).1 = x at *
          generalize (xs.getD k (0, 0)).2 = y at *
          generalize (ys.getD k (0, 0)).1 = x' at *
          generalize (ys.getD k (0, 0)).2 = y' at *
          go_wp2
          go_quiet (fail)
          go_wp2
          go_ret
          exact ⟨ret_bool Hr.out.symm, _, World.drewN_drewN ..⟩
      · obtain rfl : k = xs.length := by omega
        have Hr := Lib.hid (show decide (xs = ys) = true from decide_eq_true (by
          apply List.ext_getElem Hl.out
          intro i h1 h2
          have := he.out i h1
          rw [List.getD_eq_getElem?_getD, List.getD_eq_getElem?_getD, List.getElem?_eq_getElem h1, List.getElem?_eq_getElem h2] at this
          exact this))
        clear hr hr' he
        go_wp2
        go_ret
        exact ⟨ret_bool Hr.out.symm, q, rfl⟩
  · have hlz : ((xs.length : Int) != (ys.length : Int)) = true := by simp; omega
    have Hr := Lib.hid (show decide (xs = ys) = false from decide_eq_false (fun e => hl (by rw [e])))
    clear hl hr hr'
    go_enter Tryz.func17, Tryz.ntmps17
    go_wp2
    go_ret
    exact ⟨ret_bool Hr.out.symm, 0, rfl⟩
end Go.Proofs.YtdpoecjbofofoaaGreatDoor
namespace Go.Proofs.YtdpoecjbofofoaaGreatDoor
open Go.RowKit
/-- A value that reads as a log. -/
def RdL (w : World) (B : Nat) (v : Value) (l : Rb.Lg) : Prop := ∃ pv iv cv, v = .agg #[pv, iv, cv, .int .i64 l.steps, .int .u64 (l.sum : Int)] ∧ Picks w B pv l.picks ∧ Ints w B iv l.inputs ∧ Ints w B cv l.clocks
theorem Picks.below {w w' : World} {B : Nat} {v : Value} {l : List (Int × Int)} (h : Picks w B v l) (hb : Below B w w') : Picks w' B v l := by
  obtain ⟨A, c, rfl, hc, hr⟩ := h
  exact ⟨A, c, rfl, hc, hr.below hb⟩
theorem Picks.more {w : World} {B B' : Nat} {v : Value} {l : List (Int × Int)} (h : Picks w B v l) (hb : B ≤ B') : Picks w B' v l := by
  obtain ⟨A, c, rfl, hc, hr⟩ := h
  exact ⟨A, c, rfl, hc, hr.more hb⟩
set_option maxHeartbeats 1600000 in
theorem greatLog_any (v : Value) (l : Rb.Lg) (B : Nat) (w : World) (hv : RdL w B v l) :
    Calls Tryz.prog 5 #[v] w fun e w' => e = .returned (.bool (decide (66000 < l.picks.length ∨ 1100 < l.inputs.length ∨ 1100 < l.clocks.length))) ∧ Below w.heap.size w w' := by
  obtain ⟨pv, iv, cv, rfl, ⟨Ap, cp, rfl, -, -⟩, ⟨Ai, ci, rfl, -, -, -⟩, ⟨Ac, cc, rfl, -, -, -⟩⟩ := hv
  generalize l.picks.length = p
  generalize l.inputs.length = i
  generalize l.clocks.length = c
  generalize l.steps = s
  generalize l.sum = u
  have Hr := Lib.hid (show decide (66000 < p ∨ 1100 < i ∨ 1100 < c) = (decide ((p : Int) > 66000) || (decide ((i : Int) > 1100) || decide ((c : Int) > 1100))) by
    rw [Bool.eq_iff_iff]; simp; omega)
  rw [Hr.out]
  clear Hr
  cases h1 : decide ((p : Int) > 66000) <;> cases h2 : decide ((i : Int) > 1100) <;> cases h3 : decide ((c : Int) > 1100) <;>
  · go_enter Tryz.func5, Tryz.ntmps5
    go_wp2
    go_ret
    exact ⟨rfl, (Below.refl _ _).alloc (Nat.le_refl _) _⟩
end Go.Proofs.YtdpoecjbofofoaaGreatDoor
namespace Go.Proofs.YtdpoecjbofofoaaGreatDoor
open Go.RowKit
set_option maxHeartbeats 1600000 in
theorem sameLog_any (v v' : Value) (l : Rb.Lg) (B : Nat) (w : World) (hv : RdL w B v l) (hv' : RdL w B v' l) (hB : B ≤ w.heap.size) (hn : l.picks.length ≤ 1000000000) :
    Calls Tryz.prog 12 #[v, v'] w fun e w' => e = .returned (.bool true) ∧ Below w.heap.size w w' := by
  obtain ⟨pv, iv, cv, rfl, hp, hi, hc⟩ := hv
  obtain ⟨pv', iv', cv', rfl, hp', hi', hc'⟩ := hv'
  have hsz : Below w.heap.size w ((w.alloc (.cells #[pv, iv, cv, .int .i64 l.steps, .int .u64 (l.sum : Int)] 26)).alloc (.cells #[pv', iv', cv', .int .i64 l.steps, .int .u64 (l.sum : Int)] 26)) :=
    ((Below.refl _ _).alloc (Nat.le_refl _) _).alloc (by simp) _
  have HP : Hid (∀ W, Below w.heap.size w W → Calls Tryz.prog 17 #[pv, pv'] W fun e w' => e = .returned (.bool true) ∧ ∃ n, w' = W.drewN n) := Lib.hid (fun W hb => by
    simpa using samePicks_any pv pv' l.picks l.picks B W (hp.below (hb.mono hB)) (hp'.below (hb.mono hB)) hn)
  have HI : Hid (∀ W, Below w.heap.size w W → Calls Tryz.prog 26 #[iv, iv'] W fun e w' => e = .returned (.bool true) ∧ ∃ n, w' = W.drewN n) := Lib.hid (fun W hb => by
    simpa using sameOut_any iv iv' l.inputs l.inputs B W (hi.below (hb.mono hB)) (hi'.below (hb.mono hB)))
  have HC : Hid (∀ W, Below w.heap.size w W → Calls Tryz.prog 26 #[cv, cv'] W fun e w' => e = .returned (.bool true) ∧ ∃ n, w' = W.drewN n) := Lib.hid (fun W hb => by
    simpa using sameOut_any cv cv' l.clocks l.clocks B W (hc.below (hb.mono hB)) (hc'.below (hb.mono hB)))
  have Hsz := Lib.hid hsz
  clear hsz hp hi hc hp' hi' hc'
  go_enter Tryz.func12, Tryz.ntmps12
  go_wp2_with fail
  refine (HP.out _ Hsz.out).mono ?_
  rintro e w1 ⟨rfl, n1, rfl⟩
  have H1 := Lib.hid (below_drewN Hsz.out n1)
  clear HP
  go_wp2_with fail
  refine (HI.out _ H1.out).mono ?_
  rintro e w2 ⟨rfl, n2, rfl⟩
  have H2 := Lib.hid (below_drewN Hsz.out (n1 + n2))
  clear HI
  go_wp2_with fail
  refine (HC.out _ H2.out).mono ?_
  rintro e w3 ⟨rfl, n3, rfl⟩
  have H3 := Lib.hid (below_drewN Hsz.out (n1 + n2 + n3))
  clear HC
  go_wp2
  go_ret
  exact ⟨rfl, H3.out⟩
end Go.Proofs.YtdpoecjbofofoaaGreatDoor
namespace Go.Proofs.YtdpoecjbofofoaaGreatDoor
open Go.RowKit
theorem info_pick : (Tryz.prog.info? 56).map (fun i => (i.zero, i.size, i.bytes)) = some (some (.agg #[.int .i64 0, .int .i64 0]), 2, 16) := by kernel_rfl
theorem info_i64 : (Tryz.prog.info? 2).map (fun i => (i.zero, i.size, i.bytes)) = some (some (.int .i64 0), 1, 8) := by kernel_rfl
theorem cellsP_one : ∀ l : List (Int × Int), ∀ u ∈ cellsP l, u.oneCell' = true
  | [], u, h => by simp [cellsP] at h
  | p :: l, u, h => by
    rcases List.mem_cons.1 h with rfl | h
    · rfl
    · rcases List.mem_cons.1 h with rfl | h
      · rfl
      · exact cellsP_one l u h
set_option maxRecDepth 20000 in
set_option maxHeartbeats 1600000 in
theorem twinLog_any (v : Value) (l : Rb.Lg) (B : Nat) (w : World) (hv : RdL w B v l) (hB : B ≤ w.heap.size) (hn : l.picks.length ≤ 1000000000) :
    Calls Tryz.prog 7 #[v] w fun e w' => ∃ v', e = .returned v' ∧ RdL w' w'.heap.size v' l ∧ Below w.heap.size w w' := by
  obtain ⟨pv, iv, cv, rfl, ⟨Ap, cp, rfl, hp1, hp⟩, ⟨Ai, ci, rfl, hi1, hi2, hi⟩, ⟨Ac, cc, rfl, hc1, hc2, hc⟩⟩ := hv
  obtain ⟨i0, hi0, hz0, hz1, hz2⟩ := info_parts info_pick
  obtain ⟨j0, hj0, hy0, hy1, hy2⟩ := info_parts info_i64
  have HP := Lib.hid (And.intro hp hn)
  have HI := Lib.hid (And.intro hi hi2)
  have HC := Lib.hid (And.intro hc hc2)
  clear hp1 hp hi1 hi2 hi hc1 hc2 hc hn
  go_enter Tryz.func7, Tryz.ntmps7
  go_wp2_with (at_builtin; go_must (refine wpList_append_any _ rfl _ _ 22 rfl (w.heap.size + 2) 56 i0 _ 2 16 Tryz.underlying22 hi0 hz0 hz1 hz2 rfl (by decide) _ 0 [] rfl ⟨by simp, .inl ⟨rfl, rfl⟩⟩ B Ap l.picks.length cp (cellsP l.picks) rfl ?a1 ?a2 ?a3 ?a4 ?a5 ?_))
  case a1 => exact HP.out.1.below ((((Below.refl _ _).alloc (Nat.le_refl _) _).alloc (by simp) _).mono hB)
  case a2 => exact cellsP_one _
  case a3 => have := HP.out.2; unfold maxLen; omega
  case a4 => have := HP.out.2; omega
  case a5 => simp
  intro v1 w1 ho1 hg1 hs1
  have O1 := Lib.hid ho1
  obtain ⟨A1, e1, rfl, -, -, -⟩ := own_form ho1
  clear ho1
  have K1 := ((Blk.new w 26 _).alloc _).grown hg1 (by simp [Value.ownBlock])
  have R1 : Blk w1 (w.heap.size + 1) 26 #[.slice none 0 0, .slice none 0 0, .slice none 0 0, .int .i64 0, .int .u64 0] := by
    have h := (Blk.new (w.alloc (.cells #[.slice Ap l.picks.length cp, .slice Ai l.inputs.length ci, .slice Ac l.clocks.length cc, .int .i64 l.steps, .int .u64 (l.sum : Int)] 26)) 26 #[.slice none 0 0, .slice none 0 0, .slice none 0 0, .int .i64 0, .int .u64 0]).grown hg1 (by simp [Value.ownBlock])
    rwa [show (w.alloc (.cells #[.slice Ap l.picks.length cp, .slice Ai l.inputs.length ci, .slice Ac l.clocks.length cc, .int .i64 l.steps, .int .u64 (l.sum : Int)] 26)).heap.size = w.heap.size + 1 by simp] at h
  have c0 : w1.cell? ⟨w.heap.size, 0, none⟩ = some (.slice Ap l.picks.length cp) := K1.cell 0
  have f0 := K1.frozen 0
  have K2 := Lib.hid (K1.set_ 0 (.slice A1 l.picks.length e1))
  have c1 : (w1.setCell ⟨w.heap.size, 0, none⟩ (.slice A1 l.picks.length e1)).cell? ⟨w.heap.size, 1, none⟩ = some (.slice Ai l.inputs.length ci) := K2.out.cell 1
  have f1 := K2.out.frozen 1
  have KK1 := Lib.hid K1
  have RR1 := Lib.hid R1
  have S0 : Below w.heap.size w w1 := (((Below.refl _ _).alloc (Nat.le_refl _) _).alloc (by simp) _).grown hg1 (by simp; omega) (by simp [Value.ownBlock])
  have S1 := Lib.hid (S0.setCell (p := ⟨w.heap.size, 0, none⟩) (Nat.le_refl _) (.slice A1 l.picks.length e1))
  have Z1 := Lib.hid (show w.heap.size + 2 ≤ w1.heap.size by have := hg1.size; simp at this; omega)
  have G1 := Lib.hid (And.intro hg1 hs1)
  clear K1 R1 S0 hg1 hs1
  go_wp2_with (at_builtin; go_must (refine wpList_append_any _ rfl _ _ 23 rfl (w.heap.size + 2) 2 j0 _ 1 8 Tryz.underlying23 hj0 hy0 hy1 hy2 rfl (by decide) _ 0 [] rfl ⟨by simp, .inl ⟨rfl, rfl⟩⟩ B Ai l.inputs.length ci (l.inputs.map (.int .i64)) rfl ?b1 ?b2 ?b3 ?b4 ?b5 ?_))
  case b1 => exact HI.out.1.below (S1.out.mono hB)
  case b2 => intro u hu; obtain ⟨x, -, rfl⟩ := List.mem_map.1 hu; rfl
  case b3 => have := HI.out.2; unfold maxLen; omega
  case b4 => have := HI.out.2; omega
  case b5 => have := Z1.out; simp; omega
  intro v2 w2 ho2 hg2 hs2
  have O2 := Lib.hid ho2
  obtain ⟨A2, e2, rfl, -, -, -⟩ := own_form ho2
  clear ho2
  have K3 := K2.out.grown hg2 (by simp [Value.ownBlock])
  have d0 : w2.cell? ⟨w.heap.size, 1, none⟩ = some (.slice Ai l.inputs.length ci) := K3.cell 1
  have h0 := K3.frozen 1
  have K4 := Lib.hid (K3.set_ 1 (.slice A2 l.inputs.length e2))
  have d1 : (w2.setCell ⟨w.heap.size, 1, none⟩ (.slice A2 l.inputs.length e2)).cell? ⟨w.heap.size, 2, none⟩ = some (.slice Ac l.clocks.length cc) := K4.out.cell 2
  have h1 := K4.out.frozen 2
  have R3 := (RR1.out.far (p := ⟨w.heap.size, 0, none⟩) (by simp) (.slice A1 l.picks.length e1)).grown hg2 (by simp [Value.ownBlock])
  have RR3 := Lib.hid R3
  have S2 := S1.out.grown hg2 (by have := Z1.out; simp; omega) (by simp [Value.ownBlock])
  have S3 := Lib.hid (S2.setCell (p := ⟨w.heap.size, 1, none⟩) (Nat.le_refl _) (.slice A2 l.inputs.length e2))
  have Z2 := Lib.hid (show w.heap.size + 2 ≤ w2.heap.size by have := hg2.size; have := Z1.out; simp at *; omega)
  have G2 := Lib.hid (And.intro hg2 hs2)
  clear K3 R3 S2 hg2 hs2 c0 c1 f0 f1
  go_wp2_with (at_builtin; go_must (refine wpList_append_any _ rfl _ _ 23 rfl (w.heap.size + 2) 2 j0 _ 1 8 Tryz.underlying23 hj0 hy0 hy1 hy2 rfl (by decide) _ 0 [] rfl ⟨by simp, .inl ⟨rfl, rfl⟩⟩ B Ac l.clocks.length cc (l.clocks.map (.int .i64)) rfl ?b1 ?b2 ?b3 ?b4 ?b5 ?_))
  case b1 => exact HC.out.1.below (S3.out.mono hB)
  case b2 => intro u hu; obtain ⟨x, -, rfl⟩ := List.mem_map.1 hu; rfl
  case b3 => have := HC.out.2; unfold maxLen; omega
  case b4 => have := HC.out.2; omega
  case b5 => have := Z2.out; simp; omega
  intro v3 w3 ho3 hg3 hs3
  have O3 := Lib.hid ho3
  obtain ⟨A3, e3, rfl, -, -, -⟩ := own_form ho3
  clear ho3
  have K5 := K4.out.grown hg3 (by simp [Value.ownBlock])
  have x0 := K5.frozen 2
  have x1 := K5.cell 2
  have K6 := K5.set_ 2 (.slice A3 l.clocks.length e3)
  have y0 : (w3.setCell ⟨w.heap.size, 2, none⟩ (.slice A3 l.clocks.length e3)).cell? ⟨w.heap.size, 0, none⟩ = some (.slice A1 l.picks.length e1) := K6.cell 0
  have y1 : (w3.setCell ⟨w.heap.size, 2, none⟩ (.slice A3 l.clocks.length e3)).cell? ⟨w.heap.size, 1, none⟩ = some (.slice A2 l.inputs.length e2) := K6.cell 1
  have y2 : (w3.setCell ⟨w.heap.size, 2, none⟩ (.slice A3 l.clocks.length e3)).cell? ⟨w.heap.size, 2, none⟩ = some (.slice A3 l.clocks.length e3) := K6.cell 2
  have y3 : (w3.setCell ⟨w.heap.size, 2, none⟩ (.slice A3 l.clocks.length e3)).cell? ⟨w.heap.size, 3, none⟩ = some (.int .i64 l.steps) := K6.cell 3
  have y4 : (w3.setCell ⟨w.heap.size, 2, none⟩ (.slice A3 l.clocks.length e3)).cell? ⟨w.heap.size, 4, none⟩ = some (.int .u64 l.sum) := K6.cell 4
  have T0 := (RR3.out.far (p := ⟨w.heap.size, 1, none⟩) (by simp) (.slice A2 l.inputs.length e2)).grown hg3 (by simp [Value.ownBlock])
  have T1 := T0.far (p := ⟨w.heap.size, 2, none⟩) (by simp) (.slice A3 l.clocks.length e3)
  have T2 := T1.set_ 0 (.slice A1 l.picks.length e1)
  have T3 := T2.set_ 1 (.slice A2 l.inputs.length e2)
  have T4 := T3.set_ 2 (.slice A3 l.clocks.length e3)
  have T5 := T4.set_ 3 (.int .i64 l.steps)
  have T6 := Lib.hid (T5.set_ 4 (.int .u64 l.sum))
  have u0 : (w3.setCell ⟨w.heap.size, 2, none⟩ (.slice A3 l.clocks.length e3)).cell? ⟨w.heap.size + 1, 0, none⟩ = some (.slice none 0 0) := T1.cell 0
  have v0' : (w3.setCell ⟨w.heap.size, 2, none⟩ (.slice A3 l.clocks.length e3)).frozen? ⟨w.heap.size + 1, 0, none⟩ = false := T1.frozen 0
  have u1 : ((w3.setCell ⟨w.heap.size, 2, none⟩ (.slice A3 l.clocks.length e3)).setCell ⟨w.heap.size + 1, 0, none⟩ (.slice A1 l.picks.length e1)).cell? ⟨w.heap.size + 1, 1, none⟩ = some (.slice none 0 0) := T2.cell 1
  have v1' : ((w3.setCell ⟨w.heap.size, 2, none⟩ (.slice A3 l.clocks.length e3)).setCell ⟨w.heap.size + 1, 0, none⟩ (.slice A1 l.picks.length e1)).frozen? ⟨w.heap.size + 1, 1, none⟩ = false := T2.frozen 1
  have u2 : (((w3.setCell ⟨w.heap.size, 2, none⟩ (.slice A3 l.clocks.length e3)).setCell ⟨w.heap.size + 1, 0, none⟩ (.slice A1 l.picks.length e1)).setCell ⟨w.heap.size + 1, 1, none⟩ (.slice A2 l.inputs.length e2)).cell? ⟨w.heap.size + 1, 2, none⟩ = some (.slice none 0 0) := T3.cell 2
  have v2' : (((w3.setCell ⟨w.heap.size, 2, none⟩ (.slice A3 l.clocks.length e3)).setCell ⟨w.heap.size + 1, 0, none⟩ (.slice A1 l.picks.length e1)).setCell ⟨w.heap.size + 1, 1, none⟩ (.slice A2 l.inputs.length e2)).frozen? ⟨w.heap.size + 1, 2, none⟩ = false := T3.frozen 2
  have u3 : ((((w3.setCell ⟨w.heap.size, 2, none⟩ (.slice A3 l.clocks.length e3)).setCell ⟨w.heap.size + 1, 0, none⟩ (.slice A1 l.picks.length e1)).setCell ⟨w.heap.size + 1, 1, none⟩ (.slice A2 l.inputs.length e2)).setCell ⟨w.heap.size + 1, 2, none⟩ (.slice A3 l.clocks.length e3)).cell? ⟨w.heap.size + 1, 3, none⟩ = some (.int .i64 0) := T4.cell 3
  have v3' : ((((w3.setCell ⟨w.heap.size, 2, none⟩ (.slice A3 l.clocks.length e3)).setCell ⟨w.heap.size + 1, 0, none⟩ (.slice A1 l.picks.length e1)).setCell ⟨w.heap.size + 1, 1, none⟩ (.slice A2 l.inputs.length e2)).setCell ⟨w.heap.size + 1, 2, none⟩ (.slice A3 l.clocks.length e3)).frozen? ⟨w.heap.size + 1, 3, none⟩ = false := T4.frozen 3
  have u4 : (((((w3.setCell ⟨w.heap.size, 2, none⟩ (.slice A3 l.clocks.length e3)).setCell ⟨w.heap.size + 1, 0, none⟩ (.slice A1 l.picks.length e1)).setCell ⟨w.heap.size + 1, 1, none⟩ (.slice A2 l.inputs.length e2)).setCell ⟨w.heap.size + 1, 2, none⟩ (.slice A3 l.clocks.length e3)).setCell ⟨w.heap.size + 1, 3, none⟩ (.int .i64 l.steps)).cell? ⟨w.heap.size + 1, 4, none⟩ = some (.int .u64 0) := T5.cell 4
  have v4' : (((((w3.setCell ⟨w.heap.size, 2, none⟩ (.slice A3 l.clocks.length e3)).setCell ⟨w.heap.size + 1, 0, none⟩ (.slice A1 l.picks.length e1)).setCell ⟨w.heap.size + 1, 1, none⟩ (.slice A2 l.inputs.length e2)).setCell ⟨w.heap.size + 1, 2, none⟩ (.slice A3 l.clocks.length e3)).setCell ⟨w.heap.size + 1, 3, none⟩ (.int .i64 l.steps)).frozen? ⟨w.heap.size + 1, 4, none⟩ = false := T5.frozen 4
  have bl : ∀ i : Nat, w.heap.size < w.heap.size + 2 ∧ w.heap.size + 1 < w.heap.size + 2 := fun _ => ⟨by omega, by omega⟩
  have P1 := ownsRow_setCell_below (own_kept (ownsRow_setCell_below (own_kept (ownsRow_setCell_below O1.out (a := ⟨w.heap.size, 0, none⟩) (bl 0).1 (.slice A1 l.picks.length e1)) G2.out.1 (by simp [Value.ownBlock])) (a := ⟨w.heap.size, 1, none⟩) (bl 0).1 (.slice A2 l.inputs.length e2)) hg3 (by simp [Value.ownBlock])) (a := ⟨w.heap.size, 2, none⟩) (bl 0).1 (.slice A3 l.clocks.length e3)
  have P2 := ownsRow_setCell_below (own_kept (ownsRow_setCell_below O2.out (a := ⟨w.heap.size, 1, none⟩) (bl 0).1 (.slice A2 l.inputs.length e2)) hg3 (by simp [Value.ownBlock])) (a := ⟨w.heap.size, 2, none⟩) (bl 0).1 (.slice A3 l.clocks.length e3)
  have P3 := ownsRow_setCell_below O3.out (a := ⟨w.heap.size, 2, none⟩) (bl 0).1 (.slice A3 l.clocks.length e3)
  have fw : ∀ {e : TypeId} {s n : Nat} {v : Value} {xs : List Value}, (w3.setCell ⟨w.heap.size, 2, none⟩ (.slice A3 l.clocks.length e3)).ownsRow (w.heap.size + 2) e s v n xs → ((((((w3.setCell ⟨w.heap.size, 2, none⟩ (.slice A3 l.clocks.length e3)).setCell ⟨w.heap.size + 1, 0, none⟩ (.slice A1 l.picks.length e1)).setCell ⟨w.heap.size + 1, 1, none⟩ (.slice A2 l.inputs.length e2)).setCell ⟨w.heap.size + 1, 2, none⟩ (.slice A3 l.clocks.length e3)).setCell ⟨w.heap.size + 1, 3, none⟩ (.int .i64 l.steps)).setCell ⟨w.heap.size + 1, 4, none⟩ (.int .u64 l.sum)).ownsRow (w.heap.size + 2) e s v n xs := fun h =>
    ownsRow_setCell_below (ownsRow_setCell_below (ownsRow_setCell_below (ownsRow_setCell_below (ownsRow_setCell_below h (bl 0).2 _) (bl 0).2 _) (bl 0).2 _) (bl 0).2 _) (bl 0).2 _
  have Q1 := Lib.hid (fw P1)
  have Q2 := Lib.hid (fw P2)
  have Q3 := Lib.hid (fw P3)
  have S4 := (S3.out.grown hg3 (by have := Z2.out; simp; omega) (by simp [Value.ownBlock])).setCell (p := ⟨w.heap.size, 2, none⟩) (Nat.le_refl _) (.slice A3 l.clocks.length e3)
  have sl : w.heap.size ≤ w.heap.size + 1 := Nat.le_succ _
  have S5 := Lib.hid (((((S4.setCell (p := ⟨w.heap.size + 1, 0, none⟩) sl (.slice A1 l.picks.length e1)).setCell (p := ⟨w.heap.size + 1, 1, none⟩) sl (.slice A2 l.inputs.length e2)).setCell (p := ⟨w.heap.size + 1, 2, none⟩) sl (.slice A3 l.clocks.length e3)).setCell (p := ⟨w.heap.size + 1, 3, none⟩) sl (.int .i64 l.steps)).setCell (p := ⟨w.heap.size + 1, 4, none⟩) sl (.int .u64 l.sum))
  clear d0 d1 h0 h1 K5 T0 T1 T2 T3 T4 T5 bl P1 P2 P3 fw S4 sl hg3 hs3
  go_wp2_with fail
  have k0 := T6.out.cell 0
  have k1 := T6.out.cell 1
  have k2 := T6.out.cell 2
  have k3 := T6.out.cell 3
  have k4 := T6.out.cell 4
  simp at k0 k1 k2 k3 k4
  refine bodyPost_ret (v := .agg #[.slice A1 l.picks.length e1, .slice A2 l.inputs.length e2, .slice A3 l.clocks.length e3, .int .i64 l.steps, .int .u64 l.sum]) (by simp [results, Tryz.results7, go_sem, k0, k1, k2, k3, k4]) rfl ⟨_, rfl, ⟨_, _, _, rfl, ?_, ?_, ?_⟩, S5.out⟩
  · obtain ⟨A, c, h, hc, hr, -⟩ := own_form Q1.out
    exact ⟨A, c, h, hc, hr⟩
  · obtain ⟨A, c, h, hc, hr, -⟩ := own_form Q2.out
    exact ⟨A, c, h, hc, HI.out.2, hr⟩
  · obtain ⟨A, c, h, hc, hr, -⟩ := own_form Q3.out
    exact ⟨A, c, h, hc, HC.out.2, hr⟩
end Go.Proofs.YtdpoecjbofofoaaGreatDoor
namespace Go.Proofs.YtdpoecjbofofoaaGreatDoor
open Go.RowKit
namespace Rb
theorem shape_great {l : Lg} (h : 65536 < l.picks.length ∨ 1024 < l.inputs.length ∨ 1024 < l.clocks.length) : shape l = 3 := by unfold shape; rw [if_pos h]
theorem shape_none {l : Lg} (h : ¬(65536 < l.picks.length ∨ 1024 < l.inputs.length ∨ 1024 < l.clocks.length)) (h2 : shapeGo l.picks 0 (-1) = none) : 4 = shape l := by unfold shape; rw [if_neg h, h2]
theorem shape_some {l : Lg} (h : ¬(65536 < l.picks.length ∨ 1024 < l.inputs.length ∨ 1024 < l.clocks.length)) {n : Int} (h2 : shapeGo l.picks 0 (-1) = some n) : (if n = l.steps then 0 else 4) = shape l := by unfold shape; rw [if_neg h, h2]
theorem drop_all {α : Type} (l : List α) : l.drop l.length = [] := by simp
theorem go_drop {l : List (Int × Int)} {k : Nat} (h : k < l.length) (s z : Int) : shapeGo (l.drop k) s z = if (l.getD k (0, 0)).1 < 0 ∨ 8 ≤ (l.getD k (0, 0)).1 ∨ (l.getD k (0, 0)).1 = z ∨ (l.getD k (0, 0)).2 < 1 ∨ 65536 - s < (l.getD k (0, 0)).2 then none else shapeGo (l.drop (k + 1)) (s + (l.getD k (0, 0)).2) (l.getD k (0, 0)).1 := by
  rw [List.drop_eq_getElem_cons h, List.getD_eq_getElem?_getD, List.getElem?_eq_getElem h]
  rfl
end Rb
set_option maxRecDepth 20000 in
set_option maxHeartbeats 1600000 in
theorem shape_any (v : Value) (l : Rb.Lg) (B : Nat) (w : World) (hv : RdL w B v l) (hB : B ≤ w.heap.size) :
    Calls Tryz.prog 10 #[v] w fun e w' => e = .returned (.int .i64 (Rb.shape l)) ∧ Below w.heap.size w w' := by
  obtain ⟨pv, iv, cv, rfl, ⟨Ap, cp, rfl, -, hr⟩, ⟨Ai, ci, rfl, -, -, -⟩, ⟨Ac, cc, rfl, -, -, -⟩⟩ := hv
  by_cases hg : 65536 < l.picks.length ∨ 1024 < l.inputs.length ∨ 1024 < l.clocks.length
  · rw [Rb.shape_great hg]
    clear hr
    generalize l.picks.length = p at *
    generalize l.inputs.length = i at *
    generalize l.clocks.length = c at *
    generalize l.steps = s at *
    generalize l.sum = u at *
    cases h1 : decide ((p : Int) > 65536) <;> cases h2 : decide ((i : Int) > 1024) <;> cases h3 : decide ((c : Int) > 1024) <;>
    first
    | (exfalso; simp at h1 h2 h3; omega)
    | (clear hg
       go_enter Tryz.func10, Tryz.ntmps10
       go_wp2
       go_ret
       exact ⟨rfl, (Below.refl _ _).alloc (Nat.le_refl _) _⟩)
  · have h1 : decide ((l.picks.length : Int) > 65536) = false := by simp; omega
    have h2 : decide ((l.inputs.length : Int) > 1024) = false := by simp; omega
    have h3 : decide ((l.clocks.length : Int) > 1024) = false := by simp; omega
    have hn : l.picks.length ≤ 65536 := by omega
    have HN := Lib.hid (fun h => Rb.shape_none (l := l) hg h)
    have HY := Lib.hid (fun n h => Rb.shape_some (l := l) hg (n := n) h)
    have HR := Lib.hid hr
    clear hg hr
    go_enter Tryz.func10, Tryz.ntmps10
    go_wp2
    go_loopg [3, 4, 26] l.picks.length (fun g s z i wr => ∃ (k : Nat) (sum last : Int), k ≤ l.picks.length ∧ g = l.picks.length - k ∧ i = .int .i64 k ∧ s = .int .i64 sum ∧ z = .int .i64 last ∧ 0 ≤ sum ∧ sum ≤ 65536 ∧ Hid (Rb.shapeGo l.picks 0 (-1) = Rb.shapeGo (l.picks.drop k) sum last) ∧ Hid (Below (w.heap.size + 1) (w.alloc (.cells #[.slice Ap l.picks.length cp, .slice Ai l.inputs.length ci, .slice Ac l.clocks.length cc, .int .i64 l.steps, .int .u64 (l.sum : Int)] 26)) wr))
    case atStart => exact ⟨0, 0, -1, Nat.zero_le _, rfl, rfl, rfl, rfl, by omega, by omega, Lib.hid rfl, Lib.hid (Below.refl _ _)⟩
    case round =>
      obtain ⟨k, sum, last, hk, hg, rfl, rfl, rfl, hs0, hs1, he, hb⟩ := hrel
      have Hg := Lib.hid hg
      have H0 := Lib.hid (((Below.refl w.heap.size w).alloc (Nat.le_refl _) _).trans (hb.out.mono (Nat.le_succ _)))
      have hz1 : w.heap.size + 1 ≤ wr.heap.size := by have := hb.out.size; simpa using this
      have hz : w.heap.size ≤ wr.heap.size := by omega
      clear hg
      by_cases hlt : k < l.picks.length
      · obtain ⟨ad, rfl, hadb, hc0, hd0⟩ := picks_at HR.out hlt
        have hc : wr.cell? (ad.add (k * 2)) = some (.int .i64 (l.picks.getD k (0, 0)).1) := (hb.out.cell (by rw [block_of_add]; omega)).trans ((World.cell?_alloc_lt w _ _ (by rw [block_of_add]; omega)).trans hc0)
        have hd : wr.cell? ⟨(ad.add (k * 2)).block, (ad.add (k * 2)).off + 1, none⟩ = some (.int .i64 (l.picks.getD k (0, 0)).2) := (hb.out.cell (by show (ad.add (k * 2)).block < _; rw [block_of_add]; omega)).trans ((World.cell?_alloc_lt w _ _ (by show (ad.add (k * 2)).block < _; rw [block_of_add]; omega)).trans hd0)
        have HD := Lib.hid (Rb.go_drop hlt sum last)
        clear hc0 hd0
        generalize (l.picks.getD k (0, 0)).1 = t at *
        generalize (l.picks.getD k (0, 0)).2 = c at *
        have H4 := Lib.hid (fun h => HN.out (he.out.trans (HD.out.trans (if_pos h))))
        by_cases x : t < 0 ∨ 8 ≤ t ∨ t = last ∨ c < 1 ∨ 65536 - sum < c
        · have H5 := Lib.hid (H4.out x)
          clear H4 HD he
          by_cases x1 : t < 0
          · clear x
            go_wp2
            go_ret
            exact ⟨ret_int H5.out, H0.out.alloc hz _⟩
          by_cases x2 : 8 ≤ t
          · clear x
            go_wp2
            go_ret
            exact ⟨ret_int H5.out, H0.out.alloc hz _⟩
          by_cases x3 : t = last
          · clear x
            subst x3
            go_wp2
            go_ret
            exact ⟨ret_int H5.out, H0.out.alloc hz _⟩
          have x3' : (t == last) = false := by simpa using x3
          by_cases x4 : c < 1
          · clear x x3
            go_wp2
            go_ret
            exact ⟨ret_int H5.out, H0.out.alloc hz _⟩
          have x5 : 65536 - sum < c := by omega
          clear x x3
          go_wp2
          go_ret
          exact ⟨ret_int H5.out, H0.out.alloc hz _⟩
        · have x1 : ¬ t < 0 := by omega
          have x2 : ¬ 8 ≤ t := by omega
          have x3 : (t == last) = false := by simp; omega
          have x4 : ¬ c < 1 := by omega
          have x5 : ¬ 65536 - sum < c := by omega
          have HE := Lib.hid (he.out.trans (HD.out.trans (if_neg x)))
          clear H4 HD he x
          have hs2 : 0 ≤ sum + c := by omega
          have hs3 : sum + c ≤ 65536 := by omega
          have hw1 : IntKind.i64.wrap (sum + c) = sum + c := IntWalk.i64_in _ (by omega)
          go_wp2
          go_quiet (fail)
          go_wp2
          go_roundg (l.picks.length - (k + 1))
          case rel => exact ⟨k + 1, sum + c, t, hlt, rfl, by go_num, rfl, rfl, hs2, hs3, HE, Lib.hid (below_drewN (hb.out.alloc hz1 _) _)⟩
          case measure => rw [Hg.out]; omega
      · obtain rfl : k = l.picks.length := by omega
        have HE := Lib.hid (he.out.trans (by rw [Rb.drop_all]; rfl : Rb.shapeGo (l.picks.drop l.picks.length) sum last = some sum))
        have H6 := Lib.hid (HY.out sum HE.out)
        have hst : wr.cell? ⟨w.heap.size, 3, none⟩ = some (.int .i64 l.steps) := (hb.out.cell (by show w.heap.size < _; omega)).trans ((Blk.new w 26 _).cell 3)
        clear he
        by_cases y : sum = l.steps
        · have y' : (sum != l.steps) = false := by simpa using y
          have H7 := Lib.hid ((if_pos y).symm.trans H6.out)
          clear H6 y
          generalize l.steps = st at *
          go_wp2
          go_ret
          exact ⟨ret_int H7.out, H0.out⟩
        · have y' : (sum != l.steps) = true := by simpa using y
          have H7 := Lib.hid ((if_neg y).symm.trans H6.out)
          clear H6 y
          generalize l.steps = st at *
          go_wp2
          go_ret
          exact ⟨ret_int H7.out, H0.out⟩
end Go.Proofs.YtdpoecjbofofoaaGreatDoor
