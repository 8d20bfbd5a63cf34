/-
  Contract: the program's reader.number.
  Contracts: the program's reader.many, reader.small.
  Contracts: the program's reader.values.
  Contract: the program's reader.log.
-/
import Derived.Test.YtdpoecjbofofoaaGreatDoorVMb
import Derived.Laws.DeepNot64
import Derived.WalkMore
import Derived.StillTailTactics
import Derived.Deep.DeepCutAuto
import Derived.Deep.CutBlock
namespace Go.Proofs.YtdpoecjbofofoaaGreatDoor
open Go.RowKit
/-- Block g holds a reader (of type T): the bytes s, which lie below block B, and whether they were bad. -/
def Rdr (T : TypeId) (w : World) (g B : Nat) (s : List Nat) (bad : Bool) : Prop := ∃ A c, Blk w g T #[.slice A s.length c, .bool bad] ∧ s.length ≤ c ∧ Reads w B 1 A s.length (s.map fun (b : Nat) => Value.int .u8 (b : Int))
namespace Rb
theorem numP_step {s : List Nat} {i acc : Nat} (h : i < s.length) (h10 : i < 10) : numPgo (s.drop i) i acc = if s.getD i 0 < 128 then some (acc ||| ((s.getD i 0 % 128) <<< (7 * i)) % 18446744073709551616, s.drop (i + 1)) else numPgo (s.drop (i + 1)) (i + 1) (acc ||| ((s.getD i 0 % 128) <<< (7 * i)) % 18446744073709551616) := by
  rw [List.drop_eq_getElem_cons h, List.getD_eq_getElem?_getD, List.getElem?_eq_getElem h]
  show (if 10 ≤ i then none else _) = _
  rw [if_neg (by omega)]
  rfl
theorem numP_stop {s : List Nat} {i acc : Nat} (h : ¬(i < s.length ∧ i < 10)) : numPgo (s.drop i) i acc = none := by
  rcases Nat.lt_or_ge i s.length with g | g
  · rw [List.drop_eq_getElem_cons g]
    show (if 10 ≤ i then none else _) = none
    rw [if_pos (by omega)]
  · rw [List.drop_eq_nil_of_le g]; rfl
theorem and127 {b : Nat} (h : b < 256) : bits .and .u8 (b : Int) 127 = ((b % 128 : Nat) : Int) := by
  have h1 := u8_and_nat b 127 h (by omega)
  rw [show (127 : Nat) = 2 ^ 7 - 1 from rfl, Nat.and_two_pow_sub_one_eq_mod] at h1
  exact h1
theorem or_lt {a b : Nat} (ha : a < 18446744073709551616) (hb : b < 18446744073709551616) : a ||| b < 18446744073709551616 := Nat.or_lt_two_pow (n := 64) ha hb
end Rb
theorem Rdr.cut {T : TypeId} {w : World} {g B : Nat} {s : List Nat} {bad : Bool} {A : Option Addr} {c k : Nat} (hb : Blk w g T #[.slice A s.length c, .bool bad]) (hc : s.length ≤ c) (hr : Reads w B 1 A s.length (s.map fun (b : Nat) => Value.int .u8 (b : Int))) (hB : B ≤ g) (hk : k ≤ s.length) :
    Rdr T (w.setCell ⟨g, 0, none⟩ (.slice (if c = k then A else A.map (·.add k)) (s.length - k) (c - k))) g B (s.drop k) bad := by
  refine ⟨if c = k then A else A.map (·.add k), c - k, ?_, by rw [List.length_drop]; omega, ?_⟩
  · have := hb.set_ 0 (.slice (if c = k then A else A.map (·.add k)) (s.length - k) (c - k))
    rw [List.length_drop]; exact this
  · have := (hr.cut hk hc).setCell (p := ⟨g, 0, none⟩) hB (.slice (if c = k then A else A.map (·.add k)) (s.length - k) (c - k))
    rw [Nat.mul_one, ← List.map_drop] at this
    rw [List.length_drop]; exact this
theorem Rdr.toBad {T : TypeId} {w : World} {g B : Nat} {s : List Nat} {bad : Bool} (h : Rdr T w g B s bad) (hB : B ≤ g) : Rdr T (w.setCell ⟨g, 1, none⟩ (.bool true)) g B s true := by
  obtain ⟨A, c, hb, hc, hr⟩ := h
  exact ⟨A, c, hb.set_ 1 _, hc, hr.setCell (p := ⟨g, 1, none⟩) hB _⟩
set_option maxRecDepth 20000 in
set_option maxHeartbeats 1600000 in
theorem number_any (g B : Nat) (s : List Nat) (bad : Bool) (w : World) (h : Rdr 66 w g B s bad) (hB : B ≤ g) (hs : Rb.Bytes s) :
    Calls Tryz.prog 56 #[.pointer (some ⟨g, 0, none⟩)] w fun e w' => e = .returned (.int .u64 ((Rb.numF s bad).1 : Nat)) ∧ Rdr 66 w' g B (Rb.numF s bad).2.1 (Rb.numF s bad).2.2 ∧ w.grownBy w' (some g) := by
  obtain ⟨A, c, hb, hc, hr⟩ := h
  have c0 : w.cell? ⟨g, 0, none⟩ = some (.slice A s.length c) := hb.cell 0
  have c1 : w.cell? ⟨g, 1, none⟩ = some (.bool bad) := hb.cell 1
  have f0 := hb.frozen 0
  have f1 := hb.frozen 1
  have HR := Lib.hid hr
  have HS := Lib.hid hs
  have HBk := Lib.hid hb
  have HRb := Lib.hid (Rdr.toBad (T := 66) ⟨A, c, hb, hc, hr⟩ hB)
  have HRc := Lib.hid (fun k (hk : k ≤ s.length) => Rdr.cut (k := k) hb hc hr hB hk)
  clear hr hs hb
  go_enter Tryz.func56, Tryz.ntmps56
  go_wp2
  go_loopg [3, 4] s.length (fun n a i wr => ∃ (k acc : Nat), k ≤ s.length ∧ k ≤ 10 ∧ n = s.length - k ∧ i = .int .i64 k ∧ a = .int .u64 acc ∧ Hid (acc < 18446744073709551616) ∧ Hid (Rb.numP s = Rb.numPgo (s.drop k) k acc) ∧ wr = w)
  case atStart => exact ⟨0, 0, Nat.zero_le _, by omega, rfl, rfl, rfl, Lib.hid (by decide), Lib.hid rfl, rfl⟩
  case round =>
    obtain ⟨k, acc, hk, hk10, hg, rfl, rfl, ha, hp, rfl⟩ := hrel
    have Hg := Lib.hid hg
    clear hg
    by_cases hlt : k < s.length ∧ k < 10
    · obtain ⟨h1, h2⟩ := hlt
      obtain ⟨ad, rfl, hadb, hcell⟩ := rdB_at HR.out h1
      have hbyte := Rb.bytes_at HS.out k
      have HP := Lib.hid (hp.out.trans (Rb.numP_step h1 h2))
      have hk7 : 7 * k ≤ 63 := by omega
      generalize s.getD k 0 = b at *
      obtain ⟨d, hd⟩ : ∃ d, d = b % 128 := ⟨_, rfl⟩
      obtain ⟨m, hm⟩ : ∃ m, m = (d <<< (7 * k)) % 18446744073709551616 := ⟨_, rfl⟩
      obtain ⟨acc', ha'⟩ : ∃ x, x = acc ||| m := ⟨_, rfl⟩
      rw [← hd, ← hm, ← ha'] at HP
      have e1 : bits .and .u8 (b : Int) 127 = (d : Int) := by rw [hd]; exact Rb.and127 hbyte
      have e2 : IntKind.u64.wrap (d : Int) = (d : Int) := by rw [IntKind.wrap_u64]; omega
      have e3 : IntKind.u64.wrap ((d : Int) * 2 ^ (7 * k)) = (m : Int) := by
        rw [hm, Nat.shiftLeft_eq, IntKind.wrap_u64, Int.natCast_emod, Int.natCast_mul, Int.natCast_pow]; rfl
      have e4 : bits .or .u64 (acc : Int) (m : Int) = (acc' : Int) := by rw [ha']; exact u64_or_nat acc m ha.out (by omega)
      have HA := Lib.hid (show acc' < 18446744073709551616 by rw [ha']; exact Rb.or_lt ha.out (by omega))
      clear hd hm ha' hp
      by_cases hb128 : b < 128
      · have HF := Lib.hid (show Rb.numF s bad = (acc', s.drop (k + 1), bad) by unfold Rb.numF; rw [HP.out.trans (if_pos hb128)])
        by_cases hcap : c = k + 1
        · subst hcap
          go_wp2
          go_ret
          rw [HF.out]
          have h3 := HRc.out (k + 1) (by omega)
          rw [if_pos rfl, show s.length - (k + 1) = 0 by omega] at h3
          exact ⟨rfl, by simpa using h3, grown_setCell _ _ _⟩
        · go_wp2
          go_ret
          rw [HF.out]
          have h3 := HRc.out (k + 1) (by omega)
          rw [if_neg hcap] at h3
          exact ⟨rfl, h3, grown_setCell _ _ _⟩
      · have HN := Lib.hid (HP.out.trans (if_neg hb128))
        go_wp2
        go_roundg (s.length - (k + 1))
        case rel => exact ⟨k + 1, acc', h1, h2, rfl, by go_num, rfl, HA, HN, rfl⟩
        case measure => rw [Hg.out]; omega
    · have HF := Lib.hid (show Rb.numF s bad = (0, s, true) by unfold Rb.numF; rw [hp.out.trans (Rb.numP_stop hlt)])
      rcases Nat.lt_or_ge k s.length with h1 | h1
      · have h2 : ¬ k < 10 := by omega
        clear hlt
        go_wp2
        go_ret
        rw [HF.out]
        exact ⟨rfl, HRb.out, grown_setCell _ _ _⟩
      · clear hlt
        go_wp2
        go_ret
        rw [HF.out]
        exact ⟨rfl, HRb.out, grown_setCell _ _ _⟩
end Go.Proofs.YtdpoecjbofofoaaGreatDoor
namespace Go.Proofs.YtdpoecjbofofoaaGreatDoor
open Go.RowKit
namespace Rb
theorem numPgo_le : ∀ (s : List Nat) (i acc : Nat) {v : Nat} {r : List Nat}, numPgo s i acc = some (v, r) → r.length ≤ s.length
  | [], _, _, _, _, h => by cases h
  | b :: s, i, acc, v, r, h => by
    unfold numPgo at h
    split at h
    · cases h
    · split at h
      · cases h; simp
      · have := numPgo_le s _ _ h; simp only [List.length_cons]; omega
theorem numF_le (s : List Nat) (bad : Bool) : (numF s bad).2.1.length ≤ s.length := by
  unfold numF
  cases h : numP s with
  | none => exact Nat.le_refl _
  | some x => obtain ⟨v, r⟩ := x; exact numPgo_le s 0 0 h
end Rb
set_option maxRecDepth 20000 in
set_option maxHeartbeats 1600000 in
theorem many_any (g B : Nat) (s : List Nat) (bad : Bool) (w : World) (h : Rdr 66 w g B s bad) (hB : B ≤ g) (hs : Rb.Bytes s) (hl : s.length ≤ 1000000000000) :
    Calls Tryz.prog 42 #[.pointer (some ⟨g, 0, none⟩)] w fun e w' => e = .returned (.int .i64 ((Rb.manyF s bad).1 : Nat)) ∧ Rdr 66 w' g B (Rb.manyF s bad).2.1 (Rb.manyF s bad).2.2 ∧ w.grownBy w' (some g) := by
  have HNum := Lib.hid (number_any g B s bad w h hB hs)
  have hn := (Rb.numF_ok bad hs).1
  have hle := Rb.numF_le s bad
  unfold Rb.manyF
  generalize Rb.numF s bad = x at *
  obtain ⟨n, s1, b1⟩ := x
  simp only at *
  clear h hs
  have hl1 : s1.length ≤ 1000000000000 := by omega
  by_cases ht : s1.length < n
  · rw [if_pos ht]
    go_enter Tryz.func42, Tryz.ntmps42
    go_wp2_with fail
    refine HNum.out.mono ?_
    rintro e w1 ⟨rfl, hr1, hg1⟩
    have HG := Lib.hid hg1
    have HRb := Lib.hid (hr1.toBad hB)
    obtain ⟨A, c, hb, -, -⟩ := hr1
    have c0 : w1.cell? ⟨g, 0, none⟩ = some (.slice A s1.length c) := hb.cell 0
    have c1 : w1.cell? ⟨g, 1, none⟩ = some (.bool b1) := hb.cell 1
    have f1 := hb.frozen 1
    have e1 : IntKind.u64.wrap (s1.length : Int) = (s1.length : Int) := by rw [IntKind.wrap_u64]; omega
    clear hb hg1 HNum
    go_wp2
    go_ret
    exact ⟨rfl, HRb.out, HG.out.trans (grown_setCell _ _ _)⟩
  · rw [if_neg ht]
    have e2 : IntKind.i64.wrap (n : Int) = (n : Int) := by rw [IntKind.wrap_i64]; omega
    go_enter Tryz.func42, Tryz.ntmps42
    go_wp2_with fail
    refine HNum.out.mono ?_
    rintro e w1 ⟨rfl, hr1, hg1⟩
    have HG := Lib.hid hg1
    have HR := Lib.hid hr1
    obtain ⟨A, c, hb, -, -⟩ := hr1
    have c0 : w1.cell? ⟨g, 0, none⟩ = some (.slice A s1.length c) := hb.cell 0
    have e1 : IntKind.u64.wrap (s1.length : Int) = (s1.length : Int) := by rw [IntKind.wrap_u64]; omega
    clear hb hg1 HNum
    go_wp2
    go_ret
    exact ⟨rfl, HR.out, HG.out⟩
set_option maxRecDepth 20000 in
set_option maxHeartbeats 1600000 in
theorem small_any (g B : Nat) (s : List Nat) (bad : Bool) (w : World) (h : Rdr 66 w g B s bad) (hB : B ≤ g) (hs : Rb.Bytes s) (hl : s.length ≤ 1000000000000) :
    Calls Tryz.prog 41 #[.pointer (some ⟨g, 0, none⟩)] w fun e w' => e = .returned (.int .i64 ((Rb.smallF s bad).1 : Nat)) ∧ Rdr 66 w' g B (Rb.smallF s bad).2.1 (Rb.smallF s bad).2.2 ∧ w.grownBy w' (some g) := by
  have HNum := Lib.hid (number_any g B s bad w h hB hs)
  have hn := (Rb.numF_ok bad hs).1
  have hle := Rb.numF_le s bad
  unfold Rb.smallF
  generalize Rb.numF s bad = x at *
  obtain ⟨n, s1, b1⟩ := x
  simp only at *
  clear h hs
  have hl1 : s1.length ≤ 1000000000000 := by omega
  by_cases ht : 65536 < n
  · rw [if_pos ht]
    go_enter Tryz.func41, Tryz.ntmps41
    go_wp2_with fail
    refine HNum.out.mono ?_
    rintro e w1 ⟨rfl, hr1, hg1⟩
    have HG := Lib.hid hg1
    have HRb := Lib.hid (hr1.toBad hB)
    obtain ⟨A, c, hb, -, -⟩ := hr1
    have c0 : w1.cell? ⟨g, 0, none⟩ = some (.slice A s1.length c) := hb.cell 0
    have c1 : w1.cell? ⟨g, 1, none⟩ = some (.bool b1) := hb.cell 1
    have f1 := hb.frozen 1
    have e1 : IntKind.u64.wrap (s1.length : Int) = (s1.length : Int) := by rw [IntKind.wrap_u64]; omega
    clear hb hg1 HNum
    go_wp2
    go_ret
    exact ⟨rfl, HRb.out, HG.out.trans (grown_setCell _ _ _)⟩
  · rw [if_neg ht]
    have e2 : IntKind.i64.wrap (n : Int) = (n : Int) := by rw [IntKind.wrap_i64]; omega
    go_enter Tryz.func41, Tryz.ntmps41
    go_wp2_with fail
    refine HNum.out.mono ?_
    rintro e w1 ⟨rfl, hr1, hg1⟩
    have HG := Lib.hid hg1
    have HR := Lib.hid hr1
    obtain ⟨A, c, hb, -, -⟩ := hr1
    have c0 : w1.cell? ⟨g, 0, none⟩ = some (.slice A s1.length c) := hb.cell 0
    have e1 : IntKind.u64.wrap (s1.length : Int) = (s1.length : Int) := by rw [IntKind.wrap_u64]; omega
    clear hb hg1 HNum
    go_wp2
    go_ret
    exact ⟨rfl, HR.out, HG.out⟩
end Go.Proofs.YtdpoecjbofofoaaGreatDoor
namespace Go.Proofs.YtdpoecjbofofoaaGreatDoor
open Go.RowKit
/-- A row of numbers of 64 bits of the call's own. -/
def OwnV (w : World) (base : Nat) (v : Value) (l : List Int) : Prop := w.ownsRow base 2 1 v l.length (l.map (.int .i64))
theorem OwnV.nil (w : World) (base : Nat) : OwnV w base (.slice none 0 0) [] := ⟨by simp, .inl ⟨rfl, rfl⟩⟩
theorem OwnV.reads {w : World} {base : Nat} {v : Value} {l : List Int} (h : OwnV w base v l) (hl : l.length ≤ 17592186043904) : Ints w w.heap.size v l := by
  obtain ⟨A, c, rfl, hc, hr, -⟩ := own_form h
  exact ⟨A, c, rfl, hc, hl, hr⟩
theorem Rdr.grown {T : TypeId} {w w' : World} {g B : Nat} {s : List Nat} {bad : Bool} (h : Rdr T w g B s bad) (hB : B ≤ g) {row : Option Nat} (hg : w.grownBy w' row) (hr : ∀ k, row = some k → g < k) : Rdr T w' g B s bad := by
  obtain ⟨A, c, hb, hc, hrd⟩ := h
  have hlt := hb.lt
  exact ⟨A, c, hb.grown hg (fun e => by have := hr g e.symm; omega), hc, hrd.grown hg (by omega) (fun k e => by have := hr k e; omega)⟩
theorem Rdr.lt {T : TypeId} {w : World} {g B : Nat} {s : List Nat} {bad : Bool} (h : Rdr T w g B s bad) : g < w.heap.size := by
  obtain ⟨A, c, hb, -, -⟩ := h
  exact hb.lt
namespace Rb
theorem valsF_step {m : Nat} {s : List Nat} {b : Bool} {l : List Int × List Nat × Bool} {pre : List Int} (h : l = (pre ++ (valsF (m + 1) s b).1, (valsF (m + 1) s b).2)) : l = ((pre ++ [unzz (numF s b).1]) ++ (valsF m (numF s b).2.1 (numF s b).2.2).1, (valsF m (numF s b).2.1 (numF s b).2.2).2) := by
  rw [h]
  apply Prod.ext
  · show pre ++ unzz (numF s b).1 :: _ = _
    simp only [List.append_assoc, List.singleton_append]
  · rfl
theorem valsF_len : ∀ (k : Nat) (s : List Nat) (b : Bool), (valsF k s b).1.length = k
  | 0, _, _ => rfl
  | k + 1, _, _ => congrArg Nat.succ (valsF_len k _ _)
theorem and1 {n : Nat} (h : n < 18446744073709551616) : bits .and .u64 (n : Int) 1 = ((n % 2 : Nat) : Int) := by
  have h1 := u64_and_nat n 1 h (by omega)
  rw [show (1 : Nat) = 2 ^ 1 - 1 from rfl, Nat.and_two_pow_sub_one_eq_mod] at h1
  exact h1
end Rb
set_option maxRecDepth 20000 in
set_option maxHeartbeats 1600000 in
theorem rvalues_any (g B : Nat) (s : List Nat) (bad : Bool) (w : World) (h : Rdr 66 w g B s bad) (hB : B ≤ g) (hs : Rb.Bytes s) (hl : s.length ≤ 10000000000) :
    Calls Tryz.prog 43 #[.pointer (some ⟨g, 0, none⟩)] w fun e w' => ∃ v', e = .returned v' ∧ OwnV w' w.heap.size v' (Rb.valuesF s bad).1 ∧ Rdr 66 w' g B (Rb.valuesF s bad).2.1 (Rb.valuesF s bad).2.2 ∧ w.grownBy w' (some g) := by
  obtain ⟨j0, hj0, hy0, hy1, hy2⟩ := info_parts info_i64
  have HM := Lib.hid (many_any g B s bad w h hB hs (by omega))
  have HN := Lib.hid (fun (s' : List Nat) (b' : Bool) (W : World) h1 h2 => number_any g B s' b' W h1 hB h2)
  have hg0 := h.lt
  have hbs := Lib.hid (Rb.manyF_ok bad hs)
  have hml : (Rb.manyF s bad).1 ≤ 10000000000 := by
    have h1 := Rb.numF_le s bad
    unfold Rb.manyF
    split
    · simp
    · omega
  unfold Rb.valuesF
  generalize Rb.manyF s bad = x at *
  obtain ⟨n, s0, b0⟩ := x
  simp only at *
  clear h hs
  go_enter Tryz.func43, Tryz.ntmps43
  go_wp2_with fail
  refine HM.out.mono ?_
  rintro e w1 ⟨rfl, hr1, hg1⟩
  have HG1 := Lib.hid hg1
  have HR1 := Lib.hid hr1
  clear hg1 hr1 HM
  go_wp2
  go_loopg [3, 8] n (fun q u i wr => ∃ (k : Nat) (pre : List Int) (s1 : List Nat) (b1 : Bool), k ≤ n ∧ q = n - k ∧ i = .int .i64 k ∧ Hid (pre.length = k ∧ Rb.Bytes s1 ∧ Rb.valsF n s0 b0 = (pre ++ (Rb.valsF (n - k) s1 b1).1, (Rb.valsF (n - k) s1 b1).2)) ∧ Hid (OwnV wr w.heap.size u pre) ∧ Hid (Rdr 66 wr g B s1 b1) ∧ Hid (w.grownBy wr (some g)))
  case atStart => exact ⟨0, [], s0, b0, Nat.zero_le _, rfl, rfl, Lib.hid ⟨rfl, hbs.out, by simp⟩, Lib.hid (OwnV.nil _ _), HR1, HG1⟩
  case round =>
    obtain ⟨k, pre, s1, b1, hk, hq, rfl, hp, ho, hr, hgr⟩ := hrel
    have Hq := Lib.hid hq
    clear hq
    by_cases hlt : k < n
    · have h0 : Rb.valsF n s0 b0 = (pre ++ (Rb.valsF (n - (k + 1) + 1) s1 b1).1, (Rb.valsF (n - (k + 1) + 1) s1 b1).2) := by rw [show n - (k + 1) + 1 = n - k by omega]; exact hp.out.2.2
      have HStep := Lib.hid (Rb.valsF_step h0)
      clear h0
      have hnf := (Rb.numF_ok b1 hp.out.2.1)
      have HNk := Lib.hid (HN.out s1 b1 wr hr.out hp.out.2.1)
      have hpl : pre.length = k := hp.out.1
      have hpl' : pre.length ≤ 10000000000 := by omega
      have Hpl := Lib.hid hpl
      clear hp hpl
      generalize Rb.numF s1 b1 = y at *
      obtain ⟨m, s2, b2⟩ := y
      obtain ⟨hm, hs2⟩ := hnf
      simp only at hm hs2
      have Hm := Lib.hid hm
      have Hs2 := Lib.hid hs2
      clear hm hs2
      go_wp2_with fail
      refine HNk.out.mono ?_
      rintro e w2 ⟨rfl, hr2, hg2⟩
      have HR2 := Lib.hid hr2
      have HG2 := Lib.hid hg2
      have Ho2 := Lib.hid (own_kept ho.out hg2 (fun k' e => by cases e; intro h'; have := own_ge ho.out _ h'; omega))
      clear hr2 hg2 ho HNk
      have hz2 : w.heap.size ≤ w2.heap.size := Nat.le_trans hgr.out.size HG2.out.size
      obtain ⟨q, hq⟩ : ∃ q, q = m / 2 := ⟨_, rfl⟩
      have E2 := Lib.hid (show wrap64 ((m : Int) / 2) = (q : Int) by have := Hm.out; unfold wrap64; rw [hq]; omega)
      generalize hx : Rb.unzz m = x at *
      replace hx := hx.symm
      by_cases hodd : m % 2 = 1
      · have hu : x = -1 - (q : Int) := by rw [hx]; unfold Rb.unzz; rw [if_pos hodd]; omega
        have e1 : bits .and .u64 (m : Int) 1 = 1 := by rw [Rb.and1 Hm.out, hodd]; rfl
        have E3 := Lib.hid (show bits .xor .i64 (-1) (q : Int) = x by rw [i64_not q (by have := Hm.out; omega), hu])
        clear hu hx hodd hq
        go_wp2_with (at_builtin; go_must (refine wpList_append_any _ rfl _ _ 23 rfl w.heap.size 2 j0 _ 1 8 Tryz.underlying23 hj0 hy0 hy1 hy2 rfl (by decide) _ pre.length _ rfl (own_kept Ho2.out (World.grownBy_alloc _ _ none) (fun g e => by cases e)) (w2.heap.size + 1) _ 1 _ [.int .i64 x] rfl (reads_1 (by omega) (by rw [E2.out, show (if IntKind.i64.signed = true then (-1 : Int) else 9223372036854775807) = -1 from rfl, E3.out]; exact cell_new1 _ _ _)) ?d2 ?d3 ?d4 ?d5 ?_))
        case d2 => intro u hu; simp at hu; subst hu; rfl
        case d3 => unfold maxLen; omega
        case d4 => omega
        case d5 => first | omega | exact Nat.le_trans hz2 (Nat.le_of_lt (by simp)) | (simp; omega)
        intro v3 w3 hown3 hg3 hat3
        have HO3 := Lib.hid (show OwnV w3 w.heap.size v3 (pre ++ [x]) by unfold OwnV; rw [List.length_append, List.map_append]; exact hown3)
        have hg3' : w2.grownBy w3 _ := (World.grownBy_alloc w2 _ _).trans hg3
        have HR3 := Lib.hid (HR2.out.grown hB hg3' (fun k' e => by have := own_ge Ho2.out k' e; omega))
        have HG3 := Lib.hid (((hgr.out.trans HG2.out)).andThen hg3' (fun j e => .inl (own_ge Ho2.out j e)))
        clear hown3 hg3 hat3 hg3'
        go_wp2
        go_roundg (n - (k + 1))
        case rel => exact ⟨k + 1, pre ++ [x], s2, b2, hlt, rfl, by go_num, Lib.hid ⟨by rw [List.length_append, Hpl.out]; rfl, Hs2.out, HStep.out⟩, HO3, HR3, HG3⟩
        case measure => rw [Hq.out]; omega
      · have hu : (q : Int) = x := by rw [hx]; unfold Rb.unzz; rw [if_neg hodd, hq]
        have e1 : bits .and .u64 (m : Int) 1 = 0 := by rw [Rb.and1 Hm.out, show m % 2 = 0 by omega]; rfl
        have E3 := Lib.hid hu
        clear hu hx hodd hq
        go_wp2_with (at_builtin; go_must (refine wpList_append_any _ rfl _ _ 23 rfl w.heap.size 2 j0 _ 1 8 Tryz.underlying23 hj0 hy0 hy1 hy2 rfl (by decide) _ pre.length _ rfl (own_kept Ho2.out (World.grownBy_alloc _ _ none) (fun g e => by cases e)) (w2.heap.size + 1) _ 1 _ [.int .i64 x] rfl (reads_1 (by omega) (by rw [E2.out, E3.out]; exact cell_new1 _ _ _)) ?f2 ?f3 ?f4 ?f5 ?_))
        case f2 => intro u hu; simp at hu; subst hu; rfl
        case f3 => unfold maxLen; omega
        case f4 => omega
        case f5 => first | omega | exact Nat.le_trans hz2 (Nat.le_of_lt (by simp)) | (simp; omega)
        intro v3 w3 hown3 hg3 hat3
        have HO3 := Lib.hid (show OwnV w3 w.heap.size v3 (pre ++ [x]) by unfold OwnV; rw [List.length_append, List.map_append]; exact hown3)
        have hg3' : w2.grownBy w3 _ := (World.grownBy_alloc w2 _ _).trans hg3
        have HR3 := Lib.hid (HR2.out.grown hB hg3' (fun k' e => by have := own_ge Ho2.out k' e; omega))
        have HG3 := Lib.hid (((hgr.out.trans HG2.out)).andThen hg3' (fun j e => .inl (own_ge Ho2.out j e)))
        clear hown3 hg3 hat3 hg3'
        go_wp2
        go_roundg (n - (k + 1))
        case rel => exact ⟨k + 1, pre ++ [x], s2, b2, hlt, rfl, by go_num, Lib.hid ⟨by rw [List.length_append, Hpl.out]; rfl, Hs2.out, HStep.out⟩, HO3, HR3, HG3⟩
        case measure => rw [Hq.out]; omega
    · obtain rfl : k = n := by omega
      have hv := hp.out.2.2
      rw [Nat.sub_self] at hv
      have HV := Lib.hid (show Rb.valsF k s0 b0 = (pre, s1, b1) by rw [hv]; show (pre ++ [], _) = _; rw [List.append_nil]; rfl)
      clear hv hp
      go_wp2
      go_ret
      rw [HV.out]
      exact ⟨_, rfl, ho.out, hr.out, hgr.out⟩
end Go.Proofs.YtdpoecjbofofoaaGreatDoor
namespace Go.Proofs.YtdpoecjbofofoaaGreatDoor
open Go.RowKit
attribute [local go_sem ↓] Go.wp_at_zero Go.wp_at_succ
/-- A row of picks of the call's own. -/
def OwnP (w : World) (base : Nat) (v : Value) (l : List (Int × Int)) : Prop := w.ownsRow base 56 2 v l.length (cellsP l)
theorem OwnP.nil (w : World) (base : Nat) : OwnP w base (.slice none 0 0) [] := ⟨by simp [cellsP], .inl ⟨rfl, rfl⟩⟩
theorem OwnP.reads {w : World} {base : Nat} {v : Value} {l : List (Int × Int)} (h : OwnP w base v l) : Picks w w.heap.size v l := by
  obtain ⟨A, c, rfl, hc, hr, -⟩ := own_form h
  exact ⟨A, c, rfl, hc, hr⟩
/-- A log of the call's own. -/
def OwnL (w : World) (base : Nat) (v : Value) (l : Rb.Lg) : Prop := ∃ pv iv cv, v = .agg #[pv, iv, cv, .int .i64 l.steps, .int .u64 (l.sum : Int)] ∧ OwnP w base pv l.picks ∧ OwnV w base iv l.inputs ∧ OwnV w base cv l.clocks ∧ l.inputs.length ≤ 17592186043904 ∧ l.clocks.length ≤ 17592186043904
theorem OwnL.reads {w : World} {base : Nat} {v : Value} {l : Rb.Lg} (h : OwnL w base v l) : RdL w w.heap.size v l := by
  obtain ⟨p, i, c, rfl, h1, h2, h3, h4, h5⟩ := h
  exact ⟨p, i, c, rfl, h1.reads, h2.reads h4, h3.reads h5⟩
theorem OwnL.kept {w w' : World} {base : Nat} {v : Value} {l : Rb.Lg} (h : OwnL w base v l) {row : Option Nat} (hg : w.grownBy w' row) (hr : ∀ g, row = some g → g < base) : OwnL w' base v l := by
  obtain ⟨p, i, c, rfl, h1, h2, h3, h4, h5⟩ := h
  exact ⟨p, i, c, rfl, own_kept h1 hg (fun g e he => by have := hr g e; have := own_ge h1 _ he; omega), own_kept h2 hg (fun g e he => by have := hr g e; have := own_ge h2 _ he; omega), own_kept h3 hg (fun g e he => by have := hr g e; have := own_ge h3 _ he; omega), h4, h5⟩
theorem cellsP_snoc : ∀ (l : List (Int × Int)) (x : Int × Int), cellsP (l ++ [x]) = cellsP l ++ [.int .i64 x.1, .int .i64 x.2]
  | [], _ => rfl
  | y :: l, x => by show _ :: _ :: cellsP (l ++ [x]) = _; rw [cellsP_snoc l x]; rfl
theorem reads_12 {w : World} {g B : Nat} {u v : Value} (hb : g < B) (h0 : w.cell? ⟨g, 0, none⟩ = some u) (h1 : w.cell? ⟨g, 1, none⟩ = some v) : Reads w B 2 (some ⟨g, 0, none⟩) 1 [u, v] :=
  ⟨rfl, fun _ => ⟨_, rfl, hb, fun j x hj => by
    cases j with
    | zero => simp at hj; subst hj; rw [add_zero_]; exact h0
    | succ j => cases j with
      | zero => simp at hj; subst hj; exact h1
      | succ j => simp at hj⟩⟩
theorem info_arr : (Tryz.prog.info? 87).map (fun i => (i.zero, i.size, i.bytes)) = some (some (.agg #[.int .i64 0, .int .i64 0]), 2, 16) := by kernel_rfl
set_option maxHeartbeats 1000000 in
/-- What a load of a whole log and a store of it where it was want to know, and what they leave. -/
theorem log_same {W : World} {R : Nat} {a b c d e : Value} (h : Blk W R 26 #[a, b, c, d, e]) :
    (W.cell? ⟨R, 0, none⟩ = some a ∧ W.cell? ⟨R, 1, none⟩ = some b ∧ W.cell? ⟨R, 2, none⟩ = some c ∧ W.cell? ⟨R, 3, none⟩ = some d ∧ W.cell? ⟨R, 4, none⟩ = some e) ∧
    (W.frozen? ⟨R, 0, none⟩ = false ∧ (W.setCell ⟨R, 0, none⟩ a).frozen? ⟨R, 1, none⟩ = false ∧ ((W.setCell ⟨R, 0, none⟩ a).setCell ⟨R, 1, none⟩ b).frozen? ⟨R, 2, none⟩ = false ∧ (((W.setCell ⟨R, 0, none⟩ a).setCell ⟨R, 1, none⟩ b).setCell ⟨R, 2, none⟩ c).frozen? ⟨R, 3, none⟩ = false ∧ ((((W.setCell ⟨R, 0, none⟩ a).setCell ⟨R, 1, none⟩ b).setCell ⟨R, 2, none⟩ c).setCell ⟨R, 3, none⟩ d).frozen? ⟨R, 4, none⟩ = false) ∧
    ((W.setCell ⟨R, 0, none⟩ a).cell? ⟨R, 1, none⟩ = some b ∧ ((W.setCell ⟨R, 0, none⟩ a).setCell ⟨R, 1, none⟩ b).cell? ⟨R, 2, none⟩ = some c ∧ (((W.setCell ⟨R, 0, none⟩ a).setCell ⟨R, 1, none⟩ b).setCell ⟨R, 2, none⟩ c).cell? ⟨R, 3, none⟩ = some d ∧ ((((W.setCell ⟨R, 0, none⟩ a).setCell ⟨R, 1, none⟩ b).setCell ⟨R, 2, none⟩ c).setCell ⟨R, 3, none⟩ d).cell? ⟨R, 4, none⟩ = some e) ∧
    Blk (((((W.setCell ⟨R, 0, none⟩ a).setCell ⟨R, 1, none⟩ b).setCell ⟨R, 2, none⟩ c).setCell ⟨R, 3, none⟩ d).setCell ⟨R, 4, none⟩ e) R 26 #[a, b, c, d, e] ∧
    W.grownBy (((((W.setCell ⟨R, 0, none⟩ a).setCell ⟨R, 1, none⟩ b).setCell ⟨R, 2, none⟩ c).setCell ⟨R, 3, none⟩ d).setCell ⟨R, 4, none⟩ e) (some R) := by
  have e0 : (#[a, b, c, d, e] : Array Value).setIfInBounds 0 a = #[a, b, c, d, e] := rfl
  have e1 : (#[a, b, c, d, e] : Array Value).setIfInBounds 1 b = #[a, b, c, d, e] := rfl
  have e2 : (#[a, b, c, d, e] : Array Value).setIfInBounds 2 c = #[a, b, c, d, e] := rfl
  have e3 : (#[a, b, c, d, e] : Array Value).setIfInBounds 3 d = #[a, b, c, d, e] := rfl
  have e4 : (#[a, b, c, d, e] : Array Value).setIfInBounds 4 e = #[a, b, c, d, e] := rfl
  have h0 := h.set_ 0 a
  rw [e0] at h0
  have h1 := h0.set_ 1 b
  rw [e1] at h1
  have h2 := h1.set_ 2 c
  rw [e2] at h2
  have h3 := h2.set_ 3 d
  rw [e3] at h3
  have h4 := h3.set_ 4 e
  rw [e4] at h4
  have gs : ∀ (V : World) (i : Nat) (u : Value), V.grownBy (V.setCell ⟨R, i, none⟩ u) (some R) := fun V i u => grown_setCell V ⟨R, i, none⟩ u
  have g0 := gs W 0 a
  have g1 := gs (W.setCell ⟨R, 0, none⟩ a) 1 b
  have g2 := gs ((W.setCell ⟨R, 0, none⟩ a).setCell ⟨R, 1, none⟩ b) 2 c
  have g3 := gs (((W.setCell ⟨R, 0, none⟩ a).setCell ⟨R, 1, none⟩ b).setCell ⟨R, 2, none⟩ c) 3 d
  have g4 := gs ((((W.setCell ⟨R, 0, none⟩ a).setCell ⟨R, 1, none⟩ b).setCell ⟨R, 2, none⟩ c).setCell ⟨R, 3, none⟩ d) 4 e
  exact ⟨⟨h.cell 0, h.cell 1, h.cell 2, h.cell 3, h.cell 4⟩, ⟨h.frozen 0, h0.frozen 1, h1.frozen 2, h2.frozen 3, h3.frozen 4⟩, ⟨h0.cell 1, h1.cell 2, h2.cell 3, h3.cell 4⟩, h4,
    (((g0.trans g1).trans g2).trans g3).trans g4⟩
namespace Rb
theorem sum_step {l : List Nat} {k : Nat} (h : k < l.length) (hb : ∀ b ∈ l, b < 256) : sumOf (l.take (k + 1)) = sumOf (l.take k) ||| (l.getD k 0 * 2 ^ (8 * k)) ∧ sumOf (l.take k) < 256 ^ k := by
  have ha : ∀ (a : List Nat) (x : Nat), sumOf (a ++ [x]) = sumOf a + x * 256 ^ a.length := by
    intro a
    induction a with
    | nil => intro x; simp [sumOf]
    | cons y a ih =>
      intro x
      show y + 256 * sumOf (a ++ [x]) = y + 256 * sumOf a + x * 256 ^ (a.length + 1)
      rw [ih x, Nat.pow_succ, Nat.mul_add, Nat.add_assoc]
      congr 2
      rw [← Nat.mul_assoc, Nat.mul_comm 256 x, Nat.mul_assoc, Nat.mul_comm 256]
  have hlt : sumOf (l.take k) < 256 ^ k := by
    have := sumOf_lt (l.take k) fun b hb' => hb b (List.mem_of_mem_take hb')
    rwa [List.length_take, Nat.min_eq_left (by omega)] at this
  refine ⟨?_, hlt⟩
  rw [List.take_add_one, List.getElem?_eq_getElem h, List.getD_eq_getElem?_getD, List.getElem?_eq_getElem h]
  show sumOf (l.take k ++ [l[k]]) = _
  rw [ha, List.length_take, Nat.min_eq_left (by omega)]
  have e : (256 : Nat) ^ k = 2 ^ (8 * k) := by rw [show (256 : Nat) = 2 ^ 8 from rfl, ← Nat.pow_mul]
  rw [e] at hlt ⊢
  have := Nat.shiftLeft_add_eq_or_of_lt hlt l[k]
  rw [Nat.shiftLeft_eq] at this
  rw [Nat.or_comm]
  show _ = l[k] * 2 ^ (8 * k) ||| _
  rw [← this, Nat.add_comm]
/-- What is still to be read of a pick of which j numbers have been read, and of m picks behind it. -/
def stage (m j : Nat) (a b : Int) (s : List Nat) (bad : Bool) : List (Int × Int) × List Nat × Bool :=
  if j = 0 then picksF (m + 1) s bad else if j = 1 then
    (if (smallF s bad).2.2 = true then ([], (smallF s bad).2) else ((a, ((smallF s bad).1 : Int)) :: (picksF m (smallF s bad).2.1 (smallF s bad).2.2).1, (picksF m (smallF s bad).2.1 (smallF s bad).2.2).2))
  else ((a, b) :: (picksF m s bad).1, (picksF m s bad).2)
theorem stage_0 (m : Nat) (a b : Int) (s : List Nat) (bad : Bool) : stage m 0 a b s bad = picksF (m + 1) s bad := by unfold stage; rw [if_pos rfl]
theorem stage_2 (m : Nat) (a b : Int) (s : List Nat) (bad : Bool) : stage m 2 a b s bad = ((a, b) :: (picksF m s bad).1, (picksF m s bad).2) := by unfold stage; rw [if_neg (by omega), if_neg (by omega)]
theorem picksF_eq (m : Nat) (b : Int) (s : List Nat) (bad : Bool) : picksF (m + 1) s bad = if (smallF s bad).2.2 = true then ([], (smallF s bad).2) else stage m 1 ((smallF s bad).1 : Int) b (smallF s bad).2.1 (smallF s bad).2.2 := by
  unfold stage
  rw [if_neg (by omega : ¬ (1 : Nat) = 0), if_pos rfl]
  rfl
theorem stage_bad {m j : Nat} (hj : j < 2) {a b : Int} {s : List Nat} {bad : Bool} (h : (smallF s bad).2.2 = true) : stage m j a b s bad = ([], (smallF s bad).2) := by
  rcases (show j = 0 ∨ j = 1 by omega) with rfl | rfl
  · rw [stage_0, picksF_eq m 0, if_pos h]
  · unfold stage; rw [if_neg (by omega), if_pos rfl, if_pos h]
theorem stage_one {m : Nat} {a b : Int} {s : List Nat} {bad : Bool} (h : (smallF s bad).2.2 = false) : stage m 0 a b s bad = stage m 1 ((smallF s bad).1 : Int) b (smallF s bad).2.1 (smallF s bad).2.2 := by
  rw [stage_0, picksF_eq m b, if_neg (by simp [h])]
theorem stage_two {m : Nat} {a b : Int} {s : List Nat} {bad : Bool} (h : (smallF s bad).2.2 = false) : stage m 1 a b s bad = stage m 2 a ((smallF s bad).1 : Int) (smallF s bad).2.1 (smallF s bad).2.2 := by
  unfold stage
  rw [if_neg (by omega), if_pos rfl, if_neg (by simp [h]), if_neg (by omega), if_neg (by omega)]
theorem logF_of {s s1 s3 s4 s5 s6 : List Nat} {st n : Nat} {b1 b3 b4 b5 b6 : Bool} {pre : List (Int × Int)} {xs ys : List Int} (h1 : smallF s false = (st, s1, b1)) (h2 : manyF s1 b1 = (n, s3, b3)) (h3 : picksF n s3 b3 = (pre, s4, b4)) (h4 : valuesF s4 b4 = (xs, s5, b5)) (h5 : valuesF s5 b5 = (ys, s6, b6)) :
    logF s = (⟨st, pre, xs, ys, sumOf s6⟩, b6 || !decide (s6.length = 8)) := by
  unfold logF; simp only [h1, h2, h3, h4, h5]
theorem smallF_le (s : List Nat) (bad : Bool) : (smallF s bad).2.1.length ≤ s.length := by
  have h1 := numF_le s bad
  unfold smallF; split <;> exact h1
theorem manyF_le (s : List Nat) (bad : Bool) : (manyF s bad).2.1.length ≤ s.length := by
  have h1 := numF_le s bad
  unfold manyF; split <;> exact h1
theorem smallF_lt (s : List Nat) (bad : Bool) : (smallF s bad).1 ≤ 65536 := by
  unfold smallF; split
  · simp
  · omega
theorem manyF_lt (s : List Nat) (bad : Bool) : (manyF s bad).1 ≤ s.length := by
  have h1 := numF_le s bad
  unfold manyF; split
  · simp
  · omega
theorem valsF_le : ∀ (k : Nat) (s : List Nat) (bad : Bool), (valsF k s bad).2.1.length ≤ s.length
  | 0, _, _ => Nat.le_refl _
  | k + 1, s, bad => Nat.le_trans (valsF_le k _ _) (numF_le s bad)
theorem valuesF_le (s : List Nat) (bad : Bool) : (valuesF s bad).2.1.length ≤ s.length := Nat.le_trans (valsF_le _ _ _) (manyF_le s bad)
theorem valuesF_len (s : List Nat) (bad : Bool) : (valuesF s bad).1.length ≤ s.length := by
  unfold valuesF; rw [valsF_len]; exact manyF_lt s bad
end Rb
set_option maxRecDepth 20000 in
set_option maxHeartbeats 1600000 in
theorem log_any (g B : Nat) (s : List Nat) (w : World) (h : Rdr 66 w g B s false) (hB : B ≤ g) (hs : Rb.Bytes s) (hl : s.length ≤ 10000000000) :
    Calls Tryz.prog 29 #[.pointer (some ⟨g, 0, none⟩)] w fun e w' => ∃ v' l' s', e = .returned v' ∧ OwnL w' w.heap.size v' l' ∧ ((Rb.logF s).2 = false → l' = (Rb.logF s).1) ∧ Rdr 66 w' g B s' (Rb.logF s).2 ∧ w.grownBy w' (some g) := by
  have HS := Lib.hid (fun (s' : List Nat) (b' : Bool) (W : World) h1 h2 h3 => small_any g B s' b' W h1 hB h2 h3)
  have HM := Lib.hid (fun (s' : List Nat) (b' : Bool) (W : World) h1 h2 h3 => many_any g B s' b' W h1 hB h2 h3)
  have HVs := Lib.hid (fun (s' : List Nat) (b' : Bool) (W : World) h1 h2 h3 => rvalues_any g B s' b' W h1 hB h2 h3)
  have hg0 := h.lt
  have h0 := Lib.hid (h.grown hB (World.grownBy_alloc w (.cells #[.slice none 0 0, .slice none 0 0, .slice none 0 0, .int .i64 0, .int .u64 0] 26) none) (fun k e => by cases e))
  have HSs := Lib.hid hs
  have hx1 := Rb.smallF_ok false hs
  have hx2 := Rb.smallF_le s false
  have hx3 := Rb.smallF_lt s false
  go_enter Tryz.func29, Tryz.ntmps29
  go_wp2_with fail
  go_step3
  go_wp2_with fail
  refine (HS.out s false _ h0.out HSs.out (by omega)).mono ?_
  rintro e w1 ⟨rfl, hr1, hg1⟩
  have HR1 := Lib.hid hr1
  have HG1 := Lib.hid (((World.grownBy_alloc w (.cells #[.slice none 0 0, .slice none 0 0, .slice none 0 0, .int .i64 0, .int .u64 0] 26) (some g))).trans hg1)
  have B1 := (Blk.new w 26 #[.slice none 0 0, .slice none 0 0, .slice none 0 0, .int .i64 0, .int .u64 0]).grown hg1 (by simp; omega)
  generalize hSe : Rb.smallF s false = x at *
  obtain ⟨st, s1, b1⟩ := x
  simp only at *
  have HSe := Lib.hid hSe
  clear hSe
  have c3 : w1.cell? ⟨w.heap.size, 3, none⟩ = some (.int .i64 0) := B1.cell 3
  have f3 := B1.frozen 3
  have HB2 := Lib.hid (show Blk (w1.setCell ⟨w.heap.size, 3, none⟩ (.int .i64 st)) w.heap.size _ #[.slice none 0 0, .slice none 0 0, .slice none 0 0, .int .i64 st, .int .u64 0] from B1.set_ 3 _)
  have HR2 := Lib.hid (HR1.out.grown hB (grown_setCell w1 ⟨w.heap.size, 3, none⟩ (.int .i64 st)) (fun k e => by cases e; exact hg0))
  have HG2 := Lib.hid (HG1.out.andThen (grown_setCell w1 ⟨w.heap.size, 3, none⟩ (.int .i64 st)) (fun j e => by cases e; exact .inl (Nat.le_refl _)))
  have Hx1 := Lib.hid hx1
  have hy1 := Lib.hid (Rb.manyF_ok b1 hx1)
  have hy2 := Rb.manyF_le s1 b1
  have hy3 := Rb.manyF_lt s1 b1
  clear hr1 hg1 h0 hx1
  go_wp2_with fail
  go_step3
  go_wp2_with fail
  refine (HM.out s1 b1 _ HR2.out Hx1.out (by omega)).mono ?_
  rintro e w3 ⟨rfl, hr3, hg3⟩
  generalize hMe : Rb.manyF s1 b1 = x at *
  obtain ⟨n, s3, b3⟩ := x
  simp only at *
  have HMe := Lib.hid hMe
  clear hMe
  have HR3 := Lib.hid hr3
  have HG3 := Lib.hid (HG2.out.trans hg3)
  have HB3 := Lib.hid (HB2.out.grown hg3 (by simp; omega))
  clear hr3 hg3 c3 f3 B1
  go_upto_block 0 with fail
  go_cut [] (fun wx => ∃ u pre s4 b4, Hid (Rb.picksF n s3 b3 = (pre, s4, b4)) ∧ Hid (Rb.Bytes s4 ∧ s4.length ≤ s.length) ∧ Hid (Blk wx w.heap.size 26 #[u, .slice none 0 0, .slice none 0 0, .int .i64 st, .int .u64 0]) ∧ Hid (OwnP wx (w.heap.size + 1) u pre) ∧ Hid (Rdr 66 wx g B s4 b4) ∧ Hid (w.grownBy wx (some g)))
  case first =>
    obtain ⟨i0, hi0, hz0, hz1, hz2⟩ := info_parts info_pick
    go_wp2_with fail
    go_loopg [12] n (fun q i wr => ∃ (k : Nat) (pre : List (Int × Int)) (u : Value) (s4 : List Nat) (b4 : Bool), k ≤ n ∧ q = n - k ∧ i = .int .i64 k ∧ Hid (pre.length = k ∧ Rb.picksF n s3 b3 = (pre ++ (Rb.picksF (n - k) s4 b4).1, (Rb.picksF (n - k) s4 b4).2)) ∧ Hid (Rb.Bytes s4 ∧ s4.length ≤ s.length) ∧ Hid (Blk wr w.heap.size 26 #[u, .slice none 0 0, .slice none 0 0, .int .i64 st, .int .u64 0]) ∧ Hid (OwnP wr (w.heap.size + 1) u pre) ∧ Hid (Rdr 66 wr g B s4 b4) ∧ Hid (w.grownBy wr (some g)))
    case atStart => exact ⟨0, [], .slice none 0 0, s3, b3, Nat.zero_le _, rfl, rfl, Lib.hid ⟨rfl, by simp⟩, Lib.hid ⟨hy1.out, by omega⟩, HB3, Lib.hid (OwnP.nil _ _), HR3, HG3⟩
    case round =>
      obtain ⟨k, pre, u, s4, b4, hk, hq, rfl, hp, hbs, hB4, ho, hr, hgr⟩ := hrel
      have Hq := Lib.hid hq
      clear hq
      obtain ⟨wo, rfl⟩ : ∃ x : World, x = wr := ⟨_, rfl⟩
      by_cases hlt : k < n
      · have hst0 : Rb.picksF n s3 b3 = (pre ++ (Rb.stage (n - (k + 1)) 0 0 0 s4 b4).1, (Rb.stage (n - (k + 1)) 0 0 0 s4 b4).2) := by
          rw [Rb.stage_0, show n - (k + 1) + 1 = n - k by omega]; exact hp.out.2
        have Hst0 := Lib.hid hst0
        have hpl : pre.length ≤ 10000000000 := by have := hp.out.1; omega
        have Hpl := Lib.hid hp.out.1
        have hRlt := hB4.out.lt
        have hglt := hr.out.lt
        have hT : wo.grownBy (wo.alloc (.cells #[.int .i64 0, .int .i64 0] 87)) none := World.grownBy_alloc _ _ _
        have BT0 := Lib.hid (Blk.new wo 87 #[.int .i64 0, .int .i64 0])
        have BR0 := Lib.hid (hB4.out.alloc (.cells #[.int .i64 0, .int .i64 0] 87))
        have Ho0 := Lib.hid (own_kept ho.out hT (fun g e => by cases e))
        have Hr0 := Lib.hid (hr.out.grown hB hT (fun k e => by cases e))
        have Hg0 := Lib.hid (hgr.out.trans (World.grownBy_alloc wo (.cells #[.int .i64 0, .int .i64 0] 87) (some g)))
        have hgw := hgr.out.size
        clear hst0 hp hB4 ho hr hT
        go_wp2_with fail
        go_loopg [14] 2 (fun q i wi => ∃ (j : Nat) (a b : Int) (s5 : List Nat) (b5 : Bool), j ≤ 2 ∧ q = 2 - j ∧ i = .int .i64 j ∧ Hid (Rb.picksF n s3 b3 = (pre ++ (Rb.stage (n - (k + 1)) j a b s5 b5).1, (Rb.stage (n - (k + 1)) j a b s5 b5).2)) ∧ Hid (Rb.Bytes s5 ∧ s5.length ≤ s.length) ∧ Hid (Blk wi wo.heap.size 87 #[.int .i64 a, .int .i64 b]) ∧ Hid (Blk wi w.heap.size 26 #[u, .slice none 0 0, .slice none 0 0, .int .i64 st, .int .u64 0]) ∧ Hid (OwnP wi (w.heap.size + 1) u pre) ∧ Hid (Rdr 66 wi g B s5 b5) ∧ Hid (w.grownBy wi (some g)))
        case atStart => exact ⟨0, 0, 0, s4, b4, by omega, rfl, rfl, Hst0, hbs, BT0, BR0, Ho0, Hr0, Hg0⟩
        case round =>
          obtain ⟨j, a, b, s5, b5, hj, hq, rfl, hst, hbs5, hBT, hBR, ho, hr, hg⟩ := hrel
          have Hq2 := Lib.hid hq
          clear hq
          obtain ⟨wi, rfl⟩ : ∃ x : World, x = wr := ⟨_, rfl⟩
          by_cases hj2 : j < 2
          · have hx1 := Rb.smallF_ok b5 hbs5.out.1
            have hx2 := Rb.smallF_le s5 b5
            have hx3 := Rb.smallF_lt s5 b5
            have HBad := Lib.hid (fun h => hst.out.trans (by rw [Rb.stage_bad hj2 h] : _ = (pre ++ ([] : List (Int × Int)), (Rb.smallF s5 b5).2)))
            have HOne := Lib.hid (fun (h : (Rb.smallF s5 b5).2.2 = false) => (Rb.stage_one (m := n - (k + 1)) (a := a) (b := b) h))
            have HTwo := Lib.hid (fun (h : (Rb.smallF s5 b5).2.2 = false) => (Rb.stage_two (m := n - (k + 1)) (a := a) (b := b) h))
            have HSm := Lib.hid (HS.out s5 b5 wi hr.out hbs5.out.1 (by have := hbs5.out.2; omega))
            have hl5 := hbs5.out.2
            generalize Rb.smallF s5 b5 = x at *
            obtain ⟨c, s6, b6⟩ := x
            simp only at *
            have hTR : wo.heap.size ≠ w.heap.size := by omega
            rcases (show j = 0 ∨ j = 1 by omega) with rfl | rfl
            · go_wp2_with fail
              refine HSm.out.mono ?_
              rintro e w5 ⟨rfl, hr5, hg5⟩
              have hBT5 := hBT.out.grown hg5 (by simp; omega)
              have ct : w5.cell? ⟨wo.heap.size, 0, none⟩ = some (.int .i64 a) := hBT5.cell 0
              have ft := hBT5.frozen 0
              have hs5 : w5.grownBy (w5.setCell ⟨wo.heap.size, 0, none⟩ (.int .i64 c)) (some wo.heap.size) := grown_setCell w5 ⟨wo.heap.size, 0, none⟩ (.int .i64 c)
              have HBT6 := Lib.hid (show Blk (w5.setCell ⟨wo.heap.size, 0, none⟩ (.int .i64 c)) wo.heap.size 87 #[.int .i64 c, .int .i64 b] from hBT5.set_ 0 _)
              have HBR6 := Lib.hid ((hBR.out.grown hg5 (by simp; omega)).grown hs5 (by simp; omega))
              have Ho6 := Lib.hid (ownsRow_setCell_other (own_kept ho.out hg5 (fun k' e => by cases e; intro h'; have := own_ge ho.out _ h'; omega)) (a := ⟨wo.heap.size, 0, none⟩) (fun e => own_blk_ne (own_kept ho.out hg5 (fun k' e => by cases e; intro h'; have := own_ge ho.out _ h'; omega)) hBT5 (by decide) e) (.int .i64 c))
              have HR6 := Lib.hid (hr5.grown hB hs5 (fun k' e => by cases e; omega))
              have HG6 := Lib.hid ((hg.out.trans hg5).andThen hs5 (fun j' e => by cases e; exact .inl hgw))
              have hbd : (w5.setCell ⟨wo.heap.size, 0, none⟩ (.int .i64 c)).cell? ⟨g, 1, none⟩ = some (.bool b6) := by obtain ⟨A, cp, hb, -, -⟩ := HR6.out; exact hb.cell 1
              clear hr5 hg5 hBT5 hs5
              cases b6 with
              | true =>
                have HEnd := Lib.hid (HBad.out rfl)
                go_wp2_with fail
                go_meet
                exact ⟨u, pre, s6, true, Lib.hid (HEnd.out.trans (by rw [List.append_nil])), Lib.hid ⟨hx1, by omega⟩, HBR6, Ho6, HR6, HG6⟩
              | false =>
                have HNext := Lib.hid (show Rb.picksF n s3 b3 = (pre ++ (Rb.stage (n - (k + 1)) 1 (c : Int) b s6 false).1, (Rb.stage (n - (k + 1)) 1 (c : Int) b s6 false).2) by rw [← HOne.out rfl]; exact hst.out)
                go_wp2_with fail
                go_roundg (2 - 1)
                case rel => exact ⟨1, (c : Int), b, s6, false, by omega, rfl, rfl, HNext, Lib.hid ⟨hx1, by omega⟩, HBT6, HBR6, Ho6, HR6, HG6⟩
                case measure => rw [Hq2.out]; omega
            · go_wp2_with fail
              refine HSm.out.mono ?_
              rintro e w5 ⟨rfl, hr5, hg5⟩
              have hBT5 := hBT.out.grown hg5 (by simp; omega)
              have ct : w5.cell? ⟨wo.heap.size, 1, none⟩ = some (.int .i64 b) := hBT5.cell 1
              have ft := hBT5.frozen 1
              have hs5 : w5.grownBy (w5.setCell ⟨wo.heap.size, 1, none⟩ (.int .i64 c)) (some wo.heap.size) := grown_setCell w5 ⟨wo.heap.size, 1, none⟩ (.int .i64 c)
              have HBT6 := Lib.hid (show Blk (w5.setCell ⟨wo.heap.size, 1, none⟩ (.int .i64 c)) wo.heap.size 87 #[.int .i64 a, .int .i64 c] from hBT5.set_ 1 _)
              have HBR6 := Lib.hid ((hBR.out.grown hg5 (by simp; omega)).grown hs5 (by simp; omega))
              have Ho6 := Lib.hid (ownsRow_setCell_other (own_kept ho.out hg5 (fun k' e => by cases e; intro h'; have := own_ge ho.out _ h'; omega)) (a := ⟨wo.heap.size, 1, none⟩) (fun e => own_blk_ne (own_kept ho.out hg5 (fun k' e => by cases e; intro h'; have := own_ge ho.out _ h'; omega)) hBT5 (by decide) e) (.int .i64 c))
              have HR6 := Lib.hid (hr5.grown hB hs5 (fun k' e => by cases e; omega))
              have HG6 := Lib.hid ((hg.out.trans hg5).andThen hs5 (fun j' e => by cases e; exact .inl hgw))
              have hbd : (w5.setCell ⟨wo.heap.size, 1, none⟩ (.int .i64 c)).cell? ⟨g, 1, none⟩ = some (.bool b6) := by obtain ⟨A, cp, hb, -, -⟩ := HR6.out; exact hb.cell 1
              clear hr5 hg5 hBT5 hs5
              cases b6 with
              | true =>
                have HEnd := Lib.hid (HBad.out rfl)
                go_wp2_with fail
                go_meet
                exact ⟨u, pre, s6, true, Lib.hid (HEnd.out.trans (by rw [List.append_nil])), Lib.hid ⟨hx1, by omega⟩, HBR6, Ho6, HR6, HG6⟩
              | false =>
                have HNext := Lib.hid (show Rb.picksF n s3 b3 = (pre ++ (Rb.stage (n - (k + 1)) 2 a (c : Int) s6 false).1, (Rb.stage (n - (k + 1)) 2 a (c : Int) s6 false).2) by rw [← HTwo.out rfl]; exact hst.out)
                go_wp2_with fail
                go_roundg (2 - 2)
                case rel => exact ⟨2, a, (c : Int), s6, false, by omega, rfl, rfl, HNext, Lib.hid ⟨hx1, by omega⟩, HBT6, HBR6, Ho6, HR6, HG6⟩
                case measure => rw [Hq2.out]; omega
          · obtain rfl : j = 2 := by omega
            have HF := Lib.hid (show Rb.picksF n s3 b3 = ((pre ++ [(a, b)]) ++ (Rb.picksF (n - (k + 1)) s5 b5).1, (Rb.picksF (n - (k + 1)) s5 b5).2) by
              rw [hst.out, Rb.stage_2]; simp)
            have t0 : wi.cell? ⟨wo.heap.size, 0, none⟩ = some (.int .i64 a) := hBT.out.cell 0
            have t1 : wi.cell? ⟨wo.heap.size, 1, none⟩ = some (.int .i64 b) := hBT.out.cell 1
            have r0 : wi.cell? ⟨w.heap.size, 0, none⟩ = some u := hBR.out.cell 0
            have hT : wi.grownBy (wi.alloc (.cells #[.int .i64 a, .int .i64 b] 56)) none := World.grownBy_alloc _ _ _
            have HNb := Lib.hid (Blk.new wi 56 #[.int .i64 a, .int .i64 b])
            have hwi := hg.out.size
            have hRlt := hBR.out.lt
            go_wp2_with (at_builtin; go_must (refine wpList_append_any _ rfl _ _ 22 rfl (w.heap.size + 1) 56 i0 _ 2 16 Tryz.underlying22 hi0 hz0 hz1 hz2 rfl (by decide) _ pre.length _ rfl (own_kept ho.out hT (fun g e => by cases e)) (wi.heap.size + 1) _ 1 _ [.int .i64 a, .int .i64 b] rfl (reads_12 (by omega) (HNb.out.cell 0) (HNb.out.cell 1)) ?d2 ?d3 ?d4 ?d5 ?_))
            case d2 => intro u hu; simp at hu; rcases hu with rfl | rfl <;> rfl
            case d3 => unfold maxLen; omega
            case d4 => omega
            case d5 => first | omega | (simp; omega)
            intro v3 w3' hown3 hg3 hat3
            obtain ⟨A3, e3, rfl, -, -, -⟩ := own_form hown3
            have hB3 := (hBR.out.alloc (.cells #[.int .i64 a, .int .i64 b] 56)).grown hg3 (fun e => by have := own_ge ho.out _ e.symm; omega)
            have r1 : w3'.cell? ⟨w.heap.size, 0, none⟩ = some u := hB3.cell 0
            have r2 := hB3.frozen 0
            have hgs : w3'.grownBy (w3'.setCell ⟨w.heap.size, 0, none⟩ (.slice A3 (pre.length + 1) e3)) (some w.heap.size) := grown_setCell w3' ⟨w.heap.size, 0, none⟩ (.slice A3 (pre.length + 1) e3)
            have hTn : wi.grownBy (wi.alloc (.cells #[.int .i64 a, .int .i64 b] 56)) u.ownBlock := World.grownBy_alloc _ _ _
            have HBR7 := Lib.hid (show Blk (w3'.setCell ⟨w.heap.size, 0, none⟩ (.slice A3 (pre.length + 1) e3)) w.heap.size 26 #[.slice A3 (pre.length + 1) e3, .slice none 0 0, .slice none 0 0, .int .i64 st, .int .u64 0] from hB3.set_ 0 _)
            have Ho7 := Lib.hid (show OwnP (w3'.setCell ⟨w.heap.size, 0, none⟩ (.slice A3 (pre.length + 1) e3)) (w.heap.size + 1) (.slice A3 (pre.length + 1) e3) (pre ++ [(a, b)]) by
              unfold OwnP; rw [List.length_append, cellsP_snoc]; exact ownsRow_setCell_below hown3 (a := ⟨w.heap.size, 0, none⟩) (Nat.lt_succ_self _) (.slice A3 (pre.length + 1) e3))
            have HR7 := Lib.hid ((hr.out.grown hB (hTn.trans hg3) (fun k' e => by have := own_ge ho.out _ e; omega)).grown hB hgs (fun k' e => by cases e; exact hg0))
            have HG7 := Lib.hid ((hg.out.andThen (hTn.trans hg3) (fun j' e => by have := own_ge ho.out _ e; exact .inl (by omega))).andThen hgs (fun j' e => by cases e; exact .inl (Nat.le_refl _)))
            clear hown3 hg3 hat3 hB3 hgs hTn
            go_wp2_with fail
            go_roundg (n - (k + 1))
            case rel => exact ⟨k + 1, pre ++ [(a, b)], .slice A3 (pre.length + 1) e3, s5, b5, hlt, rfl, by go_num, Lib.hid ⟨by rw [List.length_append, Hpl.out]; rfl, HF.out⟩, hbs5, HBR7, Ho7, HR7, HG7⟩
            case measure => rw [Hq.out]; omega
      · obtain rfl : k = n := by omega
        have hv := hp.out.2
        rw [Nat.sub_self] at hv
        have HV := Lib.hid (show Rb.picksF k s3 b3 = (pre, s4, b4) by rw [hv]; show (pre ++ [], _) = _; rw [List.append_nil]; rfl)
        clear hv hp
        go_wp2_with fail
        go_meet
        exact ⟨u, pre, s4, b4, HV, hbs, hB4, ho, hr, hgr⟩
  case rest =>
    obtain ⟨u, pre, s4, b4, hpf, hbs4, hBc, hoc, hrc, hgc⟩ := hcut
    obtain ⟨hb1, hb2⟩ := hbs4.out
    have HV1 := Lib.hid (HVs.out s4 b4 wc hrc.out hb1 (by omega))
    have hv1 := Rb.valuesF_ok b4 hb1
    have hv2 := Rb.valuesF_le s4 b4
    have hv3 := Rb.valuesF_len s4 b4
    clear hb1
    generalize hVe : Rb.valuesF s4 b4 = x at *
    obtain ⟨xs, s5, b5⟩ := x
    simp only at *
    have HVe := Lib.hid hVe
    obtain ⟨hv1, hv1'⟩ := hv1
    have Hv1 := Lib.hid hv1
    clear hVe hv1'
    go_wp2_with fail
    refine HV1.out.mono ?_
    rintro e w5 ⟨v5, rfl, ho5, hr5, hg5⟩
    have HW1 := Lib.hid (HVs.out s5 b5 w5 hr5 Hv1.out (by omega))
    have hv4 := Rb.valuesF_ok b5 Hv1.out
    have hv5 := Rb.valuesF_le s5 b5
    have hv6 := Rb.valuesF_len s5 b5
    generalize hVe : Rb.valuesF s5 b5 = x at *
    obtain ⟨ys, s6, b6⟩ := x
    simp only at *
    have HVf := Lib.hid hVe
    obtain ⟨hv4, hv4'⟩ := hv4
    have Hv4 := Lib.hid hv4
    have HO5 := Lib.hid ho5
    have HG5 := Lib.hid hg5
    clear hVe hv4 hv4' ho5 hr5 hg5
    go_wp2_with fail
    refine HW1.out.mono ?_
    rintro e w6 ⟨v6, rfl, ho6, hr6, hg6⟩
    have hRc := hBc.out.lt
    have hB6 := (hBc.out.grown HG5.out (by simp; omega)).grown hg6 (by simp; omega)
    obtain ⟨A5, c5, rfl, -, -, -⟩ := own_form HO5.out
    obtain ⟨A6, c6, rfl, -, -, -⟩ := own_form ho6
    have B7 := hB6.set_ 1 (.slice A5 xs.length c5)
    have B8 := B7.set_ 2 (.slice A6 ys.length c6)
    have d1 : w6.cell? ⟨w.heap.size, 1, none⟩ = some (.slice none 0 0) := hB6.cell 1
    have d2 : (w6.setCell ⟨w.heap.size, 1, none⟩ (.slice A5 xs.length c5)).cell? ⟨w.heap.size, 2, none⟩ = some (.slice none 0 0) := B7.cell 2
    have f1 := hB6.frozen 1
    have f2 := B7.frozen 2
    have g1 := grown_setCell w6 ⟨w.heap.size, 1, none⟩ (.slice A5 xs.length c5)
    have g2 := grown_setCell (w6.setCell ⟨w.heap.size, 1, none⟩ (.slice A5 xs.length c5)) ⟨w.heap.size, 2, none⟩ (.slice A6 ys.length c6)
    have hw5 := HG5.out.size
    have hw6 := hg6.size
    have hwc := hgc.out.size
    have HR8 := Lib.hid ((hr6.grown hB g1 (fun k e => by cases e; exact hg0)).grown hB g2 (fun k e => by cases e; exact hg0))
    have HG8 := Lib.hid ((((hgc.out.trans HG5.out).trans hg6).andThen g1 (fun j e => by cases e; exact .inl (Nat.le_refl _))).andThen g2 (fun j e => by cases e; exact .inl (Nat.le_refl _)))
    have HP8 := Lib.hid (show OwnP ((w6.setCell ⟨w.heap.size, 1, none⟩ (.slice A5 xs.length c5)).setCell ⟨w.heap.size, 2, none⟩ (.slice A6 ys.length c6)) (w.heap.size + 1) u pre from
      ownsRow_setCell_below (ownsRow_setCell_below (own_kept (own_kept hoc.out HG5.out (fun k' e => by cases e; intro h'; have := own_ge hoc.out _ h'; omega)) hg6 (fun k' e => by cases e; intro h'; have := own_ge hoc.out _ h'; omega)) (a := ⟨w.heap.size, 1, none⟩) (Nat.lt_succ_self _) _) (a := ⟨w.heap.size, 2, none⟩) (Nat.lt_succ_self _) _)
    have q5 : OwnV w5 (w.heap.size + 1) (.slice A5 xs.length c5) xs := own_more HO5.out hRc
    have q6 : OwnV w6 (w.heap.size + 1) (.slice A6 ys.length c6) ys := own_more ho6 (Nat.le_trans hRc hw5)
    have HX8 := Lib.hid (show OwnV ((w6.setCell ⟨w.heap.size, 1, none⟩ (.slice A5 xs.length c5)).setCell ⟨w.heap.size, 2, none⟩ (.slice A6 ys.length c6)) (w.heap.size + 1) (.slice A5 xs.length c5) xs from
      ownsRow_setCell_below (ownsRow_setCell_below (own_kept q5 hg6 (fun k' e => by cases e; intro h'; have := own_ge q5 _ h'; omega)) (a := ⟨w.heap.size, 1, none⟩) (Nat.lt_succ_self _) _) (a := ⟨w.heap.size, 2, none⟩) (Nat.lt_succ_self _) _)
    have HY8 := Lib.hid (show OwnV ((w6.setCell ⟨w.heap.size, 1, none⟩ (.slice A5 xs.length c5)).setCell ⟨w.heap.size, 2, none⟩ (.slice A6 ys.length c6)) (w.heap.size + 1) (.slice A6 ys.length c6) ys from
      ownsRow_setCell_below (ownsRow_setCell_below q6 (a := ⟨w.heap.size, 1, none⟩) (Nat.lt_succ_self _) _) (a := ⟨w.heap.size, 2, none⟩) (Nat.lt_succ_self _) _)
    have HB8 := Lib.hid (show Blk ((w6.setCell ⟨w.heap.size, 1, none⟩ (.slice A5 xs.length c5)).setCell ⟨w.heap.size, 2, none⟩ (.slice A6 ys.length c6)) w.heap.size 26 #[u, .slice A5 xs.length c5, .slice A6 ys.length c6, .int .i64 st, .int .u64 0] from B8)
    obtain ⟨Au, cu, rfl, -, -, -⟩ := own_form hoc.out
    have HLg := Lib.hid (Rb.logF_of HSe.out HMe.out hpf.out HVe.out HVf.out)
    clear g1 g2 q5 q6 B7 B8 hr6 ho6 hB6
    go_upto_region 14 with fail
    generalize hW8 : World.setCell (World.setCell _ _ _) _ _ = W8 at HR8 HG8 HP8 HX8 HY8 HB8 ⊢
    clear hW8 d1 d2 f1 f2
    obtain ⟨A8, c8, hbk8, hc8, hrd8⟩ := HR8.out
    have j0 : W8.cell? ⟨g, 0, none⟩ = some (.slice A8 s6.length c8) := hbk8.cell 0
    have j1 : W8.cell? ⟨g, 1, none⟩ = some (.bool b6) := hbk8.cell 1
    have j2 := hbk8.frozen 1
    have HRd8 := Lib.hid hrd8
    have hgR : g ≠ w.heap.size := by omega
    have HXl := Lib.hid (show xs.length ≤ 17592186043904 by omega)
    have HYl := Lib.hid (show ys.length ≤ 17592186043904 by omega)
    clear hrd8
    by_cases h8 : s6.length = 8
    · have e8 : ((s6.length : Int) != 8) = false := by simp; omega
      have HB80 := Lib.hid HB8.out
      have Hby := Lib.hid Hv4.out
      go_wp2_with fail
      go_loopg [58] 8 (fun q i wr => ∃ k : Nat, k ≤ 8 ∧ q = 8 - k ∧ i = .int .i64 k ∧ Hid (Blk wr w.heap.size 26 #[.slice Au pre.length cu, .slice A5 xs.length c5, .slice A6 ys.length c6, .int .i64 st, .int .u64 ((Rb.sumOf (s6.take k) : Nat) : Int)]) ∧ Hid (OwnP wr (w.heap.size + 1) (.slice Au pre.length cu) pre) ∧ Hid (OwnV wr (w.heap.size + 1) (.slice A5 xs.length c5) xs) ∧ Hid (OwnV wr (w.heap.size + 1) (.slice A6 ys.length c6) ys) ∧ Hid (Rdr 66 wr g B s6 b6) ∧ Hid (Reads wr B 1 A8 s6.length (s6.map fun (b : Nat) => Value.int .u8 (b : Int))) ∧ Hid (w.grownBy wr (some g)))
      case atStart => exact ⟨0, by omega, rfl, rfl, HB80, HP8, HX8, HY8, HR8, HRd8, HG8⟩
      case round =>
        obtain ⟨k, hk, hq, rfl, hBr, hPr, hXr, hYr, hRr, hRdr, hGr⟩ := hrel
        have Hq3 := Lib.hid hq
        clear hq
        by_cases hk8 : k < 8
        · obtain ⟨ad, rfl, hadb, hcell⟩ := rdB_at hRdr.out (show k < s6.length by omega)
          have hbyte := Rb.bytes_at Hby.out k
          obtain ⟨hss, hsl⟩ := Rb.sum_step (show k < s6.length by omega) Hby.out
          have r4 := hBr.out.cell 4
          have rf4 := hBr.out.frozen 4
          simp at r4
          have HSt := Lib.hid hss
          have hp8 : (256 : Nat) ^ k = 2 ^ (8 * k) := by rw [show (256 : Nat) = 2 ^ 8 from rfl, ← Nat.pow_mul]
          have hmx : s6.getD k 0 * 2 ^ (8 * k) < 18446744073709551616 := by
            have h1 : s6.getD k 0 * 2 ^ (8 * k) ≤ 255 * 2 ^ (8 * k) := Nat.mul_le_mul_right _ (by omega)
            have h2 : 2 ^ (8 * k) ≤ 2 ^ 56 := Nat.pow_le_pow_right (by omega) (by omega)
            have h3 : (2 : Nat) ^ 56 = 72057594037927936 := rfl
            omega
          have hsl2 : Rb.sumOf (s6.take k) < 18446744073709551616 := by
            have h2 : 2 ^ (8 * k) ≤ 2 ^ 56 := Nat.pow_le_pow_right (by omega) (by omega)
            have h3 : (2 : Nat) ^ 56 = 72057594037927936 := rfl
            rw [hp8] at hsl; omega
          clear hss hsl hp8
          generalize Rb.sumOf (s6.take k) = acc at *
          generalize s6.getD k 0 = b at *
          obtain ⟨m, hm⟩ : ∃ m, m = b * 2 ^ (8 * k) := ⟨_, rfl⟩
          have e2 : IntKind.u64.wrap (b : Int) = (b : Int) := by rw [IntKind.wrap_u64]; omega
          have e3 : IntKind.u64.wrap ((b : Int) * 2 ^ (8 * k)) = (m : Int) := by
            rw [show ((b : Int) * 2 ^ (8 * k)) = ((m : Nat) : Int) by rw [hm, Int.natCast_mul, Int.natCast_pow]; rfl, IntKind.wrap_u64]
            rw [← hm] at hmx; omega
          have e4 : bits .or .u64 (acc : Int) (m : Int) = ((acc ||| m : Nat) : Int) := u64_or_nat acc m hsl2 (by rw [hm]; exact hmx)
          have e5 : IntKind.i64.wrap (8 * (k : Int)) = 8 * (k : Int) := IntWalk.i64_in _ (by omega)
          have e6 : (8 * (k : Int)).toNat = 8 * k := by omega
          have e7 : (0 : Int) ≤ 8 * (k : Int) := by omega
          rw [← hm] at HSt
          clear hmx hm hsl2
          go_wp2_with fail
          go_still_tail 9, (by kernel_rfl)
          have gs : wr.drew.grownBy (wr.drew.setCell ⟨w.heap.size, 4, none⟩ (.int .u64 ((acc ||| m : Nat) : Int))) (some w.heap.size) := grown_setCell wr.drew ⟨w.heap.size, 4, none⟩ (.int .u64 ((acc ||| m : Nat) : Int))
          have gd : wr.grownBy wr.drew none := ⟨rfl, rfl, rfl, Nat.le_refl _, fun _ _ _ => rfl⟩
          have HB11 := Lib.hid (show Blk (wr.drew.setCell ⟨w.heap.size, 4, none⟩ (.int .u64 ((acc ||| m : Nat) : Int))) w.heap.size 26 #[.slice Au pre.length cu, .slice A5 xs.length c5, .slice A6 ys.length c6, .int .i64 st, .int .u64 ((Rb.sumOf (s6.take (k + 1)) : Nat) : Int)] by
            rw [HSt.out]; exact hBr.out.drew.set_ 4 _)
          have HP11 := Lib.hid (show OwnP (wr.drew.setCell ⟨w.heap.size, 4, none⟩ (.int .u64 ((acc ||| m : Nat) : Int))) (w.heap.size + 1) (.slice Au pre.length cu) pre from ownsRow_setCell_below (w := wr.drew) hPr.out (a := ⟨w.heap.size, 4, none⟩) (Nat.lt_succ_self _) _)
          have HX11 := Lib.hid (show OwnV (wr.drew.setCell ⟨w.heap.size, 4, none⟩ (.int .u64 ((acc ||| m : Nat) : Int))) (w.heap.size + 1) (.slice A5 xs.length c5) xs from ownsRow_setCell_below (w := wr.drew) hXr.out (a := ⟨w.heap.size, 4, none⟩) (Nat.lt_succ_self _) _)
          have HY11 := Lib.hid (show OwnV (wr.drew.setCell ⟨w.heap.size, 4, none⟩ (.int .u64 ((acc ||| m : Nat) : Int))) (w.heap.size + 1) (.slice A6 ys.length c6) ys from ownsRow_setCell_below (w := wr.drew) hYr.out (a := ⟨w.heap.size, 4, none⟩) (Nat.lt_succ_self _) _)
          have HR11 := Lib.hid ((hRr.out.grown hB gd (fun k e => by cases e)).grown hB gs (fun k e => by cases e; exact hg0))
          have HRd11 := Lib.hid (((hRdr.out.drew)).setCell (p := ⟨w.heap.size, 4, none⟩) (show B ≤ w.heap.size by omega) (.int .u64 ((acc ||| m : Nat) : Int)))
          have HG11 := Lib.hid ((hGr.out.trans (show wr.grownBy wr.drew (some g) from ⟨rfl, rfl, rfl, Nat.le_refl _, fun _ _ _ => rfl⟩)).andThen gs (fun j e => by cases e; exact .inl (Nat.le_refl _)))
          clear gs gd
          go_wp2_with fail
          go_roundg (8 - (k + 1))
          case rel => exact ⟨k + 1, hk8, rfl, by go_num, HB11, HP11, HX11, HY11, HR11, HRd11, HG11⟩
          case measure => rw [Hq3.out]; omega
        · obtain rfl : k = 8 := by omega
          have hgood : (Rb.logF s).2 = b6 := by rw [HLg.out]; simp [h8]
          have htk : s6.take 8 = s6 := List.take_of_length_le (by omega)
          have hBr' := hBr.out
          rw [htk] at hBr'
          have Hlog := Lib.hid (show (⟨st, pre, xs, ys, Rb.sumOf s6⟩ : Rb.Lg) = (Rb.logF s).1 by rw [HLg.out])
          have Hgood := Lib.hid hgood
          clear hgood htk
          generalize Rb.sumOf s6 = su at *
          obtain ⟨⟨l0, l1, l2, l3, l4⟩, ⟨m0, m1, m2, m3, m4⟩, ⟨n1, n2, n3, n4⟩, hB10, hgr10⟩ := log_same hBr'
          have HR10 := Lib.hid (hRr.out.grown hB hgr10 (fun k e => by cases e; exact hg0))
          have HP10 := Lib.hid (show OwnP _ (w.heap.size + 1) (.slice Au pre.length cu) pre from own_kept hPr.out hgr10 (fun k' e => by cases e; intro h'; have := own_ge hPr.out _ h'; omega))
          have HX10 := Lib.hid (show OwnV _ (w.heap.size + 1) (.slice A5 xs.length c5) xs from own_kept hXr.out hgr10 (fun k' e => by cases e; intro h'; have := own_ge hXr.out _ h'; omega))
          have HY10 := Lib.hid (show OwnV _ (w.heap.size + 1) (.slice A6 ys.length c6) ys from own_kept hYr.out hgr10 (fun k' e => by cases e; intro h'; have := own_ge hYr.out _ h'; omega))
          have HG10 := Lib.hid (hGr.out.andThen hgr10 (fun j e => by cases e; exact .inl (Nat.le_refl _)))
          have HB10 := Lib.hid hB10
          clear hBr' hB10 hgr10
          go_wp2_with fail
          have k0 := HB10.out.cell 0
          have k1 := HB10.out.cell 1
          have k2 := HB10.out.cell 2
          have k3 := HB10.out.cell 3
          have k4 := HB10.out.cell 4
          simp at k0 k1 k2 k3 k4
          rw [Exit.noGoto_ret]
          refine bodyPost_ret (v := .agg #[.slice Au pre.length cu, .slice A5 xs.length c5, .slice A6 ys.length c6, .int .i64 st, .int .u64 su]) (by simp [results, Tryz.results29, go_sem, k0, k1, k2, k3, k4]) rfl ⟨_, ⟨st, pre, xs, ys, su⟩, s6, rfl, ⟨_, _, _, rfl, own_more HP10.out (Nat.le_succ _), own_more HX10.out (Nat.le_succ _), own_more HY10.out (Nat.le_succ _), HXl.out, HYl.out⟩, fun _ => Hlog.out, by rw [Hgood.out]; exact HR10.out, HG10.out⟩
    · have e8 : ((s6.length : Int) != 8) = true := by simp; omega
      have gs : W8.grownBy (W8.setCell ⟨g, 1, none⟩ (.bool true)) (some g) := grown_setCell W8 ⟨g, 1, none⟩ (.bool true)
      have hB9 := HB8.out.grown gs (by simp; omega)
      have HR9 := HR8.out.toBad hB
      have HP9 := own_kept HP8.out gs (fun k' e => by cases e; intro h'; have := own_ge HP8.out _ h'; omega)
      have HX9 := own_kept HX8.out gs (fun k' e => by cases e; intro h'; have := own_ge HX8.out _ h'; omega)
      have HY9 := own_kept HY8.out gs (fun k' e => by cases e; intro h'; have := own_ge HY8.out _ h'; omega)
      have HG9 := HG8.out.trans gs
      obtain ⟨⟨l0, l1, l2, l3, l4⟩, ⟨m0, m1, m2, m3, m4⟩, ⟨n1, n2, n3, n4⟩, hB10, hgr10⟩ := log_same hB9
      have HR10 := Lib.hid (HR9.grown hB hgr10 (fun k e => by cases e; exact hg0))
      have HP10 := Lib.hid (show OwnP _ (w.heap.size + 1) (.slice Au pre.length cu) pre from own_kept HP9 hgr10 (fun k' e => by cases e; intro h'; have := own_ge HP9 _ h'; omega))
      have HX10 := Lib.hid (show OwnV _ (w.heap.size + 1) (.slice A5 xs.length c5) xs from own_kept HX9 hgr10 (fun k' e => by cases e; intro h'; have := own_ge HX9 _ h'; omega))
      have HY10 := Lib.hid (show OwnV _ (w.heap.size + 1) (.slice A6 ys.length c6) ys from own_kept HY9 hgr10 (fun k' e => by cases e; intro h'; have := own_ge HY9 _ h'; omega))
      have HG10 := Lib.hid (HG9.andThen hgr10 (fun j e => by cases e; exact .inl (Nat.le_refl _)))
      have HB10 := Lib.hid hB10
      clear gs hB9 HR9 HP9 HX9 HY9 HG9 hB10 hgr10
      go_wp2_with fail
      have k0 := HB10.out.cell 0
      have k1 := HB10.out.cell 1
      have k2 := HB10.out.cell 2
      have k3 := HB10.out.cell 3
      have k4 := HB10.out.cell 4
      simp at k0 k1 k2 k3 k4
      have hbad : (Rb.logF s).2 = true := by rw [HLg.out]; simp [h8]
      rw [Exit.noGoto_ret]
      refine bodyPost_ret (v := .agg #[.slice Au pre.length cu, .slice A5 xs.length c5, .slice A6 ys.length c6, .int .i64 st, .int .u64 0]) (by simp [results, Tryz.results29, go_sem, k0, k1, k2, k3, k4]) rfl ⟨_, ⟨st, pre, xs, ys, 0⟩, s6, rfl, ⟨_, _, _, rfl, own_more HP10.out (Nat.le_succ _), own_more HX10.out (Nat.le_succ _), own_more HY10.out (Nat.le_succ _), HXl.out, HYl.out⟩, fun h => (by rw [hbad] at h; cases h), by rw [hbad]; exact HR10.out, HG10.out⟩
end Go.Proofs.YtdpoecjbofofoaaGreatDoor
