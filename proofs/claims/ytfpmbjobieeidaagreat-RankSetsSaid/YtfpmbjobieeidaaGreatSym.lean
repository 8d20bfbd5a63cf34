/-
  The walk of symMerge on standings, over any program that holds the bodies (written by wip/gen_sym.py).
-/
import Derived.Test.YtfpmbjobieeidaaGreatStab
namespace Go.Proofs.YtfpmbjobieeidaaGreat
open Go.Shelf Go.RowKit Go.Lib Go.Sort

section
variable {P : Program} {α : Type} [Inhabited α]
def MergePost (enc : α → List Value) (k : Nat) (w0 : World) (blk off : Nat) (lt : α → α → Bool) (ix : α → Nat) (a b : Nat) (d : Array α) (e : Ending) (w' : World) : Prop :=
  e = .returned (.tuple #[]) ∧ ∃ d', Rk.Post lt ix a b d d' ∧ SWK enc k w0 blk off d' w'

set_option maxHeartbeats 4000000 in
set_option maxRecDepth 1000000 in
theorem sym_left {k : Nat} (L : StbL P k) (enc : α → List Value) (cf : α → α → Int) (hO : SWO (ltOf cf)) (ix : α → Nat) (g : Nat) (cb : Array Value) (blk off cap : Nat) (d0 : Array α) (w0 : World)
    (eg : ∀ args w, (callFunc g args).run P w = .ok (.enter g args) w) (R : RowK enc k w0 blk off d0) (hcmp : CmpLays P g cb enc k cf blk off d0.size w0) (hsz : d0.size < 4611686018427387904)
    (a m b : Nat) (d : Array α) (w : World) (hN : d.size = d0.size) (S : SWK enc k w0 blk off d w) (hm : m = a + 1) (hmb : m < b) (hb : b ≤ d0.size) (hP : Rk.Pre (ltOf cf) ix a (a + 1) b d) :
    Calls P 109 #[.slice (some ⟨blk, off, none⟩) d0.size cap, .int .i64 a, .int .i64 m, .int .i64 b, .func (.func g) #[] cb] w (MergePost enc k w0 blk off (ltOf cf) ix a b d) := by
  have HL := Lib.hid L
  have mixed := L.mixed; have t0 := L.t0; have a0 := L.a0; have z0 := L.z0; have v0 := L.v0; have t3 := L.t3; have a3 := L.a3; have z3 := L.z3; have v3 := L.v3; have t4 := L.t4; have a4 := L.a4; have z4 := L.z4; have v4 := L.v4; have t53 := L.t53; have a53 := L.a53; have z53 := L.z53; have v53 := L.v53; have t110 := L.t110; have a110 := L.a110; have z110 := L.z110; have v110 := L.v110; have t114 := L.t114; have a114 := L.a114; have z114 := L.z114; have v114 := L.v114; have aE := L.aE; have zE := L.zE
  have FG := L.fSym
  have HC : Aside _ := hcmp
  have HN := Lib.hid hN
  have HP := Lib.hid hP
  have S0 : Aside (SWK enc k w0 blk off d w) := S
  clear S L hcmp hN hP
  have h1 : ((m : Int) - (a : Int) == 1) = true := by simp; omega
  have HM := Lib.hid hm
  have hm1 : a < m := by omega
  have hm2 : m ≤ a + 1 := by omega
  clear hm
  go_enter FG, Tryz.ntmps109
  go_wp2
  go_loopg [10, 11] (b - m) (fun kx s10 s11 wr => ∃ i j : Nat, s10 = .int .i64 i ∧ s11 = .int .i64 j ∧ m ≤ i ∧ i ≤ j ∧ j ≤ b ∧ j - i ≤ kx ∧ Aside (SWK enc k w0 blk off d wr) ∧ Hid (i = m ∨ ltOf cf d[i - 1]! d[a]! = true) ∧ Hid (j = b ∨ ltOf cf d[j]! d[a]! = false))
  case atStart => exact ⟨m, b, rfl, rfl, Nat.le_refl _, by omega, Nat.le_refl _, Nat.le_refl _, S0, .inl rfl, .inl rfl⟩
  case round =>
    clear S0
    obtain ⟨i, j, rfl, rfl, hmi, hij, hjb, hkx, S1, C1, C2⟩ := hrel
    by_cases hlt : i < j
    · obtain ⟨h, hh1, hh2, hh⟩ : ∃ h : Nat, i ≤ h ∧ h < j ∧ ((i : Int) + (j : Int)) / 2 = (h : Int) := ⟨(i + j) / 2, by omega, by omega, by omega⟩
      cases hL : ltOf cf d[h]! d[a]! with
      | true =>
        have ea24 : ((h : Int)).toNat = h := by omega
        have pa24 : (0 : Int) ≤ (h : Int) := by omega
        have ba24 : (h : Int) < (d0.size : Int) := by omega
        have ra24 : IntKind.i64.wrap ((h : Int)) = (h : Int) := by rw [IntKind.wrap_i64]; omega
        have ec24 : ((a : Int)).toNat = a := by omega
        have pc24 : (0 : Int) ≤ (a : Int) := by omega
        have bc24 : (a : Int) < (d0.size : Int) := by omega
        have rc24 : IntKind.i64.wrap ((a : Int)) = (a : Int) := by rw [IntKind.wrap_i64]; omega
        obtain ⟨x24, hx24⟩ : ∃ x, x = d[h]! := ⟨_, rfl⟩
        obtain ⟨y24, hy24⟩ : ∃ x, x = d[a]! := ⟨_, rfl⟩
        have l24a := S1.out.ld R HN.out P (h) (by rw [HN.out]; omega)
        have l24b := S1.out.ld R HN.out P (a) (by rw [HN.out]; omega)
        rw [← hx24] at l24a
        rw [← hy24] at l24b
        have hc24 := S1.out.cmp HC.out HN.out x24 y24
        have hv24 : cf x24 y24 < 0 := by rw [hx24, hy24]; exact of_decide_eq_true hL
        have hd24 : decide (cf x24 y24 < 0) = true := decide_eq_true hv24
        have HLv := Lib.hid hL
        clear hx24 hy24 hL
        go_wp2_with fail
        go_quiet_grown (first | (go_at_fn g; refine Calls.grown_of (hc24 _ _)))
        have S2 : Aside (SWK enc k w0 blk off d (grow (wr.drewN nq) osq)) := S1.out.grown nq osq
        clear l24a l24b hc24 S1
        generalize grow (wr.drewN nq) osq = w2 at S2 ⊢
        clear nq osq
        go_wp2
        go_roundg (j - (h + 1))
        case measure => omega
        case rel => exact ⟨h + 1, j, by go_num, rfl, by omega, by omega, hjb, Nat.le_refl _, S2, .inr HLv.out, C2⟩
      | false =>
        have ea24 : ((h : Int)).toNat = h := by omega
        have pa24 : (0 : Int) ≤ (h : Int) := by omega
        have ba24 : (h : Int) < (d0.size : Int) := by omega
        have ra24 : IntKind.i64.wrap ((h : Int)) = (h : Int) := by rw [IntKind.wrap_i64]; omega
        have ec24 : ((a : Int)).toNat = a := by omega
        have pc24 : (0 : Int) ≤ (a : Int) := by omega
        have bc24 : (a : Int) < (d0.size : Int) := by omega
        have rc24 : IntKind.i64.wrap ((a : Int)) = (a : Int) := by rw [IntKind.wrap_i64]; omega
        obtain ⟨x24, hx24⟩ : ∃ x, x = d[h]! := ⟨_, rfl⟩
        obtain ⟨y24, hy24⟩ : ∃ x, x = d[a]! := ⟨_, rfl⟩
        have l24a := S1.out.ld R HN.out P (h) (by rw [HN.out]; omega)
        have l24b := S1.out.ld R HN.out P (a) (by rw [HN.out]; omega)
        rw [← hx24] at l24a
        rw [← hy24] at l24b
        have hc24 := S1.out.cmp HC.out HN.out x24 y24
        have hv24 : ¬ cf x24 y24 < 0 := by rw [hx24, hy24]; exact of_decide_eq_false hL
        have hd24 : decide (cf x24 y24 < 0) = false := decide_eq_false hv24
        have HLv := Lib.hid hL
        clear hx24 hy24 hL
        go_wp2_with fail
        go_quiet_grown (first | (go_at_fn g; refine Calls.grown_of (hc24 _ _)))
        have S2 : Aside (SWK enc k w0 blk off d (grow (wr.drewN nq) osq)) := S1.out.grown nq osq
        clear l24a l24b hc24 S1
        generalize grow (wr.drewN nq) osq = w2 at S2 ⊢
        clear nq osq
        go_wp2
        go_roundg (h - i)
        case measure => omega
        case rel => exact ⟨i, h, rfl, rfl, hmi, hh1, by omega, Nat.le_refl _, S2, C1, .inr HLv.out⟩
    · obtain rfl : i = j := by omega
      clear hkx
      go_wp2
      go_loopg [13] (i - 1 - a) (fun kx s13 wr => ∃ (q : Nat) (dk : Array α), s13 = .int .i64 q ∧ a ≤ q ∧ q + 1 ≤ i ∧ i - 1 - q ≤ kx ∧ Hid (dk.size = d0.size) ∧ Aside (SWK enc k w0 blk off dk wr) ∧ Hid (Rk.IsRot a (a + 1) (q + 1) d dk))
      case atStart => exact ⟨a, d, rfl, Nat.le_refl _, by omega, Nat.le_refl _, HN.out, S1, (Rk.IsRot.none (Nat.le_succ a)).2⟩
      case round =>
        clear S1
        obtain ⟨q, dk, rfl, haq, hqi, hkx, HK, S1, HR⟩ := hrel
        by_cases hlt2 : q < i - 1
        · have HR2 := Lib.hid (Rk.rot_right HR.out haq (by rw [HN.out]; omega))
          clear HR
          have ea44 : ((q : Int)).toNat = q := by omega
          have pa44 : (0 : Int) ≤ (q : Int) := by omega
          have ba44 : (q : Int) < (d0.size : Int) := by omega
          have ra44 : IntKind.i64.wrap ((q : Int)) = (q : Int) := by rw [IntKind.wrap_i64]; omega
          have ec44 : ((q : Int) + 1).toNat = q + 1 := by omega
          have pc44 : (0 : Int) ≤ (q : Int) + 1 := by omega
          have bc44 : (q : Int) + 1 < (d0.size : Int) := by omega
          have rc44 : IntKind.i64.wrap ((q : Int) + 1) = (q : Int) + 1 := by rw [IntKind.wrap_i64]; omega
          have S2 : Aside (SWK enc k w0 blk off (swp dk (q) (q + 1)) ((wr.drew.setCells blk (off + (q) * k) (enc dk[q + 1]!)).setCells blk (off + (q + 1) * k) (enc dk[q]!))) := S1.out.swapped R (q) (q + 1) (by rw [HK.out]; omega) (by rw [HK.out]; omega)
          have l44a := S1.out.ld1 R HK.out P (q) (by rw [HK.out]; omega)
          have l44b := S1.out.ld1 R HK.out P (q + 1) (by rw [HK.out]; omega)
          have s44a := S1.out.st1 R HK.out P (q) (by rw [HK.out]; omega) dk[q + 1]!
          have s44b := S1.out.st2 R HK.out P (q) (q + 1) (by rw [HK.out]; omega) (by rw [HK.out]; omega) dk[q + 1]! dk[q]!
          have n44a : (enc dk[q]!).length = k := R.hk _
          have n44b : (enc dk[q + 1]!).length = k := R.hk _
          generalize enc dk[q]! = cI44 at S2 l44a s44b n44a
          generalize enc dk[q + 1]! = cJ44 at S2 l44b s44a s44b n44b
          clear S1
          go_wp2_with fail
          go_big_region_o
          clear l44a l44b s44a s44b
          generalize (wr.drew.setCells blk (off + (q) * k) cJ44).setCells blk (off + (q + 1) * k) cI44 = w2 at S2 ⊢
          go_wp2
          go_roundg (i - 1 - (q + 1))
          case measure => omega
          case rel => exact ⟨q + 1, swp dk q (q + 1), by go_num, by omega, by omega, Nat.le_refl _, by rw [size_swp]; exact HK.out, S2, HR2⟩
        · obtain rfl : i = q + 1 := by omega
          go_wp2
          go_end0
          refine ⟨rfl, dk, Rk.Post.one_left hO HP.out HR.out (by rw [HN.out]; exact hb) (by omega) hjb (C1.out.imp (fun e => by omega) id) C2.out, S1.out⟩

set_option maxHeartbeats 4000000 in
set_option maxRecDepth 1000000 in
theorem sym_right {k : Nat} (L : StbL P k) (enc : α → List Value) (cf : α → α → Int) (hO : SWO (ltOf cf)) (ix : α → Nat) (g : Nat) (cb : Array Value) (blk off cap : Nat) (d0 : Array α) (w0 : World)
    (eg : ∀ args w, (callFunc g args).run P w = .ok (.enter g args) w) (R : RowK enc k w0 blk off d0) (hcmp : CmpLays P g cb enc k cf blk off d0.size w0) (hsz : d0.size < 4611686018427387904)
    (a m b : Nat) (d : Array α) (w : World) (hN : d.size = d0.size) (S : SWK enc k w0 blk off d w) (ha : a + 1 < m) (hm : b = m + 1) (hb : b ≤ d0.size) (hP : Rk.Pre (ltOf cf) ix a m (m + 1) d) :
    Calls P 109 #[.slice (some ⟨blk, off, none⟩) d0.size cap, .int .i64 a, .int .i64 m, .int .i64 b, .func (.func g) #[] cb] w (MergePost enc k w0 blk off (ltOf cf) ix a b d) := by
  have HL := Lib.hid L
  have mixed := L.mixed; have t0 := L.t0; have a0 := L.a0; have z0 := L.z0; have v0 := L.v0; have t3 := L.t3; have a3 := L.a3; have z3 := L.z3; have v3 := L.v3; have t4 := L.t4; have a4 := L.a4; have z4 := L.z4; have v4 := L.v4; have t53 := L.t53; have a53 := L.a53; have z53 := L.z53; have v53 := L.v53; have t110 := L.t110; have a110 := L.a110; have z110 := L.z110; have v110 := L.v110; have t114 := L.t114; have a114 := L.a114; have z114 := L.z114; have v114 := L.v114; have aE := L.aE; have zE := L.zE
  have FG := L.fSym
  have HC : Aside _ := hcmp
  have HN := Lib.hid hN
  have HP := Lib.hid hP
  have S0 : Aside (SWK enc k w0 blk off d w) := S
  clear S L hcmp hN hP
  have h1 : ((m : Int) - (a : Int) == 1) = false := by simp; omega
  have h2 : ((b : Int) - (m : Int) == 1) = true := by simp; omega
  have HM := Lib.hid hm
  have hm1 : m < b := by omega
  have hm2 : b ≤ m + 1 := by omega
  clear hm
  go_enter FG, Tryz.ntmps109
  go_wp2
  go_loopg [14, 15] (m - a) (fun kx s14 s15 wr => ∃ i j : Nat, s14 = .int .i64 i ∧ s15 = .int .i64 j ∧ a ≤ i ∧ i ≤ j ∧ j ≤ m ∧ j - i ≤ kx ∧ Aside (SWK enc k w0 blk off d wr) ∧ Hid (i = a ∨ ltOf cf d[m]! d[i - 1]! = false) ∧ Hid (j = m ∨ ltOf cf d[m]! d[j]! = true))
  case atStart => exact ⟨a, m, rfl, rfl, Nat.le_refl _, by omega, Nat.le_refl _, Nat.le_refl _, S0, .inl rfl, .inl rfl⟩
  case round =>
    clear S0
    obtain ⟨i, j, rfl, rfl, hmi, hij, hjb, hkx, S1, C1, C2⟩ := hrel
    by_cases hlt : i < j
    · obtain ⟨h, hh1, hh2, hh⟩ : ∃ h : Nat, i ≤ h ∧ h < j ∧ ((i : Int) + (j : Int)) / 2 = (h : Int) := ⟨(i + j) / 2, by omega, by omega, by omega⟩
      cases hL : ltOf cf d[m]! d[h]! with
      | true =>
        have ea24 : ((m : Int)).toNat = m := by omega
        have pa24 : (0 : Int) ≤ (m : Int) := by omega
        have ba24 : (m : Int) < (d0.size : Int) := by omega
        have ra24 : IntKind.i64.wrap ((m : Int)) = (m : Int) := by rw [IntKind.wrap_i64]; omega
        have ec24 : ((h : Int)).toNat = h := by omega
        have pc24 : (0 : Int) ≤ (h : Int) := by omega
        have bc24 : (h : Int) < (d0.size : Int) := by omega
        have rc24 : IntKind.i64.wrap ((h : Int)) = (h : Int) := by rw [IntKind.wrap_i64]; omega
        obtain ⟨x24, hx24⟩ : ∃ x, x = d[m]! := ⟨_, rfl⟩
        obtain ⟨y24, hy24⟩ : ∃ x, x = d[h]! := ⟨_, rfl⟩
        have l24a := S1.out.ld R HN.out P (m) (by rw [HN.out]; omega)
        have l24b := S1.out.ld R HN.out P (h) (by rw [HN.out]; omega)
        rw [← hx24] at l24a
        rw [← hy24] at l24b
        have hc24 := S1.out.cmp HC.out HN.out x24 y24
        have hv24 : cf x24 y24 < 0 := by rw [hx24, hy24]; exact of_decide_eq_true hL
        have hd24 : decide (cf x24 y24 < 0) = true := decide_eq_true hv24
        have HLv := Lib.hid hL
        clear hx24 hy24 hL
        go_wp2_with fail
        go_quiet_grown (first | (go_at_fn g; refine Calls.grown_of (hc24 _ _)))
        have S2 : Aside (SWK enc k w0 blk off d (grow (wr.drewN nq) osq)) := S1.out.grown nq osq
        clear l24a l24b hc24 S1
        generalize grow (wr.drewN nq) osq = w2 at S2 ⊢
        clear nq osq
        go_wp2
        go_roundg (h - i)
        case measure => omega
        case rel => exact ⟨i, h, rfl, rfl, hmi, hh1, by omega, Nat.le_refl _, S2, C1, .inr HLv.out⟩
      | false =>
        have ea24 : ((m : Int)).toNat = m := by omega
        have pa24 : (0 : Int) ≤ (m : Int) := by omega
        have ba24 : (m : Int) < (d0.size : Int) := by omega
        have ra24 : IntKind.i64.wrap ((m : Int)) = (m : Int) := by rw [IntKind.wrap_i64]; omega
        have ec24 : ((h : Int)).toNat = h := by omega
        have pc24 : (0 : Int) ≤ (h : Int) := by omega
        have bc24 : (h : Int) < (d0.size : Int) := by omega
        have rc24 : IntKind.i64.wrap ((h : Int)) = (h : Int) := by rw [IntKind.wrap_i64]; omega
        obtain ⟨x24, hx24⟩ : ∃ x, x = d[m]! := ⟨_, rfl⟩
        obtain ⟨y24, hy24⟩ : ∃ x, x = d[h]! := ⟨_, rfl⟩
        have l24a := S1.out.ld R HN.out P (m) (by rw [HN.out]; omega)
        have l24b := S1.out.ld R HN.out P (h) (by rw [HN.out]; omega)
        rw [← hx24] at l24a
        rw [← hy24] at l24b
        have hc24 := S1.out.cmp HC.out HN.out x24 y24
        have hv24 : ¬ cf x24 y24 < 0 := by rw [hx24, hy24]; exact of_decide_eq_false hL
        have hd24 : decide (cf x24 y24 < 0) = false := decide_eq_false hv24
        have HLv := Lib.hid hL
        clear hx24 hy24 hL
        go_wp2_with fail
        go_quiet_grown (first | (go_at_fn g; refine Calls.grown_of (hc24 _ _)))
        have S2 : Aside (SWK enc k w0 blk off d (grow (wr.drewN nq) osq)) := S1.out.grown nq osq
        clear l24a l24b hc24 S1
        generalize grow (wr.drewN nq) osq = w2 at S2 ⊢
        clear nq osq
        go_wp2
        go_roundg (j - (h + 1))
        case measure => omega
        case rel => exact ⟨h + 1, j, by go_num, rfl, by omega, by omega, hjb, Nat.le_refl _, S2, .inr HLv.out, C2⟩
    · obtain rfl : i = j := by omega
      clear hkx
      go_wp2
      go_loopg [17] (m - i) (fun kx s17 wr => ∃ (q : Nat) (dk : Array α), s17 = .int .i64 q ∧ i ≤ q ∧ q ≤ m ∧ q - i ≤ kx ∧ Hid (dk.size = d0.size) ∧ Aside (SWK enc k w0 blk off dk wr) ∧ Hid (Rk.IsRot q m (m + 1) d dk))
      case atStart => exact ⟨m, d, rfl, hjb, Nat.le_refl _, Nat.le_refl _, HN.out, S1, (Rk.IsRot.none (Nat.le_succ m)).1⟩
      case round =>
        clear S1
        obtain ⟨q, dk, rfl, haq, hqi, hkx, HK, S1, HR⟩ := hrel
        by_cases hlt2 : i < q
        · obtain ⟨q', hq'⟩ : ∃ q', q = q' + 1 := ⟨q - 1, by omega⟩
          have HR2 := Lib.hid (Rk.rot_left (hq' ▸ HR.out) (by omega) (by rw [HN.out]; omega))
          have HQ := Lib.hid hq'
          have hq1 : q' < q := by omega
          have hq2 : q ≤ q' + 1 := by omega
          rw [← hq'] at HR2
          have hqz : (q : Int) - 1 = (q' : Int) := by omega
          clear hq' HR
          have ea44 : ((q : Int)).toNat = q := by omega
          have pa44 : (0 : Int) ≤ (q : Int) := by omega
          have ba44 : (q : Int) < (d0.size : Int) := by omega
          have ra44 : IntKind.i64.wrap ((q : Int)) = (q : Int) := by rw [IntKind.wrap_i64]; omega
          have ec44 : ((q' : Int)).toNat = q' := by omega
          have pc44 : (0 : Int) ≤ (q' : Int) := by omega
          have bc44 : (q' : Int) < (d0.size : Int) := by omega
          have rc44 : IntKind.i64.wrap ((q' : Int)) = (q' : Int) := by rw [IntKind.wrap_i64]; omega
          have S2 : Aside (SWK enc k w0 blk off (swp dk (q) (q')) ((wr.drew.setCells blk (off + (q) * k) (enc dk[q']!)).setCells blk (off + (q') * k) (enc dk[q]!))) := S1.out.swapped R (q) (q') (by rw [HK.out]; omega) (by rw [HK.out]; omega)
          have l44a := S1.out.ld1 R HK.out P (q) (by rw [HK.out]; omega)
          have l44b := S1.out.ld1 R HK.out P (q') (by rw [HK.out]; omega)
          have s44a := S1.out.st1 R HK.out P (q) (by rw [HK.out]; omega) dk[q']!
          have s44b := S1.out.st2 R HK.out P (q) (q') (by rw [HK.out]; omega) (by rw [HK.out]; omega) dk[q']! dk[q]!
          have n44a : (enc dk[q]!).length = k := R.hk _
          have n44b : (enc dk[q']!).length = k := R.hk _
          generalize enc dk[q]! = cI44 at S2 l44a s44b n44a
          generalize enc dk[q']! = cJ44 at S2 l44b s44a s44b n44b
          clear S1
          go_wp2_with fail
          go_big_region_o
          clear l44a l44b s44a s44b
          generalize (wr.drew.setCells blk (off + (q) * k) cJ44).setCells blk (off + (q') * k) cI44 = w2 at S2 ⊢
          go_wp2
          go_roundg (q' - i)
          case measure => omega
          case rel => exact ⟨q', swp dk q q', by first | rfl | go_num | (congr 1; omega), by omega, by omega, Nat.le_refl _, by rw [size_swp]; exact HK.out, S2, HR2⟩
        · obtain rfl : i = q := by omega
          go_wp2
          go_end0
          refine ⟨rfl, dk, ?_, S1.out⟩
          rw [HM.out]
          exact Rk.Post.one_right hO HP.out HR.out (by rw [HN.out, ← HM.out]; exact hb) hmi hqi C1.out C2.out

theorem rot_at {k : Nat} (L : StbL P k) (enc : α → List Value) (g : Nat) (cb : Array Value) (blk off cap : Nat) (x y z : Int) (a m b : Nat) (d0 d : Array α) (w0 w : World)
    (R : RowK enc k w0 blk off d0) (hN : d.size = d0.size) (S : SWK enc k w0 blk off d w) (ham : a < m) (hmb : m < b) (hb : b ≤ d0.size) (hsz : d0.size < 4611686018427387904) (hx : x = a) (hy : y = m) (hz : z = b) :
    Calls P 131 #[.slice (some ⟨blk, off, none⟩) d0.size cap, .int .i64 x, .int .i64 y, .int .i64 z, .func (.func g) #[] cb] w (RotPost enc k w0 blk off a m b d) := by
  subst hx hy hz
  rw [← hN] at hb hsz ⊢
  exact rotate_any L enc g cb blk off cap a m b d0 d w0 w R hN.symm S ham hmb hb hsz

/-- What the search has found. -/
theorem sym_B1 {lt : α → α → Bool} {ix : α → Nat} {a m b s0 s p mid : Nat} {d : Array α} (hP : Rk.Pre lt ix a m b d) (hp : p + 1 = mid + m) (hs : s ≤ mid) (hsm : s ≤ m) (hend : mid + m - s ≤ b) (has : a ≤ s)
    (h0 : s0 = a ∨ mid + m - s0 = b) (C : s = s0 ∨ lt d[p - (s - 1)]! d[s - 1]! = false) : s = a ∨ mid + m - s = b ∨ Rk.ltx lt ix d[mid + m - s]! d[s - 1]! = false := by
  rcases C with C | C
  · rw [C]; rcases h0 with h | h
    · exact .inl h
    · exact .inr (.inl h)
  · by_cases e : s = a
    · exact .inl e
    · by_cases e2 : mid + m - s = b
      · exact .inr (.inl e2)
      · rw [show p - (s - 1) = mid + m - s by omega] at C
        exact .inr (.inr (Rk.not_of_ahead C (Nat.le_of_lt (hP.ahead (s - 1) (mid + m - s) (by omega) (by omega) (by omega) (by omega)))))
theorem sym_B2 {lt : α → α → Bool} (hO : SWO lt) {ix : α → Nat} {m r0 s p mid : Nat} {d : Array α} (hp : p + 1 = mid + m)
    (h0 : r0 = m ∨ mid + m - r0 = m) (C : s = r0 ∨ lt d[p - s]! d[s]! = true) : s = m ∨ mid + m - s = m ∨ Rk.ltx lt ix d[s]! d[mid + m - s - 1]! = false := by
  rcases C with C | C
  · rw [C]; rcases h0 with h | h
    · exact .inl h
    · exact .inr (.inl h)
  · rw [show p - s = mid + m - s - 1 by omega] at C
    exact .inr (.inr (Rk.not_of_lt hO C))
/-- The rest of a merge, once the middle parts are exchanged. -/
theorem sym_fin {lt : α → α → Bool} {ix : α → Nat} (hO : SWO lt) {a m b s mid : Nat} {d d1 d2 d3 : Array α} (hP : Rk.Pre lt ix a m b d) (hb : b ≤ d.size) (h1 : a ≤ s) (h2 : s ≤ m) (hsm : s ≤ mid) (h3 : m ≤ mid + m - s) (h4 : mid + m - s ≤ b)
    (hr : Rk.IsRot s m (mid + m - s) d d1) (B1 : s = a ∨ mid + m - s = b ∨ Rk.ltx lt ix d[mid + m - s]! d[s - 1]! = false) (B2 : s = m ∨ mid + m - s = m ∨ Rk.ltx lt ix d[s]! d[mid + m - s - 1]! = false)
    (P1 : Rk.Pre lt ix a s mid d1 → Rk.Post lt ix a mid d1 d2) (P2 : Rk.Pre lt ix mid (mid + m - s) b d2 → Rk.Post lt ix mid b d2 d3) : Rk.Post lt ix a b d d3 := by
  obtain ⟨q1, q2, q3⟩ := hP.rotated hO hr hb h1 h2 h3 h4 B1 B2
  rw [show s + (mid + m - s - m) = mid by omega] at q1 q2 q3
  have p1 := P1 q1
  have p2 := P2 (q2.keep p1.1 (.inl (Nat.le_refl _)) (by omega) h4)
  exact Rk.Post.both hb (by omega) (by omega) (Rk.permShift (hr.perm h2 h3 (by omega)) h1 h4 hb) q3 p1 p2
theorem pre_left {lt : α → α → Bool} {ix : α → Nat} {a s mid : Nat} {d : Array α} (h : ¬ (a < s ∧ s < mid)) (h1 : a ≤ s) (h2 : s ≤ mid) (hP : Rk.Pre lt ix a s mid d) : Rk.Post lt ix a mid d d := by
  refine Rk.Post.same ?_
  by_cases e : a = s
  · subst e; exact hP.right
  · obtain rfl : s = mid := by omega
    exact hP.left

/-- The merge, for parts up to a length. -/
def SymUpto (P : Program) (enc : α → List Value) (k : Nat) (cf : α → α → Int) (ix : α → Nat) (g : Nat) (cb : Array Value) (blk off cap : Nat) (d0 : Array α) (w0 : World) (F : Nat) : Prop :=
  ∀ (x y z : Int) (a m b : Nat) (d : Array α) (w : World), x = a → y = m → z = b → b - a ≤ F → d.size = d0.size → SWK enc k w0 blk off d w → a < m → m < b → b ≤ d0.size → Rk.Pre (ltOf cf) ix a m b d →
    Calls P 109 #[.slice (some ⟨blk, off, none⟩) d0.size cap, .int .i64 x, .int .i64 y, .int .i64 z, .func (.func g) #[] cb] w (MergePost enc k w0 blk off (ltOf cf) ix a b d)

set_option maxHeartbeats 8000000 in
set_option maxRecDepth 1000000 in
theorem sym_both {k : Nat} (L : StbL P k) (enc : α → List Value) (cf : α → α → Int) (hO : SWO (ltOf cf)) (ix : α → Nat) (g : Nat) (cb : Array Value) (blk off cap : Nat) (d0 : Array α) (w0 : World)
    (eg : ∀ args w, (callFunc g args).run P w = .ok (.enter g args) w) (R : RowK enc k w0 blk off d0) (hcmp : CmpLays P g cb enc k cf blk off d0.size w0) (hsz : d0.size < 4611686018427387904)
    (F a m b : Nat) (d : Array α) (w : World) (HI : Hid (SymUpto P enc k cf ix g cb blk off cap d0 w0 F)) (hF : b - a ≤ F + 1) (hN : d.size = d0.size) (S : SWK enc k w0 blk off d w) (ha : a + 1 < m) (hm : m + 1 < b) (hb : b ≤ d0.size) (hP : Rk.Pre (ltOf cf) ix a m b d) :
    Calls P 109 #[.slice (some ⟨blk, off, none⟩) d0.size cap, .int .i64 a, .int .i64 m, .int .i64 b, .func (.func g) #[] cb] w (MergePost enc k w0 blk off (ltOf cf) ix a b d) := by
  have eRot : ∀ args w, (callFunc 131 args).run P w = .ok (.enter 131 args) w := enters_of L.fRot (by kernel_rfl) rfl
  have eSym : ∀ args w, (callFunc 109 args).run P w = .ok (.enter 109 args) w := enters_of L.fSym (by kernel_rfl) rfl
  have HL := Lib.hid L
  have mixed := L.mixed; have t0 := L.t0; have a0 := L.a0; have z0 := L.z0; have v0 := L.v0; have t3 := L.t3; have a3 := L.a3; have z3 := L.z3; have v3 := L.v3; have t4 := L.t4; have a4 := L.a4; have z4 := L.z4; have v4 := L.v4; have t53 := L.t53; have a53 := L.a53; have z53 := L.z53; have v53 := L.v53; have t110 := L.t110; have a110 := L.a110; have z110 := L.z110; have v110 := L.v110; have t114 := L.t114; have a114 := L.a114; have z114 := L.z114; have v114 := L.v114; have aE := L.aE; have zE := L.zE
  have FG := L.fSym
  have HC : Aside _ := hcmp
  have HN := Lib.hid hN
  have HP := Lib.hid hP
  have S0 : Aside (SWK enc k w0 blk off d w) := S
  clear S L hcmp hN hP
  have h1 : ((m : Int) - (a : Int) == 1) = false := by simp; omega
  have h2 : ((b : Int) - (m : Int) == 1) = false := by simp; omega
  obtain ⟨mid, hmid⟩ : ∃ mid : Nat, mid = (a + b) / 2 := ⟨_, rfl⟩
  have hm1 : 2 * mid ≤ a + b := by omega
  have hm2 : a + b ≤ 2 * mid + 1 := by omega
  have hmz : ((a : Int) + (b : Int)) / 2 = (mid : Int) := by omega
  clear hmid
  by_cases hgt : mid < m
  · have hgz : (mid : Int) < (m : Int) := by omega
    obtain ⟨s0, hes0⟩ : ∃ s0, s0 = (mid + m - b) := ⟨_, rfl⟩
    obtain ⟨r0, her0⟩ : ∃ r0, r0 = mid := ⟨_, rfl⟩
    obtain ⟨p, hp⟩ : ∃ p, p + 1 = mid + m := ⟨mid + m - 1, by omega⟩
    have hs0 : s0 = a ∨ mid + m - s0 = b := by omega
    have hr0 : r0 = m ∨ mid + m - r0 = m := by omega
    have q1 : a ≤ s0 := by omega
    have q2 : s0 ≤ r0 := by omega
    have q3 : r0 ≤ m := by omega
    have q4 : r0 ≤ mid := by omega
    have q5 : mid + m ≤ b + s0 := by omega
    have HS0 := Lib.hid hs0
    have HR0 := Lib.hid hr0
    have HES := Lib.hid hes0
    have HER := Lib.hid her0
    have HPP := Lib.hid hp
    have hp1 : p + 1 ≤ mid + m := by omega
    have hp2 : mid + m ≤ p + 1 := by omega
    have hmmz : (0 : Int) ≤ (mid : Int) + (m : Int) := by omega
    clear hs0 hr0 hes0 her0 hp
    go_enter FG, Tryz.ntmps109
    go_wp2
    go_loopg [20, 21] (r0 - s0) (fun kx s20 s21 wr => ∃ s r : Nat, s20 = .int .i64 s ∧ s21 = .int .i64 r ∧ s0 ≤ s ∧ s ≤ r ∧ r ≤ r0 ∧ r - s ≤ kx ∧ Aside (SWK enc k w0 blk off d wr) ∧ Hid (s = s0 ∨ ltOf cf d[p - (s - 1)]! d[s - 1]! = false) ∧ Hid (r = r0 ∨ ltOf cf d[p - r]! d[r]! = true))
    case atStart => exact ⟨s0, r0, by rw [HES.out] <;> go_num, by rw [HER.out], Nat.le_refl _, q2, Nat.le_refl _, Nat.le_refl _, S0, .inl rfl, .inl rfl⟩
    case round =>
      clear S0
      obtain ⟨s, r, rfl, rfl, hs1, hsr, hrr, hkx, S1, C1, C2⟩ := hrel
      by_cases hlt : s < r
      · obtain ⟨c, hc1, hc2, hcc⟩ : ∃ c : Nat, s ≤ c ∧ c < r ∧ ((s : Int) + (r : Int)) / 2 = (c : Int) := ⟨(s + r) / 2, by omega, by omega, by omega⟩
        obtain ⟨q, hq⟩ : ∃ q, q = p - c := ⟨_, rfl⟩
        have HQ := Lib.hid hq
        have hqz : (mid : Int) + (m : Int) - 1 - (c : Int) = (q : Int) := by omega
        have hqb : q < b := by omega
        clear hq
        cases hL : ltOf cf d[q]! d[c]! with
        | true =>
          have ea24 : ((q : Int)).toNat = q := by omega
          have pa24 : (0 : Int) ≤ (q : Int) := by omega
          have ba24 : (q : Int) < (d0.size : Int) := by omega
          have ra24 : IntKind.i64.wrap ((q : Int)) = (q : Int) := by rw [IntKind.wrap_i64]; omega
          have ec24 : ((c : Int)).toNat = c := by omega
          have pc24 : (0 : Int) ≤ (c : Int) := by omega
          have bc24 : (c : Int) < (d0.size : Int) := by omega
          have rc24 : IntKind.i64.wrap ((c : Int)) = (c : Int) := by rw [IntKind.wrap_i64]; omega
          obtain ⟨x24, hx24⟩ : ∃ x, x = d[q]! := ⟨_, rfl⟩
          obtain ⟨y24, hy24⟩ : ∃ x, x = d[c]! := ⟨_, rfl⟩
          have l24a := S1.out.ld R HN.out P (q) (by rw [HN.out]; omega)
          have l24b := S1.out.ld R HN.out P (c) (by rw [HN.out]; omega)
          rw [← hx24] at l24a
          rw [← hy24] at l24b
          have hc24 := S1.out.cmp HC.out HN.out x24 y24
          have hv24 : cf x24 y24 < 0 := by rw [hx24, hy24]; exact of_decide_eq_true hL
          have hd24 : decide (cf x24 y24 < 0) = true := decide_eq_true hv24
          have HLv := Lib.hid hL
          clear hx24 hy24 hL
          go_wp2_with fail
          go_quiet_grown (first | (go_at_fn g; refine Calls.grown_of (hc24 _ _)))
          have S2 : Aside (SWK enc k w0 blk off d (grow (wr.drewN nq) osq)) := S1.out.grown nq osq
          clear l24a l24b hc24 S1
          generalize grow (wr.drewN nq) osq = w2 at S2 ⊢
          clear nq osq
          go_wp2
          go_roundg (c - s)
          case measure => omega
          case rel => exact ⟨s, c, rfl, rfl, hs1, hc1, by omega, Nat.le_refl _, S2, C1, .inr (by rw [← HQ.out]; exact HLv.out)⟩
        | false =>
          have ea24 : ((q : Int)).toNat = q := by omega
          have pa24 : (0 : Int) ≤ (q : Int) := by omega
          have ba24 : (q : Int) < (d0.size : Int) := by omega
          have ra24 : IntKind.i64.wrap ((q : Int)) = (q : Int) := by rw [IntKind.wrap_i64]; omega
          have ec24 : ((c : Int)).toNat = c := by omega
          have pc24 : (0 : Int) ≤ (c : Int) := by omega
          have bc24 : (c : Int) < (d0.size : Int) := by omega
          have rc24 : IntKind.i64.wrap ((c : Int)) = (c : Int) := by rw [IntKind.wrap_i64]; omega
          obtain ⟨x24, hx24⟩ : ∃ x, x = d[q]! := ⟨_, rfl⟩
          obtain ⟨y24, hy24⟩ : ∃ x, x = d[c]! := ⟨_, rfl⟩
          have l24a := S1.out.ld R HN.out P (q) (by rw [HN.out]; omega)
          have l24b := S1.out.ld R HN.out P (c) (by rw [HN.out]; omega)
          rw [← hx24] at l24a
          rw [← hy24] at l24b
          have hc24 := S1.out.cmp HC.out HN.out x24 y24
          have hv24 : ¬ cf x24 y24 < 0 := by rw [hx24, hy24]; exact of_decide_eq_false hL
          have hd24 : decide (cf x24 y24 < 0) = false := decide_eq_false hv24
          have HLv := Lib.hid hL
          clear hx24 hy24 hL
          go_wp2_with fail
          go_quiet_grown (first | (go_at_fn g; refine Calls.grown_of (hc24 _ _)))
          have S2 : Aside (SWK enc k w0 blk off d (grow (wr.drewN nq) osq)) := S1.out.grown nq osq
          clear l24a l24b hc24 S1
          generalize grow (wr.drewN nq) osq = w2 at S2 ⊢
          clear nq osq
          go_wp2
          go_roundg (r - (c + 1))
          case measure => omega
          case rel => exact ⟨c + 1, r, by go_num, rfl, by omega, by omega, hrr, Nat.le_refl _, S2, .inr (by rw [Nat.add_sub_cancel, ← HQ.out]; exact HLv.out), C2⟩
      · obtain rfl : s = r := by omega
        have has : a ≤ s := by omega
        have hsm : s ≤ m := by omega
        have hsmid : s ≤ mid := by omega
        have hend : mid + m - s ≤ b := by omega
        have hend2 : m ≤ mid + m - s := by omega
        have HB1 := Lib.hid (sym_B1 HP.out HPP.out hsmid hsm hend has HS0.out C1.out)
        have HB2 := Lib.hid (sym_B2 (ix := ix) hO HPP.out HR0.out C2.out)
        clear C1 C2 hkx HS0 HR0 HES HER HPP hp1 hp2 hs1 hrr q1 q2 q3 q4 q5
        by_cases hrot : s < m ∧ m < mid + m - s
        · obtain ⟨hrot1, hrot2⟩ := hrot
          have hrz : (m : Int) < (mid : Int) + (m : Int) - (s : Int) := by omega
          go_wp2_with fail
          refine (rot_at HL.out enc g cb blk off cap _ _ _ s m (mid + m - s) d0 d w0 _ R HN.out S1.out hrot1 hrot2 (by omega) hsz rfl rfl (by omega)).mono ?_
          rintro e w1 ⟨rfl, d1, hr, hS1⟩
          have HR := Lib.hid hr
          have S2 : Aside (SWK enc k w0 blk off d1 w1) := hS1
          have HN1 := Lib.hid (hr.1.trans HN.out)
          clear hr hS1 S1
          have Hpre := Lib.hid (by
            have h := (HP.out).rotated hO HR.out (by rw [HN.out]; exact hb) has hsm hend2 hend HB1.out HB2.out
            rw [show s + (mid + m - s - m) = mid by omega] at h
            exact h)
          by_cases hlf : a < s ∧ s < mid
          · obtain ⟨hl1, hl2⟩ := hlf
            by_cases hrg : mid < mid + m - s ∧ mid + m - s < b
            · obtain ⟨hg1, hg2⟩ := hrg
              have hgz1 : (mid : Int) < (mid : Int) + (m : Int) - (s : Int) := by omega
              have hgz2 : (mid : Int) + (m : Int) - (s : Int) < (b : Int) := by omega
              go_wp2_with fail
              all_goals
                refine (HI.out _ _ _ a s mid d1 _ rfl rfl rfl (by omega) HN1.out S2.out hl1 hl2 (by omega) Hpre.out.1).mono ?_
                rintro e w2 ⟨rfl, d2, hq1, hS2⟩
                have HQ1 := Lib.hid hq1
                have S3 : Aside (SWK enc k w0 blk off d2 w2) := hS2
                have HN2 := Lib.hid (hq1.1.1.trans HN1.out)
                clear hq1 hS2
                go_wp2_with fail
                all_goals
                  refine (HI.out _ _ _ mid (mid + m - s) b d2 _ rfl (by omega) rfl (by omega) HN2.out S3.out hg1 hg2 hb (Hpre.out.2.1.keep HQ1.out.1 (.inl (Nat.le_refl _)) (by omega) hend)).mono ?_
                  rintro e w3 ⟨rfl, d3, hq2, hS3⟩
                  have HQ2 := Lib.hid hq2
                  have S4 : Aside (SWK enc k w0 blk off d3 w3) := hS3
                  clear hq2 hS3
                  go_wp2
                  all_goals go_end0
                  all_goals exact ⟨rfl, d3, sym_fin hO HP.out (by rw [HN.out]; exact hb) has hsm hsmid hend2 hend HR.out HB1.out HB2.out (fun _ => HQ1.out) (fun _ => HQ2.out), S4.out⟩
            · have hgz : (mid : Int) < (mid : Int) + (m : Int) - (s : Int) → ¬ (mid : Int) + (m : Int) - (s : Int) < (b : Int) := by omega
              by_cases hgg : mid < mid + m - s
              all_goals
                have hggz : ((mid : Int) < (mid : Int) + (m : Int) - (s : Int)) ∨ ¬ ((mid : Int) < (mid : Int) + (m : Int) - (s : Int)) := by omega
                go_wp2_with fail
                all_goals
                  refine (HI.out _ _ _ a s mid d1 _ rfl rfl rfl (by omega) HN1.out S2.out hl1 hl2 (by omega) Hpre.out.1).mono ?_
                  rintro e w2 ⟨rfl, d2, hq1, hS2⟩
                  have HQ1 := Lib.hid hq1
                  have S3 : Aside (SWK enc k w0 blk off d2 w2) := hS2
                  have HN2 := Lib.hid (hq1.1.1.trans HN1.out)
                  clear hq1 hS2
                  go_wp2
                  all_goals go_end0
                  all_goals exact ⟨rfl, d2, sym_fin hO HP.out (by rw [HN.out]; exact hb) has hsm hsmid hend2 hend HR.out HB1.out HB2.out (fun _ => HQ1.out) (fun h => pre_left (by omega) (by omega) hend h), S3.out⟩
          · have hlz : (a : Int) < (s : Int) → ¬ (s : Int) < (mid : Int) := by omega
            by_cases hrg : mid < mid + m - s ∧ mid + m - s < b
            · obtain ⟨hg1, hg2⟩ := hrg
              have hgz1 : (mid : Int) < (mid : Int) + (m : Int) - (s : Int) := by omega
              have hgz2 : (mid : Int) + (m : Int) - (s : Int) < (b : Int) := by omega
              by_cases hll : a < s
              all_goals
                go_wp2_with fail
                all_goals
                  have HQ1 := Lib.hid (pre_left (by omega) has hsmid Hpre.out.1)
                  have S3 := S2
                  have HN2 := HN1
                  refine (HI.out _ _ _ mid (mid + m - s) b d1 _ rfl (by omega) rfl (by omega) HN2.out S3.out hg1 hg2 hb (Hpre.out.2.1.keep HQ1.out.1 (.inl (Nat.le_refl _)) (by omega) hend)).mono ?_
                  rintro e w3 ⟨rfl, d3, hq2, hS3⟩
                  have HQ2 := Lib.hid hq2
                  have S4 : Aside (SWK enc k w0 blk off d3 w3) := hS3
                  clear hq2 hS3
                  go_wp2
                  all_goals go_end0
                  all_goals exact ⟨rfl, d3, sym_fin hO HP.out (by rw [HN.out]; exact hb) has hsm hsmid hend2 hend HR.out HB1.out HB2.out (fun _ => HQ1.out) (fun _ => HQ2.out), S4.out⟩
            · have hgz : (mid : Int) < (mid : Int) + (m : Int) - (s : Int) → ¬ (mid : Int) + (m : Int) - (s : Int) < (b : Int) := by omega
              by_cases hll : a < s
              all_goals
                by_cases hgg : mid < mid + m - s
                all_goals
                  have hggz : ((mid : Int) < (mid : Int) + (m : Int) - (s : Int)) ∨ ¬ ((mid : Int) < (mid : Int) + (m : Int) - (s : Int)) := by omega
                  go_wp2_with fail
                  all_goals
                    have HQ1 := Lib.hid (pre_left (by omega) has hsmid Hpre.out.1)
                    have S3 := S2
                    have HN2 := HN1
                    all_goals go_end0
                    all_goals exact ⟨rfl, d1, sym_fin hO HP.out (by rw [HN.out]; exact hb) has hsm hsmid hend2 hend HR.out HB1.out HB2.out (fun _ => HQ1.out) (fun h => pre_left (by omega) (by omega) hend h), S3.out⟩
        · have hnrot : s < m → mid + m - s ≤ m := fun h => by omega
          obtain ⟨d1, hd1⟩ : ∃ d1, d1 = d := ⟨_, rfl⟩
          have HN1 := Lib.hid (show d1.size = d0.size by rw [hd1]; exact HN.out)
          have S2 : Aside (SWK enc k w0 blk off d1 wr) := by rw [hd1]; exact S1
          have HR := Lib.hid (show Rk.IsRot s m (mid + m - s) d d1 by
            rw [hd1]
            by_cases e : s = m
            · rw [e]; exact (Rk.IsRot.none (by omega)).1
            · rw [show mid + m - s = m by omega]; exact (Rk.IsRot.none hsm).2)
          clear hd1 S1 hnrot
          have hrz : (s : Int) < (m : Int) → ¬ (m : Int) < (mid : Int) + (m : Int) - (s : Int) := by omega
          have Hpre := Lib.hid (by
            have h := (HP.out).rotated hO HR.out (by rw [HN.out]; exact hb) has hsm hend2 hend HB1.out HB2.out
            rw [show s + (mid + m - s - m) = mid by omega] at h
            exact h)
          by_cases hlf : a < s ∧ s < mid
          · obtain ⟨hl1, hl2⟩ := hlf
            by_cases hrg : mid < mid + m - s ∧ mid + m - s < b
            · obtain ⟨hg1, hg2⟩ := hrg
              have hgz1 : (mid : Int) < (mid : Int) + (m : Int) - (s : Int) := by omega
              have hgz2 : (mid : Int) + (m : Int) - (s : Int) < (b : Int) := by omega
              by_cases hss : s < m
              all_goals
                go_wp2_with fail
                all_goals
                  refine (HI.out _ _ _ a s mid d1 _ rfl rfl rfl (by omega) HN1.out S2.out hl1 hl2 (by omega) Hpre.out.1).mono ?_
                  rintro e w2 ⟨rfl, d2, hq1, hS2⟩
                  have HQ1 := Lib.hid hq1
                  have S3 : Aside (SWK enc k w0 blk off d2 w2) := hS2
                  have HN2 := Lib.hid (hq1.1.1.trans HN1.out)
                  clear hq1 hS2
                  go_wp2_with fail
                  all_goals
                    refine (HI.out _ _ _ mid (mid + m - s) b d2 _ rfl (by omega) rfl (by omega) HN2.out S3.out hg1 hg2 hb (Hpre.out.2.1.keep HQ1.out.1 (.inl (Nat.le_refl _)) (by omega) hend)).mono ?_
                    rintro e w3 ⟨rfl, d3, hq2, hS3⟩
                    have HQ2 := Lib.hid hq2
                    have S4 : Aside (SWK enc k w0 blk off d3 w3) := hS3
                    clear hq2 hS3
                    go_wp2
                    all_goals go_end0
                    all_goals exact ⟨rfl, d3, sym_fin hO HP.out (by rw [HN.out]; exact hb) has hsm hsmid hend2 hend HR.out HB1.out HB2.out (fun _ => HQ1.out) (fun _ => HQ2.out), S4.out⟩
            · have hgz : (mid : Int) < (mid : Int) + (m : Int) - (s : Int) → ¬ (mid : Int) + (m : Int) - (s : Int) < (b : Int) := by omega
              by_cases hgg : mid < mid + m - s
              all_goals
                have hggz : ((mid : Int) < (mid : Int) + (m : Int) - (s : Int)) ∨ ¬ ((mid : Int) < (mid : Int) + (m : Int) - (s : Int)) := by omega
                by_cases hss : s < m
                all_goals
                  go_wp2_with fail
                  all_goals
                    refine (HI.out _ _ _ a s mid d1 _ rfl rfl rfl (by omega) HN1.out S2.out hl1 hl2 (by omega) Hpre.out.1).mono ?_
                    rintro e w2 ⟨rfl, d2, hq1, hS2⟩
                    have HQ1 := Lib.hid hq1
                    have S3 : Aside (SWK enc k w0 blk off d2 w2) := hS2
                    have HN2 := Lib.hid (hq1.1.1.trans HN1.out)
                    clear hq1 hS2
                    go_wp2
                    all_goals go_end0
                    all_goals exact ⟨rfl, d2, sym_fin hO HP.out (by rw [HN.out]; exact hb) has hsm hsmid hend2 hend HR.out HB1.out HB2.out (fun _ => HQ1.out) (fun h => pre_left (by omega) (by omega) hend h), S3.out⟩
          · have hlz : (a : Int) < (s : Int) → ¬ (s : Int) < (mid : Int) := by omega
            by_cases hrg : mid < mid + m - s ∧ mid + m - s < b
            · obtain ⟨hg1, hg2⟩ := hrg
              have hgz1 : (mid : Int) < (mid : Int) + (m : Int) - (s : Int) := by omega
              have hgz2 : (mid : Int) + (m : Int) - (s : Int) < (b : Int) := by omega
              by_cases hll : a < s
              all_goals
                by_cases hss : s < m
                all_goals
                  go_wp2_with fail
                  all_goals
                    have HQ1 := Lib.hid (pre_left (by omega) has hsmid Hpre.out.1)
                    have S3 := S2
                    have HN2 := HN1
                    refine (HI.out _ _ _ mid (mid + m - s) b d1 _ rfl (by omega) rfl (by omega) HN2.out S3.out hg1 hg2 hb (Hpre.out.2.1.keep HQ1.out.1 (.inl (Nat.le_refl _)) (by omega) hend)).mono ?_
                    rintro e w3 ⟨rfl, d3, hq2, hS3⟩
                    have HQ2 := Lib.hid hq2
                    have S4 : Aside (SWK enc k w0 blk off d3 w3) := hS3
                    clear hq2 hS3
                    go_wp2
                    all_goals go_end0
                    all_goals exact ⟨rfl, d3, sym_fin hO HP.out (by rw [HN.out]; exact hb) has hsm hsmid hend2 hend HR.out HB1.out HB2.out (fun _ => HQ1.out) (fun _ => HQ2.out), S4.out⟩
            · have hgz : (mid : Int) < (mid : Int) + (m : Int) - (s : Int) → ¬ (mid : Int) + (m : Int) - (s : Int) < (b : Int) := by omega
              by_cases hll : a < s
              all_goals
                by_cases hgg : mid < mid + m - s
                all_goals
                  have hggz : ((mid : Int) < (mid : Int) + (m : Int) - (s : Int)) ∨ ¬ ((mid : Int) < (mid : Int) + (m : Int) - (s : Int)) := by omega
                  by_cases hss : s < m
                  all_goals
                    go_wp2_with fail
                    all_goals
                      have HQ1 := Lib.hid (pre_left (by omega) has hsmid Hpre.out.1)
                      have S3 := S2
                      have HN2 := HN1
                      all_goals go_end0
                      all_goals exact ⟨rfl, d1, sym_fin hO HP.out (by rw [HN.out]; exact hb) has hsm hsmid hend2 hend HR.out HB1.out HB2.out (fun _ => HQ1.out) (fun h => pre_left (by omega) (by omega) hend h), S3.out⟩
  · have hgz : ¬ (mid : Int) < (m : Int) := by omega
    obtain ⟨s0, hes0⟩ : ∃ s0, s0 = a := ⟨_, rfl⟩
    obtain ⟨r0, her0⟩ : ∃ r0, r0 = m := ⟨_, rfl⟩
    obtain ⟨p, hp⟩ : ∃ p, p + 1 = mid + m := ⟨mid + m - 1, by omega⟩
    have hs0 : s0 = a ∨ mid + m - s0 = b := by omega
    have hr0 : r0 = m ∨ mid + m - r0 = m := by omega
    have q1 : a ≤ s0 := by omega
    have q2 : s0 ≤ r0 := by omega
    have q3 : r0 ≤ m := by omega
    have q4 : r0 ≤ mid := by omega
    have q5 : mid + m ≤ b + s0 := by omega
    have HS0 := Lib.hid hs0
    have HR0 := Lib.hid hr0
    have HES := Lib.hid hes0
    have HER := Lib.hid her0
    have HPP := Lib.hid hp
    have hp1 : p + 1 ≤ mid + m := by omega
    have hp2 : mid + m ≤ p + 1 := by omega
    have hmmz : (0 : Int) ≤ (mid : Int) + (m : Int) := by omega
    clear hs0 hr0 hes0 her0 hp
    go_enter FG, Tryz.ntmps109
    go_wp2
    go_loopg [20, 21] (r0 - s0) (fun kx s20 s21 wr => ∃ s r : Nat, s20 = .int .i64 s ∧ s21 = .int .i64 r ∧ s0 ≤ s ∧ s ≤ r ∧ r ≤ r0 ∧ r - s ≤ kx ∧ Aside (SWK enc k w0 blk off d wr) ∧ Hid (s = s0 ∨ ltOf cf d[p - (s - 1)]! d[s - 1]! = false) ∧ Hid (r = r0 ∨ ltOf cf d[p - r]! d[r]! = true))
    case atStart => exact ⟨s0, r0, by rw [HES.out] <;> go_num, by rw [HER.out], Nat.le_refl _, q2, Nat.le_refl _, Nat.le_refl _, S0, .inl rfl, .inl rfl⟩
    case round =>
      clear S0
      obtain ⟨s, r, rfl, rfl, hs1, hsr, hrr, hkx, S1, C1, C2⟩ := hrel
      by_cases hlt : s < r
      · obtain ⟨c, hc1, hc2, hcc⟩ : ∃ c : Nat, s ≤ c ∧ c < r ∧ ((s : Int) + (r : Int)) / 2 = (c : Int) := ⟨(s + r) / 2, by omega, by omega, by omega⟩
        obtain ⟨q, hq⟩ : ∃ q, q = p - c := ⟨_, rfl⟩
        have HQ := Lib.hid hq
        have hqz : (mid : Int) + (m : Int) - 1 - (c : Int) = (q : Int) := by omega
        have hqb : q < b := by omega
        clear hq
        cases hL : ltOf cf d[q]! d[c]! with
        | true =>
          have ea24 : ((q : Int)).toNat = q := by omega
          have pa24 : (0 : Int) ≤ (q : Int) := by omega
          have ba24 : (q : Int) < (d0.size : Int) := by omega
          have ra24 : IntKind.i64.wrap ((q : Int)) = (q : Int) := by rw [IntKind.wrap_i64]; omega
          have ec24 : ((c : Int)).toNat = c := by omega
          have pc24 : (0 : Int) ≤ (c : Int) := by omega
          have bc24 : (c : Int) < (d0.size : Int) := by omega
          have rc24 : IntKind.i64.wrap ((c : Int)) = (c : Int) := by rw [IntKind.wrap_i64]; omega
          obtain ⟨x24, hx24⟩ : ∃ x, x = d[q]! := ⟨_, rfl⟩
          obtain ⟨y24, hy24⟩ : ∃ x, x = d[c]! := ⟨_, rfl⟩
          have l24a := S1.out.ld R HN.out P (q) (by rw [HN.out]; omega)
          have l24b := S1.out.ld R HN.out P (c) (by rw [HN.out]; omega)
          rw [← hx24] at l24a
          rw [← hy24] at l24b
          have hc24 := S1.out.cmp HC.out HN.out x24 y24
          have hv24 : cf x24 y24 < 0 := by rw [hx24, hy24]; exact of_decide_eq_true hL
          have hd24 : decide (cf x24 y24 < 0) = true := decide_eq_true hv24
          have HLv := Lib.hid hL
          clear hx24 hy24 hL
          go_wp2_with fail
          go_quiet_grown (first | (go_at_fn g; refine Calls.grown_of (hc24 _ _)))
          have S2 : Aside (SWK enc k w0 blk off d (grow (wr.drewN nq) osq)) := S1.out.grown nq osq
          clear l24a l24b hc24 S1
          generalize grow (wr.drewN nq) osq = w2 at S2 ⊢
          clear nq osq
          go_wp2
          go_roundg (c - s)
          case measure => omega
          case rel => exact ⟨s, c, rfl, rfl, hs1, hc1, by omega, Nat.le_refl _, S2, C1, .inr (by rw [← HQ.out]; exact HLv.out)⟩
        | false =>
          have ea24 : ((q : Int)).toNat = q := by omega
          have pa24 : (0 : Int) ≤ (q : Int) := by omega
          have ba24 : (q : Int) < (d0.size : Int) := by omega
          have ra24 : IntKind.i64.wrap ((q : Int)) = (q : Int) := by rw [IntKind.wrap_i64]; omega
          have ec24 : ((c : Int)).toNat = c := by omega
          have pc24 : (0 : Int) ≤ (c : Int) := by omega
          have bc24 : (c : Int) < (d0.size : Int) := by omega
          have rc24 : IntKind.i64.wrap ((c : Int)) = (c : Int) := by rw [IntKind.wrap_i64]; omega
          obtain ⟨x24, hx24⟩ : ∃ x, x = d[q]! := ⟨_, rfl⟩
          obtain ⟨y24, hy24⟩ : ∃ x, x = d[c]! := ⟨_, rfl⟩
          have l24a := S1.out.ld R HN.out P (q) (by rw [HN.out]; omega)
          have l24b := S1.out.ld R HN.out P (c) (by rw [HN.out]; omega)
          rw [← hx24] at l24a
          rw [← hy24] at l24b
          have hc24 := S1.out.cmp HC.out HN.out x24 y24
          have hv24 : ¬ cf x24 y24 < 0 := by rw [hx24, hy24]; exact of_decide_eq_false hL
          have hd24 : decide (cf x24 y24 < 0) = false := decide_eq_false hv24
          have HLv := Lib.hid hL
          clear hx24 hy24 hL
          go_wp2_with fail
          go_quiet_grown (first | (go_at_fn g; refine Calls.grown_of (hc24 _ _)))
          have S2 : Aside (SWK enc k w0 blk off d (grow (wr.drewN nq) osq)) := S1.out.grown nq osq
          clear l24a l24b hc24 S1
          generalize grow (wr.drewN nq) osq = w2 at S2 ⊢
          clear nq osq
          go_wp2
          go_roundg (r - (c + 1))
          case measure => omega
          case rel => exact ⟨c + 1, r, by go_num, rfl, by omega, by omega, hrr, Nat.le_refl _, S2, .inr (by rw [Nat.add_sub_cancel, ← HQ.out]; exact HLv.out), C2⟩
      · obtain rfl : s = r := by omega
        have has : a ≤ s := by omega
        have hsm : s ≤ m := by omega
        have hsmid : s ≤ mid := by omega
        have hend : mid + m - s ≤ b := by omega
        have hend2 : m ≤ mid + m - s := by omega
        have HB1 := Lib.hid (sym_B1 HP.out HPP.out hsmid hsm hend has HS0.out C1.out)
        have HB2 := Lib.hid (sym_B2 (ix := ix) hO HPP.out HR0.out C2.out)
        clear C1 C2 hkx HS0 HR0 HES HER HPP hp1 hp2 hs1 hrr q1 q2 q3 q4 q5
        by_cases hrot : s < m ∧ m < mid + m - s
        · obtain ⟨hrot1, hrot2⟩ := hrot
          have hrz : (m : Int) < (mid : Int) + (m : Int) - (s : Int) := by omega
          go_wp2_with fail
          refine (rot_at HL.out enc g cb blk off cap _ _ _ s m (mid + m - s) d0 d w0 _ R HN.out S1.out hrot1 hrot2 (by omega) hsz rfl rfl (by omega)).mono ?_
          rintro e w1 ⟨rfl, d1, hr, hS1⟩
          have HR := Lib.hid hr
          have S2 : Aside (SWK enc k w0 blk off d1 w1) := hS1
          have HN1 := Lib.hid (hr.1.trans HN.out)
          clear hr hS1 S1
          have Hpre := Lib.hid (by
            have h := (HP.out).rotated hO HR.out (by rw [HN.out]; exact hb) has hsm hend2 hend HB1.out HB2.out
            rw [show s + (mid + m - s - m) = mid by omega] at h
            exact h)
          by_cases hlf : a < s ∧ s < mid
          · obtain ⟨hl1, hl2⟩ := hlf
            by_cases hrg : mid < mid + m - s ∧ mid + m - s < b
            · obtain ⟨hg1, hg2⟩ := hrg
              have hgz1 : (mid : Int) < (mid : Int) + (m : Int) - (s : Int) := by omega
              have hgz2 : (mid : Int) + (m : Int) - (s : Int) < (b : Int) := by omega
              go_wp2_with fail
              all_goals
                refine (HI.out _ _ _ a s mid d1 _ rfl rfl rfl (by omega) HN1.out S2.out hl1 hl2 (by omega) Hpre.out.1).mono ?_
                rintro e w2 ⟨rfl, d2, hq1, hS2⟩
                have HQ1 := Lib.hid hq1
                have S3 : Aside (SWK enc k w0 blk off d2 w2) := hS2
                have HN2 := Lib.hid (hq1.1.1.trans HN1.out)
                clear hq1 hS2
                go_wp2_with fail
                all_goals
                  refine (HI.out _ _ _ mid (mid + m - s) b d2 _ rfl (by omega) rfl (by omega) HN2.out S3.out hg1 hg2 hb (Hpre.out.2.1.keep HQ1.out.1 (.inl (Nat.le_refl _)) (by omega) hend)).mono ?_
                  rintro e w3 ⟨rfl, d3, hq2, hS3⟩
                  have HQ2 := Lib.hid hq2
                  have S4 : Aside (SWK enc k w0 blk off d3 w3) := hS3
                  clear hq2 hS3
                  go_wp2
                  all_goals go_end0
                  all_goals exact ⟨rfl, d3, sym_fin hO HP.out (by rw [HN.out]; exact hb) has hsm hsmid hend2 hend HR.out HB1.out HB2.out (fun _ => HQ1.out) (fun _ => HQ2.out), S4.out⟩
            · have hgz : (mid : Int) < (mid : Int) + (m : Int) - (s : Int) → ¬ (mid : Int) + (m : Int) - (s : Int) < (b : Int) := by omega
              by_cases hgg : mid < mid + m - s
              all_goals
                have hggz : ((mid : Int) < (mid : Int) + (m : Int) - (s : Int)) ∨ ¬ ((mid : Int) < (mid : Int) + (m : Int) - (s : Int)) := by omega
                go_wp2_with fail
                all_goals
                  refine (HI.out _ _ _ a s mid d1 _ rfl rfl rfl (by omega) HN1.out S2.out hl1 hl2 (by omega) Hpre.out.1).mono ?_
                  rintro e w2 ⟨rfl, d2, hq1, hS2⟩
                  have HQ1 := Lib.hid hq1
                  have S3 : Aside (SWK enc k w0 blk off d2 w2) := hS2
                  have HN2 := Lib.hid (hq1.1.1.trans HN1.out)
                  clear hq1 hS2
                  go_wp2
                  all_goals go_end0
                  all_goals exact ⟨rfl, d2, sym_fin hO HP.out (by rw [HN.out]; exact hb) has hsm hsmid hend2 hend HR.out HB1.out HB2.out (fun _ => HQ1.out) (fun h => pre_left (by omega) (by omega) hend h), S3.out⟩
          · have hlz : (a : Int) < (s : Int) → ¬ (s : Int) < (mid : Int) := by omega
            by_cases hrg : mid < mid + m - s ∧ mid + m - s < b
            · obtain ⟨hg1, hg2⟩ := hrg
              have hgz1 : (mid : Int) < (mid : Int) + (m : Int) - (s : Int) := by omega
              have hgz2 : (mid : Int) + (m : Int) - (s : Int) < (b : Int) := by omega
              by_cases hll : a < s
              all_goals
                go_wp2_with fail
                all_goals
                  have HQ1 := Lib.hid (pre_left (by omega) has hsmid Hpre.out.1)
                  have S3 := S2
                  have HN2 := HN1
                  refine (HI.out _ _ _ mid (mid + m - s) b d1 _ rfl (by omega) rfl (by omega) HN2.out S3.out hg1 hg2 hb (Hpre.out.2.1.keep HQ1.out.1 (.inl (Nat.le_refl _)) (by omega) hend)).mono ?_
                  rintro e w3 ⟨rfl, d3, hq2, hS3⟩
                  have HQ2 := Lib.hid hq2
                  have S4 : Aside (SWK enc k w0 blk off d3 w3) := hS3
                  clear hq2 hS3
                  go_wp2
                  all_goals go_end0
                  all_goals exact ⟨rfl, d3, sym_fin hO HP.out (by rw [HN.out]; exact hb) has hsm hsmid hend2 hend HR.out HB1.out HB2.out (fun _ => HQ1.out) (fun _ => HQ2.out), S4.out⟩
            · have hgz : (mid : Int) < (mid : Int) + (m : Int) - (s : Int) → ¬ (mid : Int) + (m : Int) - (s : Int) < (b : Int) := by omega
              by_cases hll : a < s
              all_goals
                by_cases hgg : mid < mid + m - s
                all_goals
                  have hggz : ((mid : Int) < (mid : Int) + (m : Int) - (s : Int)) ∨ ¬ ((mid : Int) < (mid : Int) + (m : Int) - (s : Int)) := by omega
                  go_wp2_with fail
                  all_goals
                    have HQ1 := Lib.hid (pre_left (by omega) has hsmid Hpre.out.1)
                    have S3 := S2
                    have HN2 := HN1
                    all_goals go_end0
                    all_goals exact ⟨rfl, d1, sym_fin hO HP.out (by rw [HN.out]; exact hb) has hsm hsmid hend2 hend HR.out HB1.out HB2.out (fun _ => HQ1.out) (fun h => pre_left (by omega) (by omega) hend h), S3.out⟩
        · have hnrot : s < m → mid + m - s ≤ m := fun h => by omega
          obtain ⟨d1, hd1⟩ : ∃ d1, d1 = d := ⟨_, rfl⟩
          have HN1 := Lib.hid (show d1.size = d0.size by rw [hd1]; exact HN.out)
          have S2 : Aside (SWK enc k w0 blk off d1 wr) := by rw [hd1]; exact S1
          have HR := Lib.hid (show Rk.IsRot s m (mid + m - s) d d1 by
            rw [hd1]
            by_cases e : s = m
            · rw [e]; exact (Rk.IsRot.none (by omega)).1
            · rw [show mid + m - s = m by omega]; exact (Rk.IsRot.none hsm).2)
          clear hd1 S1 hnrot
          have hrz : (s : Int) < (m : Int) → ¬ (m : Int) < (mid : Int) + (m : Int) - (s : Int) := by omega
          have Hpre := Lib.hid (by
            have h := (HP.out).rotated hO HR.out (by rw [HN.out]; exact hb) has hsm hend2 hend HB1.out HB2.out
            rw [show s + (mid + m - s - m) = mid by omega] at h
            exact h)
          by_cases hlf : a < s ∧ s < mid
          · obtain ⟨hl1, hl2⟩ := hlf
            by_cases hrg : mid < mid + m - s ∧ mid + m - s < b
            · obtain ⟨hg1, hg2⟩ := hrg
              have hgz1 : (mid : Int) < (mid : Int) + (m : Int) - (s : Int) := by omega
              have hgz2 : (mid : Int) + (m : Int) - (s : Int) < (b : Int) := by omega
              by_cases hss : s < m
              all_goals
                go_wp2_with fail
                all_goals
                  refine (HI.out _ _ _ a s mid d1 _ rfl rfl rfl (by omega) HN1.out S2.out hl1 hl2 (by omega) Hpre.out.1).mono ?_
                  rintro e w2 ⟨rfl, d2, hq1, hS2⟩
                  have HQ1 := Lib.hid hq1
                  have S3 : Aside (SWK enc k w0 blk off d2 w2) := hS2
                  have HN2 := Lib.hid (hq1.1.1.trans HN1.out)
                  clear hq1 hS2
                  go_wp2_with fail
                  all_goals
                    refine (HI.out _ _ _ mid (mid + m - s) b d2 _ rfl (by omega) rfl (by omega) HN2.out S3.out hg1 hg2 hb (Hpre.out.2.1.keep HQ1.out.1 (.inl (Nat.le_refl _)) (by omega) hend)).mono ?_
                    rintro e w3 ⟨rfl, d3, hq2, hS3⟩
                    have HQ2 := Lib.hid hq2
                    have S4 : Aside (SWK enc k w0 blk off d3 w3) := hS3
                    clear hq2 hS3
                    go_wp2
                    all_goals go_end0
                    all_goals exact ⟨rfl, d3, sym_fin hO HP.out (by rw [HN.out]; exact hb) has hsm hsmid hend2 hend HR.out HB1.out HB2.out (fun _ => HQ1.out) (fun _ => HQ2.out), S4.out⟩
            · have hgz : (mid : Int) < (mid : Int) + (m : Int) - (s : Int) → ¬ (mid : Int) + (m : Int) - (s : Int) < (b : Int) := by omega
              by_cases hgg : mid < mid + m - s
              all_goals
                have hggz : ((mid : Int) < (mid : Int) + (m : Int) - (s : Int)) ∨ ¬ ((mid : Int) < (mid : Int) + (m : Int) - (s : Int)) := by omega
                by_cases hss : s < m
                all_goals
                  go_wp2_with fail
                  all_goals
                    refine (HI.out _ _ _ a s mid d1 _ rfl rfl rfl (by omega) HN1.out S2.out hl1 hl2 (by omega) Hpre.out.1).mono ?_
                    rintro e w2 ⟨rfl, d2, hq1, hS2⟩
                    have HQ1 := Lib.hid hq1
                    have S3 : Aside (SWK enc k w0 blk off d2 w2) := hS2
                    have HN2 := Lib.hid (hq1.1.1.trans HN1.out)
                    clear hq1 hS2
                    go_wp2
                    all_goals go_end0
                    all_goals exact ⟨rfl, d2, sym_fin hO HP.out (by rw [HN.out]; exact hb) has hsm hsmid hend2 hend HR.out HB1.out HB2.out (fun _ => HQ1.out) (fun h => pre_left (by omega) (by omega) hend h), S3.out⟩
          · have hlz : (a : Int) < (s : Int) → ¬ (s : Int) < (mid : Int) := by omega
            by_cases hrg : mid < mid + m - s ∧ mid + m - s < b
            · obtain ⟨hg1, hg2⟩ := hrg
              have hgz1 : (mid : Int) < (mid : Int) + (m : Int) - (s : Int) := by omega
              have hgz2 : (mid : Int) + (m : Int) - (s : Int) < (b : Int) := by omega
              by_cases hll : a < s
              all_goals
                by_cases hss : s < m
                all_goals
                  go_wp2_with fail
                  all_goals
                    have HQ1 := Lib.hid (pre_left (by omega) has hsmid Hpre.out.1)
                    have S3 := S2
                    have HN2 := HN1
                    refine (HI.out _ _ _ mid (mid + m - s) b d1 _ rfl (by omega) rfl (by omega) HN2.out S3.out hg1 hg2 hb (Hpre.out.2.1.keep HQ1.out.1 (.inl (Nat.le_refl _)) (by omega) hend)).mono ?_
                    rintro e w3 ⟨rfl, d3, hq2, hS3⟩
                    have HQ2 := Lib.hid hq2
                    have S4 : Aside (SWK enc k w0 blk off d3 w3) := hS3
                    clear hq2 hS3
                    go_wp2
                    all_goals go_end0
                    all_goals exact ⟨rfl, d3, sym_fin hO HP.out (by rw [HN.out]; exact hb) has hsm hsmid hend2 hend HR.out HB1.out HB2.out (fun _ => HQ1.out) (fun _ => HQ2.out), S4.out⟩
            · have hgz : (mid : Int) < (mid : Int) + (m : Int) - (s : Int) → ¬ (mid : Int) + (m : Int) - (s : Int) < (b : Int) := by omega
              by_cases hll : a < s
              all_goals
                by_cases hgg : mid < mid + m - s
                all_goals
                  have hggz : ((mid : Int) < (mid : Int) + (m : Int) - (s : Int)) ∨ ¬ ((mid : Int) < (mid : Int) + (m : Int) - (s : Int)) := by omega
                  by_cases hss : s < m
                  all_goals
                    go_wp2_with fail
                    all_goals
                      have HQ1 := Lib.hid (pre_left (by omega) has hsmid Hpre.out.1)
                      have S3 := S2
                      have HN2 := HN1
                      all_goals go_end0
                      all_goals exact ⟨rfl, d1, sym_fin hO HP.out (by rw [HN.out]; exact hb) has hsm hsmid hend2 hend HR.out HB1.out HB2.out (fun _ => HQ1.out) (fun h => pre_left (by omega) (by omega) hend h), S3.out⟩
end
end Go.Proofs.YtfpmbjobieeidaaGreat
