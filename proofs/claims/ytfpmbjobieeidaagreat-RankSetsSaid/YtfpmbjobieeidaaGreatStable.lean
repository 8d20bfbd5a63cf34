/-
  The walk of slices.SortStableFunc on standings.
-/
import Derived.Test.YtfpmbjobieeidaaGreatSym
import Derived.Test.YtfpmbjobieeidaaGreatPlainS
namespace Go.Proofs.YtfpmbjobieeidaaGreat
open Go.Shelf Go.RowKit Go.Lib Go.Sort

def insRen : Go.Shelf.Ren := ⟨fun | 20 => 108 | n => n, fun | 24 => 64 | 22 => 36 | 3 => 3 | 25 => 77 | 4 => 4 | 0 => 0 | n => n, fun | n => n⟩
theorem insLays : Go.Proofs.SlLaysF0.n20 Tryz.prog insRen := {
  mixed := by kernel_rfl
  f20 := ⟨Tryz.f108.name, by decide, Tryz.func108.trans (congrArg some (by kernel_rfl))⟩
  t0 := Tryz.underlying0
  a0 := Tryz.isAgg0
  z0 := Tryz.sizeOf0
  v0 := Tryz.zeroValue0
  t3 := Tryz.underlying3
  a3 := Tryz.isAgg3
  z3 := Tryz.sizeOf3
  v3 := Tryz.zeroValue3
  t4 := Tryz.underlying4
  a4 := Tryz.isAgg4
  z4 := Tryz.sizeOf4
  v4 := Tryz.zeroValue4
  t22 := Tryz.underlying36
  a22 := Tryz.isAgg36
  z22 := Tryz.sizeOf36
  v22 := Tryz.zeroValue36
  t25 := Tryz.underlying77
  a25 := Tryz.isAgg77
  z25 := Tryz.sizeOf77
  v25 := Tryz.zeroValue77 }

section
variable {α : Type} [Inhabited α]
theorem sym_upto {P : Program} {k : Nat} (L : StbL P k) (enc : α → List Value) (cf : α → α → Int) (hO : SWO (ltOf cf)) (ix : α → Nat) (g : Nat) (cb : Array Value) (blk off cap : Nat) (d0 : Array α) (w0 : World)
    (eg : ∀ args w, (callFunc g args).run P w = .ok (.enter g args) w) (R : RowK enc k w0 blk off d0) (hcmp : CmpLays P g cb enc k cf blk off d0.size w0) (hsz : d0.size < 4611686018427387904) : ∀ F, SymUpto P enc k cf ix g cb blk off cap d0 w0 F := by
  intro F
  induction F with
  | zero => intro x y z a m b d w hx hy hz hF hN S ham hmb hb hP; omega
  | succ F ih =>
    intro x y z a m b d w hx hy hz hF hN S ham hmb hb hP
    subst hx hy hz
    by_cases h1 : m = a + 1
    · exact sym_left L enc cf hO ix g cb blk off cap d0 w0 eg R hcmp hsz a m b d w hN S h1 hmb hb (h1 ▸ hP)
    · by_cases h2 : b = m + 1
      · exact sym_right L enc cf hO ix g cb blk off cap d0 w0 eg R hcmp hsz a m b d w hN S (by omega) h2 hb (h2 ▸ hP)
      · exact sym_both L enc cf hO ix g cb blk off cap d0 w0 eg R hcmp hsz F a m b d w ih hF hN S (by omega) (by omega) hb hP

def InsPost (enc : α → List Value) (w0 : World) (blk off : Nat) (lt : α → α → Bool) (ix : α → Nat) (a b : Nat) (d : Array α) (e : Ending) (w' : World) : Prop :=
  e = .returned (.tuple #[]) ∧ ∃ d', PermIn a b d d' ∧ SortedIn (Rk.ltx lt ix) a b d' ∧ SWK enc 5 w0 blk off d' w'
theorem ins_any (enc : α → List Value) (cf : α → α → Int) (hO : SWO (ltOf cf)) (ix : α → Nat) (g : Nat) (cb : Array Value) (blk off cap : Nat) (d0 : Array α) (w0 : World)
    (eg : ∀ args w, (callFunc g args).run Tryz.prog w = .ok (.enter g args) w) (R : RowK enc 5 w0 blk off d0) (hcmp : CmpLays Tryz.prog g cb enc 5 cf blk off d0.size w0) (hsz : d0.size < 4611686018427387904)
    (x y : Int) (a b : Nat) (d : Array α) (w : World) (hx : x = a) (hy : y = b) (hN : d.size = d0.size) (S : SWK enc 5 w0 blk off d w) (hab : a ≤ b) (hb : b ≤ d0.size) (hix : ∀ p q, a ≤ p → p < q → q < b → ix d[p]! < ix d[q]!) :
    Calls Tryz.prog 108 #[.slice (some ⟨blk, off, none⟩) d0.size cap, .int .i64 x, .int .i64 y, .func (.func g) #[] cb] w (InsPost enc w0 blk off (ltOf cf) ix a b d) := by
  subst hx hy
  have hC : CmpLays Tryz.prog g cb enc 5 cf blk off d.size w := fun m os dk hdk x y => by
    obtain ⟨n0, os0, rfl⟩ := S
    rw [sortWorldK_on enc 5 w0 blk off n0 m d dk os0 os R.hblk hdk]
    exact hcmp _ _ dk (by omega) x y
  have hI := Rk.insertionSort_stable (ix := ix) hO a b d hab (by omega) hix
  rw [← hN] at hb hsz ⊢
  refine (AnyQ.insertionSortCmpFunc insLays 5 Tryz.isAgg64 Tryz.sizeOf64 enc R.hk R.h1 cf g cb blk off cap a b d w eg hC (S.holds R.hblk R.hH hN) (S.lt R.hblk) hab hb hsz).mono ?_
  rintro e w' ⟨rfl, n, os, rfl⟩
  exact ⟨rfl, _, hI.1, hI.2, S.on R.hblk _ _ _ hI.1.1⟩

set_option maxHeartbeats 2000000 in
set_option maxRecDepth 100000 in
theorem stable_any (enc : α → List Value) (cf : α → α → Int) (hO : SWO (ltOf cf)) (ix : α → Nat) (g : Nat) (cb : Array Value) (blk off cap : Nat) (d0 : Array α) (w0 : World)
    (eg : ∀ args w, (callFunc g args).run Tryz.prog w = .ok (.enter g args) w) (R : RowK enc 5 w0 blk off d0) (hcmp : CmpLays Tryz.prog g cb enc 5 cf blk off d0.size w0) (hsz : d0.size ≤ 256)
    (hix : ∀ p q, p < q → q < d0.size → ix d0[p]! < ix d0[q]!) :
    Calls Tryz.prog 89 #[.slice (some ⟨blk, off, none⟩) d0.size cap, .int .i64 d0.size, .func (.func g) #[] cb] w0 (MergePost enc 5 w0 blk off (ltOf cf) ix 0 d0.size d0) := by
  have HIns := Lib.hid (ins_any enc cf hO ix g cb blk off cap d0 w0 eg R hcmp (by omega))
  have HSym := Lib.hid (sym_upto stbL enc cf hO ix g cb blk off cap d0 w0 eg R hcmp (by omega))
  have Hix := Lib.hid hix
  have S0 : Aside (SWK enc 5 w0 blk off d0 w0) := SWK.start R.hH
  have P0 := Lib.hid (Rk.Ph1.start (lt := ltOf cf) 20 hix)
  clear hcmp hix
  go_enter Tryz.func89, Tryz.ntmps89
  go_wp2
  go_loopg [7, 8] d0.size (fun kx s7 s8 wr => ∃ (c a : Nat) (dk : Array α), s7 = .int .i64 a ∧ s8 = .int .i64 ((a : Int) + 20) ∧ a ≤ d0.size ∧ d0.size - a ≤ kx ∧ Hid (a = c * 20) ∧ Aside (SWK enc 5 w0 blk off dk wr) ∧ Hid (Rk.Ph1 (ltOf cf) ix 20 d0.size c d0 dk))
  case atStart => exact ⟨0, 0, d0, rfl, rfl, Nat.zero_le _, Nat.le_refl _, rfl, S0, P0⟩
  case round =>
    clear S0 P0
    obtain ⟨c, a, dk, rfl, rfl, han, hkx, HA, S1, HP⟩ := hrel
    have Hinc := Lib.hid (HP.out.incr Hix.out)
    by_cases hlt : a + 20 ≤ d0.size
    · go_wp2_with fail
      refine (HIns.out _ _ a (a + 20) dk _ rfl (by omega) HP.out.perm.1 S1.out (by omega) hlt (fun p q h1 h2 h3 => Hinc.out p q (by rw [← HA.out]; exact h1) h2 (by omega))).mono ?_
      rintro e w1 ⟨rfl, d1, h1, h2, hS⟩
      have S2 : Aside (SWK enc 5 w0 blk off d1 w1) := hS
      have HP2 := Lib.hid (HP.out.step (Nat.le_refl _) (by rw [← HA.out]; exact hlt) (by rw [← HA.out]; exact h1) (by rw [← HA.out]; exact h2))
      clear h1 h2 hS
      go_wp2
      go_roundg (d0.size - (a + 20))
      case measure => omega
      case rel => exact ⟨c + 1, a + 20, d1, by go_num, by go_num, hlt, Nat.le_refl _, by show a + 20 = (c + 1) * 20; rw [HA.out]; omega, S2, HP2⟩
    · go_wp2_with fail
      refine (HIns.out _ _ a d0.size dk _ rfl rfl HP.out.perm.1 S1.out (by omega) (Nat.le_refl _) (fun p q h1 h2 h3 => Hinc.out p q (by rw [← HA.out]; exact h1) h2 (by omega))).mono ?_
      rintro e w1 ⟨rfl, d1, h1, h2, hS⟩
      have S2 : Aside (SWK enc 5 w0 blk off d1 w1) := hS
      have HP2 := Lib.hid (HP.out.last (Nat.le_refl _) (by rw [← HA.out]; exact han) (by rw [← HA.out]; omega) (by rw [← HA.out]; exact h1) (by rw [← HA.out]; exact h2))
      clear h1 h2 hS hkx han hlt HA HP Hinc S1
      go_wp2
      go_loopg [6] d0.size (fun kx s6 wr => ∃ (B : Nat) (dq : Array α), s6 = .int .i64 B ∧ 20 ≤ B ∧ d0.size - B ≤ kx ∧ B ≤ 1024 ∧ Aside (SWK enc 5 w0 blk off dq wr) ∧ Hid (Rk.Ph2 (ltOf cf) ix B d0.size d0 dq))
      case atStart => exact ⟨20, d1, rfl, Nat.le_refl _, by omega, by omega, S2, HP2⟩
      case round =>
        clear S2 HP2
        obtain ⟨B, dq, rfl, hB, hkx, hB2, S3, HQ⟩ := hrel
        by_cases hlt : B < d0.size
        · obtain ⟨wo, rfl⟩ : ∃ wo : World, wo = wr := ⟨_, rfl⟩
          go_wp2
          go_loopg [7, 8] d0.size (fun kx s7 s8 wr => ∃ (c a : Nat) (dk : Array α), s7 = .int .i64 a ∧ s8 = .int .i64 ((a : Int) + 2 * (B : Int)) ∧ a ≤ d0.size ∧ d0.size - a ≤ kx ∧ Hid (a = c * (2 * B)) ∧ Aside (SWK enc 5 w0 blk off dk wr) ∧ Hid (Rk.Ph3 (ltOf cf) ix B d0.size c d0 dq dk))
          case atStart => exact ⟨0, 0, dq, rfl, by go_num, Nat.zero_le _, Nat.le_refl _, (show Hid _ from by show 0 = 0 * (2 * B); omega), S3, Rk.Ph3.start HQ.out⟩
          case round =>
            clear S3
            obtain ⟨c, a, dk, rfl, rfl, han, hkx2, HA, S4, HP⟩ := hrel
            by_cases hlt2 : a + 2 * B ≤ d0.size
            · go_wp2_with fail
              have hpre := HP.out.pre (e := a + 2 * B) HQ.out (by rw [← HA.out]; omega) (by rw [← HA.out]; omega) hlt2
              rw [← HA.out] at hpre
              refine (HSym.out d0.size _ _ _ a (a + B) (a + 2 * B) dk _ rfl (by omega) (by omega) (by omega) HP.out.perm.1 S4.out (by omega) (by omega) (by omega) hpre).mono ?_
              rintro e w2 ⟨rfl, d2, h1, hS⟩
              have S5 : Aside (SWK enc 5 w0 blk off d2 w2) := hS
              have HP2 := Lib.hid (HP.out.step (Nat.le_refl _) (by rw [← HA.out]; exact hlt2) (by rw [← HA.out]; exact h1))
              clear hpre h1 hS
              go_wp2
              go_roundg (d0.size - (a + 2 * B))
              case measure => omega
              case rel => exact ⟨c + 1, a + 2 * B, d2, by first | rfl | go_num | (congr 1; omega), by first | rfl | go_num | (congr 1; omega), hlt2, Nat.le_refl _, (show Hid _ from by show a + 2 * B = (c + 1) * (2 * B); rw [Nat.add_mul, Nat.one_mul, ← HA.out]), S5, HP2⟩
            · by_cases hm : a + B < d0.size
              · go_wp2_with fail
                have hpre := HP.out.pre (e := d0.size) HQ.out (by rw [← HA.out]; omega) (by rw [← HA.out]; omega) (Nat.le_refl _)
                rw [← HA.out] at hpre
                refine (HSym.out d0.size _ _ _ a (a + B) d0.size dk _ rfl (by omega) rfl (by omega) HP.out.perm.1 S4.out (by omega) (by omega) (by omega) hpre).mono ?_
                rintro e w2 ⟨rfl, d2, h1, hS⟩
                have S5 : Aside (SWK enc 5 w0 blk off d2 w2) := hS
                have HP2 := Lib.hid (HP.out.last (Nat.le_refl _) (by rw [← HA.out]; exact han) (by rw [← HA.out]; omega) (by rw [← HA.out]; exact h1))
                clear hpre h1 hS
                go_wp2
                go_roundg (d0.size - 2 * B)
                case measure => omega
                case rel => exact ⟨2 * B, d2, by first | rfl | go_num | (congr 1; omega), by omega, Nat.le_refl _, by omega, S5, HP2⟩
              · have HP2 := Lib.hid (HP.out.last (Nat.le_refl _) (by rw [← HA.out]; exact han) (by rw [← HA.out]; omega) (HP.out.alone HQ.out (by rw [← HA.out]; omega)))
                go_wp2
                go_roundg (d0.size - 2 * B)
                case measure => omega
                case rel => exact ⟨2 * B, dk, by first | rfl | go_num | (congr 1; omega), by omega, Nat.le_refl _, by omega, S4, HP2⟩
        · go_wp2
          go_end0
          exact ⟨rfl, dq, HQ.out.whole (by omega), S3.out⟩

set_option maxHeartbeats 800000 in
theorem sortStable_any (enc : α → List Value) (cf : α → α → Int) (hO : SWO (ltOf cf)) (ix : α → Nat) (g : Nat) (cb : Array Value) (blk off cap : Nat) (d0 : Array α) (w0 : World)
    (eg : ∀ args w, (callFunc g args).run Tryz.prog w = .ok (.enter g args) w) (R : RowK enc 5 w0 blk off d0) (hcmp : CmpLays Tryz.prog g cb enc 5 cf blk off d0.size w0) (hsz : d0.size ≤ 256)
    (hix : ∀ p q, p < q → q < d0.size → ix d0[p]! < ix d0[q]!) :
    Calls Tryz.prog 41 #[.slice (some ⟨blk, off, none⟩) d0.size cap, .func (.func g) #[] cb] w0 (MergePost enc 5 w0 blk off (ltOf cf) ix 0 d0.size d0) := by
  have HS := Lib.hid (stable_any enc cf hO ix g cb blk off cap d0 w0 eg R hcmp hsz hix)
  clear hcmp hix R
  go_enter Tryz.func41, Tryz.ntmps41
  go_wp2_with fail
  refine HS.out.mono ?_
  rintro e w1 ⟨rfl, hq⟩
  have HQ := Lib.hid hq
  clear hq
  go_wp2
  go_end0
  exact ⟨rfl, HQ.out⟩
end
end Go.Proofs.YtfpmbjobieeidaaGreat
