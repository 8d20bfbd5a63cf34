/-
  The stable sort's pieces on standings, over any program that holds their bodies: swapRange, rotate.
-/
import Derived.Test.YtfpmbjobieeidaaGreatRows
import Derived.Test.YtfpmbjobieeidaaGreatPlainS
import Derived.Shelf.SlSortCmp.KitK
import Derived.Sort.WalkB2
import Derived.Sort.WalkB12
import Derived.Deep.LoopGhost
import Derived.Lib.Hide
namespace Go.Proofs.YtfpmbjobieeidaaGreat
open Go.Shelf Go.RowKit Go.Lib Go.Sort

/-- What the bodies lean on. -/
structure StbL (P : Program) (k : Nat) : Prop where
  mixed : P.follows .mixedOrders = true
  t0 : P.underlying 0 = some (TypeDesc.tuple #[])
  a0 : ∀ w, (isAgg 0).run P w = .ok false w
  z0 : ∀ w, (Go.sizeOf 0).run P w = .ok 1 w
  v0 : ∀ w, (zeroValue 0).run P w = .ok (Value.tuple #[]) w
  t3 : P.underlying 3 = some (TypeDesc.int IntKind.i64)
  a3 : ∀ w, (isAgg 3).run P w = .ok false w
  z3 : ∀ w, (Go.sizeOf 3).run P w = .ok 1 w
  v3 : ∀ w, (zeroValue 3).run P w = .ok (Value.int IntKind.i64 0) w
  t4 : P.underlying 4 = some (TypeDesc.bool)
  a4 : ∀ w, (isAgg 4).run P w = .ok false w
  z4 : ∀ w, (Go.sizeOf 4).run P w = .ok 1 w
  v4 : ∀ w, (zeroValue 4).run P w = .ok (Value.bool false) w
  t114 : P.underlying 81 = some (TypeDesc.int IntKind.u64)
  a114 : ∀ w, (isAgg 81).run P w = .ok false w
  z114 : ∀ w, (Go.sizeOf 81).run P w = .ok 1 w
  v114 : ∀ w, (zeroValue 81).run P w = .ok (Value.int IntKind.u64 0) w
  t53 : P.underlying 36 = some (TypeDesc.slice 64)
  a53 : ∀ w, (isAgg 36).run P w = .ok false w
  z53 : ∀ w, (Go.sizeOf 36).run P w = .ok 1 w
  v53 : ∀ w, (zeroValue 36).run P w = .ok (Value.slice none 0 0) w
  t110 : P.underlying 77 = some (TypeDesc.func #[64, 64] #[3] false)
  a110 : ∀ w, (isAgg 77).run P w = .ok false w
  z110 : ∀ w, (Go.sizeOf 77).run P w = .ok 1 w
  v110 : ∀ w, (zeroValue 77).run P w = .ok (Value.nilFunc) w
  aE : ∀ w, (isAgg 64).run P w = .ok true w
  zE : ∀ w, (Go.sizeOf 64).run P w = .ok k w
  fIns : P.funcs[108]? = some Tryz.f108
  fSwr : P.funcs[140]? = some Tryz.f140
  fRot : P.funcs[131]? = some Tryz.f131
  fSym : P.funcs[109]? = some Tryz.f109

theorem stbL : StbL Tryz.prog 5 where
  mixed := by kernel_rfl
  t0 := Tryz.underlying0
  a0 := Tryz.isAgg0
  z0 := Tryz.sizeOf0
  v0 := Tryz.zeroValue0
  t3 := Tryz.underlying3
  a3 := Tryz.isAgg3
  z3 := Tryz.sizeOf3
  v3 := Tryz.zeroValue3
  t4 := Tryz.underlying4
  a4 := Tryz.isAgg4
  z4 := Tryz.sizeOf4
  v4 := Tryz.zeroValue4
  t114 := Tryz.underlying81
  a114 := Tryz.isAgg81
  z114 := Tryz.sizeOf81
  v114 := Tryz.zeroValue81
  t53 := Tryz.underlying36
  a53 := Tryz.isAgg36
  z53 := Tryz.sizeOf36
  v53 := Tryz.zeroValue36
  t110 := Tryz.underlying77
  a110 := Tryz.isAgg77
  z110 := Tryz.sizeOf77
  v110 := Tryz.zeroValue77
  aE := Tryz.isAgg64
  zE := Tryz.sizeOf64
  fIns := Tryz.func108
  fSwr := Tryz.func140
  fRot := Tryz.func131
  fSym := Tryz.func109

section
variable {P : Program} {α : Type} [Inhabited α]
def SwPost (enc : α → List Value) (k : Nat) (w0 : World) (blk off a b n : Nat) (d : Array α) (e : Ending) (w' : World) : Prop :=
  e = .returned (.tuple #[]) ∧ ∃ d', Rk.SwR a b n d d' ∧ SWK enc k w0 blk off d' w'
def RotPost (enc : α → List Value) (k : Nat) (w0 : World) (blk off x y z : Nat) (d : Array α) (e : Ending) (w' : World) : Prop :=
  e = .returned (.tuple #[]) ∧ ∃ d', Rk.IsRot x y z d d' ∧ SWK enc k w0 blk off d' w'

set_option maxHeartbeats 4000000 in
set_option maxRecDepth 1000000 in
theorem swapRange_any {k : Nat} (L : StbL P k) (enc : α → List Value) (g : Nat) (cb : Array Value) (blk off cap a b n : Nat) (d0 d : Array α) (w0 w : World)
    (R : RowK enc k w0 blk off d0) (hs : d0.size = d.size) (S : SWK enc k w0 blk off d w) (hab : a + n ≤ b) (hb : b + n ≤ d.size) (hsz : d.size < 4611686018427387904) :
    Calls P 140 #[.slice (some ⟨blk, off, none⟩) d.size cap, .int .i64 a, .int .i64 b, .int .i64 n, .func (.func g) #[] cb] w (SwPost enc k w0 blk off a b n d) := by
  have mixed := L.mixed; have t0 := L.t0; have a0 := L.a0; have z0 := L.z0; have v0 := L.v0; have t3 := L.t3; have a3 := L.a3; have z3 := L.z3; have v3 := L.v3; have t4 := L.t4; have a4 := L.a4; have z4 := L.z4; have v4 := L.v4; have t53 := L.t53; have a53 := L.a53; have z53 := L.z53; have v53 := L.v53; have t110 := L.t110; have a110 := L.a110; have z110 := L.z110; have v110 := L.v110; have aE := L.aE; have zE := L.zE
  have FG := L.fSwr
  have S0 : Aside (SWK enc k w0 blk off d w) := S
  clear S L
  go_enter FG, Tryz.ntmps140
  go_wp2
  go_loopg [10] n (fun kx s10 wr => ∃ (i : Nat) (dk : Array α), s10 = .int .i64 i ∧ i ≤ n ∧ n - i ≤ kx ∧ dk.size = d.size ∧ Aside (SWK enc k w0 blk off dk wr) ∧ Hid (Rk.SwR a b i d dk))
  case atStart => exact ⟨0, d, rfl, Nat.zero_le _, Nat.le_refl _, rfl, S0, Rk.SwR.zero a b d⟩
  case round =>
    clear S0
    obtain ⟨i, dk, rfl, hin, hkx, hds, S1, HR⟩ := hrel
    by_cases hlt : i < n
    · have HR2 := Lib.hid (HR.out.step (by omega) (by omega))
      clear HR
      have ea44 : ((a : Int) + (i : Int)).toNat = a + i := by omega
      have pa44 : (0 : Int) ≤ (a : Int) + (i : Int) := by omega
      have ba44 : (a : Int) + (i : Int) < (d.size : Int) := by omega
      have ra44 : IntKind.i64.wrap ((a : Int) + (i : Int)) = (a : Int) + (i : Int) := by rw [IntKind.wrap_i64]; omega
      have ec44 : ((b : Int) + (i : Int)).toNat = b + i := by omega
      have pc44 : (0 : Int) ≤ (b : Int) + (i : Int) := by omega
      have bc44 : (b : Int) + (i : Int) < (d.size : Int) := by omega
      have rc44 : IntKind.i64.wrap ((b : Int) + (i : Int)) = (b : Int) + (i : Int) := by rw [IntKind.wrap_i64]; omega
      have S2 : Aside (SWK enc k w0 blk off (swp dk (a + i) (b + i)) ((wr.drew.setCells blk (off + (a + i) * k) (enc dk[b + i]!)).setCells blk (off + (b + i) * k) (enc dk[a + i]!))) := S1.out.swapped R (a + i) (b + i) (by omega) (by omega)
      have l44a := S1.out.ld1 R (by omega) P (a + i) (by omega)
      have l44b := S1.out.ld1 R (by omega) P (b + i) (by omega)
      have s44a := S1.out.st1 R (by omega) P (a + i) (by omega) dk[b + i]!
      have s44b := S1.out.st2 R (by omega) P (a + i) (b + i) (by omega) (by omega) dk[b + i]! dk[a + i]!
      have n44a : (enc dk[a + i]!).length = k := R.hk _
      have n44b : (enc dk[b + i]!).length = k := R.hk _
      generalize enc dk[a + i]! = cI44 at S2 l44a s44b n44a
      generalize enc dk[b + i]! = cJ44 at S2 l44b s44a s44b n44b
      clear S1
      go_wp2_with fail
      go_big_region_o
      clear l44a l44b s44a s44b
      generalize (wr.drew.setCells blk (off + (a + i) * k) cJ44).setCells blk (off + (b + i) * k) cI44 = w2 at S2 ⊢
      go_wp2
      go_roundg (n - (i + 1))
      case measure => omega
      case rel => exact ⟨i + 1, swp dk (a + i) (b + i), by go_num, by omega, Nat.le_refl _, by rw [size_swp]; exact hds, S2, HR2⟩
    · obtain rfl : i = n := by omega
      go_wp2
      go_end0
      exact ⟨rfl, dk, HR.out, S1.out⟩

theorem swapRange_at {k : Nat} (L : StbL P k) (enc : α → List Value) (g : Nat) (cb : Array Value) (blk off cap : Nat) (x y z : Int) (a b n N : Nat) (d0 d : Array α) (w0 w : World)
    (R : RowK enc k w0 blk off d0) (hN : d.size = N) (hs : d0.size = d.size) (S : SWK enc k w0 blk off d w) (hab : a + n ≤ b) (hb : b + n ≤ d.size) (hsz : d.size < 4611686018427387904) (hx : x = a) (hy : y = b) (hz : z = n) :
    Calls P 140 #[.slice (some ⟨blk, off, none⟩) N cap, .int .i64 x, .int .i64 y, .int .i64 z, .func (.func g) #[] cb] w (SwPost enc k w0 blk off a b n d) := by
  subst hx hy hz hN
  exact swapRange_any L enc g cb blk off cap a b n d0 d w0 w R hs S hab hb hsz

set_option maxHeartbeats 4000000 in
set_option maxRecDepth 1000000 in
theorem rotate_any {k : Nat} (L : StbL P k) (enc : α → List Value) (g : Nat) (cb : Array Value) (blk off cap a m b : Nat) (d0 d : Array α) (w0 w : World)
    (R : RowK enc k w0 blk off d0) (hs : d0.size = d.size) (S : SWK enc k w0 blk off d w) (ham : a < m) (hmb : m < b) (hb : b ≤ d.size) (hsz : d.size < 4611686018427387904) :
    Calls P 131 #[.slice (some ⟨blk, off, none⟩) d.size cap, .int .i64 a, .int .i64 m, .int .i64 b, .func (.func g) #[] cb] w (RotPost enc k w0 blk off a m b d) := by
  have eSw : ∀ args w, (callFunc 140 args).run P w = .ok (.enter 140 args) w := enters_of L.fSwr (by kernel_rfl) rfl
  have HL := Lib.hid L
  have mixed := L.mixed; have t0 := L.t0; have a0 := L.a0; have z0 := L.z0; have v0 := L.v0; have t3 := L.t3; have a3 := L.a3; have z3 := L.z3; have v3 := L.v3; have t4 := L.t4; have a4 := L.a4; have z4 := L.z4; have v4 := L.v4; have t53 := L.t53; have a53 := L.a53; have z53 := L.z53; have v53 := L.v53; have t110 := L.t110; have a110 := L.a110; have z110 := L.z110; have v110 := L.v110
  have FG := L.fRot
  have S0 : Aside (SWK enc k w0 blk off d w) := S
  clear S L
  go_enter FG, Tryz.ntmps131
  go_wp2
  go_loopg [10, 11] (b - a) (fun kx s10 s11 wr => ∃ (i j : Nat) (dk : Array α), s10 = .int .i64 i ∧ s11 = .int .i64 j ∧ 1 ≤ i ∧ 1 ≤ j ∧ a + i ≤ m ∧ m + j ≤ b ∧ i + j ≤ kx ∧ dk.size = d.size ∧ Aside (SWK enc k w0 blk off dk wr) ∧ Hid (∀ d2, Rk.IsRot (m - i) m (m + j) dk d2 → Rk.IsRot a m b d d2))
  case atStart => exact ⟨m - a, b - m, d, by go_num, by go_num, by omega, by omega, by omega, by omega, by omega, rfl, S0, fun d2 h => by rw [show m - (m - a) = a by omega, show m + (b - m) = b by omega] at h; exact h⟩
  case round =>
    clear S0
    obtain ⟨i, j, dk, rfl, rfl, hi1, hj1, hai, hjb, hkx, hds, S1, HR⟩ := hrel
    by_cases hij : i = j
    · subst hij
      have hne : ((i : Int) != (i : Int)) = false := by simp
      go_wp2_with fail
      refine (swapRange_at HL.out enc g cb blk off cap _ _ _ (m - i) m i _ d0 dk w0 _ R hds (by omega) S1.out (by omega) (by omega) (by omega) (by omega) rfl rfl).mono ?_
      rintro e w1 ⟨rfl, d1, h1, h2⟩
      go_wp2
      go_end0
      exact ⟨rfl, d1, HR.out _ (Rk.rot_even h1 (by omega)), h2⟩
    · have hne : ((i : Int) != (j : Int)) = true := by simp; omega
      by_cases hgt : j < i
      · go_wp2_with fail
        refine (swapRange_at HL.out enc g cb blk off cap _ _ _ (m - i) m j _ d0 dk w0 _ R hds (by omega) S1.out (by omega) (by omega) (by omega) (by omega) rfl rfl).mono ?_
        rintro e w1 ⟨rfl, d1, h1, h2⟩
        have S2 : Aside (SWK enc k w0 blk off d1 w1) := h2
        have H1 := Lib.hid h1
        clear h1 h2 S1
        go_wp2
        go_roundg (i - j + j)
        case measure => omega
        case rel => exact ⟨i - j, j, d1, by go_num, rfl, by omega, by omega, by omega, by omega, by omega, H1.out.1.trans hds, S2, fun d2 h => HR.out d2 (Rk.rot_long H1.out h (by omega) hgt (by omega))⟩
      · go_wp2_with fail
        refine (swapRange_at HL.out enc g cb blk off cap _ _ _ (m - i) (m + j - i) i _ d0 dk w0 _ R hds (by omega) S1.out (by omega) (by omega) (by omega) (by omega) (by omega) rfl).mono ?_
        rintro e w1 ⟨rfl, d1, h1, h2⟩
        have S2 : Aside (SWK enc k w0 blk off d1 w1) := h2
        have H1 := Lib.hid h1
        clear h1 h2 S1
        go_wp2
        go_roundg (i + (j - i))
        case measure => omega
        case rel => exact ⟨i, j - i, d1, rfl, by go_num, by omega, by omega, by omega, by omega, by omega, H1.out.1.trans hds, S2, fun d2 h => HR.out d2 (Rk.rot_short H1.out h (by omega) (by omega) (by omega))⟩
end
end Go.Proofs.YtfpmbjobieeidaaGreat
