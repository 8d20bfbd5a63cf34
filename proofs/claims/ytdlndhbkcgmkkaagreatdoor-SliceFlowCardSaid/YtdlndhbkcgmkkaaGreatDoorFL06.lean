/-
 Part 6 of 35 of a proof about the given program: facts on which the last part stands.
-/
import Derived.Test.YtdlndhbkcgmkkaaGreatDoorFL05
set_option maxHeartbeats 12800000
set_option linter.unusedVariables false
set_option linter.unusedSimpArgs false
namespace Go.Ev
section
open Go
noncomputable section
variable {α β γ:Type}
namespace aB
def p0 (n:aB α) (k:α→β):β:=aB.rec (motive:=fun _=>β) (fun a0 a1 a2 a3 a4 a5 a6 a7 a8 a9 bW bV a12 bU bT bS=>k a0) n
def p1 (n:aB α) (k:α→β):β:=aB.rec (motive:=fun _=>β) (fun a0 a1 a2 a3 a4 a5 a6 a7 a8 a9 bW bV a12 bU bT bS=>k a1) n
def p2 (n:aB α) (k:α→β):β:=aB.rec (motive:=fun _=>β) (fun a0 a1 a2 a3 a4 a5 a6 a7 a8 a9 bW bV a12 bU bT bS=>k a2) n
def p3 (n:aB α) (k:α→β):β:=aB.rec (motive:=fun _=>β) (fun a0 a1 a2 a3 a4 a5 a6 a7 a8 a9 bW bV a12 bU bT bS=>k a3) n
def p4 (n:aB α) (k:α→β):β:=aB.rec (motive:=fun _=>β) (fun a0 a1 a2 a3 a4 a5 a6 a7 a8 a9 bW bV a12 bU bT bS=>k a4) n
def p5 (n:aB α) (k:α→β):β:=aB.rec (motive:=fun _=>β) (fun a0 a1 a2 a3 a4 a5 a6 a7 a8 a9 bW bV a12 bU bT bS=>k a5) n
def p6 (n:aB α) (k:α→β):β:=aB.rec (motive:=fun _=>β) (fun a0 a1 a2 a3 a4 a5 a6 a7 a8 a9 bW bV a12 bU bT bS=>k a6) n
def p7 (n:aB α) (k:α→β):β:=aB.rec (motive:=fun _=>β) (fun a0 a1 a2 a3 a4 a5 a6 a7 a8 a9 bW bV a12 bU bT bS=>k a7) n
def p8 (n:aB α) (k:α→β):β:=aB.rec (motive:=fun _=>β) (fun a0 a1 a2 a3 a4 a5 a6 a7 a8 a9 bW bV a12 bU bT bS=>k a8) n
def p9 (n:aB α) (k:α→β):β:=aB.rec (motive:=fun _=>β) (fun a0 a1 a2 a3 a4 a5 a6 a7 a8 a9 bW bV a12 bU bT bS=>k a9) n
def O5 (n:aB α) (k:α→β):β:=aB.rec (motive:=fun _=>β) (fun a0 a1 a2 a3 a4 a5 a6 a7 a8 a9 bW bV a12 bU bT bS=>k bW) n
def RP (n:aB α) (k:α→β):β:=aB.rec (motive:=fun _=>β) (fun a0 a1 a2 a3 a4 a5 a6 a7 a8 a9 bW bV a12 bU bT bS=>k bV) n
def p12 (n:aB α) (k:α→β):β:=aB.rec (motive:=fun _=>β) (fun a0 a1 a2 a3 a4 a5 a6 a7 a8 a9 bW bV a12 bU bT bS=>k a12) n
def p13 (n:aB α) (k:α→β):β:=aB.rec (motive:=fun _=>β) (fun a0 a1 a2 a3 a4 a5 a6 a7 a8 a9 bW bV a12 bU bT bS=>k bU) n
def p14 (n:aB α) (k:α→β):β:=aB.rec (motive:=fun _=>β) (fun a0 a1 a2 a3 a4 a5 a6 a7 a8 a9 bW bV a12 bU bT bS=>k bT) n
def p15 (n:aB α) (k:α→β):β:=aB.rec (motive:=fun _=>β) (fun a0 a1 a2 a3 a4 a5 a6 a7 a8 a9 bW bV a12 bU bT bS=>k bS) n
def u0 (f:α→(α→β)→β) (n:aB α) (k:aB α→β):β:=aB.rec (motive:=fun _=>β) (fun a0 a1 a2 a3 a4 a5 a6 a7 a8 a9 bW bV a12 bU bT bS=>f a0 fun r=>k (aB.mk r a1 a2 a3 a4 a5 a6 a7 a8 a9 bW bV a12 bU bT bS)) n
def u1 (f:α→(α→β)→β) (n:aB α) (k:aB α→β):β:=aB.rec (motive:=fun _=>β) (fun a0 a1 a2 a3 a4 a5 a6 a7 a8 a9 bW bV a12 bU bT bS=>f a1 fun r=>k (aB.mk a0 r a2 a3 a4 a5 a6 a7 a8 a9 bW bV a12 bU bT bS)) n
def u2 (f:α→(α→β)→β) (n:aB α) (k:aB α→β):β:=aB.rec (motive:=fun _=>β) (fun a0 a1 a2 a3 a4 a5 a6 a7 a8 a9 bW bV a12 bU bT bS=>f a2 fun r=>k (aB.mk a0 a1 r a3 a4 a5 a6 a7 a8 a9 bW bV a12 bU bT bS)) n
def u3 (f:α→(α→β)→β) (n:aB α) (k:aB α→β):β:=aB.rec (motive:=fun _=>β) (fun a0 a1 a2 a3 a4 a5 a6 a7 a8 a9 bW bV a12 bU bT bS=>f a3 fun r=>k (aB.mk a0 a1 a2 r a4 a5 a6 a7 a8 a9 bW bV a12 bU bT bS)) n
def u4 (f:α→(α→β)→β) (n:aB α) (k:aB α→β):β:=aB.rec (motive:=fun _=>β) (fun a0 a1 a2 a3 a4 a5 a6 a7 a8 a9 bW bV a12 bU bT bS=>f a4 fun r=>k (aB.mk a0 a1 a2 a3 r a5 a6 a7 a8 a9 bW bV a12 bU bT bS)) n
def u5 (f:α→(α→β)→β) (n:aB α) (k:aB α→β):β:=aB.rec (motive:=fun _=>β) (fun a0 a1 a2 a3 a4 a5 a6 a7 a8 a9 bW bV a12 bU bT bS=>f a5 fun r=>k (aB.mk a0 a1 a2 a3 a4 r a6 a7 a8 a9 bW bV a12 bU bT bS)) n
def u6 (f:α→(α→β)→β) (n:aB α) (k:aB α→β):β:=aB.rec (motive:=fun _=>β) (fun a0 a1 a2 a3 a4 a5 a6 a7 a8 a9 bW bV a12 bU bT bS=>f a6 fun r=>k (aB.mk a0 a1 a2 a3 a4 a5 r a7 a8 a9 bW bV a12 bU bT bS)) n
def u7 (f:α→(α→β)→β) (n:aB α) (k:aB α→β):β:=aB.rec (motive:=fun _=>β) (fun a0 a1 a2 a3 a4 a5 a6 a7 a8 a9 bW bV a12 bU bT bS=>f a7 fun r=>k (aB.mk a0 a1 a2 a3 a4 a5 a6 r a8 a9 bW bV a12 bU bT bS)) n
def u8 (f:α→(α→β)→β) (n:aB α) (k:aB α→β):β:=aB.rec (motive:=fun _=>β) (fun a0 a1 a2 a3 a4 a5 a6 a7 a8 a9 bW bV a12 bU bT bS=>f a8 fun r=>k (aB.mk a0 a1 a2 a3 a4 a5 a6 a7 r a9 bW bV a12 bU bT bS)) n
def u9 (f:α→(α→β)→β) (n:aB α) (k:aB α→β):β:=aB.rec (motive:=fun _=>β) (fun a0 a1 a2 a3 a4 a5 a6 a7 a8 a9 bW bV a12 bU bT bS=>f a9 fun r=>k (aB.mk a0 a1 a2 a3 a4 a5 a6 a7 a8 r bW bV a12 bU bT bS)) n
def VY (f:α→(α→β)→β) (n:aB α) (k:aB α→β):β:=aB.rec (motive:=fun _=>β) (fun a0 a1 a2 a3 a4 a5 a6 a7 a8 a9 bW bV a12 bU bT bS=>f bW fun r=>k (aB.mk a0 a1 a2 a3 a4 a5 a6 a7 a8 a9 r bV a12 bU bT bS)) n
def u11 (f:α→(α→β)→β) (n:aB α) (k:aB α→β):β:=aB.rec (motive:=fun _=>β) (fun a0 a1 a2 a3 a4 a5 a6 a7 a8 a9 bW bV a12 bU bT bS=>f bV fun r=>k (aB.mk a0 a1 a2 a3 a4 a5 a6 a7 a8 a9 bW r a12 bU bT bS)) n
def VX (f:α→(α→β)→β) (n:aB α) (k:aB α→β):β:=aB.rec (motive:=fun _=>β) (fun a0 a1 a2 a3 a4 a5 a6 a7 a8 a9 bW bV a12 bU bT bS=>f a12 fun r=>k (aB.mk a0 a1 a2 a3 a4 a5 a6 a7 a8 a9 bW bV r bU bT bS)) n
def VW (f:α→(α→β)→β) (n:aB α) (k:aB α→β):β:=aB.rec (motive:=fun _=>β) (fun a0 a1 a2 a3 a4 a5 a6 a7 a8 a9 bW bV a12 bU bT bS=>f bU fun r=>k (aB.mk a0 a1 a2 a3 a4 a5 a6 a7 a8 a9 bW bV a12 r bT bS)) n
def VV (f:α→(α→β)→β) (n:aB α) (k:aB α→β):β:=aB.rec (motive:=fun _=>β) (fun a0 a1 a2 a3 a4 a5 a6 a7 a8 a9 bW bV a12 bU bT bS=>f bT fun r=>k (aB.mk a0 a1 a2 a3 a4 a5 a6 a7 a8 a9 bW bV a12 bU r bS)) n
def u15 (f:α→(α→β)→β) (n:aB α) (k:aB α→β):β:=aB.rec (motive:=fun _=>β) (fun a0 a1 a2 a3 a4 a5 a6 a7 a8 a9 bW bV a12 bU bT bS=>f bS fun r=>k (aB.mk a0 a1 a2 a3 a4 a5 a6 a7 a8 a9 bW bV a12 bU bT r)) n
end aB
def pkD (d:eZ) (c:(aB α→(α→β)→β)→γ):γ:=eZ.rec (motive:=fun _=>γ) (c aB.p0) (c aB.p1) (c aB.p2) (c aB.p3) (c aB.p4) (c aB.p5) (c aB.p6) (c aB.p7) (c aB.p8) (c aB.p9) (c aB.O5) (c aB.RP) (c aB.p12) (c aB.p13) (c aB.p14) (c aB.p15) d
def stD (d:eZ) (c:(α→aB α→(aB α→β)→β)→γ):γ:=eZ.rec (motive:=fun _=>γ) (c aB.s0) (c aB.s1) (c aB.s2) (c aB.s3) (c aB.s4) (c aB.s5) (c aB.s6) (c aB.s7) (c aB.s8) (c aB.s9) (c aB.s10) (c aB.V1) (c aB.s12) (c aB.s13) (c aB.s14) (c aB.s15) d
def upD (d:eZ) (c:((α→(α→β)→β)→aB α→(aB α→β)→β)→γ):γ:=eZ.rec (motive:=fun _=>γ) (c aB.u0) (c aB.u1) (c aB.u2) (c aB.u3) (c aB.u4) (c aB.u5) (c aB.u6) (c aB.u7) (c aB.u8) (c aB.u9) (c aB.VY) (c aB.u11) (c aB.VX) (c aB.VW) (c aB.VV) (c aB.u15) d
def GI (d:eZ):aB α→(α→β)→β:=eZ.rec (motive:=fun _=>aB α→(α→β)→β) aB.p0 aB.p1 aB.p2 aB.p3 aB.p4 aB.p5 aB.p6 aB.p7 aB.p8 aB.p9 aB.O5 aB.RP aB.p12 aB.p13 aB.p14 aB.p15 d
def upR (d:eZ):(α→(α→β)→β)→aB α→(aB α→β)→β:=eZ.rec (motive:=fun _=>(α→(α→β)→β)→aB α→(aB α→β)→β) aB.u0 aB.u1 aB.u2 aB.u3 aB.u4 aB.u5 aB.u6 aB.u7 aB.u8 aB.u9 aB.VY aB.u11 aB.VX aB.VW aB.VV aB.u15 d
theorem bN0 (d:eZ) (c:(aB α→(α→β)→β)→γ):pkD d c=c fun n k=>k (aB.get d n):=by
 cases d<;>exact congrArg c (funext fun n=>funext fun k=>by cases n;rfl)
theorem bNV (d:eZ) (c:(α→aB α→(aB α→β)→β)→γ):stD d c=c (aB.iA d):=by cases d<;>rfl
theorem bNS (d:eZ) (c:((α→(α→β)→β)→aB α→(aB α→β)→β)→γ):upD d c=c fun f n k=>f (aB.get d n) fun r=>aB.iA d r n k:=by
 cases d<;>exact congrArg c (funext fun f=>funext fun n=>funext fun k=>by cases n;rfl)
theorem a3U (d:eZ) (n:aB α) (k:α→β):GI d n k=k (aB.get d n):=by cases d<;>cases n<;>rfl
theorem a3J (d:eZ) (f:α→(α→β)→β) (n:aB α) (k:aB α→β):upR d f n k=f (aB.get d n) fun r=>aB.iA d r n k:=by cases d<;>cases n<;>rfl
def fV (v:AV) (k:AV→β):β:=AV.rec (motive:=fun _=>β) (k .top) (fun b=>k (.bool b)) (fun kd n=>k (.int kd n)) (fun n x=>k (.str n x)) (k .pnil) (fun b o=>k (.ptr b o)) (k .snil) (fun b o n c=>k (.sl b o n c)) (fun b o n z=>k (.slu b o n z)) (k .mnil) (fun b=>k (.map b)) (fun f x y _ _=>k (.fn f x y)) (k .fnil) (k .inil) (fun t x _=>k (.iface t x)) (fun l _=>k (.agg l)) (fun l _=>k (.tup l)) (fun n=>k (.ge n)) (k .nl) (fun h t _ _=>k (.cons h t)) v
theorem rI (v:AV) (k:AV→β):fV v k=k v:=by cases v<;>rfl
def QW (v:AV):Nat:=AV.rec (motive:=fun _=>Nat) (0) (fun _=>0) (fun _ _=>0) (fun _ _=>0) (0) (fun _ _=>0) (0) (fun _ _ _ _=>0) (fun _ _ _ _=>0) (0) (fun _=>0) (fun _ _ _ _ _=>0) (0) (0) (fun _ _ _=>0) (fun _ _=>0) (fun _ _=>0) (fun _=>0) (0) (fun _ _ _ ih=>Nat.succ ih) v
theorem UC:∀v:AV,QW v=v.len
 |.top=>rfl
 |.bool _=>rfl
 |.int _ _=>rfl
 |.str _ _=>rfl
 |.pnil=>rfl
 |.ptr _ _=>rfl
 |.snil=>rfl
 |.sl _ _ _ _=>rfl
 |.slu _ _ _ _=>rfl
 |.mnil=>rfl
 |.map _=>rfl
 |.fn _ _ _=>rfl
 |.fnil=>rfl
 |.inil=>rfl
 |.iface _ _=>rfl
 |.agg _=>rfl
 |.tup _=>rfl
 |.ge _=>rfl
 |.nl=>rfl
 |.cons h t=>congrArg Nat.succ (UC t)
def aQZ (v:AV):Bool:=AV.rec (motive:=fun _=>Bool) (false) (fun _=>true) (fun _ _=>true) (fun _ _=>true) (true) (fun _ _=>true) (true) (fun _ _ _ _=>true) (fun _ _ _ _=>true) (true) (fun _=>true) (fun _ _ _ _ _=>true) (true) (true) (fun _ _ _=>true) (fun _ _=>false) (fun _ _=>false) (fun _=>false) (false) (fun _ _ _ _=>false) v
theorem bML (v:AV):aQZ v=v.one:=by cases v<;>rfl
def aPV (v:AV):Bool:=AV.rec (motive:=fun _=>Bool) (false) (fun _=>false) (fun _ _=>false) (fun _ _=>false) (false) (fun _ _=>false) (false) (fun _ _ _ _=>false) (fun _ _ _ _=>false) (false) (fun _=>false) (fun _ _ _ _ _=>false) (false) (false) (fun _ _ _=>false) (fun _ _=>false) (fun _ _=>false) (fun _=>false) (true) (fun h _ _ ih=>Bool.rec (motive:=fun _=>Bool) false ih (aQZ h)) v
theorem a1U:∀v:AV,aPV v=v.ones
 |.top=>rfl
 |.bool _=>rfl
 |.int _ _=>rfl
 |.str _ _=>rfl
 |.pnil=>rfl
 |.ptr _ _=>rfl
 |.snil=>rfl
 |.sl _ _ _ _=>rfl
 |.slu _ _ _ _=>rfl
 |.mnil=>rfl
 |.map _=>rfl
 |.fn _ _ _=>rfl
 |.fnil=>rfl
 |.inil=>rfl
 |.iface _ _=>rfl
 |.agg _=>rfl
 |.tup _=>rfl
 |.ge _=>rfl
 |.nl=>rfl
 |.cons h t=>by
   show Bool.rec (motive:=fun _=>Bool) false (aPV t) (aQZ h)=(h.one&&t.ones)
   rw[bML,a1U t]
   cases h.one<;>rfl
def YK (v:AV) (k:AV→R):R:=AV.rec (motive:=fun _=>R) (.bad 21) (fun _=>k (.cons v .nl)) (fun _ _=>k (.cons v .nl)) (fun _ _=>k (.cons v .nl)) (k (.cons v .nl)) (fun _ _=>k (.cons v .nl)) (k (.cons v .nl)) (fun _ _ _ _=>k (.cons v .nl)) (fun _ _ _ _=>k (.cons v .nl)) (k (.cons v .nl)) (fun _=>k (.cons v .nl)) (fun _ _ _ _ _=>k (.cons v .nl)) (k (.cons v .nl)) (k (.cons v .nl)) (fun _ _ _=>k (.cons v .nl)) (fun l _=>k l) (fun _ _=>.bad 21) (fun _=>.bad 21) (.bad 21) (fun _ _ _ _=>.bad 21) v
theorem aNA (v:AV) (k:AV→R):YK v k=YL v k:=by cases v<;>rfl
def a6N (v:AV) (k:R):R:=AV.rec (motive:=fun _=>R) (.bad 30) (fun _=>.bad 30) (fun _ _=>.bad 30) (fun _ _=>.bad 30) (.bad 30) (fun _ _=>k) (.bad 30) (fun _ _ _ _=>k) (fun _ _ _ _=>k) (.bad 30) (fun _=>k) (fun f _ _ _ _=>Fn.rec (motive:=fun _=>R) (fun _=>k) (fun _=>.bad 30) (fun _ _=>.bad 30) (fun _ _ _ _=>.bad 30) (fun _=>.bad 30) f) (.bad 30) (.bad 30) (fun _ _ _=>k) (fun _ _=>.bad 30) (fun _ _=>.bad 30) (fun _=>.bad 30) (.bad 30) (fun _ _ _ _=>.bad 30) v
theorem bMO (v:AV) (k:R):a6N v k=aQ1 v k:=by
 cases v with
 |fn f _ _=>cases f<;>rfl
 |_=>rfl
def a5S (v:AV) (k:Nat→Nat→Nat→R):R:=AV.rec (motive:=fun _=>R) (.bad 33) (fun _=>.bad 33) (fun _ _=>.bad 33) (fun _ _=>.bad 33) (.bad 33) (fun _ _=>.bad 33) (.bad 33) (fun b o n _=>k b o n) (fun b o n _=>k b o n) (.bad 33) (fun _=>.bad 33) (fun _ _ _ _ _=>.bad 33) (.bad 33) (.bad 33) (fun _ _ _=>.bad 33) (fun _ _=>.bad 33) (fun _ _=>.bad 33) (fun _=>.bad 33) (.bad 33) (fun _ _ _ _=>.bad 33) v
theorem bK6 (v:AV) (k:Nat→Nat→Nat→R):a5S v k=aI8 v k:=by cases v<;>rfl
def YM (v:AV) (k:Nat→Nat→R):R:=AV.rec (motive:=fun _=>R) (.bad 42) (fun _=>.bad 42) (fun _ _=>.bad 42) (fun n b=>k n b) (.bad 42) (fun _ _=>.bad 42) (.bad 42) (fun _ _ _ _=>.bad 42) (fun _ _ _ _=>.bad 42) (.bad 42) (fun _=>.bad 42) (fun _ _ _ _ _=>.bad 42) (.bad 42) (.bad 42) (fun _ _ _=>.bad 42) (fun _ _=>.bad 42) (fun _ _=>.bad 42) (fun _=>.bad 42) (.bad 42) (fun _ _ _ _=>.bad 42) v
theorem bJK (v:AV) (k:Nat→Nat→R):YM v k=NU v k:=by cases v<;>rfl
def a3N (v:AV) (k:AV→R):R:=AV.rec (motive:=fun _=>R) (.bad 1) (fun _=>.bad 1) (fun _ _=>.bad 1) (fun n _=>k (.int .i64 (.ofNat n))) (.bad 1) (fun _ _=>.bad 1) (.bad 1) (fun _ _ _ _=>.bad 1) (fun _ _ _ _=>.bad 1) (.bad 1) (fun _=>.bad 1) (fun _ _ _ _ _=>.bad 1) (.bad 1) (.bad 1) (fun _ _ _=>.bad 1) (fun _ _=>.bad 1) (fun _ _=>.bad 1) (fun _=>.bad 1) (.bad 1) (fun _ _ _ _=>.bad 1) v
theorem bIS (v:AV) (k:AV→R):a3N v k=aS (aQ3 .string v) (aJA v k):=by cases v<;>rfl
def a3R (v:AV) (k:AV→R):R:=AV.rec (motive:=fun _=>R) (.bad 1) (fun _=>.bad 1) (fun _ _=>.bad 1) (fun _ _=>.bad 1) (.bad 1) (fun _ _=>.bad 1) (k (.int .i64 (.ofNat 0))) (fun _ _ n _=>k (.int .i64 (.ofNat n))) (fun _ _ n _=>k (.int .i64 (.ofNat n))) (.bad 1) (fun _=>.bad 1) (fun _ _ _ _ _=>.bad 1) (.bad 1) (.bad 1) (fun _ _ _=>.bad 1) (fun _ _=>.bad 1) (fun _ _=>.bad 1) (fun _=>.bad 1) (.bad 1) (fun _ _ _ _=>.bad 1) v
theorem bIZ (e:TypeId) (v:AV) (k:AV→R):a3R v k=aS (aQ3 (.slice e) v) (aJA v k):=by cases v<;>rfl
def bO0 (v:AV) (no yes:R):R:=AV.rec (motive:=fun _=>R) (.bad 90) (fun b=>Bool.rec (motive:=fun _=>R) no yes b) (fun _ _=>no) (fun _ _=>.bad 90) (.bad 90) (fun _ _=>.bad 90) (.bad 90) (fun _ _ _ _=>.bad 90) (fun _ _ _ _=>.bad 90) (.bad 90) (fun _=>.bad 90) (fun _ _ _ _ _=>.bad 90) (.bad 90) (.bad 90) (fun _ _ _=>.bad 90) (fun _ _=>.bad 90) (fun _ _=>no) (fun _=>.bad 90) (.bad 90) (fun _ _ _ _=>.bad 90) v
def bO1 (v:AV) (no yes:R):R:=AV.rec (motive:=fun _=>R) (.bad 90) (fun b=>Bool.rec (motive:=fun _=>R) yes no b) (fun _ _=>no) (fun _ _=>.bad 90) (.bad 90) (fun _ _=>.bad 90) (.bad 90) (fun _ _ _ _=>.bad 90) (fun _ _ _ _=>.bad 90) (.bad 90) (fun _=>.bad 90) (fun _ _ _ _ _=>.bad 90) (.bad 90) (.bad 90) (fun _ _ _=>.bad 90) (fun _ _=>.bad 90) (fun _ _=>no) (fun _=>.bad 90) (.bad 90) (fun _ _ _ _=>.bad 90) v
def a6K (v:AV) (k:AV→R):R:=AV.rec (motive:=fun _=>R) (k (.tup v)) (fun _=>k (.tup v)) (fun _ _=>k (.tup v)) (fun _ _=>k (.tup v)) (k (.tup v)) (fun _ _=>k (.tup v)) (k (.tup v)) (fun _ _ _ _=>k (.tup v)) (fun _ _ _ _=>k (.tup v)) (k (.tup v)) (fun _=>k (.tup v)) (fun _ _ _ _ _=>k (.tup v)) (k (.tup v)) (k (.tup v)) (fun _ _ _=>k (.tup v)) (fun _ _=>k (.tup v)) (fun _ _=>k (.tup v)) (fun _=>k (.tup v)) (k (.tup v)) (fun h t _ _=>AV.rec (motive:=fun _=>R) (k (.tup v)) (fun _=>k (.tup v)) (fun _ _=>k (.tup v)) (fun _ _=>k (.tup v)) (k (.tup v)) (fun _ _=>k (.tup v)) (k (.tup v)) (fun _ _ _ _=>k (.tup v)) (fun _ _ _ _=>k (.tup v)) (k (.tup v)) (fun _=>k (.tup v)) (fun _ _ _ _ _=>k (.tup v)) (k (.tup v)) (k (.tup v)) (fun _ _ _=>k (.tup v)) (fun _ _=>k (.tup v)) (fun _ _=>k (.tup v)) (fun _=>k (.tup v)) (k h) (fun _ _ _ _=>k (.tup v)) t) v
theorem bMC (v:AV) (k:AV→R):a6K v k=aQX v k:=by
 cases v with
 |cons h t=>cases t<;>rfl
 |_=>rfl
def hdR (v:AV) (k:AV→R):R:=AV.rec (motive:=fun _=>R) (.bad 1) (fun _=>.bad 1) (fun _ _=>.bad 1) (fun _ _=>.bad 1) (.bad 1) (fun _ _=>.bad 1) (.bad 1) (fun _ _ _ _=>.bad 1) (fun _ _ _ _=>.bad 1) (.bad 1) (fun _=>.bad 1) (fun _ _ _ _ _=>.bad 1) (.bad 1) (.bad 1) (fun _ _ _=>.bad 1) (fun _ _=>.bad 1) (fun _ _=>.bad 1) (fun _=>.bad 1) (.bad 1) (fun h _ _ _=>k h) v
def tlR (v:AV) (k:AV→R):R:=AV.rec (motive:=fun _=>R) (.bad 1) (fun _=>.bad 1) (fun _ _=>.bad 1) (fun _ _=>.bad 1) (.bad 1) (fun _ _=>.bad 1) (.bad 1) (fun _ _ _ _=>.bad 1) (fun _ _ _ _=>.bad 1) (.bad 1) (fun _=>.bad 1) (fun _ _ _ _ _=>.bad 1) (.bad 1) (.bad 1) (fun _ _ _=>.bad 1) (fun _ _=>.bad 1) (fun _ _=>.bad 1) (fun _=>.bad 1) (.bad 1) (fun _ t _ _=>k t) v
def a6M (i:Nat):AV→(AV→R)→R:=Nat.rec (motive:=fun _=>AV→(AV→R)→R) hdR (fun _ ih l k=>tlR l fun t=>ih t k) i
theorem a2R:∀(i:Nat) (l:AV) (k:AV→R),a6M i l k=aS (Nat.ble (Nat.succ i) l.len) (k (l.nth i))
 |0,l,k=>by cases l<;>rfl
 |i+1,l,k=>by
   cases l with
   |cons h t=>exact a2R i t k
   |_=>rfl
def aSX (l:AV):AV→(AV→R)→R:=AV.rec (motive:=fun _=>AV→(AV→R)→R) (fun r k=>k r) (fun _=>fun r k=>k r) (fun _ _=>fun r k=>k r) (fun _ _=>fun r k=>k r) (fun r k=>k r) (fun _ _=>fun r k=>k r) (fun r k=>k r) (fun _ _ _ _=>fun r k=>k r) (fun _ _ _ _=>fun r k=>k r) (fun r k=>k r) (fun _=>fun r k=>k r) (fun _ _ _ _ _=>fun r k=>k r) (fun r k=>k r) (fun r k=>k r) (fun _ _ _=>fun r k=>k r) (fun _ _=>fun r k=>k r) (fun _ _=>fun r k=>k r) (fun _=>fun r k=>k r) (fun r k=>k r) (fun h _ _ ih r k=>ih r fun t=>k (.cons h t)) l
theorem a3F:∀(l r:AV) (k:AV→R),aSX l r k=k (l.app r)
 |.top,_,_=>rfl
 |.bool _,_,_=>rfl
 |.int _ _,_,_=>rfl
 |.str _ _,_,_=>rfl
 |.pnil,_,_=>rfl
 |.ptr _ _,_,_=>rfl
 |.snil,_,_=>rfl
 |.sl _ _ _ _,_,_=>rfl
 |.slu _ _ _ _,_,_=>rfl
 |.mnil,_,_=>rfl
 |.map _,_,_=>rfl
 |.fn _ _ _,_,_=>rfl
 |.fnil,_,_=>rfl
 |.inil,_,_=>rfl
 |.iface _ _,_,_=>rfl
 |.agg _,_,_=>rfl
 |.tup _,_,_=>rfl
 |.ge _,_,_=>rfl
 |.nl,_,_=>rfl
 |.cons h t,r,k=>a3F t r fun t=>k (.cons h t)
def hgR (b:Nat) (h:Hp) (k:AO→R):R:=GI (toD (Nat.div b 4096)) h fun h=>GI (toD (Nat.div b 256)) h fun h=>GI (toD (Nat.div b 16)) h fun h=>GI (toD (Nat.land b 15)) h k
theorem a5A (b:Nat) (h:Hp) (k:AO→R):hgR b h k=k (bZ b h):=by unfold hgR bZ;simp only[a3U]
def hsR (b:Nat) (o:AO) (h:Hp) (k:Hp→R):R:=upR (toD (Nat.div b 4096)) (fun h k=>upR (toD (Nat.div b 256)) (fun h k=>upR (toD (Nat.div b 16)) (fun h k=>aB.iA (toD (Nat.land b 15)) o h k) h k) h k) h k
theorem a47 (b:Nat) (o:AO) (h:Hp) (k:Hp→R):hsR b o h k=F6 b o h k:=by unfold hsR F6;simp only[a3J]
def csR (i:Nat) (c:Cs) (k:AV→R):R:=Cs.rec (motive:=fun _=>R) (fun a=>GI (toD i) a k)
 (fun a=>GI (toD (Nat.div i 16)) a fun a=>GI (toD (Nat.land i 15)) a k)
 (fun a=>GI (toD (Nat.div i 256)) a fun a=>GI (toD (Nat.div i 16)) a fun a=>GI (toD (Nat.land i 15)) a k) c
theorem a5I (i:Nat) (c:Cs) (k:AV→R):csR i c k=k (c.get i):=by unfold csR Cs.get;cases c<;>simp only[a3U]
def aPQ (c:Cs) (n:Nat):Nat→(AV→R)→R:=Nat.rec (motive:=fun _=>Nat→(AV→R)→R) (fun _ k=>k .nl)
 (fun _ ih i k=>csR i c fun v=>fN (Nat.succ i) fun j=>ih j fun l=>k (.cons v l)) n
theorem a1D (c:Cs):∀(n i:Nat) (k:AV→R),aPQ c n i k=K2 c n i k
 |0,_,_=>rfl
 |n+1,i,k=>by
   show csR i c (fun v=>fN (Nat.succ i) fun j=>aPQ c n j fun l=>k (.cons v l))=fN (Nat.succ i) (fun j=>K2 c n j fun l=>k (.cons (Cs.get i c) l))
   rw[a5I,gQ,gQ,a1D c n]
def ZB (S:St) (o:AO) (k:Nat→St→R):R:=St.rec (motive:=fun _=>R) (fun h n=>aS (Nat.ble (Nat.succ n) 65536) (hsR n o h fun h=>fN (Nat.succ n) fun m=>k n ⟨h,m⟩)) S
theorem aOL (S:St) (o:AO) (k:Nat→St→R):ZB S o k=OA S o k:=by
 cases S;unfold ZB OA;dsimp only;rw[a47]
def Y_ (b q:Nat) (l:AV) (S:St) (k:St→R):R:=St.rec (motive:=fun _=>R) (fun h m=>hgR b h fun o=>onCells o fun n c=>aS (Nat.ble (Nat.add q (QW l)) n) (aS (aPV l) (uO (R.bad 51) l q c fun _ c=>hsR b (.cells n c) h fun h=>k ⟨h,m⟩))) S
theorem bMB (b q:Nat) (l:AV) (S:St) (k:St→R):Y_ b q l S k=iA b q l S k:=by
 cases S;unfold Y_ iA;dsimp only;simp only[a5A,a47,UC,a1U]
abbrev Gt:=T→(AV→R)→R
def gT (t:Nat) (c:Gt→γ):γ:=Bool.rec (motive:=fun _=>γ) (c fun _ k=>k .top) (pkD (toD (Nat.div t 16)) fun p=>pkD (toD (Nat.land t 15)) fun q=>c fun T k=>p T fun r=>q r k) (Nat.ble t 255)
theorem UZ (t:Nat) (c:Gt→γ):gT t c=c fun T k=>k (dX t T):=by
 unfold gT dX yA
 cases Nat.ble t 255 with
 |false=>rfl
 |true=>simp only[bN0]
def gO (x:Operand) (c:Gt→γ):γ:=Operand.rec (motive:=fun _=>γ) (fun t=>gT t c) (fun v=>fV (toAV v) fun a=>c fun _ k=>k a) (fun _=>c fun _ k=>k .top) (fun f=>c fun _ k=>k (.fn (.func f) .nl .nl)) x
theorem nZ (x:Operand) (c:Gt→γ):gO x c=c fun T k=>k (aY x T):=by
 cases x with
 |tmp t=>exact UZ t c
 |const v=>exact rI (toAV v) fun a=>c fun _ k=>k a
 |global g=>rfl
 |func f=>rfl
def gL (l:List Operand):(Gt→γ)→γ:=List.rec (motive:=fun _=>(Gt→γ)→γ) (fun c=>c fun _ k=>k .nl) (fun x _ ih c=>gO x fun g=>ih fun h=>c fun T k=>g T fun v=>h T fun r=>k (.cons v r)) l
theorem aIV:∀(l:List Operand) (c:Gt→γ),gL l c=c fun T k=>k (NT l T)
 | [],c=>rfl
 |x::l,c=>by
   show gO x (fun g=>gL l fun h=>c fun T k=>g T fun v=>h T fun r=>k (.cons v r))=_
   rw[nZ,aIV l];rfl
abbrev Pt:=AV→T→(T→R)→R
def pT (m d:Nat) (c:Pt→γ):γ:=Bool.rec (motive:=fun _=>γ) (c fun _ _ _=>.bad 1) (upD (toD (Nat.div d 16)) fun u=>stD (toD (Nat.land d 15)) fun s=>c fun v T k=>u (fun r k=>s v r k) T k) (Nat.ble (Nat.succ d) m)
theorem a5O (m d:Nat) (c:Pt→γ):pT m d c=c fun v T k=>aS (Nat.ble (Nat.succ d) m) (EG d v T k):=by
 unfold pT EG
 cases Nat.ble (Nat.succ d) m with
 |false=>rfl
 |true=>simp only[bNS,bNV];rfl
def pO (m:Nat) (d:Option Nat) (c:Pt→γ):γ:=Option.rec (motive:=fun _=>γ) (c fun _ T k=>k T) (fun d=>pT m d c) d
theorem aPU (m:Nat) (d:Option Nat) (c:Pt→γ):pO m d c=c fun v T k=>ER m d v T k:=by
 cases d with
 |none=>rfl
 |some d=>exact a5O m d c
def tsR (t:Nat) (v:AV) (T:T) (k:Ev.T→R):R:=upR (toD (Nat.div t 16)) (fun r k=>aB.iA (toD (Nat.land t 15)) v r k) T k
theorem bNT (t:Nat) (v:AV) (T:T) (k:Ev.T→R):tsR t v T k=EG t v T k:=by unfold tsR EG;rw[a3J]
def aI0 (l:AV):Nat→T→(T→R)→R:=AV.rec (motive:=fun _=>Nat→T→(T→R)→R) (fun _ _ _=>.bad 91) (fun _ _ _ _=>.bad 91) (fun _ _ _ _ _=>.bad 91) (fun _ _ _ _ _=>.bad 91) (fun _ _ _=>.bad 91) (fun _ _ _ _ _=>.bad 91) (fun _ _ _=>.bad 91) (fun _ _ _ _ _ _ _=>.bad 91) (fun _ _ _ _ _ _ _=>.bad 91) (fun _ _ _=>.bad 91) (fun _ _ _ _=>.bad 91) (fun _ _ _ _ _ _ _ _=>.bad 91) (fun _ _ _=>.bad 91) (fun _ _ _=>.bad 91) (fun _ _ _ _ _ _=>.bad 91) (fun _ _ _ _ _=>.bad 91) (fun _ _ _ _ _=>.bad 91) (fun _ _ _ _=>.bad 91) (fun i T k=>k T) (fun h t _ ih i T k=>aS (Nat.ble i 255) (tsR i h T fun T=>ih (Nat.succ i) T k)) l
theorem a2G:∀(l:AV) (i:Nat) (T:T) (k:Ev.T→R),aI0 l i T k=LA l i T k
 |.top,_,_,_=>rfl
 |.bool _,_,_,_=>rfl
 |.int _ _,_,_,_=>rfl
 |.str _ _,_,_,_=>rfl
 |.pnil,_,_,_=>rfl
 |.ptr _ _,_,_,_=>rfl
 |.snil,_,_,_=>rfl
 |.sl _ _ _ _,_,_,_=>rfl
 |.slu _ _ _ _,_,_,_=>rfl
 |.mnil,_,_,_=>rfl
 |.map _,_,_,_=>rfl
 |.fn _ _ _,_,_,_=>rfl
 |.fnil,_,_,_=>rfl
 |.inil,_,_,_=>rfl
 |.iface _ _,_,_,_=>rfl
 |.agg _,_,_,_=>rfl
 |.tup _,_,_,_=>rfl
 |.ge _,_,_,_=>rfl
 |.nl,_,_,_=>rfl
 |.cons h t,i,T,k=>by
   show aS (Nat.ble i 255) (tsR i h T fun T=>aI0 t (Nat.succ i) T k)=aS (Nat.ble i 255) (EG i h T fun T=>LA t (Nat.succ i) T k)
   rw[bNT,show (fun T=>aI0 t (Nat.succ i) T k)=fun T=>LA t (Nat.succ i) T k from funext fun T=>a2G t _ T k]
end
noncomputable section
variable {P:Program} {γ:Type}
def aIT (x:Operand):Kd:=gO x fun g=>.pure g
theorem bLL (x:Operand):aIT x=aIO x:=by unfold aIT;rw[nZ];rfl
def aQB (c x y:Operand):Kd:=gO c fun gc=>gO x fun gx=>gO y fun gy=>.pure fun T k=>gc T fun b=>FZ b (gx T k) (gy T k)
theorem bLK (c x y:Operand):aQB c x y=aP0 c x y:=by unfold aQB;simp only[nZ];rfl
def aSF (x:Operand):Kd:=gO x fun g=>.pure fun T k=>g T fun v=>a6N v (k v)
theorem bM0 (x:Operand):aSF x=aQ5 x:=by unfold aSF;simp only[nZ,bMO];rfl
def aSE (x:Operand):Kd:=gO x fun g=>.pure fun T k=>g T fun v=>FZ v (k (.bool false)) (k (.bool true))
theorem bMZ (x:Operand):aSE x=aQ4 x:=by unfold aSE;simp only[nZ];rfl
def aM1 (P:Program) (t:TypeId) (x:Operand) (i:Nat):Kd:=match P.underlying t with
 |some (.struct fs)=>match fs[i]? with
   |some f=>match P.info? f.type with
     |some j=>match Nat.beq j.size 0 with
       |true=>.no
       |false=>fN f.offset fun off=>gO x fun g=>.pure fun T k=>g T fun v=>EK v fun b o=>fN (Nat.add o off) fun o=>k (.ptr b o)
     |none=>.no
   |none=>.no
 |_=>.no
theorem bE_ (t:TypeId) (x:Operand) (i:Nat):aM1 P t x i=XQ P t x i:=by
 unfold aM1 XQ;simp only[gQ,nZ];rfl
def aM0 (P:Program) (t:TypeId) (x i:Operand):Kd:=match P.underlying t with
 |some (.slice e)=>match P.info? e with
   |some j=>fN j.size fun sz=>gO x fun gx=>gO i fun gi=>.pure fun T k=>gx T fun v=>a5S v fun b o n=>gi T fun u=>EL u fun i=>aS (Nat.ble (Nat.succ i) n) (fN (Nat.add o (Nat.mul i sz)) fun o=>k (.ptr b o))
   |none=>.no
 |some (.array n e)=>match P.info? e with
   |some j=>fN j.size fun sz=>gO x fun gx=>gO i fun gi=>.pure fun T k=>gx T fun v=>EK v fun b o=>gi T fun u=>EL u fun i=>aS (Nat.ble (Nat.succ i) n) (fN (Nat.add o (Nat.mul i sz)) fun o=>k (.ptr b o))
   |none=>.no
 |_=>.no
theorem bE9 (t:TypeId) (x i:Operand):aM0 P t x i=XP P t x i:=by
 unfold aM0 XP;simp only[gQ,nZ,bK6];rfl
def aQC (P:Program) (t:TypeId) (x:Operand):Kd:=match P.underlying t,P.info? t with
 |some d,some i=>match UL d with
   |true=>fN i.size fun sz=>gO x fun g=>.load fun T H k=>g T fun v=>EK v fun b o=>hgR b H fun ob=>onCells ob fun n c=>aS (Nat.ble (Nat.add o sz) n) (aPQ c sz o fun l=>k (.agg l))
   |false=>gO x fun g=>.load fun T H k=>g T fun v=>EK v fun b o=>hgR b H fun ob=>onCells ob fun n c=>aS (Nat.ble (Nat.succ o) n) (csR o c k)
 |_,_=>.no
theorem bLM (t:TypeId) (x:Operand):aQC P t x=YZ P t x:=by
 unfold aQC YZ K5
 simp only[gQ,nZ,a5A,a1D,a5I]
 cases P.underlying t with
 |none=>rfl
 |some d=>cases P.info? t with
   |none=>rfl
   |some i=>dsimp only;cases UL d<;>rfl
def aPD (P:Program) (t:TypeId) (a x:Operand):Kd:=match P.info? t with
 |some i=>fN i.size fun sz=>gO a fun ga=>gO x fun gx=>.eff fun T S k=>ga T fun u=>EK u fun b o=>gx T fun v=>YK v fun l=>aS (Nat.beq (QW l) sz) (Y_ b o l S fun S=>k (.tup .nl) S)
 |none=>.no
theorem bJ1 (t:TypeId) (a x:Operand):aPD P t a x=YO P t a x:=by
 unfold aPD YO;simp only[gQ,nZ,aNA,bMB,UC];rfl
def VI (P:Program) (ts:Array TypeId) (args:Array Operand):Kd:=match args,ts[0]? with
 |⟨[x]⟩,some t=>match P.underlying t with
   |some .string=>gO x fun g=>.pure fun T k=>g T fun v=>a3N v k
   |some (.slice e)=>gO x fun g=>.pure fun T k=>g T fun v=>a3R v k
   |_=>OB P ts args
 |_,_=>OB P ts args
theorem bM1 (ts:Array TypeId) (args:Array Operand):VI P ts args=OB P ts args:=by
 unfold VI
 split
 · rename_i x t ht
   split
   · rename_i h
     unfold OB;rw[ht];dsimp only;rw[h];simp only[nZ,bIS]
   · rename_i e h
     unfold OB;rw[ht];dsimp only;rw[h];simp only[nZ,bIZ e]
   rfl
 rfl
def a8L:B2:=fun kd x y k=>Int.rec (motive:=fun _=>R) (fun a=>Int.rec (motive:=fun _=>R) (fun b=>fN (Nat.add a b) fun c=>Bool.rec (motive:=fun _=>R) (iK kd (j8 kd (.ofNat c)) k) (k (.int kd (.ofNat c))) (BK kd c)) (fun _=>iK kd (j8 kd (x+y)) k) y) (fun _=>iK kd (j8 kd (x+y)) k) x
theorem bNN (kd:IntKind) (x y:Int) (k:AV→R):a8L kd x y k=iK kd (j8 kd (x+y)) k:=by
 cases x with
 |negSucc a=>rfl
 |ofNat a=>cases y with
   |negSucc b=>rfl
   |ofNat b=>
    show fN (Nat.add a b) (fun c=>Bool.rec (motive:=fun _=>R) (iK kd (j8 kd (.ofNat c)) k) (k (.int kd (.ofNat c))) (BK kd c))=iK kd (j8 kd (.ofNat (Nat.add a b))) k
    rw[gQ]
    cases h:BK kd (Nat.add a b) with
    |false=>rfl
    |true=>
     show k (.int kd (.ofNat (Nat.add a b)))=iK kd (Bool.rec (motive:=fun _=>Int) (kd.wrap (.ofNat (Nat.add a b))) (.ofNat (Nat.add a b)) (BK kd (Nat.add a b))) k
     rw[h,K6]
def a6J:B2:=fun kd x y k=>Int.rec (motive:=fun _=>R) (fun a=>Int.rec (motive:=fun _=>R) (fun b=>Bool.rec (motive:=fun _=>R) (iK kd (j8 kd (x-y)) k) (fN (Nat.sub a b) fun c=>Bool.rec (motive:=fun _=>R) (iK kd (j8 kd (x-y)) k) (k (.int kd (.ofNat c))) (BK kd c)) (Nat.ble b a)) (fun _=>iK kd (j8 kd (x-y)) k) y) (fun _=>iK kd (j8 kd (x-y)) k) x
theorem bL7 (kd:IntKind) (x y:Int) (k:AV→R):a6J kd x y k=iK kd (j8 kd (x-y)) k:=by
 cases x with
 |negSucc a=>rfl
 |ofNat a=>cases y with
   |negSucc b=>rfl
   |ofNat b=>
    show Bool.rec (motive:=fun _=>R) (iK kd (j8 kd (.ofNat a-.ofNat b)) k) (fN (Nat.sub a b) fun c=>Bool.rec (motive:=fun _=>R) (iK kd (j8 kd (.ofNat a-.ofNat b)) k) (k (.int kd (.ofNat c))) (BK kd c)) (Nat.ble b a)=iK kd (j8 kd (.ofNat a-.ofNat b)) k
    cases h:Nat.ble b a with
    |false=>rfl
    |true=>
     show fN (Nat.sub a b) (fun c=>Bool.rec (motive:=fun _=>R) (iK kd (j8 kd (.ofNat a-.ofNat b)) k) (k (.int kd (.ofNat c))) (BK kd c))=_
     rw[gQ]
     cases h2:BK kd (Nat.sub a b) with
     |false=>rfl
     |true=>
      have hle:=Nat.le_of_ble_eq_true h
      have e:(Int.ofNat a-Int.ofNat b)=Int.ofNat (Nat.sub a b):=(Int.ofNat_sub hle).symm
      rw[e]
      show k (.int kd (.ofNat (Nat.sub a b)))=iK kd (Bool.rec (motive:=fun _=>Int) (kd.wrap (.ofNat (Nat.sub a b))) (.ofNat (Nat.sub a b)) (BK kd (Nat.sub a b))) k
      rw[h2,K6]
def leK (x y:Int) (yes no:R):R:=Int.rec (motive:=fun _=>R) (fun a=>Int.rec (motive:=fun _=>R) (fun b=>Bool.rec (motive:=fun _=>R) no yes (Nat.ble a b)) (fun _=>no) y) (fun a=>Int.rec (motive:=fun _=>R) (fun _=>yes) (fun b=>Bool.rec (motive:=fun _=>R) no yes (Nat.ble b a)) y) x
theorem aH7 (x y:Int) (yes no:R):leK x y yes no=Bool.rec (motive:=fun _=>R) no yes (JZ x y):=by cases x<;>cases y<;>rfl
def eqK (x y:Int) (yes no:R):R:=Int.rec (motive:=fun _=>R) (fun a=>Int.rec (motive:=fun _=>R) (fun b=>Bool.rec (motive:=fun _=>R) no yes (Nat.beq a b)) (fun _=>no) y) (fun a=>Int.rec (motive:=fun _=>R) (fun _=>no) (fun b=>Bool.rec (motive:=fun _=>R) no yes (Nat.beq b a)) y) x
theorem a5H (x y:Int) (yes no:R):eqK x y yes no=Bool.rec (motive:=fun _=>R) no yes (FC x y):=by cases x<;>cases y<;>rfl
def a8J (op:BinOp):Option B2:=match op with
 |.add=>some a8L
 |.sub=>some a6J
 |.eql=>some fun _ x y k=>eqK x y (k (.bool true)) (k (.bool false))
 |.neq=>some fun _ x y k=>eqK x y (k (.bool false)) (k (.bool true))
 |.lss=>some fun _ x y k=>leK y x (k (.bool false)) (k (.bool true))
 |.leq=>some fun _ x y k=>leK x y (k (.bool true)) (k (.bool false))
 |.gtr=>some fun _ x y k=>leK x y (k (.bool false)) (k (.bool true))
 |.geq=>some fun _ x y k=>leK y x (k (.bool true)) (k (.bool false))
 |op=>QZ op
theorem aPL (b:Bool) (k:AV→R):Bool.rec (motive:=fun _=>R) (k (.bool true)) (k (.bool false)) b=bK (!b) k:=by cases b<;>rfl
theorem bNI (op:BinOp):a8J op=QZ op:=by
 cases op<;>first
  |rfl
  |exact congrArg some (funext fun kd=>funext fun x=>funext fun y=>funext fun k=>bNN kd x y k)
  |exact congrArg some (funext fun kd=>funext fun x=>funext fun y=>funext fun k=>bL7 kd x y k)
  |exact congrArg some (funext fun kd=>funext fun x=>funext fun y=>funext fun k=>(a5H x y _ _).trans rfl)
  |exact congrArg some (funext fun kd=>funext fun x=>funext fun y=>funext fun k=>(a5H x y _ _).trans (aPL _ k))
  |exact congrArg some (funext fun kd=>funext fun x=>funext fun y=>funext fun k=>(aH7 x y _ _).trans rfl)
  |exact congrArg some (funext fun kd=>funext fun x=>funext fun y=>funext fun k=>(aH7 y x _ _).trans rfl)
  |exact congrArg some (funext fun kd=>funext fun x=>funext fun y=>funext fun k=>(aH7 x y _ _).trans (aPL _ k))
  |exact congrArg some (funext fun kd=>funext fun x=>funext fun y=>funext fun k=>(aH7 y x _ _).trans (aPL _ k))
def aSI (f:B2) (x y:Operand):Kd:=gO x fun gx=>gO y fun gy=>.pure fun T k=>gx T fun u=>rF u (.bad 40) fun kx a=>gy T fun v=>rF v (.bad 40) fun ky b=>aS (JP kx ky) (f kx a b k)
theorem bM2 (f:B2) (x y:Operand):aSI f x y=aQ6 f x y:=by unfold aSI;simp only[nZ];rfl
def aIA (v:AV) (yes no:R):R:=rF v no fun _ _=>yes
def aPR (op:BinOp) (f:B2) (u v:AV) (k:AV→R):R:=match aQH op u v with
 |some v=>k v
 |none=>rF u (.bad 40) fun kx a=>rF v (.bad 40) fun ky b=>aS (JP kx ky) (f kx a b k)
def aIU (op:BinOp) (f:B2) (x y:Operand):Kd:=gO x fun gx=>gO y fun gy=>.pure fun T k=>gx T fun u=>gy T fun v=>aIA u (aIA v (rF u (.bad 40) fun kx a=>rF v (.bad 40) fun ky b=>aS (JP kx ky) (f kx a b k)) (aPR op f u v k)) (aPR op f u v k)
theorem bLN (op:BinOp) (f:B2) (x y:Operand):aIU op f x y=aIP op f x y:=by
 unfold aIU;simp only[nZ]
 refine congrArg Kd.pure (funext fun T=>funext fun k=>?_)
 show aIA (aY x T) (aIA (aY y T) _ _) _=aPR op f (aY x T) (aY y T) k
 generalize aY x T=u
 generalize aY y T=v
 cases u<;>first|rfl|skip
 rename_i ku nu
 cases v<;>first|rfl|skip
 cases op<;>first|rfl|skip
 cases ku<;>cases nu<;>rfl
def aOZ (n m a b:Nat) (yes no:R):R:=Bool.rec (motive:=fun _=>R) no (Bool.rec (motive:=fun _=>R) no yes (Nat.beq a b)) (Nat.beq n m)
def aIB (neg:Bool) (x y:Operand):Kd:=gO x fun gx=>gO y fun gy=>Bool.rec (motive:=fun _=>Kd)
 (.pure fun T k=>gx T fun u=>YM u fun n a=>gy T fun v=>YM v fun m b=>aOZ n m a b (k (.bool true)) (k (.bool false)))
 (.pure fun T k=>gx T fun u=>YM u fun n a=>gy T fun v=>YM v fun m b=>aOZ n m a b (k (.bool false)) (k (.bool true))) neg
theorem bJ0 (neg:Bool) (x y:Operand):aIB neg x y=aH_ neg x y:=by
 unfold aIB;simp only[nZ,bJK]
 cases neg<;>(refine congrArg Kd.pure (funext fun T=>funext fun k=>?_);refine congrArg (NU (aY x T)) (funext fun n=>funext fun a=>congrArg (NU (aY y T)) (funext fun m=>funext fun b=>?_));unfold aOZ;cases Nat.beq n m<;>cases Nat.beq a b<;>rfl)
def aN9 (x:Operand) (i:Nat):Kd:=gO x fun g=>.pure fun T k=>g T fun v=>aPW v fun l=>a6M i l k
theorem bGL (x:Operand) (i:Nat):aN9 x i=aN7 x i:=by unfold aN9;simp only[nZ,a2R];rfl
theorem a0D (T:T):∀l:List Operand,(NT l T).app .nl=NT l T
 | []=>rfl
 |x::l=>congrArg (AV.cons (aY x T)) (a0D T l)
def aQF (c:Call):Kd:=match c.callee with
 |.value (.func g)=>gL c.args.toList fun ga=>.call fun T k=>ga T fun l=>k g l
 |.value f=>gO f fun gf=>gL c.args.toList fun ga=>.call fun T k=>gf T fun v=>aI9 v fun g first cap=>ga T fun l=>aSX l cap fun l=>aSX first l fun l=>k g l
 |_=>.no
theorem bLP (c:Call):aQF c=Y0 c:=by
 unfold aQF Y0
 split
 · rename_i g h
   simp only[aIV,h]
   refine congrArg Kd.call (funext fun T=>funext fun k=>?_)
   show _=k g (AV.app .nl ((NT c.args.toList T).app .nl))
   rw[a0D];rfl
 · rename_i f h1 h
   simp only[h,nZ,aIV,a3F]
 rename_i h1 h2
 split
 · rename_i f hf;exact absurd hf (h2 f)
 rfl
def aSO (x:Operand):Kd:=gO x fun g=>.make fun T k=>g T fun v=>YK v fun l=>uO (R.bad 50) l 0 (Cs.new (QW l)) fun n c=>k (.cells n c) fun b=>.ptr b 0
theorem bM3 (x:Operand):aSO x=aQ7 x:=by unfold aSO;simp only[nZ,aNA,UC];rfl
def aQD (f:Fn) (x y:Array Operand):Kd:=gL x.toList fun gx=>gL y.toList fun gy=>.pure fun T k=>gx T fun a=>gy T fun b=>k (.fn f a b)
theorem bLO (f:Fn) (x y:Array Operand):aQD f x y=aP1 f x y:=by unfold aQD;simp only[aIV];rfl
def aSP (P:Program) (b:BinOp) (t:TypeId) (x y:Operand):Kd:=match P.underlying t with
 |some (.int _)=>match b with
   |.shl=>YP true x y
   |.shr=>YP false x y
   |b=>match a8J b with
     |some f=>match b with
       |.sub=>aIU .sub f x y
       |.leq=>aIU .leq f x y
       |_=>aSI f x y
     |none=>.no
 |some .string=>match b with
   |.eql=>aIB false x y
   |.neq=>aIB true x y
   |_=>.no
 |some (.struct _)=>.no
 |some d=>match b with
   |.eql=>U6 false d x y
   |.neq=>U6 true d x y
   |_=>.no
 |none=>.no
theorem bM4 (b:BinOp) (t:TypeId) (x y:Operand) (z:TypeId):aSP P b t x y=kd P (.binOp b t x y z):=by
 unfold aSP kd
 simp only[bNI,bM2,bLN,bJ0]
 cases P.underlying t with
 |none=>rfl
 |some d=>cases d<;>first|rfl|(cases b<;>rfl)
def Y5 (place:Nat→Option (Nat×Nat)) (total:Nat) (T:T) (l:List (Nat×Operand)):AV→(AV→R)→R:=List.rec (motive:=fun _=>AV→(AV→R)→R) (fun l k=>k l)
 (fun p _ ih l k=>Option.rec (motive:=fun _=>R) (.bad 52) (fun q=>YK (aY p.2 T) fun ps=>aS (Nat.beq (QW ps) q.2) (aS (Nat.ble (Nat.add q.1 q.2) total) (fV (Y6 l q.1 ps) fun l=>ih l k))) (place p.1)) l
theorem aOA (place:Nat→Option (Nat×Nat)) (total:Nat) (T:T):∀(r:List (Nat×Operand)) (l:AV) (k:AV→R),Y5 place total T r l k=NY place total T r l k
 | [],l,k=>rfl
 |(i,x)::r,l,k=>by
   show Option.rec (motive:=fun _=>R) (.bad 52) (fun q=>YK (aY x T) fun ps=>aS (Nat.beq (QW ps) q.2) (aS (Nat.ble (Nat.add q.1 q.2) total) (fV (Y6 l q.1 ps) fun l=>Y5 place total T r l k))) (place i)=_
   unfold NY
   cases place i with
   |none=>rfl
   |some q=>dsimp only;simp only[aNA,UC,rI,aOA place total T r]
def aPE (P:Program) (t:TypeId) (ps:Array (Nat×Operand)):Kd:=match K0 P t,P.underlying t with
 |some (z,l),some (.struct fs)=>match YF P fs.toList with
   |some pl=>.pure fun T k=>Y5 (fun i=>pl[i]?) l.len T ps.toList l fun l=>k (.agg l)
   |none=>.no
 |some (z,l),some (.array _ e)=>match P.info? e with
   |some i=>.pure fun T k=>Y5 (fun j=>some (j*i.size,i.size)) l.len T ps.toList l fun l=>k (.agg l)
   |none=>.no
 |_,_=>.no
theorem bJ2 (t:TypeId) (ps:Array (Nat×Operand)):aPE P t ps=YQ P t ps:=by
 unfold aPE YQ;simp only[aOA];rfl
def aMP (P:Program) (t:TypeId) (len:Nat) (ps:Array (Nat×Operand)):Kd:=match S6 P t with
 |some x=>match Nat.ble (len*x.size) 16777216 with
   |true=>.make fun T k=>Y5 (fun j=>some (j*x.size,x.size)) (len*x.size) T ps.toList (ED x.l len) fun l=>uO (R.bad 53) l 0 (Cs.new (QW l)) fun n c=>k (.cells n c) fun b=>.sl b 0 len len
   |false=>.no
 |none=>.no
theorem bER (t:TypeId) (len:Nat) (ps:Array (Nat×Operand)):aMP P t len ps=XM P t len ps:=by
 unfold aMP XM;simp only[aOA,UC];rfl
def aIW (x:AV) (l:List (AV×AV)):Nat→(Option (Nat×AV)→R)→R:=List.rec (motive:=fun _=>Nat→(Option (Nat×AV)→R)→R) (fun _ k=>k none)
 (fun p _ ih i k=>Option.rec (motive:=fun _=>R) (.bad 64) (fun b=>Bool.rec (motive:=fun _=>R) (fN (Nat.succ i) fun i=>ih i k) (k (some (i,p.2))) b) (U5 x p.1)) l
theorem aN_ (x:AV):∀(l:List (AV×AV)) (i:Nat) (k:Option (Nat×AV)→R),aIW x l i k=K9 x l i k
 | [],i,k=>rfl
 |(a,v)::r,i,k=>by
   show Option.rec (motive:=fun _=>R) (.bad 64) (fun b=>Bool.rec (motive:=fun _=>R) (fN (Nat.succ i) fun i=>aIW x r i k) (k (some (i,v))) b) (U5 x a)=_
   unfold K9
   cases U5 x a with
   |none=>rfl
   |some b=>cases b with
     |true=>rfl
     |false=>dsimp only;rw[gQ,aN_ x r]
def aOQ (P:Program) (t:TypeId) (x y:Operand) (ok:Bool):Kd:=match P.underlying t with
 |some (.map kt et)=>match P.underlying kt,K0 P et,P.underlying et with
   |some d,some (z,l),some ed=>gO x fun gx=>gO y fun gy=>.load fun T H k=>gy T fun y=>aS (plainKey d y) (gx T fun x=>CO.ZC x H fun es=>aIW y es 0 fun q=>Option.rec (motive:=fun _=>R) (CO.fin ok false (toAV z) k) (fun p=>CO.fin ok true p.2 k) q)
   |_,_,_=>.no
 |_=>.no
theorem bH0 (t:TypeId) (x y:Operand) (ok:Bool):aOQ P t x y ok=CO P t x y ok:=by
 unfold aOQ CO;simp only[nZ,aN_]
 cases P.underlying t with
 |none=>rfl
 |some d=>cases d<;>first|rfl|skip
          rename_i kt et
          dsimp only
          cases P.underlying kt<;>cases K0 P et<;>cases P.underlying et<;>first|rfl|skip
          refine congrArg Kd.load (funext fun T=>funext fun H=>funext fun k=>congrArg (aS _) (congrArg (CO.ZC _ _) (funext fun es=>congrArg (K9 _ _ _) (funext fun q=>?_))))
          cases q<;>rfl
def fE {β:Type} (l:List (AV×AV)):(List (AV×AV)→β)→β:=List.rec (motive:=fun _=>(List (AV×AV)→β)→β) (fun k=>k []) (fun p _ ih k=>Prod.rec (motive:=fun _=>β) (fun a v=>ih fun t=>k ((a,v)::t)) p) l
theorem a6F {β:Type}:∀(l:List (AV×AV)) (k:List (AV×AV)→β),fE l k=k l
 | [],k=>rfl
 |(a,v)::t,k=>a6F t fun t=>k ((a,v)::t)
def aEE (P:Program) (t:TypeId) (m x y:Operand):Kd:=match P.underlying t with
 |some (.map kt _)=>match P.underlying kt with
   |some d=>gO m fun gm=>gO x fun gx=>gO y fun gy=>.eff fun T S k=>gm T fun vm=>gx T fun vx=>gy T fun vy=>(match vm with
     |.map b=>UT (bZ b S.h) fun es=>aS (plainKey d vx) (aIW vx es 0 fun q=>Option.rec (motive:=fun _=>R)
       (fE (es++[(vx,vy)]) fun es=>F6 b (.map es) S.h fun h=>k (.tup .nl) ⟨h,S.n⟩)
       (fun p=>fE (ZA vx vy es p.1) fun es=>F6 b (.map es) S.h fun h=>k (.tup .nl) ⟨h,S.n⟩) q)
     |_=>.bad 66)
   |none=>.no
 |_=>.no
theorem bHZ (t:TypeId) (m x y:Operand):aEE P t m x y=UD P t m x y:=by
 unfold aEE UD;simp only[nZ,aN_,a6F]
 cases P.underlying t with
 |none=>rfl
 |some d=>cases d<;>first|rfl|skip
          rename_i kt et
          dsimp only
          cases P.underlying kt with
          |none=>rfl
          |some d=>
           refine congrArg Kd.eff (funext fun T=>funext fun S=>funext fun k=>?_)
           skip
           cases aY m T<;>first|rfl|skip
           refine congrArg (UT _) (funext fun es=>congrArg (aS _) (congrArg (K9 _ _ _) (funext fun q=>?_)))
           cases q<;>rfl
def V5 (P:Program) (op:Op):Kd:=match op with
 |.move x=>aIT x
 |.assign x=>aIT x
 |.pick c a b=>aQB c a b
 |.box _ x=>aSO x
 |.load t a=>aQC P t a
 |.store t a x=>aPD P t a x
 |.nilCheck x=>aSF x
 |.unOp .not _ x=>aSE x
 |.makeFunc f a b=>aQD f a b
 |.fieldAddr t x i=>aM1 P t x i
 |.indexAddr t x i=>aM0 P t x i
 |.extract t i=>aN9 t i
 |.build t ps=>aPE P t ps
 |.buildSlice t n ps=>aMP P t n ps
 |.insert t m k x=>aEE P t m k x
 |.mapUpdate t m k x=>aEE P t m k x
 |.lookup t x k ok=>aOQ P t x k ok
 |.binOp b t x y _=>aSP P b t x y
 |.call ⟨.builtin .len,args,ts⟩=>VI P ts args
 |.call ⟨.value f,args,ts⟩=>aQF ⟨.value f,args,ts⟩
 |op=>kd P op
theorem aH9 (op:Op):V5 P op=kd P op:=by
 unfold V5
 split<;>first
  |exact bLL _
  |exact bLK _ _ _
  |exact bM3 _
  |exact bLM _ _
  |exact bJ1 _ _ _
  |exact bM0 _
  |exact bMZ _
  |exact bLO _ _ _
  |exact bE_ _ _ _
  |exact bE9 _ _ _
  |exact bGL _ _
  |exact bJ2 _ _
  |exact bER _ _ _
  |exact bHZ _ _ _ _
  |exact bH0 _ _ _ _
  |exact bM1 _ _
  |exact bLP _
  |exact bM4 _ _ _ _ _
  |rfl
end
end
end Go.Ev
