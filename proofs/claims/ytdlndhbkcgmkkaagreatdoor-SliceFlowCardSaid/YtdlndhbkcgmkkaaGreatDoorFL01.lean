/-
 Part 1 of 35 of a proof about the given program: facts on which the last part stands.
-/
import Derived.Calls
import Derived.RowKit3
import Derived.LoopN
import Derived.Scope
import Derived.Laws.CopyRow
import Derived.Below
import Derived.Laws.Rows
import Derived.Laws.Sem
import Derived.Laws.Build
import Derived.Laws.Entries
set_option maxHeartbeats 12800000
set_option linter.unusedVariables false
set_option linter.unusedSimpArgs false
namespace Go.Ev
section
open Go
noncomputable section
inductive eZ where
 |d0
 |d1
 |d2
 |d3
 |d4
 |d5
 |d6
 |d7
 |d8
 |d9
 |d10
 |d11
 |d12
 |d13
 |d14
 |d15
structure aB (α:Type) where
 a0:α
 a1:α
 a2:α
 a3:α
 a4:α
 a5:α
 a6:α
 a7:α
 a8:α
 a9:α
 bW:α
 bV:α
 a12:α
 bU:α
 bT:α
 bS:α
namespace aB
variable {α β:Type}
def get (d:eZ):aB α→α:=eZ.rec (motive:=fun _=>aB α→α) aB.a0 aB.a1 aB.a2 aB.a3 aB.a4 aB.a5 aB.a6 aB.a7 aB.a8 aB.a9 aB.bW aB.bV aB.a12 aB.bU aB.bT aB.bS d
def s0 (v:α) (n:aB α) (c:aB α→β):β:=aB.rec (motive:=fun _=>β) (fun a0 a1 a2 a3 a4 a5 a6 a7 a8 a9 bW bV a12 bU bT bS=>c (aB.mk v a1 a2 a3 a4 a5 a6 a7 a8 a9 bW bV a12 bU bT bS)) n
def s1 (v:α) (n:aB α) (c:aB α→β):β:=aB.rec (motive:=fun _=>β) (fun a0 a1 a2 a3 a4 a5 a6 a7 a8 a9 bW bV a12 bU bT bS=>c (aB.mk a0 v a2 a3 a4 a5 a6 a7 a8 a9 bW bV a12 bU bT bS)) n
def s2 (v:α) (n:aB α) (c:aB α→β):β:=aB.rec (motive:=fun _=>β) (fun a0 a1 a2 a3 a4 a5 a6 a7 a8 a9 bW bV a12 bU bT bS=>c (aB.mk a0 a1 v a3 a4 a5 a6 a7 a8 a9 bW bV a12 bU bT bS)) n
def s3 (v:α) (n:aB α) (c:aB α→β):β:=aB.rec (motive:=fun _=>β) (fun a0 a1 a2 a3 a4 a5 a6 a7 a8 a9 bW bV a12 bU bT bS=>c (aB.mk a0 a1 a2 v a4 a5 a6 a7 a8 a9 bW bV a12 bU bT bS)) n
def s4 (v:α) (n:aB α) (c:aB α→β):β:=aB.rec (motive:=fun _=>β) (fun a0 a1 a2 a3 a4 a5 a6 a7 a8 a9 bW bV a12 bU bT bS=>c (aB.mk a0 a1 a2 a3 v a5 a6 a7 a8 a9 bW bV a12 bU bT bS)) n
def s5 (v:α) (n:aB α) (c:aB α→β):β:=aB.rec (motive:=fun _=>β) (fun a0 a1 a2 a3 a4 a5 a6 a7 a8 a9 bW bV a12 bU bT bS=>c (aB.mk a0 a1 a2 a3 a4 v a6 a7 a8 a9 bW bV a12 bU bT bS)) n
def s6 (v:α) (n:aB α) (c:aB α→β):β:=aB.rec (motive:=fun _=>β) (fun a0 a1 a2 a3 a4 a5 a6 a7 a8 a9 bW bV a12 bU bT bS=>c (aB.mk a0 a1 a2 a3 a4 a5 v a7 a8 a9 bW bV a12 bU bT bS)) n
def s7 (v:α) (n:aB α) (c:aB α→β):β:=aB.rec (motive:=fun _=>β) (fun a0 a1 a2 a3 a4 a5 a6 a7 a8 a9 bW bV a12 bU bT bS=>c (aB.mk a0 a1 a2 a3 a4 a5 a6 v a8 a9 bW bV a12 bU bT bS)) n
def s8 (v:α) (n:aB α) (c:aB α→β):β:=aB.rec (motive:=fun _=>β) (fun a0 a1 a2 a3 a4 a5 a6 a7 a8 a9 bW bV a12 bU bT bS=>c (aB.mk a0 a1 a2 a3 a4 a5 a6 a7 v a9 bW bV a12 bU bT bS)) n
def s9 (v:α) (n:aB α) (c:aB α→β):β:=aB.rec (motive:=fun _=>β) (fun a0 a1 a2 a3 a4 a5 a6 a7 a8 a9 bW bV a12 bU bT bS=>c (aB.mk a0 a1 a2 a3 a4 a5 a6 a7 a8 v bW bV a12 bU bT bS)) n
def s10 (v:α) (n:aB α) (c:aB α→β):β:=aB.rec (motive:=fun _=>β) (fun a0 a1 a2 a3 a4 a5 a6 a7 a8 a9 bW bV a12 bU bT bS=>c (aB.mk a0 a1 a2 a3 a4 a5 a6 a7 a8 a9 v bV a12 bU bT bS)) n
def V1 (v:α) (n:aB α) (c:aB α→β):β:=aB.rec (motive:=fun _=>β) (fun a0 a1 a2 a3 a4 a5 a6 a7 a8 a9 bW bV a12 bU bT bS=>c (aB.mk a0 a1 a2 a3 a4 a5 a6 a7 a8 a9 bW v a12 bU bT bS)) n
def s12 (v:α) (n:aB α) (c:aB α→β):β:=aB.rec (motive:=fun _=>β) (fun a0 a1 a2 a3 a4 a5 a6 a7 a8 a9 bW bV a12 bU bT bS=>c (aB.mk a0 a1 a2 a3 a4 a5 a6 a7 a8 a9 bW bV v bU bT bS)) n
def s13 (v:α) (n:aB α) (c:aB α→β):β:=aB.rec (motive:=fun _=>β) (fun a0 a1 a2 a3 a4 a5 a6 a7 a8 a9 bW bV a12 bU bT bS=>c (aB.mk a0 a1 a2 a3 a4 a5 a6 a7 a8 a9 bW bV a12 v bT bS)) n
def s14 (v:α) (n:aB α) (c:aB α→β):β:=aB.rec (motive:=fun _=>β) (fun a0 a1 a2 a3 a4 a5 a6 a7 a8 a9 bW bV a12 bU bT bS=>c (aB.mk a0 a1 a2 a3 a4 a5 a6 a7 a8 a9 bW bV a12 bU v bS)) n
def s15 (v:α) (n:aB α) (c:aB α→β):β:=aB.rec (motive:=fun _=>β) (fun a0 a1 a2 a3 a4 a5 a6 a7 a8 a9 bW bV a12 bU bT bS=>c (aB.mk a0 a1 a2 a3 a4 a5 a6 a7 a8 a9 bW bV a12 bU bT v)) n
def iA (d:eZ):α→aB α→(aB α→β)→β:=eZ.rec (motive:=fun _=>α→aB α→(aB α→β)→β) s0 s1 s2 s3 s4 s5 s6 s7 s8 s9 s10 V1 s12 s13 s14 s15 d
def set (d:eZ) (v:α) (n:aB α):aB α:=iA d v n id
def all (x:α):aB α:=aB.mk x x x x x x x x x x x x x x x x
theorem KT (d:eZ) (v:α) (n:aB α) (c:aB α→β):iA d v n c=c (set d v n):=by cases d<;>rfl
theorem a2X (d:eZ) (x:α):get d (all x)=x:=by cases d<;>rfl
theorem get_set_same (d:eZ) (v:α) (n:aB α):get d (set d v n)=v:=by cases d<;>rfl
theorem get_set_other {d e:eZ} (h:d≠e) (v:α) (n:aB α):get e (set d v n)=get e n:=by
 cases d<;>cases e<;>first|rfl|exact absurd rfl h
end aB
def toD (k:Nat):eZ:=Bool.rec (motive:=fun _=>eZ) (Bool.rec (motive:=fun _=>eZ) (Bool.rec (motive:=fun _=>eZ) (Bool.rec (motive:=fun _=>eZ) (.d15) (.d14) (Nat.beq (Nat.land k 1) 0)) (Bool.rec (motive:=fun _=>eZ) (.d13) (.d12) (Nat.beq (Nat.land k 1) 0)) (Nat.beq (Nat.land k 2) 0)) (Bool.rec (motive:=fun _=>eZ) (Bool.rec (motive:=fun _=>eZ) (.d11) (.d10) (Nat.beq (Nat.land k 1) 0)) (Bool.rec (motive:=fun _=>eZ) (.d9) (.d8) (Nat.beq (Nat.land k 1) 0)) (Nat.beq (Nat.land k 2) 0)) (Nat.beq (Nat.land k 4) 0)) (Bool.rec (motive:=fun _=>eZ) (Bool.rec (motive:=fun _=>eZ) (Bool.rec (motive:=fun _=>eZ) (.d7) (.d6) (Nat.beq (Nat.land k 1) 0)) (Bool.rec (motive:=fun _=>eZ) (.d5) (.d4) (Nat.beq (Nat.land k 1) 0)) (Nat.beq (Nat.land k 2) 0)) (Bool.rec (motive:=fun _=>eZ) (Bool.rec (motive:=fun _=>eZ) (.d3) (.d2) (Nat.beq (Nat.land k 1) 0)) (Bool.rec (motive:=fun _=>eZ) (.d1) (.d0) (Nat.beq (Nat.land k 1) 0)) (Nat.beq (Nat.land k 2) 0)) (Nat.beq (Nat.land k 4) 0)) (Nat.beq (Nat.land k 8) 0)
def eZ.nat:eZ→Nat
 |.d0=>0
 |.d1=>1
 |.d2=>2
 |.d3=>3
 |.d4=>4
 |.d5=>5
 |.d6=>6
 |.d7=>7
 |.d8=>8
 |.d9=>9
 |.d10=>10
 |.d11=>11
 |.d12=>12
 |.d13=>13
 |.d14=>14
 |.d15=>15
theorem toD_fin:∀k:Fin 16,(toD k.val).nat=k.val:=by decide
theorem toD_small {k:Nat} (h:k<16):(toD k).nat=k:=toD_fin ⟨k,h⟩
theorem aD8 (k b:Nat) (hb:b<4):Nat.land k (2 ^ b)=Nat.land (k % 16) (2 ^ b):=by
 show k &&& 2 ^ b=(k % 16) &&& 2 ^ b
 apply Nat.eq_of_testBit_eq
 intro i
 rw[Nat.testBit_and,Nat.testBit_and,Nat.testBit_two_pow,show (16:Nat)=2 ^ 4 from rfl,Nat.testBit_mod_two_pow]
 by_cases h:b=i
 · subst h;simp[hb]
 simp[h]
theorem toD_mod (k:Nat):toD k=toD (k % 16):=by
 have h0:=aD8 k 0 (by decide)
 have h1:=aD8 k 1 (by decide)
 have h2:=aD8 k 2 (by decide)
 have h3:=aD8 k 3 (by decide)
 unfold toD
 simp only[Nat.reducePow] at h0 h1 h2 h3
 rw[h0,h1,h2,h3]
theorem toD_nat (k:Nat):(toD k).nat=k % 16:=by rw[toD_mod,toD_small (Nat.mod_lt _ (by decide))]
theorem toD_inj {j k:Nat} (h:toD j=toD k):j % 16=k % 16:=by rw[←toD_nat,←toD_nat,h]
theorem toD_ne {j k:Nat} (h:j % 16≠k % 16):toD j≠toD k:=fun e=>h (toD_inj e)
theorem toD_land (k:Nat):toD (Nat.land k 15)=toD k:=by
 have:Nat.land k 15=k % 16:=Nat.and_two_pow_sub_one_eq_mod k 4
 rw[this,←toD_mod]
inductive AV where
 |top
 |bool (b:Bool)
 |int (k:IntKind) (n:Int)
 |str (n x:Nat)
 |pnil
 |ptr (b o:Nat)
 |snil
 |sl (b o n c:Nat)
 |slu (b o n sz:Nat)
 |mnil
 |map (b:Nat)
 |fn (f:Fn) (first captured:AV)
 |fnil
 |inil
 |iface (t:Nat) (v:AV)
 |agg (l:AV)
 |tup (l:AV)
 |ge (n:Nat)
 |nl
 |cons (h t:AV)
 deriving Inhabited
def jK:List UInt8→Nat
 | []=>0
 |b::l=>Nat.add b.toNat (Nat.mul 256 (jK l))
inductive Cs where
 |c1 (a:aB AV)
 |c2 (a:aB (aB AV))
 |c3 (a:aB (aB (aB AV)))
inductive AO where
 |gone
 |cells (n:Nat) (c:Cs)
 |map (es:List (AV×AV))
abbrev T:=aB (aB AV)
abbrev Hp:=aB (aB (aB (aB AO)))
structure St where
 h:Hp
 n:Nat
inductive R where
 |ok (v:AV) (s:St)
 |bad (why:Nat)
theorem R.bA {w:Nat} {v:AV} {s:St} (h:R.bad w=.ok v s):False:=by cases h
def fN {β:Type} (n:Nat) (c:Nat→β):β:=Nat.rec (motive:=fun _=>β) (c 0) (fun k _=>c (Nat.succ k)) n
theorem gQ {β:Type} (n:Nat) (c:Nat→β):fN n c=c n:=by cases n<;>rfl
def fI {β:Type} (n:Int) (c:Int→β):β:=Int.rec (motive:=fun _=>β) (fun k=>fN k fun k=>c (.ofNat k)) (fun k=>fN k fun k=>c (.negSucc k)) n
theorem bPN {β:Type} (n:Int) (c:Int→β):fI n c=c n:=by
 cases n
 · exact gQ _ fun k=>c (.ofNat k)
 exact gQ _ fun k=>c (.negSucc k)
def okB {β:Type} (bad:β) (b:Bool) (k:β):β:=Bool.rec (motive:=fun _=>β) bad k b
theorem bMM {β:Type} {bad:β} {b:Bool} {k r:β} (h:okB bad b k=r):r=bad∨b=true∧k=r:=by
 cases b
 · exact .inl h.symm
 exact .inr ⟨rfl,h⟩
def aS (b:Bool) (k:R):R:=Bool.rec (motive:=fun _=>R) (.bad 1) k b
theorem cI {b:Bool} {k:R} {v:AV} {s:St} (h:aS b k=.ok v s):b=true∧k=.ok v s:=by
 cases b
 · exact (R.bA h).elim
 exact⟨rfl,h⟩
def pG:T:=aB.all (aB.all .top)
def WQ:Hp:=aB.all (aB.all (aB.all (aB.all .gone)))
def yA (t:Nat) (T:T):AV:=aB.get (toD (Nat.land t 15)) (aB.get (toD (Nat.div t 16)) T)
def EG (t:Nat) (v:AV) (T:T) (c:Ev.T→R):R:=
 aB.iA (toD (Nat.land t 15)) v (aB.get (toD (Nat.div t 16)) T) fun r=>aB.iA (toD (Nat.div t 16)) r T c
def N7 (t:Nat) (v:AV) (T:T):Ev.T:=aB.set (toD (Nat.div t 16)) (aB.set (toD (Nat.land t 15)) v (aB.get (toD (Nat.div t 16)) T)) T
theorem aD1 (t:Nat) (v:AV) (T:T) (c:Ev.T→R):EG t v T c=c (N7 t v T):=by
 unfold EG N7;rw[aB.KT,aB.KT]
theorem aOI (t:Nat):yA t pG=.top:=by unfold yA pG;rw[aB.a2X,aB.a2X]
theorem aDT (t:Nat) (v:AV) (T:T):yA t (N7 t v T)=v:=by
 unfold yA N7;rw[aB.get_set_same,aB.get_set_same]
theorem aDO {t u:Nat} (ht:t<256) (hu:u<256) (h:t≠u) (v:AV) (T:T):yA u (N7 t v T)=yA u T:=by
 unfold yA N7
 rw[toD_land,toD_land]
 by_cases e:toD (Nat.div t 16)=toD (Nat.div u 16)
 · rw[←e,aB.get_set_same]
   refine aB.get_set_other (toD_ne ?_) _ _
   have:(t / 16) % 16=(u / 16) % 16:=toD_inj e
   omega
 rw[aB.get_set_other e]
def bZ (b:Nat) (h:Hp):AO:=aB.get (toD (Nat.land b 15)) (aB.get (toD (Nat.div b 16)) (aB.get (toD (Nat.div b 256)) (aB.get (toD (Nat.div b 4096)) h)))
def F6 (b:Nat) (o:AO) (h:Hp) (c:Hp→R):R:=
 (fun h3=>(fun h2=>(fun h1=>aB.iA (toD (Nat.land b 15)) o h1 fun h1=>aB.iA (toD (Nat.div b 16)) h1 h2 fun h2=>aB.iA (toD (Nat.div b 256)) h2 h3 fun h3=>aB.iA (toD (Nat.div b 4096)) h3 h c)
  (aB.get (toD (Nat.div b 16)) h2)) (aB.get (toD (Nat.div b 256)) h3)) (aB.get (toD (Nat.div b 4096)) h)
def dY (b:Nat) (o:AO) (h:Hp):Hp:=
 aB.set (toD (Nat.div b 4096)) (aB.set (toD (Nat.div b 256)) (aB.set (toD (Nat.div b 16)) (aB.set (toD (Nat.land b 15)) o
  (aB.get (toD (Nat.div b 16)) (aB.get (toD (Nat.div b 256)) (aB.get (toD (Nat.div b 4096)) h)))) (aB.get (toD (Nat.div b 256)) (aB.get (toD (Nat.div b 4096)) h))) (aB.get (toD (Nat.div b 4096)) h)) h
theorem YA (b:Nat) (o:AO) (h:Hp) (c:Hp→R):F6 b o h c=c (dY b o h):=by
 unfold F6 dY;simp only[aB.KT]
theorem KQ (b:Nat) (o:AO) (h:Hp):bZ b (dY b o h)=o:=by
 unfold bZ dY;simp only[aB.get_set_same]
theorem XR {b e:Nat} (hb:b<65536) (he:e<65536) (hne:b≠e) (o:AO) (h:Hp):bZ e (dY b o h)=bZ e h:=by
 unfold bZ dY
 rw[toD_land,toD_land]
 by_cases e3:toD (Nat.div b 4096)=toD (Nat.div e 4096)
 rotate_left
 · rw[aB.get_set_other e3]
 rw[←e3,aB.get_set_same]
 by_cases e2:toD (Nat.div b 256)=toD (Nat.div e 256)
 rotate_left
 · rw[aB.get_set_other e2]
 rw[←e2,aB.get_set_same]
 by_cases e1:toD (Nat.div b 16)=toD (Nat.div e 16)
 · rw[←e1,aB.get_set_same]
   refine aB.get_set_other (toD_ne ?_) _ _
   have h3:(b / 4096) % 16=(e / 4096) % 16:=toD_inj e3
   have h2:(b / 256) % 16=(e / 256) % 16:=toD_inj e2
   have h1:(b / 16) % 16=(e / 16) % 16:=toD_inj e1
   omega
 rw[aB.get_set_other e1]
def Cs.room:Cs→Nat
 |.c1 _=>16
 |.c2 _=>256
 |.c3 _=>4096
def Cs.get (k:Nat) (c:Cs):AV:=Cs.rec (motive:=fun _=>AV) (fun a=>aB.get (toD k) a)
 (fun a=>aB.get (toD (Nat.land k 15)) (aB.get (toD (Nat.div k 16)) a))
 (fun a=>aB.get (toD (Nat.land k 15)) (aB.get (toD (Nat.div k 16)) (aB.get (toD (Nat.div k 256)) a))) c
def Cs.iA {β:Type} (bad:β) (k:Nat) (v:AV) (c:Cs) (f:Cs→β):β:=okB bad (Nat.ble (Nat.succ k) c.room) (Cs.rec (motive:=fun _=>β) (fun a=>aB.iA (toD k) v a fun a=>f (.c1 a))
 (fun a=>aB.iA (toD (Nat.land k 15)) v (aB.get (toD (Nat.div k 16)) a) fun r=>aB.iA (toD (Nat.div k 16)) r a fun a=>f (.c2 a))
 (fun a=>(fun a1=>aB.iA (toD (Nat.land k 15)) v (aB.get (toD (Nat.div k 16)) a1) fun r=>aB.iA (toD (Nat.div k 16)) r a1 fun a1=>aB.iA (toD (Nat.div k 256)) a1 a fun a=>f (.c3 a)) (aB.get (toD (Nat.div k 256)) a)) c)
theorem Cs.X7 {β:Type} {bad:β} {k:Nat} {v:AV} {c:Cs} {f:Cs→β} {r:β} (h:Cs.iA bad k v c f=r):
 r=bad∨∃c':Cs,f c'=r∧k<c.room∧c'.room=c.room∧c'.get k=v∧∀j,j<c.room→j≠k→c'.get j=c.get j:=by
 unfold Cs.iA at h
 rcases bMM h with h|⟨hk,h⟩
 · exact .inl h
 refine .inr ?_
 have hk:k<c.room:=Nat.le_of_ble_eq_true hk
 cases c with
 |c1 a=>
  simp only[aB.KT] at h
  refine⟨_,h,hk,rfl,aB.get_set_same _ _ _,fun j hj hn=>aB.get_set_other (toD_ne ?_) _ _⟩
  simp only[Cs.room] at hk hj
  omega
 |c2 a=>
  simp only[aB.KT] at h
  refine⟨_,h,hk,rfl,?_,fun j hj hn=>?_⟩
  · simp only[Cs.get,aB.get_set_same]
  simp only[Cs.room] at hk hj
  simp only[Cs.get,toD_land]
  by_cases e:toD (Nat.div k 16)=toD (Nat.div j 16)
  · rw[←e,aB.get_set_same]
    refine aB.get_set_other (toD_ne ?_) _ _
    have:(k / 16) % 16=(j / 16) % 16:=toD_inj e
    omega
  rw[aB.get_set_other e]
 |c3 a=>
  simp only[aB.KT] at h
  refine⟨_,h,hk,rfl,?_,fun j hj hn=>?_⟩
  · simp only[Cs.get,aB.get_set_same]
  simp only[Cs.room] at hk hj
  simp only[Cs.get,toD_land]
  by_cases e2:toD (Nat.div k 256)=toD (Nat.div j 256)
  rotate_left
  · rw[aB.get_set_other e2]
  rw[←e2,aB.get_set_same]
  by_cases e:toD (Nat.div k 16)=toD (Nat.div j 16)
  · rw[←e,aB.get_set_same]
    refine aB.get_set_other (toD_ne ?_) _ _
    have h2:(k / 256) % 16=(j / 256) % 16:=toD_inj e2
    have h1:(k / 16) % 16=(j / 16) % 16:=toD_inj e
    omega
  rw[aB.get_set_other e]
def Cs.new (n:Nat):Cs:=Bool.rec (motive:=fun _=>Cs) (Bool.rec (motive:=fun _=>Cs) (.c3 (aB.all (aB.all (aB.all .top)))) (.c2 (aB.all (aB.all .top))) (Nat.ble n 256)) (.c1 (aB.all .top)) (Nat.ble n 16)
def AV.len:AV→Nat
 |.cons _ t=>Nat.succ (AV.len t)
 |_=>0
def AV.nth:AV→Nat→AV
 |.cons h _,0=>h
 |.cons _ t,n+1=>AV.nth t n
 |_,_=>.top
def AV.O7:AV→Bool
 |.nl=>true
 |.cons _ t=>AV.O7 t
 |_=>false
def uO {β:Type} (bad:β) (l:AV):Nat→Cs→(Nat→Cs→β)→β:=AV.rec (motive:=fun _=>Nat→Cs→(Nat→Cs→β)→β) (fun _ _ _=>bad) (fun _ _ _ _=>bad) (fun _ _ _ _ _=>bad) (fun _ _ _ _ _=>bad) (fun _ _ _=>bad) (fun _ _ _ _ _=>bad) (fun _ _ _=>bad) (fun _ _ _ _ _ _ _=>bad) (fun _ _ _ _ _ _ _=>bad) (fun _ _ _=>bad) (fun _ _ _ _=>bad) (fun _ _ _ _ _ _ _ _=>bad) (fun _ _ _=>bad) (fun _ _ _=>bad) (fun _ _ _ _ _ _=>bad) (fun _ _ _ _ _=>bad) (fun _ _ _ _ _=>bad) (fun _ _ _ _=>bad) (fun i c k=>k i c) (fun h t _ ih i c k=>Cs.iA bad i h c fun c=>fN (Nat.succ i) fun i=>ih i c k) l
theorem IY {β:Type} {bad:β}:∀{l:AV} {i:Nat} {c:Cs} {k:Nat→Cs→β} {r:β},uO bad l i c k=r→
 r=bad∨∃c':Cs,k (i+l.len) c'=r∧l.O7=true∧c'.room=c.room∧(l.len=0∨i+l.len≤c.room)∧(∀j,j<l.len→c'.get (i+j)=l.nth j)∧(∀j,j<c.room→(j<i∨i+l.len≤j)→c'.get j=c.get j)
 |.nl,i,c,k,r,h=>.inr ⟨c,h,rfl,rfl,.inl rfl,fun j hj=>absurd hj (Nat.not_lt_zero _),fun _ _ _=>rfl⟩
 |.cons x t,i,c,k,r,h=>by
   change Cs.iA bad i x c (fun c=>fN (Nat.succ i) fun i=>uO bad t i c k)=_ at h
   rcases Cs.X7 h with h|⟨c1,h1,hi,hr,hs,ho⟩
   · exact .inl h
   rw[gQ] at h1
   rcases IY h1 with h|⟨c2,h2,hl,hr2,hd,hg,hk⟩
   · exact .inl h
   refine .inr ?_
   have e:Nat.succ i+t.len=i+(AV.cons x t).len:=by simp only[AV.len];omega
   rw[e] at h2
   refine⟨c2,h2,hl,hr2.trans hr,.inr ?_,?_,?_⟩
   · simp only[AV.len]
     rcases hd with hd|hd
     · rw[hd];omega
     rw[hr] at hd;omega
   · intro j hj
     cases j with
     |zero=>
      rw[hk (i+0) (by rw[hr];exact hi) (.inl (by omega))]
      exact hs
     |succ j=>
      have:=hg j (by simp only[AV.len] at hj;omega)
      rw[show i+(j+1)=Nat.succ i+j by omega,this]
      rfl
   intro j hj hc
   simp only[AV.len] at hc
   rw[hk j (by rw[hr];exact hj) (by omega)]
   exact ho j hj (by omega)
 |.top,_,_,_,_,h=>.inl h.symm
 |.bool _,_,_,_,_,h=>.inl h.symm
 |.int _ _,_,_,_,_,h=>.inl h.symm
 |.str _ _,_,_,_,_,h=>.inl h.symm
 |.pnil,_,_,_,_,h=>.inl h.symm
 |.ptr _ _,_,_,_,_,h=>.inl h.symm
 |.snil,_,_,_,_,h=>.inl h.symm
 |.sl _ _ _ _,_,_,_,_,h=>.inl h.symm
 |.slu _ _ _ _,_,_,_,_,h=>.inl h.symm
 |.mnil,_,_,_,_,h=>.inl h.symm
 |.map _,_,_,_,_,h=>.inl h.symm
 |.fn _ _ _,_,_,_,_,h=>.inl h.symm
 |.fnil,_,_,_,_,h=>.inl h.symm
 |.inil,_,_,_,_,h=>.inl h.symm
 |.iface _ _,_,_,_,_,h=>.inl h.symm
 |.agg _,_,_,_,_,h=>.inl h.symm
 |.tup _,_,_,_,_,h=>.inl h.symm
 |.ge _,_,_,_,_,h=>.inl h.symm
def K2 (c:Cs) (n:Nat):Nat→(AV→R)→R:=Nat.rec (motive:=fun _=>Nat→(AV→R)→R) (fun _ k=>k .nl)
 (fun _ ih i k=>(fun v=>fN (Nat.succ i) fun j=>ih j fun l=>k (.cons v l)) (Cs.get i c)) n
def JB (c:Cs):Nat→Nat→AV
 |0,_=>.nl
 |n+1,i=>.cons (c.get i) (JB c n (i+1))
theorem aD2 (c:Cs):∀(n i:Nat) (k:AV→R),K2 c n i k=k (JB c n i)
 |0,_,_=>rfl
 |n+1,i,k=>by
   change fN (Nat.succ i) (fun j=>K2 c n j fun l=>k (.cons (Cs.get i c) l))=_
   rw[gQ,aD2 c n];rfl
theorem KJ (c:Cs):∀(n i:Nat),(JB c n i).len=n
 |0,_=>rfl
 |n+1,i=>by simp only[JB,AV.len,KJ c n]
theorem XT (c:Cs):∀(n i:Nat),(JB c n i).O7=true
 |0,_=>rfl
 |n+1,i=>by simp only[JB,AV.O7,XT c n]
theorem aDU (c:Cs):∀(n i j:Nat),j<n→(JB c n i).nth j=c.get (i+j)
 |0,_,_,h=>absurd h (Nat.not_lt_zero _)
 |n+1,i,0,_=>rfl
 |n+1,i,j+1,h=>by
   simp only[JB,AV.nth]
   rw[aDU c n (i+1) j (by omega),show i+1+j=i+(j+1) by omega]
end
structure Loc where
 b:Nat
 d:Nat
 s:Nat
structure aH where
 f:Nat→Option Loc
 res:Nat→Prop
instance:CoeFun aH (fun _=>Nat→Option Loc):=⟨aH.f⟩
mutual
def RV (ι:aH):AV→Value→Prop
 |.top,_=>True
 |.bool b,v=>v=.bool b
 |.int k n,v=>v=.int k n
 |.str n x,v=>∃s,v=.string s∧s.size=n∧jK s.data.toList=x
 |.pnil,v=>v=.pointer none
 |.ptr b o,v=>∃l,ι b=some l∧v=.pointer (some ⟨l.b,l.d+o,none⟩)
 |.snil,v=>v=.slice none 0 0
 |.sl b o n c,v=>∃l,ι b=some l∧v=.slice (some ⟨l.b,l.d+o,none⟩) n c
 |.slu b o n sz,v=>∃l,ι b=some l∧((∃cap,v=.slice (some ⟨l.b,l.d+o,none⟩) n cap∧o+cap*sz=l.s∧n≤cap∧cap<9223372036854775808)∨n=0∧∃a,v=.slice (some a) 0 0)
 |.mnil,v=>v=.map none
 |.map b,v=>∃l,ι b=some l∧v=.map (some l.b)
 |.fn f x y,v=>∃a b,v=.func f a b∧RL ι x a.toList∧RL ι y b.toList
 |.fnil,v=>v=.nilFunc
 |.inil,v=>v=.nilIface
 |.iface t x,v=>∃u,v=.iface t u∧RV ι x u
 |.agg l,v=>∃a,v=.agg a∧RL ι l a.toList
 |.tup l,v=>∃a,v=.tuple a∧RL ι l a.toList
 |.ge n,v=>∃x:Nat,n≤x∧x<9223372036854775808∧v=.int .i64 x
 |.nl,_=>False
 |.cons _ _,_=>False
def RL (ι:aH):AV→List Value→Prop
 |.nl,l=>l=[]
 |.cons h t,l=>∃u r,l=u::r∧RV ι h u∧RL ι t r
 |.top,_=>False
 |.bool _,_=>False
 |.int _ _,_=>False
 |.str _ _,_=>False
 |.pnil,_=>False
 |.ptr _ _,_=>False
 |.snil,_=>False
 |.sl _ _ _ _,_=>False
 |.slu _ _ _ _,_=>False
 |.mnil,_=>False
 |.map _,_=>False
 |.fn _ _ _,_=>False
 |.fnil,_=>False
 |.inil,_=>False
 |.iface _ _,_=>False
 |.agg _,_=>False
 |.tup _,_=>False
 |.ge _,_=>False
end
def aH.le (ι κ:aH):Prop:=∀b l,ι b=some l→κ b=some l
theorem aH.le.refl (ι:aH):ι.le ι:=fun _ _ h=>h
theorem aH.le.trans {ι κ μ:aH} (h:ι.le κ) (g:κ.le μ):ι.le μ:=fun b l e=>g b l (h b l e)
mutual
theorem RV.mono {ι κ:aH} (h:ι.le κ):∀{x:AV} {v:Value},RV ι x v→RV κ x v
 |.top,_,_=>trivial
 |.bool _,_,r=>r
 |.int _ _,_,r=>r
 |.str _ _,_,r=>r
 |.pnil,_,r=>r
 |.ptr b o,v,r=>by
   simp only[RV] at r ⊢
   obtain⟨l,e,r⟩:=r
   exact⟨l,h b l e,r⟩
 |.snil,_,r=>r
 |.sl b o n c,v,r=>by
   simp only[RV] at r ⊢
   obtain⟨l,e,r⟩:=r
   exact⟨l,h b l e,r⟩
 |.slu b o n sz,v,r=>by
   simp only[RV] at r ⊢
   obtain⟨l,e,r⟩:=r
   exact⟨l,h b l e,r⟩
 |.mnil,_,r=>r
 |.map b,v,r=>by
   simp only[RV] at r ⊢
   obtain⟨l,e,r⟩:=r
   exact⟨l,h b l e,r⟩
 |.fn f x y,v,r=>by
   simp only[RV] at r ⊢
   obtain⟨a,b,e,p,q⟩:=r
   exact⟨a,b,e,RL.mono h p,RL.mono h q⟩
 |.fnil,_,r=>r
 |.inil,_,r=>r
 |.iface t x,v,r=>by
   simp only[RV] at r ⊢
   obtain⟨u,e,p⟩:=r
   exact⟨u,e,RV.mono h p⟩
 |.agg l,v,r=>by
   simp only[RV] at r ⊢
   obtain⟨a,e,p⟩:=r
   exact⟨a,e,RL.mono h p⟩
 |.ge n,v,r=>r
 |.tup l,v,r=>by
   simp only[RV] at r ⊢
   obtain⟨a,e,p⟩:=r
   exact⟨a,e,RL.mono h p⟩
 |.nl,_,r=>r
 |.cons _ _,_,r=>r
theorem RL.mono {ι κ:aH} (h:ι.le κ):∀{x:AV} {l:List Value},RL ι x l→RL κ x l
 |.nl,_,r=>r
 |.cons a t,l,r=>by
   simp only[RL] at r ⊢
   obtain⟨u,q,e,p,g⟩:=r
   exact⟨u,q,e,RV.mono h p,RL.mono h g⟩
 |.top,_,r=>r
 |.bool _,_,r=>r
 |.int _ _,_,r=>r
 |.str _ _,_,r=>r
 |.pnil,_,r=>r
 |.ptr _ _,_,r=>r
 |.snil,_,r=>r
 |.sl _ _ _ _,_,r=>r
 |.slu _ _ _ _,_,r=>r
 |.mnil,_,r=>r
 |.map _,_,r=>r
 |.fn _ _ _,_,r=>r
 |.fnil,_,r=>r
 |.inil,_,r=>r
 |.iface _ _,_,r=>r
 |.agg _,_,r=>r
 |.tup _,_,r=>r
 |.ge _,_,r=>r
end
def RM (ι:aH):List (AV×AV)→List MapEntry→Prop
 | [],l=>l=[]
 |(a,v)::r,l=>∃e q,l=e::q∧RV ι a e.key∧RV ι v e.val∧RM ι r q
theorem RM.mono {ι κ:aH} (h:ι.le κ):∀{x:List (AV×AV)} {l:List MapEntry},RM ι x l→RM κ x l
 | [],_,r=>r
 |(a,v)::t,l,⟨e,q,he,p,g,m⟩=>⟨e,q,he,p.mono h,g.mono h,RM.mono h m⟩
def VR (a:Array Value) (f:Nat×Nat):Prop:=f=(0,0)∨f=(a.size,a.size+1)
theorem VR.size {a b:Array Value} {f:Nat×Nat} (h:VR a f) (hs:b.size=a.size):VR b f:=by
 unfold VR at h ⊢;rw[hs];exact h
def RO (ι:aH) (o:AO) (l:Loc) (w:World):Prop:=match o with
 |.gone=>True
 |.cells n c=>n≤c.room∧n≤l.s∧∃a e f,w.heap[l.b]?=some (.cells a e f)∧VR a f∧a.size=l.d+l.s∧∀i,i<n→∃x,a[l.d+i]?=some x∧RV ι (c.get i) x
 |.map es=>∃a k,w.heap[l.b]?=some (.map a k)∧RM ι es a.toList
theorem RO.mono {ι κ:aH} (h:ι.le κ) {o:AO} {l:Loc} {w:World} (r:RO ι o l w):RO κ o l w:=by
 cases o with
 |gone=>exact r
 |cells n c=>
  obtain⟨h1,h2,a,e,f,h3,hf,h4,h5⟩:=r
  exact⟨h1,h2,a,e,f,h3,hf,h4,fun i hi=>let ⟨x,p,q⟩:=h5 i hi;⟨x,p,q.mono h⟩⟩
 |map es=>
  obtain⟨a,k,h1,h2⟩:=r
  exact⟨a,k,h1,h2.mono h⟩
theorem RO.world {ι:aH} {o:AO} {l:Loc} {w w':World} (r:RO ι o l w) (h:w'.heap[l.b]?=w.heap[l.b]?):RO ι o l w':=by
 cases o with
 |gone=>exact r
 |cells n c=>unfold RO at r ⊢;rw[h];exact r
 |map es=>unfold RO at r ⊢;rw[h];exact r
theorem RO.lt {ι:aH} {o:AO} {l:Loc} {w:World} (r:RO ι o l w) (ho:o≠.gone):l.b<w.heap.size:=by
 cases o with
 |gone=>exact (ho rfl).elim
 |cells n c=>obtain⟨-,-,a,e,f,h,-⟩:=r;exact (Array.getElem?_eq_some_iff.1 h).1
 |map es=>obtain⟨a,k,h,-⟩:=r;exact (Array.getElem?_eq_some_iff.1 h).1
structure HR (ι:aH) (S:St) (w:World):Prop where
 lim:S.n≤65536
 fresh:∀b,S.n≤b→ι b=none
 live:∀b l,ι b=some l→RO ι (bZ b S.h) l w
 apart:∀b c l m,ι b=some l→ι c=some m→bZ b S.h≠.gone→bZ c S.h≠.gone→b≠c→l.b≠m.b
 sW:∀b,ι.res b→b<S.n
structure Ext (ι:aH) (w:World) (κ:aH) (w':World):Prop where
 os:w'.os=w.os
 tape:w'.tape=w.tape
 output:w'.output=w.output
 size:w.heap.size≤w'.heap.size
 le:ι.le κ
 keep:∀k,k<w.heap.size→(∀b l,ι b=some l→l.b≠k)→w'.heap[k]?=w.heap[k]?
 new:∀b l,κ b=some l→(∃b' l',ι b'=some l'∧l'.b=l.b)∨w.heap.size≤l.b
 same:κ.res=ι.res
 wait:∀b,ι.res b→ι b=none→κ b=none
theorem Ext.refl (ι:aH) (w:World):Ext ι w ι w:=⟨rfl,rfl,rfl,Nat.le_refl _,.refl _,fun _ _ _=>rfl,fun b l h=>.inl ⟨b,l,h,rfl⟩,rfl,fun _ _ h=>h⟩
theorem Ext.trans {ι κ μ:aH} {w v u:World} (h:Ext ι w κ v) (g:Ext κ v μ u):Ext ι w μ u where
 os:=g.os.trans h.os
 tape:=g.tape.trans h.tape
 output:=g.output.trans h.output
 size:=Nat.le_trans h.size g.size
 le:=h.le.trans g.le
 keep k hk hn:=(g.keep k (Nat.lt_of_lt_of_le hk h.size) fun b l hb e=>by
  rcases h.new b l hb with⟨b',l',h1,h2⟩|h1
  · exact hn b' l' h1 (h2.trans e)
  omega).trans (h.keep k hk hn)
 new b l hb:=by
  rcases g.new b l hb with⟨b',l',h1,h2⟩|h1
  · rcases h.new b' l' h1 with⟨b'',l'',h3,h4⟩|h3
    · exact .inl ⟨b'',l'',h3,h4.trans h2⟩
    exact .inr (h2▸h3)
  exact .inr (Nat.le_trans h.size h1)
 same:=g.same.trans h.same
 wait b hr hn:=g.wait b (by rw[h.same];exact hr) (h.wait b hr hn)
theorem Ext.below {ι κ:aH} {w w':World} (h:Ext ι w κ w') (hι:∀b,ι b=none):RowKit.Below w.heap.size w w':=
 ⟨h.os,h.tape,h.output,h.size,fun k hk=>h.keep k hk fun b l e=>by rw[hι b] at e;cases e⟩
theorem HR.world {ι:aH} {S:St} {w w':World} (h:HR ι S w) (hw:∀k:Nat,w'.heap[k]?=w.heap[k]?):HR ι S w':=
 ⟨h.lim,h.fresh,fun b l e=>(h.live b l e).world (hw _),h.apart,h.sW⟩
theorem Ext.world {ι:aH} {w w':World} (pA:w'.os=w.os) (ht:w'.tape=w.tape) (ho:w'.output=w.output) (hh:w'.heap=w.heap):Ext ι w ι w':=
 ⟨pA,ht,ho,by rw[hh];exact Nat.le_refl _,.refl _,fun _ _ _=>by rw[hh],fun b l h=>.inl ⟨b,l,h,rfl⟩,rfl,fun _ _ h=>h⟩
def aH.zero:aH:=⟨fun _=>none,fun _=>False⟩
theorem HR.empty {w:World}:HR aH.zero ⟨WQ,0⟩ w:=
 ⟨by decide,fun _ _=>rfl,(fun _ _ h=>by cases h),(fun _ _ _ _ h=>by cases h),fun _ h=>h.elim⟩
theorem HR.ltn {ι:aH} {S:St} {w:World} (h:HR ι S w) {b:Nat} {l:Loc} (e:ι b=some l):b<S.n:=by
 rcases Nat.lt_or_ge b S.n with h1|h1
 · exact h1
 rw[h.fresh b h1] at e;cases e
theorem HR.small {ι:aH} {S:St} {w:World} (h:HR ι S w) {b:Nat} {l:Loc} (e:ι b=some l):b<65536:=Nat.lt_of_lt_of_le (h.ltn e) h.lim
theorem HR.YE {ι:aH} {S:St} {w:World} (h:HR ι S w) (hn:S.n<65536) (o:AO):HR ι ⟨dY S.n o S.h,S.n+1⟩ w:=by
 have hg:∀b l,ι b=some l→bZ b (dY S.n o S.h)=bZ b S.h:=fun b l e=>
  XR hn (h.small e) (fun hh=>by have:=h.ltn e;omega) _ _
 refine⟨hn,fun b hb=>h.fresh b (by have:S.n+1≤b:=hb;omega),fun b l e=>?_,fun b c l m hb hc h1 h2 hne=>?_,fun b hb=>Nat.lt_succ_of_lt (h.sW b hb)⟩
 · show RO ι (bZ b (dY S.n o S.h)) l w
   rw[hg b l e];exact h.live b l e
 have h1:bZ b (dY S.n o S.h)≠.gone:=h1
 have h2:bZ c (dY S.n o S.h)≠.gone:=h2
 rw[hg b l hb] at h1
 rw[hg c m hc] at h2
 exact h.apart b c l m hb hc h1 h2 hne
def aH.put (ι:aH) (b:Nat) (l:Loc):aH:=⟨fun c=>if c=b then some l else ι c,ι.res⟩
theorem aH.BC (ι:aH) (b:Nat) (l:Loc):ι.put b l b=some l:=if_pos rfl
theorem aH.uE (ι:aH) {b c:Nat} (l:Loc) (h:c≠b):ι.put b l c=ι c:=if_neg h
theorem aH.NM {ι:aH} {b:Nat} (h:ι b=none) (l:Loc):ι.le (ι.put b l):=fun c m e=>by
 rw[aH.uE ι l (by rintro rfl;rw[h] at e;cases e)];exact e
theorem heap_alloc_old {w:World} {o:Obj} {k:Nat} (h:k<w.heap.size):(w.alloc o).heap[k]?=w.heap[k]?:=by
 show (w.heap.push o)[k]?=_
 rw[Array.getElem?_push,if_neg (by omega)]
theorem aDJ {w:World} {o:Obj}:(w.alloc o).heap[w.heap.size]?=some o:=by
 show (w.heap.push o)[w.heap.size]?=_
 simp
theorem HR.make {ι:aH} {S:St} {w w':World} (h:HR ι S w) {b:Nat} (hb:ι b=none) (hv:¬ι.res b) (hlt:b<S.n) (l:Loc)
 (pA:w'.os=w.os) (Y1:w'.tape=w.tape) (hout:w'.output=w.output) (hsz:w.heap.size≤w'.heap.size)
 (hk:∀k:Nat,k<w.heap.size→w'.heap[k]?=w.heap[k]?) (hl:w.heap.size≤l.b)
 (ho:RO (ι.put b l) (bZ b S.h) l w'):
 HR (ι.put b l) S w'∧Ext ι w (ι.put b l) w':=by
 have hle:=aH.NM hb l
 refine⟨⟨h.lim,?_,?_,?_,h.sW⟩,⟨pA,Y1,hout,hsz,hle,fun k hlt _=>hk k hlt,?_,rfl,fun c hc hn=>by rw[aH.uE _ _ (by rintro rfl;exact hv hc)];exact hn⟩⟩
 · intro c hc
   rw[aH.uE _ _ (by omega)]
   exact h.fresh c hc
 · intro c m e
   by_cases hcb:c=b
   · subst hcb;rw[aH.BC] at e;cases e;exact ho
   rw[aH.uE _ _ hcb] at e
   have:=h.live c m e
   by_cases hg:bZ c S.h=.gone
   · rw[hg];exact trivial
   exact (this.mono hle).world (hk _ (this.lt hg))
 · intro c e m n hc he mQ hge hne
   by_cases hcb:c=b
   · subst hcb
     rw[aH.BC] at hc;cases hc
     rw[aH.uE _ _ (fun h=>hne h.symm)] at he
     exact fun hh=>absurd ((h.live e n he).lt hge) (by omega)
   rw[aH.uE _ _ hcb] at hc
   by_cases J6:e=b
   · subst J6
     rw[aH.BC] at he;cases he
     exact fun hh=>absurd ((h.live c m hc).lt mQ) (by omega)
   rw[aH.uE _ _ J6] at he
   exact h.apart c e m n hc he mQ hge hne
 intro c m e
 by_cases hcb:c=b
 · subst hcb;rw[aH.BC] at e;cases e;exact .inr hl
 rw[aH.uE _ _ hcb] at e;exact .inl ⟨c,m,e,rfl⟩
theorem aMO {w:World} {g:Nat} {a c:Array Value} {t:TypeId} {f:Nat×Nat} (h:w.heap[g]?=some (.cells a t f)):
 (w.setRow g c).heap[g]?=some (.cells c t f):=by
 simp only[World.setRow,Array.getElem?_modify,h]
 simp
theorem aMB {P:Program} (g o:Nat) (t:TypeId) (f:Nat×Nat):∀(vs:List Value) (i:Nat) (cur:Array Value) (w:World),w.heap[g]?=some (.cells cur t f)→VR cur f→o+i+vs.length≤cur.size→(∀v∈vs,v.oneCell'=true)→
 (storeCells ⟨g,o,none⟩ vs i).run P w=.ok () (w.setRow g (cur.toList.take (o+i)++vs++cur.toList.drop (o+i+vs.length)).toArray)
 | [],i,cur,w,hg,_,_,_=>by
   simp only[storeCells,List.append_nil,List.length_nil,Nat.add_zero,List.take_append_drop,Array.toArray_toList]
   rw[setRow_self w g cur t f hg];rfl
 |v::vs,i,cur,w,hg,hf,hl,h1=>by
   have hlen:o+i+(vs.length+1)≤cur.size:=by simpa using hl
   have oG:w.frozen? ⟨g,o+i,none⟩=false:=by
    unfold World.frozen?
    rw[hg]
    obtain⟨lo,hi⟩:=f
    rcases hf with hf|hf<;>cases hf
    · simp
    simp;omega
   have bRR:(⟨g,o,none⟩:Addr).add i=⟨g,o+i,none⟩:=by unfold Addr.add;split<;>simp_all
   have hc:w.cell? ⟨g,o+i,none⟩=some (cur[o+i]'(by omega)):=by
    unfold World.cell?;rw[hg];simp
   have hs1:(store ((⟨g,o,none⟩:Addr).add i) v).run P w=.ok () (w.setRow g (cur.setIfInBounds (o+i) v)):=by
    rw[bRR,run_store P w _ v _ (h1 v List.mem_cons_self),hc]
    simp[oG,setCell_eq_setRow w g (o+i) cur t f v hg]
   have hsz:(cur.setIfInBounds (o+i) v).size=cur.size:=by simp
   have h2:=aMB (P:=P) g o t f vs (i+1) (cur.setIfInBounds (o+i) v) (w.setRow g (cur.setIfInBounds (o+i) v)) (aMO hg) (hf.size hsz) (by rw[hsz];omega) fun x hx=>h1 x (List.mem_cons_of_mem _ hx)
   simp only[storeCells,Sem.run_bind,hs1,Result.andThen_ok,h2,setRow_setRow]
   congr 3
   have:=list_seg_step cur.toList (o+i) v vs (by simp;omega)
   simpa[Array.toList_setIfInBounds,Nat.add_assoc] using this
theorem aXO {w:World} {g k:Nat} {c:Array Value} (h:k≠g):(w.setRow g c).heap[k]?=w.heap[k]?:=by
 simp only[World.setRow,Array.getElem?_modify]
 rw[if_neg (by omega)]
theorem HR.turn {ι:aH} {S:St} {w w':World} (h:HR ι S w) {b:Nat} {l:Loc} (hb:ι b=some l) (hgb:bZ b S.h≠.gone) (o:AO)
 (pA:w'.os=w.os) (Y1:w'.tape=w.tape) (hout:w'.output=w.output) (hsz:w'.heap.size=w.heap.size)
 (hk:∀k:Nat,k≠l.b→w'.heap[k]?=w.heap[k]?) (ho:RO ι o l w'):HR ι ⟨dY b o S.h,S.n⟩ w'∧Ext ι w ι w':=by
 have hsm:=h.small hb
 have hg:∀c m,ι c=some m→c≠b→bZ c (dY b o S.h)=bZ c S.h:=fun c m e hcb=>XR hsm (h.small e) (fun h=>hcb h.symm) _ _
 refine⟨⟨h.lim,h.fresh,?_,?_,h.sW⟩,⟨pA,Y1,hout,by omega,.refl _,fun k hlt hn=>hk k (fun e=>hn b l hb e.symm),fun c m e=>.inl ⟨c,m,e,rfl⟩,rfl,fun _ _ h=>h⟩⟩
 · intro c m e
   show RO ι (bZ c (dY b o S.h)) m w'
   by_cases hcb:c=b
   · subst hcb
     rw[hb] at e;cases e
     rw[KQ];exact ho
   rw[hg c m e hcb]
   by_cases mQ:bZ c S.h=.gone
   · rw[mQ];exact trivial
   exact (h.live c m e).world (hk _ (h.apart c b m l e hb mQ hgb hcb))
 intro c e m n hc he a7K a7J hne
 have mQ:bZ c (dY b o S.h)≠.gone:=a7K
 have hge:bZ e (dY b o S.h)≠.gone:=a7J
 clear a7K a7J
 by_cases hcb:c=b
 · subst hcb
   rw[hg e n he (fun h=>hne h.symm)] at hge
   exact h.apart c e m n hc he hgb hge hne
 rw[hg c m hc hcb] at mQ
 by_cases J6:e=b
 · subst J6;exact h.apart c e m n hc he mQ hgb hne
 rw[hg e n he J6] at hge
 exact h.apart c e m n hc he mQ hge hne
theorem HR.kill {ι:aH} {S:St} {w:World} (h:HR ι S w) {b:Nat} {l:Loc} (hb:ι b=some l):HR ι ⟨dY b .gone S.h,S.n⟩ w:=by
 have hsm:=h.small hb
 have hg:∀c m,ι c=some m→c≠b→bZ c (dY b .gone S.h)=bZ c S.h:=fun c m e hcb=>XR hsm (h.small e) (fun h=>hcb h.symm) _ _
 refine⟨h.lim,h.fresh,?_,?_,h.sW⟩
 · intro c m e
   show RO ι (bZ c (dY b .gone S.h)) m w
   by_cases hcb:c=b
   · subst hcb;rw[KQ];exact trivial
   rw[hg c m e hcb];exact h.live c m e
 intro c e m n hc he mQ hge hne
 have mQ:bZ c (dY b .gone S.h)≠.gone:=mQ
 have hge:bZ e (dY b .gone S.h)≠.gone:=hge
 have hcb:c≠b:=by rintro rfl;rw[KQ] at mQ;exact mQ rfl
 have J6:e≠b:=by rintro rfl;rw[KQ] at hge;exact hge rfl
 rw[hg c m hc hcb] at mQ
 rw[hg e n he J6] at hge
 exact h.apart c e m n hc he mQ hge hne
noncomputable section
abbrev K:=AV→St→R
abbrev KN:=T→St→R
inductive Ex where
 |ex (id:Nat)
 |gt (l:Nat)
 |rt
abbrev KX:=Ex→T→St→R
abbrev Evn:=Nat→Code→T→St→KN→KX→R
mutual
def toAV:Value→AV
 |.bool b=>.bool b
 |.int k n=>.int k n
 |.string s=>.str s.size (jK s.data.toList)
 |.pointer none=>.pnil
 |.slice none 0 0=>.snil
 |.map none=>.mnil
 |.nilFunc=>.fnil
 |.nilIface=>.inil
 |.func f ⟨[]⟩ ⟨[]⟩=>.fn f .nl .nl
 |.agg ⟨l⟩=>.agg (toL l)
 |_=>.top
def toL:List Value→AV
 | []=>.nl
 |v::l=>.cons (toAV v) (toL l)
end
def EK (v:AV):(Nat→Nat→R)→R:=AV.rec (motive:=fun _=>(Nat→Nat→R)→R) (fun _=>.bad 11) (fun _ _=>.bad 11) (fun _ _ _=>.bad 11) (fun _ _ _=>.bad 11) (fun _=>.bad 11) (fun b o k=>k b o) (fun _=>.bad 11) (fun _ _ _ _ _=>.bad 11) (fun _ _ _ _ _=>.bad 11) (fun _=>.bad 11) (fun _ _=>.bad 11) (fun _ _ _ _ _ _=>.bad 11) (fun _=>.bad 11) (fun _=>.bad 11) (fun _ _ _ _=>.bad 11) (fun _ _ _=>.bad 11) (fun _ _ _=>.bad 11) (fun _ _=>.bad 11) (fun _=>.bad 11) (fun _ _ _ _ _=>.bad 11) v
def rF (v:AV):R→(IntKind→Int→R)→R:=AV.rec (motive:=fun _=>R→(IntKind→Int→R)→R) (fun d _=>d) (fun _ d _=>d) (fun kd n _ k=>k kd n) (fun _ _ d _=>d) (fun d _=>d) (fun _ _ d _=>d) (fun d _=>d) (fun _ _ _ _ d _=>d) (fun _ _ _ _ d _=>d) (fun d _=>d) (fun _ d _=>d) (fun _ _ _ _ _ d _=>d) (fun d _=>d) (fun d _=>d) (fun _ _ _ d _=>d) (fun _ _ d _=>d) (fun _ _ d _=>d) (fun _ d _=>d) (fun d _=>d) (fun _ _ _ _ d _=>d) v
def EL (v:AV):(Nat→R)→R:=AV.rec (motive:=fun _=>(Nat→R)→R) (fun _=>.bad 12) (fun _ _=>.bad 12) (fun _ n k=>Int.rec (motive:=fun _=>R) (fun m=>k m) (fun _=>.bad 13) n) (fun _ _ _=>.bad 12) (fun _=>.bad 12) (fun _ _ _=>.bad 12) (fun _=>.bad 12) (fun _ _ _ _ _=>.bad 12) (fun _ _ _ _ _=>.bad 12) (fun _=>.bad 12) (fun _ _=>.bad 12) (fun _ _ _ _ _ _=>.bad 12) (fun _=>.bad 12) (fun _=>.bad 12) (fun _ _ _ _=>.bad 12) (fun _ _ _=>.bad 12) (fun _ _ _=>.bad 12) (fun _ _=>.bad 12) (fun _=>.bad 12) (fun _ _ _ _ _=>.bad 12) v
def FZ (v:AV):R→R→R:=AV.rec (motive:=fun _=>R→R→R) (fun _ _=>.bad 14) (fun b t f=>Bool.rec (motive:=fun _=>R) f t b) (fun _ _ _ _=>.bad 14) (fun _ _ _ _=>.bad 14) (fun _ _=>.bad 14) (fun _ _ _ _=>.bad 14) (fun _ _=>.bad 14) (fun _ _ _ _ _ _=>.bad 14) (fun _ _ _ _ _ _=>.bad 14) (fun _ _=>.bad 14) (fun _ _ _=>.bad 14) (fun _ _ _ _ _ _ _=>.bad 14) (fun _ _=>.bad 14) (fun _ _=>.bad 14) (fun _ _ _ _ _=>.bad 14) (fun _ _ _ _=>.bad 14) (fun _ _ _ _=>.bad 14) (fun _ _ _=>.bad 14) (fun _ _=>.bad 14) (fun _ _ _ _ _ _=>.bad 14) v
def aPX (v:AV):(AV→R)→R:=AV.rec (motive:=fun _=>(AV→R)→R) (fun _=>.bad 15) (fun _ _=>.bad 15) (fun _ _ _=>.bad 15) (fun _ _ _=>.bad 15) (fun _=>.bad 15) (fun _ _ _=>.bad 15) (fun _=>.bad 15) (fun _ _ _ _ _=>.bad 15) (fun _ _ _ _ _=>.bad 15) (fun _=>.bad 15) (fun _ _=>.bad 15) (fun _ _ _ _ _ _=>.bad 15) (fun _=>.bad 15) (fun _=>.bad 15) (fun _ _ _ _=>.bad 15) (fun l _ k=>k l) (fun _ _ _=>.bad 15) (fun _ _=>.bad 15) (fun _=>.bad 15) (fun _ _ _ _ _=>.bad 15) v
def aPW (v:AV):(AV→R)→R:=AV.rec (motive:=fun _=>(AV→R)→R) (fun _=>.bad 16) (fun _ _=>.bad 16) (fun _ _ _=>.bad 16) (fun _ _ _=>.bad 16) (fun _=>.bad 16) (fun _ _ _=>.bad 16) (fun _=>.bad 16) (fun _ _ _ _ _=>.bad 16) (fun _ _ _ _ _=>.bad 16) (fun _=>.bad 16) (fun _ _=>.bad 16) (fun _ _ _ _ _ _=>.bad 16) (fun _=>.bad 16) (fun _=>.bad 16) (fun _ _ _ _=>.bad 16) (fun _ _ _=>.bad 16) (fun l _ k=>k l) (fun _ _=>.bad 16) (fun _=>.bad 16) (fun _ _ _ _ _=>.bad 16) v
def aI9 (v:AV):(Nat→AV→AV→R)→R:=AV.rec (motive:=fun _=>(Nat→AV→AV→R)→R) (fun _=>.bad 17) (fun _ _=>.bad 17) (fun _ _ _=>.bad 17) (fun _ _ _=>.bad 17) (fun _=>.bad 17) (fun _ _ _=>.bad 17) (fun _=>.bad 17) (fun _ _ _ _ _=>.bad 17) (fun _ _ _ _ _=>.bad 17) (fun _=>.bad 17) (fun _ _=>.bad 17) (fun f a b _ _ k=>Fn.rec (motive:=fun _=>R) (fun f=>k f a b) (fun _=>.bad 18) (fun _ _=>.bad 18) (fun _ _ _ _=>.bad 18) (fun _=>.bad 18) f) (fun _=>.bad 17) (fun _=>.bad 17) (fun _ _ _ _=>.bad 17) (fun _ _ _=>.bad 17) (fun _ _ _=>.bad 17) (fun _ _=>.bad 17) (fun _=>.bad 17) (fun _ _ _ _ _=>.bad 17) v
def onCells (o:AO):(Nat→Cs→R)→R:=AO.rec (motive:=fun _=>(Nat→Cs→R)→R) (fun _=>.bad 19) (fun n c k=>k n c) (fun _ _=>.bad 19) o
def UT (o:AO):(List (AV×AV)→R)→R:=AO.rec (motive:=fun _=>(List (AV×AV)→R)→R) (fun _=>.bad 20) (fun _ _ _=>.bad 20) (fun es k=>k es) o
theorem T4 {v:AV} {k:Nat→Nat→R} {r:AV} {s:St} (h:EK v k=.ok r s):∃b o,v=.ptr b o∧k b o=.ok r s:=by
 cases v<;>first|exact (R.bA h).elim|exact⟨_,_,rfl,h⟩
theorem QH {v:AV} {d:R} {k:IntKind→Int→R} {r:AV} {s:St} (h:rF v d k=.ok r s):(∃kd n,v=.int kd n∧k kd n=.ok r s)∨((∀kd n,v≠.int kd n)∧d=.ok r s):=by
 cases v<;>first|exact .inr ⟨(fun _ _ e=>by cases e),h⟩|exact .inl ⟨_,_,rfl,h⟩
theorem KP {v:AV} {k:Nat→R} {r:AV} {s:St} (h:EL v k=.ok r s):∃kd n,v=.int kd (.ofNat n)∧k n=.ok r s:=by
 cases v with
 |int kd n=>cases n<;>first|exact⟨_,_,rfl,h⟩|exact (R.bA h).elim
 |_=>exact (R.bA h).elim
theorem aDP {v:AV} {t f:R} {r:AV} {s:St} (h:FZ v t f=.ok r s):(v=.bool true∧t=.ok r s)∨(v=.bool false∧f=.ok r s):=by
 cases v with
 |bool b=>cases b;exact .inr ⟨rfl,h⟩;exact .inl ⟨rfl,h⟩
 |_=>exact (R.bA h).elim
theorem a0E {v:AV} {k:AV→R} {r:AV} {s:St} (h:aPX v k=.ok r s):∃l,v=.agg l∧k l=.ok r s:=by
 cases v<;>first|exact (R.bA h).elim|exact⟨_,rfl,h⟩
theorem bJJ {v:AV} {k:AV→R} {r:AV} {s:St} (h:aPW v k=.ok r s):∃l,v=.tup l∧k l=.ok r s:=by
 cases v<;>first|exact (R.bA h).elim|exact⟨_,rfl,h⟩
theorem a1V {v:AV} {k:Nat→AV→AV→R} {r:AV} {s:St} (h:aI9 v k=.ok r s):∃f a b,v=.fn (.func f) a b∧k f a b=.ok r s:=by
 cases v with
 |fn f a b=>cases f<;>first|exact (R.bA h).elim|exact⟨_,_,_,rfl,h⟩
 |_=>exact (R.bA h).elim
theorem XL {o:AO} {k:Nat→Cs→R} {r:AV} {s:St} (h:onCells o k=.ok r s):∃n c,o=.cells n c∧k n c=.ok r s:=by
 cases o<;>first|exact (R.bA h).elim|exact⟨_,_,rfl,h⟩
theorem aND {o:AO} {k:List (AV×AV)→R} {r:AV} {s:St} (h:UT o k=.ok r s):∃es,o=.map es∧k es=.ok r s:=by
 cases o<;>first|exact (R.bA h).elim|exact⟨_,rfl,h⟩
def YL (v:AV) (k:AV→R):R:=match v with
 |.agg l=>k l
 |.top=>.bad 21
 |.tup _=>.bad 21
 |.ge _=>.bad 21
 |.nl=>.bad 21
 |.cons _ _=>.bad 21
 |v=>k (.cons v .nl)
def AV.one:AV→Bool
 |.top=>false
 |.agg _=>false
 |.tup _=>false
 |.ge _=>false
 |.nl=>false
 |.cons _ _=>false
 |_=>true
def AV.ones:AV→Bool
 |.nl=>true
 |.cons h t=>h.one&&t.ones
 |_=>false
def AV.app:AV→AV→AV
 |.cons h t,l=>.cons h (AV.app t l)
 |_,l=>l
def AV.drop:AV→Nat→AV
 |.cons h t,n+1=>AV.drop t n
 |l,_=>l
def AV.take:AV→Nat→AV
 |.cons h t,n+1=>.cons h (AV.take t n)
 |_,_=>.nl
def AV.aQV:AV→Nat→AV→AV
 |.cons _ t,0,v=>.cons v t
 |.cons h t,n+1,v=>.cons h (AV.aQV t n v)
 |l,_,_=>l
def dX (t:Nat) (T:T):AV:=Bool.rec (motive:=fun _=>AV) .top (yA t T) (Nat.ble t 255)
def aY (x:Operand) (T:T):AV:=Operand.rec (motive:=fun _=>AV) (fun t=>dX t T) toAV (fun _=>.top) (fun f=>.fn (.func f) .nl .nl) x
def NT (l:List Operand) (T:T):AV:=List.rec (motive:=fun _=>AV) .nl (fun x _ ih=>.cons (aY x T) ih) l
def BK (k:IntKind) (m:Nat):Bool:=Nat.ble m (IntKind.rec (motive:=fun _=>Nat) 127 32767 2147483647 9223372036854775807 255 65535 4294967295 18446744073709551615 k)
def j8 (k:IntKind) (n:Int):Int:=Int.rec (motive:=fun _=>Int) (fun m=>Bool.rec (motive:=fun _=>Int) (k.wrap (.ofNat m)) (.ofNat m) (BK k m))
 (fun m=>match k with | .i64=>(match Nat.ble m 9223372036854775807 with|true=>.negSucc m|false=>k.wrap (.negSucc m))|k=>k.wrap (.negSucc m)) n
def JZ (x y:Int):Bool:=Int.rec (motive:=fun _=>Bool) (fun a=>Int.rec (motive:=fun _=>Bool) (fun b=>Nat.ble a b) (fun _=>false) y) (fun a=>Int.rec (motive:=fun _=>Bool) (fun _=>true) (fun b=>Nat.ble b a) y) x
def FC (x y:Int):Bool:=Int.rec (motive:=fun _=>Bool) (fun a=>Int.rec (motive:=fun _=>Bool) (fun b=>Nat.beq a b) (fun _=>false) y) (fun a=>Int.rec (motive:=fun _=>Bool) (fun _=>false) (fun b=>Nat.beq b a) y) x
def kdN (k:IntKind):Nat:=IntKind.rec (motive:=fun _=>Nat) 0 1 2 3 4 5 6 7 k
def JP (a b:IntKind):Bool:=Nat.beq (kdN a) (kdN b)
def bK (b:Bool) (k:AV→R):R:=Bool.rec (motive:=fun _=>R) (k (.bool false)) (k (.bool true)) b
def iK (kd:IntKind) (n:Int) (k:AV→R):R:=fI n fun n=>k (.int kd n)
theorem aIZ (b:Bool) (k:AV→R):bK b k=k (.bool b):=by cases b<;>rfl
theorem K6 (kd:IntKind) (n:Int) (k:AV→R):iK kd n k=k (.int kd n):=bPN n fun n=>k (.int kd n)
theorem aO6 (x y:Int):JZ x y=decide (x≤y):=by
 cases x with
 |ofNat a=>cases y with
   |ofNat b=>rw[Bool.eq_iff_iff];simp only[decide_eq_true_eq];show Nat.ble a b=true↔_;rw[Nat.ble_eq];exact Int.ofNat_le.symm
   |negSucc b=>symm;simp only[decide_eq_false_iff_not,JZ];intro h;have:=Int.negSucc_lt_zero b;have h2:(0:Int)≤Int.ofNat a:=Int.natCast_nonneg a;omega
 |negSucc a=>cases y with
   |ofNat b=>symm;simp only[decide_eq_true_eq,JZ];have:=Int.negSucc_lt_zero a;have h2:(0:Int)≤Int.ofNat b:=Int.natCast_nonneg b;omega
   |negSucc b=>rw[Bool.eq_iff_iff];simp only[decide_eq_true_eq];show Nat.ble b a=true↔_;rw[Nat.ble_eq];omega
theorem aID (x y:Int):FC x y=decide (x=y):=by
 cases x with
 |ofNat a=>cases y with
   |ofNat b=>rw[Bool.eq_iff_iff];simp only[decide_eq_true_eq];show Nat.beq a b=true↔_;rw[Nat.beq_eq];exact⟨fun h=>by rw[h],fun h=>Int.ofNat.inj h⟩
   |negSucc b=>symm;simp only[decide_eq_false_iff_not,FC];intro h;cases h
 |negSucc a=>cases y with
   |ofNat b=>symm;simp only[decide_eq_false_iff_not,FC];intro h;cases h
   |negSucc b=>rw[Bool.eq_iff_iff];simp only[decide_eq_true_eq];show Nat.beq b a=true↔_;rw[Nat.beq_eq];exact⟨fun h=>by rw[h],fun h=>(Int.negSucc.inj h).symm⟩
theorem aOV {a b:IntKind} (h:JP a b=true):a=b:=by cases a<;>cases b<;>first|rfl|(exact absurd h (by decide))
theorem X4 (k:IntKind) (n:Int):j8 k n=k.wrap n:=by
 cases n with
 |ofNat m=>
  show Bool.rec (motive:=fun _=>Int) (k.wrap (.ofNat m)) (.ofNat m) (BK k m)=_
  cases h:BK k m with
  |false=>rfl
  |true=>
   symm
   show k.wrap (m:Int)=(m:Int)
   have hb:=Nat.le_of_ble_eq_true h
   cases k<;>simp only[IntKind.wrap,IntKind.bits,IntKind.signed] at hb ⊢<;>simp<;>omega
 |negSucc m=>
  cases k with
  |i64=>
   show (match Nat.ble m 9223372036854775807 with|true=>Int.negSucc m|false=>IntKind.i64.wrap (.negSucc m))=_
   cases h:Nat.ble m 9223372036854775807 with
   |false=>rfl
   |true=>
    have hb:=Nat.le_of_ble_eq_true h
    simp only[IntKind.wrap,IntKind.bits,IntKind.signed]
    rw[Int.negSucc_eq]
    simp
    omega
  |_=>rfl
end
noncomputable section
mutual
theorem toAV_rep (ι:aH):∀v:Value,RV ι (toAV v) v
 |.bool b=>rfl
 |.int k n=>rfl
 |.string s=>⟨s,rfl,rfl,rfl⟩
 |.pointer none=>rfl
 |.pointer (some _)=>trivial
 |.slice none 0 0=>rfl
 |.slice none 0 (_+1)=>trivial
 |.slice none (_+1) _=>trivial
 |.slice (some _) _ _=>trivial
 |.map none=>rfl
 |.map (some _)=>trivial
 |.nilFunc=>rfl
 |.nilIface=>rfl
 |.func f ⟨[]⟩ ⟨[]⟩=>⟨#[],#[],rfl,rfl,rfl⟩
 |.func f ⟨_::_⟩ _=>trivial
 |.func f ⟨[]⟩ ⟨_::_⟩=>trivial
 |.agg ⟨l⟩=>⟨⟨l⟩,rfl,toL_rep ι l⟩
 |.float _ _=>trivial
 |.complex _ _ _=>trivial
 |.chan _=>trivial
 |.iface _ _=>trivial
 |.tuple _=>trivial
theorem toL_rep (ι:aH):∀l:List Value,RL ι (toL l) l
 | []=>rfl
 |v::l=>⟨v,l,rfl,toAV_rep ι v,toL_rep ι l⟩
end
structure RA (ι:aH) (m:Nat) (T:T) (a:Act):Prop where
 size:m≤a.tmps.size
 le:m≤256
 val:∀t,t<256→RV ι (yA t T) (a.tmps.getD t undef)
theorem RA.mono {ι κ:aH} {m:Nat} {T:T} {a:Act} (h:ι.le κ) (r:RA ι m T a):RA κ m T a:=⟨r.size,r.le,fun t ht=>(r.val t ht).mono h⟩
theorem RA.tmp {ι:aH} {m:Nat} {T:T} {a:Act} (r:RA ι m T a) (t:Nat):RV ι (dX t T) (a.tmps.getD t undef):=by
 unfold dX
 cases h:Nat.ble t 255 with
 |false=>trivial
 |true=>exact r.val t (by have:=Nat.le_of_ble_eq_true h;omega)
theorem RA.put {ι:aH} {m:Nat} {T:T} {a:Act} (r:RA ι m T a) {d:Nat} (hd:d<m) {v:AV} {u:Value} (h:RV ι v u):RA ι m (N7 d v T) (a.put (some d) u):=by
 have hm:=r.le
 have hs:=r.size
 refine⟨by simpa[Act.put] using r.size,r.le,fun t ht=>?_⟩
 by_cases e:d=t
 · subst e
   rw[aDT]
   have:(a.put (some d) u).tmps.getD d undef=u:=by simp[Act.put,Array.getElem?_setIfInBounds,show d<a.tmps.size by omega]
   rw[this];exact h
 rw[aDO (by omega) ht e]
 have:(a.put (some d) u).tmps.getD t undef=a.tmps.getD t undef:=by simp[Act.put,Array.getElem?_setIfInBounds,e]
 rw[this];exact r.val t ht
theorem bD {ι:aH} {m:Nat} {T:T} {a:Act} (r:RA ι m T a) (x:Operand):RV ι (aY x T) (a.eval x):=by
 cases x with
 |tmp t=>exact r.tmp t
 |const v=>exact toAV_rep ι v
 |global g=>exact trivial
 |func f=>exact⟨#[],#[],rfl,rfl,rfl⟩
theorem aDV {ι:aH} {m:Nat} {T:T} {a:Act} (r:RA ι m T a):∀l:List Operand,RL ι (NT l T) (l.map a.eval)
 | []=>rfl
 |x::l=>⟨_,_,rfl,bD r x,aDV r l⟩
section
variable {ι:aH} {v:Value}
theorem RL.len {ι:aH}:∀{x:AV} {l:List Value},RL ι x l→x.len=l.length
 |.nl,l,h=>by cases h;rfl
 |.cons a t,l,h=>by
   obtain⟨u,r,rfl,-,h2⟩:=h
   exact congrArg Nat.succ (RL.len h2)
 |.top,_,h=>h.elim
 |.bool _,_,h=>h.elim
 |.int _ _,_,h=>h.elim
 |.str _ _,_,h=>h.elim
 |.pnil,_,h=>h.elim
 |.ptr _ _,_,h=>h.elim
 |.snil,_,h=>h.elim
 |.sl _ _ _ _,_,h=>h.elim
 |.slu _ _ _ _,_,h=>h.elim
 |.mnil,_,h=>h.elim
 |.map _,_,h=>h.elim
 |.fn _ _ _,_,h=>h.elim
 |.fnil,_,h=>h.elim
 |.inil,_,h=>h.elim
 |.iface _ _,_,h=>h.elim
 |.agg _,_,h=>h.elim
 |.tup _,_,h=>h.elim
 |.ge _,_,h=>h.elim
theorem RL.of {ι:aH}:∀{x:AV} {l:List Value},x.O7=true→x.len=l.length→(∀i,i<x.len→∃u,l[i]?=some u∧RV ι (x.nth i) u)→RL ι x l
 |.nl,l,_,h,_=>by
   cases l with
   |nil=>rfl
   |cons=>cases h
 |.cons a t,l,hl,h,hv=>by
   cases l with
   |nil=>cases h
   |cons u r=>
    refine⟨u,r,rfl,?_,RL.of (x:=t) hl (Nat.succ.inj h) fun i hi=>?_⟩
    · obtain⟨u',h1,h2⟩:=hv 0 (Nat.succ_pos _)
      cases h1;exact h2
    exact hv (i+1) (Nat.succ_lt_succ hi)
 |.top,_,h,_,_=>by cases h
 |.bool _,_,h,_,_=>by cases h
 |.int _ _,_,h,_,_=>by cases h
 |.str _ _,_,h,_,_=>by cases h
 |.pnil,_,h,_,_=>by cases h
 |.ptr _ _,_,h,_,_=>by cases h
 |.snil,_,h,_,_=>by cases h
 |.sl _ _ _ _,_,h,_,_=>by cases h
 |.slu _ _ _ _,_,h,_,_=>by cases h
 |.mnil,_,h,_,_=>by cases h
 |.map _,_,h,_,_=>by cases h
 |.fn _ _ _,_,h,_,_=>by cases h
 |.fnil,_,h,_,_=>by cases h
 |.inil,_,h,_,_=>by cases h
 |.iface _ _,_,h,_,_=>by cases h
 |.agg _,_,h,_,_=>by cases h
 |.tup _,_,h,_,_=>by cases h
 |.ge _,_,h,_,_=>by cases h
theorem RL.nth {ι:aH}:∀{x:AV} {l:List Value},RL ι x l→∀i,i<x.len→∃u,l[i]?=some u∧RV ι (x.nth i) u
 |.nl,l,_,i,hi=>absurd hi (Nat.not_lt_zero _)
 |.cons a t,l,h,i,hi=>by
   obtain⟨u,r,rfl,h1,h2⟩:=h
   cases i with
   |zero=>exact⟨u,rfl,h1⟩
   |succ i=>exact RL.nth (x:=t) h2 i (Nat.lt_of_succ_lt_succ hi)
 |.top,_,h,_,_=>h.elim
 |.bool _,_,h,_,_=>h.elim
 |.int _ _,_,h,_,_=>h.elim
 |.str _ _,_,h,_,_=>h.elim
 |.pnil,_,h,_,_=>h.elim
 |.ptr _ _,_,h,_,_=>h.elim
 |.snil,_,h,_,_=>h.elim
 |.sl _ _ _ _,_,h,_,_=>h.elim
 |.slu _ _ _ _,_,h,_,_=>h.elim
 |.mnil,_,h,_,_=>h.elim
 |.map _,_,h,_,_=>h.elim
 |.fn _ _ _,_,h,_,_=>h.elim
 |.fnil,_,h,_,_=>h.elim
 |.inil,_,h,_,_=>h.elim
 |.iface _ _,_,h,_,_=>h.elim
 |.agg _,_,h,_,_=>h.elim
 |.tup _,_,h,_,_=>h.elim
 |.ge _,_,h,_,_=>h.elim
end
theorem RL.drop {ι:aH}:∀(n:Nat) {x:AV} {l:List Value},RL ι x l→RL ι (x.drop n) (l.drop n)
 |0,x,l,h=>by cases x<;>exact h
 |n+1,.nl,l,h=>by cases h;rfl
 |n+1,.cons a t,l,h=>by
   obtain⟨u,r,rfl,-,h2⟩:=h
   exact RL.drop n h2
 |n+1,.top,_,h=>h.elim
 |n+1,.bool _,_,h=>h.elim
 |n+1,.int _ _,_,h=>h.elim
 |n+1,.str _ _,_,h=>h.elim
 |n+1,.pnil,_,h=>h.elim
 |n+1,.ptr _ _,_,h=>h.elim
 |n+1,.snil,_,h=>h.elim
 |n+1,.sl _ _ _ _,_,h=>h.elim
 |n+1,.slu _ _ _ _,_,h=>h.elim
 |n+1,.mnil,_,h=>h.elim
 |n+1,.map _,_,h=>h.elim
 |n+1,.fn _ _ _,_,h=>h.elim
 |n+1,.fnil,_,h=>h.elim
 |n+1,.inil,_,h=>h.elim
 |n+1,.iface _ _,_,h=>h.elim
 |n+1,.agg _,_,h=>h.elim
 |n+1,.tup _,_,h=>h.elim
 |n+1,.ge _,_,h=>h.elim
theorem RL.take {ι:aH}:∀(n:Nat) {x:AV} {l:List Value},RL ι x l→RL ι (x.take n) (l.take n)
 |0,x,l,h=>by cases x<;>rfl
 |n+1,.nl,l,h=>by cases h;rfl
 |n+1,.cons a t,l,h=>by
   obtain⟨u,r,rfl,h1,h2⟩:=h
   exact⟨u,r.take n,rfl,h1,RL.take n h2⟩
 |n+1,.top,_,h=>h.elim
 |n+1,.bool _,_,h=>h.elim
 |n+1,.int _ _,_,h=>h.elim
 |n+1,.str _ _,_,h=>h.elim
 |n+1,.pnil,_,h=>h.elim
 |n+1,.ptr _ _,_,h=>h.elim
 |n+1,.snil,_,h=>h.elim
 |n+1,.sl _ _ _ _,_,h=>h.elim
 |n+1,.slu _ _ _ _,_,h=>h.elim
 |n+1,.mnil,_,h=>h.elim
 |n+1,.map _,_,h=>h.elim
 |n+1,.fn _ _ _,_,h=>h.elim
 |n+1,.fnil,_,h=>h.elim
 |n+1,.inil,_,h=>h.elim
 |n+1,.iface _ _,_,h=>h.elim
 |n+1,.agg _,_,h=>h.elim
 |n+1,.tup _,_,h=>h.elim
 |n+1,.ge _,_,h=>h.elim
theorem RL.app {ι:aH}:∀{x y:AV} {l r:List Value},RL ι x l→RL ι y r→RL ι (x.app y) (l++r)
 |.nl,y,l,r,h,g=>by cases h;exact g
 |.cons a t,y,l,r,h,g=>by
   obtain⟨u,q,rfl,h1,h2⟩:=h
   exact⟨u,q++r,rfl,h1,RL.app h2 g⟩
 |.top,_,_,_,h,_=>h.elim
 |.bool _,_,_,_,h,_=>h.elim
 |.int _ _,_,_,_,h,_=>h.elim
 |.str _ _,_,_,_,h,_=>h.elim
 |.pnil,_,_,_,h,_=>h.elim
 |.ptr _ _,_,_,_,h,_=>h.elim
 |.snil,_,_,_,h,_=>h.elim
 |.sl _ _ _ _,_,_,_,h,_=>h.elim
 |.slu _ _ _ _,_,_,_,h,_=>h.elim
 |.mnil,_,_,_,h,_=>h.elim
 |.map _,_,_,_,h,_=>h.elim
 |.fn _ _ _,_,_,_,h,_=>h.elim
 |.fnil,_,_,_,h,_=>h.elim
 |.inil,_,_,_,h,_=>h.elim
 |.iface _ _,_,_,_,h,_=>h.elim
 |.agg _,_,_,_,h,_=>h.elim
 |.tup _,_,_,_,h,_=>h.elim
 |.ge _,_,_,_,h,_=>h.elim
theorem aMV {v:AV} {k:AV→R} {r:AV} {s:St} (h:YL v k=.ok r s):
 ∃l,k l=.ok r s∧∀{ι:aH} {u:Value},RV ι v u→RL ι l u.cells.toList:=by
 cases v<;>first
  |exact (R.bA h).elim
  |exact⟨_,h,fun {ι u} hr=>by obtain⟨a,rfl,hl⟩:=hr;exact hl⟩
  |(refine⟨_,h,fun {ι u} hr=>⟨u,[],?_,hr,rfl⟩⟩
    first
     |(cases hr;rfl)
     |(obtain⟨_,rfl,-⟩:=hr;rfl)
     |(obtain⟨_,-,rfl⟩:=hr;rfl)
     |(obtain⟨_,-,⟨_,rfl,-⟩|⟨-,_,rfl⟩⟩:=hr<;>rfl)
     |(obtain⟨_,_,rfl,-⟩:=hr;rfl))
theorem one_cell {ι:aH} {v:AV} {u:Value} (h:v.one=true) (hr:RV ι v u):u.oneCell'=true:=by
 cases v<;>first
  |(cases h;done)
  |(cases hr;rfl)
  |(obtain⟨_,rfl,-⟩:=hr;rfl)
  |(obtain⟨_,-,rfl⟩:=hr;rfl)
  |(obtain⟨_,-,⟨_,rfl,-⟩|⟨-,_,rfl⟩⟩:=hr<;>rfl)
  |(obtain⟨_,_,rfl,-⟩:=hr;rfl)
theorem aNB {ι:aH}:∀{x:AV} {l:List Value},x.ones=true→RL ι x l→∀v∈l,v.oneCell'=true
 |.nl,l,_,h,v,hv=>by cases h;cases hv
 |.cons a t,l,h,hr,v,hv=>by
   obtain⟨u,q,rfl,h1,h2⟩:=hr
   have h:(a.one&&t.ones)=true:=h
   rw[Bool.and_eq_true] at h
   rcases List.mem_cons.1 hv with rfl|hv
   · exact one_cell h.1 h1
   exact aNB h.2 h2 v hv
 |.top,_,h,_,_,_=>by cases h
 |.bool _,_,h,_,_,_=>by cases h
 |.int _ _,_,h,_,_,_=>by cases h
 |.str _ _,_,h,_,_,_=>by cases h
 |.pnil,_,h,_,_,_=>by cases h
 |.ptr _ _,_,h,_,_,_=>by cases h
 |.snil,_,h,_,_,_=>by cases h
 |.sl _ _ _ _,_,h,_,_,_=>by cases h
 |.slu _ _ _ _,_,h,_,_,_=>by cases h
 |.mnil,_,h,_,_,_=>by cases h
 |.map _,_,h,_,_,_=>by cases h
 |.fn _ _ _,_,h,_,_,_=>by cases h
 |.fnil,_,h,_,_,_=>by cases h
 |.inil,_,h,_,_,_=>by cases h
 |.iface _ _,_,h,_,_,_=>by cases h
 |.agg _,_,h,_,_,_=>by cases h
 |.tup _,_,h,_,_,_=>by cases h
 |.ge _,_,h,_,_,_=>by cases h
end
noncomputable section
inductive Kd where
 |pure (f:T→(AV→R)→R)
 |load (f:T→Hp→(AV→R)→R)
 |make (f:T→(AO→(Nat→AV)→R)→R)
 |eff (f:T→St→K→R)
 |call (f:T→(Nat→AV→R)→R)
 |no
def bOU (P:Program) (o:Oper) (f:T→(AV→R)→R):Prop:=∀{T:T} {k:AV→R} {r:AV} {s:St},f T k=.ok r s→
 ∃v,k v=.ok r s∧∀{ι:aH} {m:Nat} {a:Act} {w:World},RA ι m T a→∃u,(execOp a.eval o).run P w=.ok (.value u) w∧RV ι v u
def bOW (P:Program) (o:Oper) (f:T→Hp→(AV→R)→R):Prop:=∀{T:T} {H:Hp} {k:AV→R} {r:AV} {s:St},f T H k=.ok r s→
 ∃v,k v=.ok r s∧∀{ι:aH} {m n:Nat} {a:Act} {w:World},RA ι m T a→HR ι ⟨H,n⟩ w→∃u,(execOp a.eval o).run P w=.ok (.value u) w∧RV ι v u
def bOV (P:Program) (o:Oper) (f:T→(AO→(Nat→AV)→R)→R):Prop:=∀{T:T} {k:AO→(Nat→AV)→R} {r:AV} {s:St},f T k=.ok r s→
 ∃b mk,k b mk=.ok r s∧b≠.gone∧∀{ι:aH} {m:Nat} {a:Act} {w:World},RA ι m T a→∃x sz u,(execOp a.eval o).run P w=.ok (.value u) (w.alloc x)∧
  (∀κ:aH,ι.le κ→RO κ b ⟨w.heap.size,0,sz⟩ (w.alloc x))∧∀(κ:aH) i,κ i=some ⟨w.heap.size,0,sz⟩→RV κ (mk i) u
def bPT (P:Program) (o:Oper) (f:T→St→K→R):Prop:=∀{T:T} {S:St} {k:K} {r:AV} {s:St},f T S k=.ok r s→
 ∃v S',k v S'=.ok r s∧∀{ι:aH} {m:Nat} {a:Act} {w:World},RA ι m T a→HR ι S w→∃nx w' κ u,(execOp a.eval o).run P w=.ok nx w'∧(nx=.value u∨nx=.skip∧u=undef)∧RV κ v u∧HR κ S' w'∧Ext ι w κ w'
def bOY (P:Program) (o:Oper) (f:T→(Nat→AV→R)→R):Prop:=∀{T:T} {k:Nat→AV→R} {r:AV} {s:St},f T k=.ok r s→
 ∃g l,k g l=.ok r s∧∀{ι:aH} {m:Nat} {a:Act} {w:World},RA ι m T a→∃vs:List Value,RL ι l vs∧∀fn,P.funcs[g]?=some fn→(fn.name == "runtime.NumGoroutine")=false→fn.body.isNone=false→(execOp a.eval o).run P w=.ok (.enter g vs.toArray) w
def fO (P:Program) (o:Oper):Kd→Prop
 |.pure f=>bOU P o f
 |.load f=>bOW P o f
 |.make f=>bOV P o f
 |.eff f=>bPT P o f
 |.call f=>bOY P o f
 |.no=>True
variable {P:Program} {o:Oper}
def aIO (x:Operand):Kd:=.pure fun T k=>k (aY x T)
theorem a1Y {x:Operand} (ho:o.op=.move x∨o.op=.assign x):fO P o (aIO x):=fun {T k r s} h=>
 ⟨_,h,fun {ι m a w} ra=>⟨a.eval x,by rcases ho with ho|ho<;>(unfold execOp;rw[ho];rfl),bD ra x⟩⟩
def aP0 (c x y:Operand):Kd:=.pure fun T k=>FZ (aY c T) (k (aY x T)) (k (aY y T))
theorem bLE {c x y:Operand} (ho:o.op=.pick c x y):fO P o (aP0 c x y):=fun {T k r s} h=>by
 rcases aDP h with⟨hc,h⟩|⟨hc,h⟩<;>refine⟨_,h,fun {ι m a w} ra=>⟨_,?_,bD ra _⟩⟩<;>
  (have e:=bD ra c;rw[hc] at e;have e:a.eval c=_:=e;unfold execOp;rw[ho];simp[e,asBool])
def aQ1 (v:AV) (k:R):R:=match v with
 |.ptr _ _=>k
 |.sl _ _ _ _=>k
 |.slu _ _ _ _=>k
 |.map _=>k
 |.iface _ _=>k
 |.fn (.func _) _ _=>k
 |_=>.bad 30
def aQ5 (x:Operand):Kd:=.pure fun T k=>aQ1 (aY x T) (k (aY x T))
theorem bMT {x:Operand} (ho:o.op=.nilCheck x):fO P o (aQ5 x):=fun {T k r s} h=>by
 have h:aQ1 (aY x T) (k (aY x T))=.ok r s:=h
 generalize hv:aY x T=v at h
 cases v with
 |ptr b i=>
  refine⟨_,h,fun {ι m a w} ra=>⟨a.eval x,?_,hv▸bD ra x⟩⟩
  have e:=bD ra x;rw[hv] at e
  obtain⟨l,-,e⟩:=e
  unfold execOp;rw[ho];simp[e]
 |sl b i n c=>
  refine⟨_,h,fun {ι m a w} ra=>⟨a.eval x,?_,hv▸bD ra x⟩⟩
  have e:=bD ra x;rw[hv] at e
  obtain⟨l,-,e⟩:=e
  unfold execOp;rw[ho];simp[e]
 |slu b i n c=>
  refine⟨_,h,fun {ι m a w} ra=>⟨a.eval x,?_,hv▸bD ra x⟩⟩
  have e:=bD ra x;rw[hv] at e
  obtain⟨l,-,⟨cap,e,-⟩|⟨-,cap,e⟩⟩:=e<;>(unfold execOp;rw[ho];simp[e])
 |map b=>
  refine⟨_,h,fun {ι m a w} ra=>⟨a.eval x,?_,hv▸bD ra x⟩⟩
  have e:=bD ra x;rw[hv] at e
  obtain⟨l,-,e⟩:=e
  unfold execOp;rw[ho];simp[e]
 |iface t y=>
  refine⟨_,h,fun {ι m a w} ra=>⟨a.eval x,?_,hv▸bD ra x⟩⟩
  have e:=bD ra x;rw[hv] at e
  obtain⟨u,e,-⟩:=e
  unfold execOp;rw[ho];simp[e]
 |fn f p q=>
  cases f with
  |func g=>
   refine⟨_,h,fun {ι m a w} ra=>⟨a.eval x,?_,hv▸bD ra x⟩⟩
   have e:=bD ra x;rw[hv] at e
   obtain⟨p',q',e,-⟩:=e
   unfold execOp;rw[ho];simp[e]
  |_=>exact (R.bA h).elim
 |_=>exact (R.bA h).elim
def aQ4 (x:Operand):Kd:=.pure fun T k=>FZ (aY x T) (k (.bool false)) (k (.bool true))
theorem bMS {x:Operand} {t:TypeId} (ho:o.op=.unOp .not t x):fO P o (aQ4 x):=fun {T k r s} h=>by
 rcases aDP h with⟨hc,h⟩|⟨hc,h⟩<;>refine⟨_,h,fun {ι m a w} ra=>⟨_,?_,rfl⟩⟩<;>
  (have e:=bD ra x;rw[hc] at e;have e:a.eval x=_:=e;unfold execOp;rw[ho];simp[e,Op.unary])
def a6P (x:Operand):Kd:=.pure fun T k=>rF (aY x T) (.bad 31) fun kd n=>iK kd (j8 kd (0-n)) k
theorem bMU {x:Operand} {t:TypeId} (ho:o.op=.unOp .neg t x):fO P o (a6P x):=fun {T k r s} h=>by
 rcases QH h with⟨kd,n,hc,h⟩|⟨-,h⟩
 · rw[K6,X4] at h
   refine⟨_,h,fun {ι m a w} ra=>⟨_,?_,rfl⟩⟩
   have e:=bD ra x;rw[hc] at e;have e:a.eval x=_:=e
   unfold execOp;rw[ho];simp[e,Op.unary,Op.intArith]
 exact (R.bA h).elim
def aP2 (P:Program) (src dst:TypeId) (x:Operand):Kd:=match P.underlying src,P.underlying dst with
 |some _,some (.int kd)=>.pure fun T k=>rF (aY x T) (.bad 32) fun _ n=>iK kd (j8 kd n) k
 |some _,some .string=>.pure fun T k=>match aY x T with
   |.str n b=>k (.str n b)
   |_=>.bad 32
 |_,_=>.no
theorem bLH {src dst:TypeId} {x:Operand} (ho:o.op=.convert src dst x):fO P o (aP2 P src dst x):=by
 unfold aP2
 split
 · rename_i d kd h1 h2
   intro T k r s h
   rcases QH h with⟨kd',n,hc,h⟩|⟨-,h⟩
   · rw[K6,X4] at h
     refine⟨_,h,fun {ι m a w} ra=>⟨_,?_,rfl⟩⟩
     have e:=bD ra x;rw[hc] at e;have e:a.eval x=_:=e
     unfold execOp;rw[ho];simp[e,convert,underlying,h1,h2,Conv.intToInt]
   exact (R.bA h).elim
 · rename_i d h1 h2
   intro T k r s h
   dsimp only at h
   split at h
   · rename_i n b hc
     refine⟨_,h,fun {ι m a w} ra=>⟨a.eval x,?_,hc▸bD ra x⟩⟩
     have e:=bD ra x;rw[hc] at e;obtain⟨z,e,-⟩:=e
     unfold execOp;rw[ho];simp[e,convert,underlying,h1,h2]
   exact (R.bA h).elim
 exact trivial
def aP1 (f:Fn) (x y:Array Operand):Kd:=.pure fun T k=>k (.fn f (NT x.toList T) (NT y.toList T))
theorem bLG {f:Fn} {x y:Array Operand} (ho:o.op=.makeFunc f x y):fO P o (aP1 f x y):=fun {T k r s} h=>
 ⟨_,h,fun {ι m a w} ra=>⟨.func f (x.map a.eval) (y.map a.eval),by unfold execOp;rw[ho];rfl,
  ⟨_,_,rfl,by rw[Array.toList_map];exact aDV ra _,by rw[Array.toList_map];exact aDV ra _⟩⟩⟩
def aN7 (x:Operand) (i:Nat):Kd:=.pure fun T k=>aPW (aY x T) fun l=>aS (Nat.ble (Nat.succ i) l.len) (k (l.nth i))
theorem bGF {x:Operand} {i:Nat} (ho:o.op=.extract x i):fO P o (aN7 x i):=fun {T k r s} h=>by
 obtain⟨l,hc,h⟩:=bJJ h
 obtain⟨hi,h⟩:=cI h
 refine⟨_,h,fun {ι m a w} ra=>?_⟩
 have e:=bD ra x;rw[hc] at e;obtain⟨z,e,hl⟩:=e
 obtain⟨u,hu,hr⟩:=hl.nth i (Nat.le_of_ble_eq_true hi)
 refine⟨u,?_,hr⟩
 unfold execOp;rw[ho]
 simp at hu
 simp[e,Instr.extract,hu]
def UL:TypeDesc→Bool
 |.struct _=>true
 |.array _ _=>true
 |_=>false
theorem TZ {t:TypeId} {d:TypeDesc} {w:World} (h:P.underlying t=some d):(isAgg t).run P w=.ok (UL d) w:=by
 unfold isAgg underlying
 simp[h]
 cases d<;>rfl
def aPT (P:Program) (t:TypeId) (off:Nat):Option (AV→(AV→R)→R):=match P.underlying t,P.info? t with
 |some d,some i=>match UL d with
   |true=>some fun l k=>k (.agg ((l.drop off).take i.size))
   |false=>some fun l k=>aS (Nat.ble (Nat.succ off) l.len) (k (l.nth off))
 |_,_=>none
theorem bKY {t:TypeId} {off:Nat} {f:AV→(AV→R)→R} (hf:aPT P t off=some f) {l:AV} {k:AV→R} {r:AV} {s:St} (h:f l k=.ok r s):
 ∃v,k v=.ok r s∧∀{ι:aH} {z:Array Value} {w:World},RL ι l z.toList→∃u,(part t z off).run P w=.ok u w∧RV ι v u:=by
 unfold aPT at hf
 split at hf
 rotate_left
 · cases hf
 rename_i d i h1 h2
 split at hf
 · rename_i h3
   cases hf
   refine⟨_,h,fun {ι z w} hl=>⟨.agg (z.extract off (off+i.size)),?_,⟨_,rfl,?_⟩⟩⟩
   · unfold part
     simp[TZ h1,h3,sizeOf,typeInfo,h2]
   have:(z.extract off (off+i.size)).toList=(z.toList.drop off).take i.size:=by simp[Array.toList_extract,List.extract,Nat.add_sub_cancel_left]
   rw[this]
   exact (hl.drop off).take _
 rename_i h3
 cases hf
 obtain⟨hi,h⟩:=cI h
 refine⟨_,h,fun {ι z w} hl=>?_⟩
 obtain⟨u,hu,hr⟩:=hl.nth off (Nat.le_of_ble_eq_true hi)
 refine⟨u,?_,hr⟩
 simp at hu
 unfold part
 simp[TZ h1,h3,hu]
def aPA (P:Program) (t:TypeId) (x:Operand) (i:Nat):Kd:=match P.underlying t with
 |some (.struct fs)=>match fs[i]? with
   |some f=>match aPT P f.type f.offset with
     |some g=>.pure fun T k=>aPX (aY x T) fun l=>g l k
     |none=>.no
   |none=>.no
 |_=>.no
theorem bJT {t:TypeId} {x:Operand} {i:Nat} (ho:o.op=.field t x i):fO P o (aPA P t x i):=by
 unfold aPA
 split
 rotate_left
 · exact trivial
 rename_i fs h1
 split
 rotate_left
 · exact trivial
 rename_i f h2
 split
 rotate_left
 · exact trivial
 rename_i g h3
 intro T k r s h
 obtain⟨l,hc,h⟩:=a0E h
 obtain⟨v,h,hp⟩:=bKY h3 h
 refine⟨v,h,fun {ι m a w} ra=>?_⟩
 have e:=bD ra x;rw[hc] at e;obtain⟨z,e,hl⟩:=e
 obtain⟨u,hu,hr⟩:=hp (w:=w) hl
 refine⟨u,?_,hr⟩
 unfold execOp;rw[ho]
 simp[e,Instr.field,underlying,h1,h2,asAgg,hu]
end
end
end Go.Ev
