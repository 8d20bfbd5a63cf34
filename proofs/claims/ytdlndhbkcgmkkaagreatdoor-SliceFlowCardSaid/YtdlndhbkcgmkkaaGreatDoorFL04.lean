/-
 Part 4 of 35 of a proof about the given program: facts on which the last part stands.
-/
import Derived.Test.YtdlndhbkcgmkkaaGreatDoorFL03
import Derived.Lib.ConvBytes
import Derived.Defers
import Derived.Recover
set_option maxHeartbeats 12800000
set_option linter.unusedVariables false
set_option linter.unusedSimpArgs false
namespace Go.Ev
section
open Go
noncomputable section
variable {P:Program} {o:Oper}
def aH8 (H:Hp) (b o n sz:Nat) (k:Nat→R):R:=match bZ b H with
 |.cells m _=>aS (Nat.ble 1 n) (aS (Nat.ble (Nat.add o (Nat.mul n sz)) m) (aS (Nat.ble 1 sz) (fN (Nat.div (Nat.sub m o) sz) k)))
 |_=>.bad 120
theorem bHQ {H:Hp} {b o n sz:Nat} {k:Nat→R} {r:AV} {s:St} (h:aH8 H b o n sz k=.ok r s):
 ∃q,k q=.ok r s∧n≤q∧∀{ι:aH} {N:Nat} {u:Value} {w:World},RV ι (.slu b o n sz) u→HR ι ⟨H,N⟩ w→
  ∃l cap,ι b=some l∧u=.slice (some ⟨l.b,l.d+o,none⟩) n cap∧o+cap*sz=l.s∧q≤cap∧cap<9223372036854775808:=by
 unfold aH8 at h
 split at h
 rotate_left
 · exact (R.bA h).elim
 rename_i m c hc
 obtain⟨h1,h⟩:=cI h
 obtain⟨h2,h⟩:=cI h
 obtain⟨h3,h⟩:=cI h
 have h1:=Nat.le_of_ble_eq_true h1
 have h2:o+n*sz≤m:=Nat.le_of_ble_eq_true h2
 have h3:=Nat.le_of_ble_eq_true h3
 rw[gQ] at h
 refine⟨_,h,?_,fun {ι N u w} hu hr=>?_⟩
 · show n≤(m-o) / sz
   exact (Nat.le_div_iff_mul_le (by omega)).2 (by omega)
 obtain⟨l,hl,⟨cap,hu,cB,lF,h63⟩|⟨h0,-⟩⟩:=hu
 · refine⟨l,cap,hl,hu,cB,?_,h63⟩
   have F7:=hr.live b l hl
   rw[show bZ b (St.h ⟨H,N⟩)=.cells m c from hc] at F7
   obtain⟨-,hms,-⟩:=F7
   show (m-o) / sz≤cap
   refine Nat.div_le_of_le_mul ?_
   rw[Nat.mul_comm];omega
 omega
def bS3 (P:Program) (ts:Array TypeId) (args:Array Operand):Kd:=match args,ts[0]? with
 |⟨[x]⟩,some t=>match P.underlying t with
   |some (.slice e)=>.load fun T H k=>match aY x T with
     |.snil=>k (.int .i64 (.ofNat 0))
     |.sl _ _ _ c=>k (.int .i64 (.ofNat c))
     |.slu b o n sz=>aH8 H b o n sz fun q=>k (.ge q)
     |_=>.bad 62
   |_=>.no
 |_,_=>.no
def aQH (op:BinOp) (x y:AV):Option AV:=match op,x,y with
 |.sub,.ge a,.int .i64 (.ofNat m)=>match Nat.ble m a with
   |true=>some (.ge (Nat.sub a m))
   |false=>none
 |.leq,.int .i64 (.ofNat m),.ge a=>match Nat.ble m a with
   |true=>some (.bool true)
   |false=>none
 |_,_,_=>none
def aIP (op:BinOp) (f:B2) (x y:Operand):Kd:=.pure fun T k=>match aQH op (aY x T) (aY y T) with
 |some v=>k v
 |none=>rF (aY x T) (.bad 40) fun kx a=>rF (aY y T) (.bad 40) fun ky b=>aS (JP kx ky) (f kx a b k)
theorem bKN {n:Nat} (h:n<9223372036854775808):IntKind.i64.wrap (n:Int)=n:=by
 simp only[IntKind.wrap,IntKind.bits,IntKind.signed]
 simp
 omega
theorem a1Z {op:BinOp} {f:B2} (hf:QZ op=some f) {t u:TypeId} {x y:Operand} (ho:o.op=.binOp op t x y u):fO P o (aIP op f x y):=fun {T k r s} h=>by
 dsimp only at h
 split at h
 rotate_left
 · exact a2U (P:=P) hf ho h
 rename_i v hv
 refine⟨v,h,fun {ι m ac w} ra=>?_⟩
 have e1:=bD ra x
 have e2:=bD ra y
 unfold aQH at hv
 split at hv
 · rename_i a m h1 h2
   split at hv<;>cases hv
   rename_i hle
   have hle:m≤a:=Nat.le_of_ble_eq_true hle
   rw[h1] at e1;rw[h2] at e2
   obtain⟨X,g1,g2,e1⟩:=e1
   have e2:ac.eval y=.int .i64 (m:Int):=e2
   refine⟨.int .i64 ((X-m:Nat):Int),?_,⟨X-m,by show a-m≤X-m;omega,by omega,rfl⟩⟩
   unfold execOp;rw[ho]
   have hw:IntKind.i64.wrap ((X:Int)-(m:Int))=((X-m:Nat):Int):=by
    rw[←Int.natCast_sub (by omega)];exact bKN (by omega)
   simp[e1,e2,XZ,binOp,Op.intArith,hw]
 · rename_i m a h1 h2
   split at hv<;>cases hv
   rename_i hle
   have hle:m≤a:=Nat.le_of_ble_eq_true hle
   rw[h1] at e1;rw[h2] at e2
   obtain⟨X,g1,g2,e2⟩:=e2
   have e1:ac.eval x=.int .i64 (m:Int):=e1
   refine⟨.bool true,?_,rfl⟩
   unfold execOp;rw[ho]
   have hmx:m≤X:=by omega
   simp[e1,e2,XZ,binOp,Op.intCmp,hmx]
 cases hv
def aON (P:Program) (t:TypeId) (x:Operand) (lo hi mx:Option Operand):Kd:=match mx,P.underlying t,aO9 P t x lo hi mx with
 |none,some (.slice e),.pure F=>match P.info? e with
   |some j=>.load fun T H k=>match aY x T with
     |.slu b o n sz=>C_ hi T n fun y=>match Nat.ble y n with
       |true=>F T k
       |false=>aH8 H b o n sz fun q=>C_ lo T 0 fun l=>aS (Nat.beq sz j.size) (aS (Nat.ble l n) (aS (Nat.ble y q) (fN (Nat.add o (Nat.mul l j.size)) fun o'=>fN (Nat.sub y l) fun n'=>k (.slu b o' n' sz))))
     |_=>F T k
   |none=>.no
 |_,_,z=>z
theorem bHR {t:TypeId} {x:Operand} {lo hi mx:Option Operand} (ho:o.op=.slice t x lo hi mx):fO P o (aON P t x lo hi mx):=by
 unfold aON
 have hk:=bJR (P:=P) ho
 split
 rotate_left
 · exact hk
 rename_i e F h1 hF
 rw[hF] at hk
 have pure:∀{T:T} {H:Hp} {k:AV→R} {r:AV} {s:St},F T k=.ok r s→∃v,k v=.ok r s∧∀{ι:aH} {m n:Nat} {a:Act} {w:World},RA ι m T a→HR ι ⟨H,n⟩ w→∃u,(execOp a.eval o).run P w=.ok (.value u) w∧RV ι v u:=by
  intro T H k r s h
  obtain⟨v,h,hv⟩:=hk h
  exact⟨v,h,fun ra _=>hv ra⟩
 split
 rotate_left
 · exact trivial
 rename_i j h2
 intro T H k r s h
 dsimp only at h
 split at h
 rotate_left
 · exact pure h
 rename_i b q n sz hc
 obtain⟨y,h,a2,b2⟩:=EC h
 split at h
 · exact pure h
 rename_i hyn
 have hyn:n<y:=by
  rcases Nat.lt_or_ge n y with g|g
  · exact g
  rw[Nat.ble_eq_true_of_le g] at hyn;cases hyn
 obtain⟨kn,h,hnk,hkn⟩:=bHQ h
 obtain⟨l,h,a1,b1⟩:=EC h
 obtain⟨d1,h⟩:=cI h
 obtain⟨c1,h⟩:=cI h
 obtain⟨c2,h⟩:=cI h
 obtain rfl:=Nat.eq_of_beq_eq_true d1
 have c1:=Nat.le_of_ble_eq_true c1
 have c2:=Nat.le_of_ble_eq_true c2
 rw[gQ,gQ] at h
 refine⟨_,h,fun {ι mm N a w} ra hrr=>?_⟩
 have e1:=bD ra x;rw[hc] at e1
 obtain⟨L,cap,hL,e1,cB,hq,h63⟩:=hkn e1 hrr
 have hr:=XO (P:=P) (w:=w) (isS:=true) (len:=n) (cap:=cap) (a:=a) (lo:=lo) (hi:=hi) (mx:=none) (l:=l) (h:=y) (m:=cap) (by simp) a1 a2 (fun _=>rfl)
  (fun y e=>(b1 y e).imp fun _ h=>h ra) (fun y e=>(b2 y e).imp fun _ h=>h ra) (fun y e=>by cases e) (by omega) (fun _=>by omega) (Nat.le_refl _)
 simp only[Option.map_none] at hr
 refine⟨.slice (some ((⟨L.b,L.d+q,none⟩:Addr).add (l*j.size))) (y-l) (cap-l),?_,⟨L,hL,.inl ⟨cap-l,?_,?_,?_,?_⟩⟩⟩
 · unfold execOp;rw[ho]
   have hne:¬(cap=l):=by omega
   simp[e1,Instr.sliceAt,Instr.slice,underlying,h1,hr,sizeOf,typeInfo,h2,hne]
 · rw[addr_add,Nat.add_assoc];rfl
 · show q+l*j.size+(cap-l)*j.size=L.s
   rw[←cB,Nat.add_assoc,←Nat.add_mul,show l+(cap-l)=cap by omega]
 · show y-l≤cap-l;omega
 omega
end
noncomputable section
variable {P:Program} {o:Oper}
def a0L (x:Operand):Kd:=.eff fun T S k=>NU (aY x T) fun n b=>aS (Nat.ble n 1000000) (uO (R.bad 121) (JH n b) 0 (Cs.new (JH n b).len) fun m c=>OA S (.cells m c) fun b S=>k (.slu b 0 n 1) S)
theorem bFO {src dst e:TypeId} {x:Operand} {u:TypeDesc} (hs:P.underlying src=some u) (hd:P.underlying dst=some (.slice e)) (he:P.underlying e=some (.int .u8)) (ho:o.op=.convert src dst x):fO P o (a0L x):=by
 intro T S k r s h
 obtain⟨n,b,hc,h⟩:=aNC h
 obtain⟨hn,h⟩:=cI h
 have hn:=Nat.le_of_ble_eq_true hn
 rcases IY h with h|⟨c,h,-,hcr,tX,hcg,-⟩
 · exact (R.bA h.symm).elim
 obtain⟨h1,h⟩:=X_ h
 refine⟨_,_,h,fun {ι m a w} ra hr=>?_⟩
 have ex:=bD ra x
 rw[hc] at ex
 obtain⟨z,ex,hz,hb⟩:=ex
 have hl:RL ι (JH n b) (z.data.toList.map fun b=>.int .u8 b.toNat):=by
  have:=aNT (ι:=ι) z.data.toList
  rwa [KL,hz,hb] at this
 have hlen:(JH n b).len=n:=by rw[hl.len,List.length_map,KL,hz]
 have hroom:=XW hcr tX
 have hg1:n≤grownCap w z.size 0 e:=by
  rw[hz]
  show n≤n+_
  omega
 have hg2:grownCap w z.size 0 e<9223372036854775808:=by
  rw[hz]
  have:=Nat.mod_lt (w.tape w.drawn (.appendCap n 0 e)) (show 0<2 ^ 63-n by omega)
  show n+_<_
  omega
 have jR:(Lib.bytesCells w e z).size=grownCap w z.size 0 e:=by
  have hzs:z.data.size=z.size:=rfl
  simp[Lib.bytesCells,hzs]
  omega
 have hres:=hr.YE h1 (.cells (0+(JH n b).len) c)
 have hput:=hres.make (b:=S.n) (hr.fresh _ (Nat.le_refl _)) (fun h'=>Nat.lt_irrefl _ (hr.sW _ h')) (Nat.lt_succ_self _) ⟨w.heap.size,0,grownCap w z.size 0 e⟩ (w':=Lib.bytesWorld w e z)
  (by simp[Lib.bytesWorld,World.freeze];try rfl) (by simp[Lib.bytesWorld,World.freeze];try rfl) (by simp[Lib.bytesWorld,World.freeze];try rfl) (by rw[Lib.bytesWorld_size];omega) (fun k hk=>Lib.bytesWorld_at_old w e z k hk) (Nat.le_refl _) ?_
 · refine⟨.value (.slice (some ⟨w.heap.size,0,none⟩) z.size (grownCap w z.size 0 e)),_,_,_,?_,.inl rfl,?_,hput⟩
   · unfold execOp;rw[ho]
     have:=Lib.run_convert_string_bytes (P:=P) w src dst e z hs hd he
     rw[←ex] at this
     simp[this]
   exact⟨_,aH.BC _ _ _,.inl ⟨grownCap w z.size 0 e,by simp[hz],by simp,hg1,hg2⟩⟩
 show RO _ (bZ S.n (dY S.n (.cells (0+(JH n b).len) c) S.h)) _ _
 rw[KQ]
 refine⟨hroom,by show 0+(JH n b).len≤grownCap w z.size 0 e;omega,_,e,_,Lib.bytesWorld_at_new w e z,.inr rfl,by simpa using jR,fun i hi=>?_⟩
 obtain⟨u,k1,k2⟩:=(hl.mono (aH.NM (hr.fresh S.n (Nat.le_refl _)) ⟨w.heap.size,0,grownCap w z.size 0 e⟩)).nth i (by omega)
 refine⟨u,?_,?_⟩
 · simp only[Nat.zero_add]
   have jQ:i<z.size:=by omega
   simp only[Lib.bytesCells]
   rw[Array.getElem?_append_left (by simp;exact jQ),←Array.getElem?_toList,Array.toList_map]
   exact k1
 have:=hcg i (by omega)
 rw[Nat.zero_add] at this
 rw[this];exact k2
def aPB (P:Program) (src dst:TypeId) (x:Operand):Kd:=match P.underlying src,P.underlying dst with
 |some _,some (.slice e)=>match P.underlying e with
   |some (.int .u8)=>a0L x
   |_=>.no
 |_,_=>aP2 P src dst x
theorem bJU {src dst:TypeId} {x:Operand} (ho:o.op=.convert src dst x):fO P o (aPB P src dst x):=by
 unfold aPB
 split
 · rename_i u e h1 h2
   split
   · rename_i h3;exact bFO h1 h2 h3 ho
   exact trivial
 exact bLH ho
end
noncomputable section
variable {P:Program} {o:Oper}
def Y0 (c:Call):Kd:=match c.callee with
 |.value f=>.call fun T k=>aI9 (aY f T) fun g first cap=>k g (first.app ((NT c.args.toList T).app cap))
 |_=>.no
theorem bLI {c:Call} (ho:o.op=.call c):fO P o (Y0 c):=by
 unfold Y0
 split
 rotate_left
 · exact trivial
 rename_i f hf
 intro T k r s h
 obtain⟨g,p,q,hc,h⟩:=a1V h
 refine⟨g,_,h,fun {ι m a w} ra=>?_⟩
 have e1:=bD ra f;rw[hc] at e1;obtain⟨p',q',e1,e2,e3⟩:=e1
 refine⟨p'.toList++(c.args.toList.map a.eval++q'.toList),e2.app ((aDV ra _).app e3),fun fn h1 h2 h3=>?_⟩
 have DM:∀args,(callFunc g args).run P w=.ok (.enter g args) w:=fun args=>by
  simp only[callFunc,Sem.run_bind,run_program,Result.andThen_ok,h1,h2,h3,Bool.false_eq_true,if_false]
  rfl
 unfold execOp;rw[ho]
 simp only[resolve,hf,e1,Deferred.ofValue,Sem.run_bind,Sem.run_pure,Result.andThen_ok,invoke,DM]
 congr 2
 apply Array.ext'
 simp
def kd (P:Program) (op:Op):Kd:=match op with
 |.move x=>aIO x
 |.assign x=>aIO x
 |.pick c a b=>aP0 c a b
 |.alloc t=>aPC P t
 |.box _ x=>aQ7 x
 |.build t ps=>YQ P t ps
 |.buildSlice t n ps=>XM P t n ps
 |.insert t m k x=>UD P t m k x
 |.mapUpdate t m k x=>UD P t m k x
 |.load t a=>YZ P t a
 |.store t a x=>YO P t a x
 |.nilCheck x=>aQ5 x
 |.binOp op t x y _=>match P.underlying t with
   |some (.int _)=>match op with
     |.shl=>YP true x y
     |.shr=>YP false x y
     |op=>match QZ op with
       |some f=>match op with
         |.sub=>aIP .sub f x y
         |.leq=>aIP .leq f x y
         |_=>aQ6 f x y
       |none=>.no
   |some .string=>match op with
     |.eql=>aH_ false x y
     |.neq=>aH_ true x y
     |_=>.no
   |some (.struct _)=>.no
   |some d=>match op with
     |.eql=>U6 false d x y
     |.neq=>U6 true d x y
     |_=>.no
   |none=>.no
 |.unOp .not _ x=>aQ4 x
 |.unOp .neg _ x=>a6P x
 |.convert s d x=>aPB P s d x
 |.makeFunc f a b=>aP1 f a b
 |.makeMap t r=>aN6 t r
 |.makeSlice t l c=>aMX P t l c
 |.slice t x lo hi mx=>aON P t x lo hi mx
 |.fieldAddr t x i=>XQ P t x i
 |.field t x i=>aPA P t x i
 |.indexAddr t x i=>XP P t x i
 |.index t x i=>aOP P t x i
 |.lookup t x k ok=>CO P t x k ok
 |.extract t i=>aN7 t i
 |.call ⟨.builtin .len,args,ts⟩=>OB P ts args
 |.call ⟨.builtin .max,args,ts⟩=>aOO true args
 |.call ⟨.builtin .append,args,ts⟩=>aN8 P ts args
 |.call c=>Y0 c
 |_=>.no
theorem aIN:fO P o (kd P o.op):=by
 generalize he:o.op=op
 unfold kd
 split
 · exact a1Y (.inl he)
 · exact a1Y (.inr he)
 · exact bLE he
 · exact bJW he
 · exact bMW he
 · exact bJV he
 · exact bEQ he
 · exact aZG (.inr he)
 · exact aZG (.inl he)
 · exact bLF he
 · exact bJQ he
 · exact bMT he
 · split
   · split
     · exact a0M (left:=true) he
     · exact a0M (left:=false) he
     split
     · rename_i f hf
       split
       · exact a1Z hf he
       · exact a1Z hf he
       exact a2U hf he
     exact trivial
   · split
     · exact a0K (neg:=false) he
     · exact a0K (neg:=true) he
     exact trivial
   · exact trivial
   · rename_i d hd1 hd2 hd3 hd
     split
     · exact a2V (neg:=false) hd he
     · exact a2V (neg:=true) hd he
     exact trivial
   exact trivial
 · exact bMS he
 · exact bMU he
 · exact bJU he
 · exact bLG he
 · exact bGE he
 · exact bE5 he
 · exact bHR he
 · exact bE7 he
 · exact bJT he
 · exact bE6 he
 · exact bHU he
 · exact bHT he
 · exact bGF he
 · exact bMV he
 · exact bHS (mx:=true) he
 · exact bGG he
 · exact bLI he
 exact trivial
end
noncomputable section
variable {P:Program}
inductive Job where
 |code (c:Code)
 |loop (b:Code)
 |scope (cur body:Code)
 |ops (l:Array Oper) (i n:Nat)
abbrev Ev:=Job→Nat→T→St→KN→KX→R
abbrev l4:=Nat→AV→St→Option (AV×St)
def ER (m:Nat) (d:Option Nat) (v:AV) (T:T) (k:Ev.T→R):R:=Option.rec (motive:=fun _=>R) (k T) (fun d=>aS (Nat.ble (Nat.succ d) m) (EG d v T k)) d
theorem aN1 {m:Nat} {d:Option Nat} {v:AV} {T:T} {k:Ev.T→R} {r:AV} {s:St} (h:ER m d v T k=.ok r s):
 ∃T',k T'=.ok r s∧∀{ι:aH} {a:Act} {u:Value},RA ι m T a→RV ι v u→RA ι m T' (a.put d u):=by
 cases d with
 |none=>exact⟨T,h,fun {ι a u} ra _=>ra⟩
 |some d=>
  obtain⟨h1,h⟩:=cI h
  rw[aD1] at h
  exact⟨_,h,fun {ι a u} ra hv=>ra.put (Nat.le_of_ble_eq_true h1) hv⟩
theorem aMN (a:Act) (d:Option Nat) (u:Value):(a.put d u).defers=a.defers:=by cases d<;>rfl
def UQ (ops:Array Oper) (g:Nat×Bool) (T:T) (no yes:R):R:=match ops[g.1]? with
 |some p=>match p.dst with
   |some d=>match dX d T with
     |.bool b=>Bool.rec (motive:=fun _=>R) no yes (b==g.2)
     |.tup _=>no
     |.int _ _=>no
     |_=>.bad 90
   |none=>no
 |none=>no
theorem bIN {ops:Array Oper} {g:Nat×Bool} {T:T} {no yes:R} {r:AV} {s:St} (h:UQ ops g T no yes=.ok r s):
 ∃b,(if b then yes else no)=.ok r s∧∀{ι:aH} {m:Nat} {a:Act},RA ι m T a→(yielded ops a.tmps g.1==some g.2)=b:=by
 unfold UQ at h
 split at h
 rotate_left
 · rename_i hp
   refine⟨false,h,fun {ι m a} ra=>?_⟩
   unfold yielded;simp[hp]
 rename_i p hp
 split at h
 rotate_left
 · rename_i hd
   refine⟨false,h,fun {ι m a} ra=>?_⟩
   unfold yielded;simp[hp,hd]
 rename_i d hd
 have hy:∀{a:Act},yielded ops a.tmps g.1=match a.tmps[d]? with|some (.bool b)=>some b|_=>none:=fun {a}=>by
  unfold yielded;simp[hp,hd];rfl
 split at h
 · rename_i b hb
   refine⟨b==g.2,?_,fun {ι m a} ra=>?_⟩
   · cases hbg:(b==g.2)<;>rw[hbg] at h<;>exact h
   have:=ra.tmp d
   rw[hb] at this
   have this:a.tmps.getD d undef=.bool b:=this
   have h2:a.tmps[d]?=some (.bool b):=by
    cases he:a.tmps[d]? with
    |none=>simp[he,undef] at this
    |some v=>simp[he] at this;rw[this]
   rw[hy,h2];rfl
 · rename_i l hb
   refine⟨false,h,fun {ι m a} ra=>?_⟩
   have:=ra.tmp d
   rw[hb] at this
   obtain⟨z,this,-⟩:=this
   rw[hy]
   cases he:a.tmps[d]? with
   |none=>rfl
   |some v=>simp[he] at this;rw[this];rfl
 · rename_i kd n hb
   refine⟨false,h,fun {ι m a} ra=>?_⟩
   have:=ra.tmp d
   rw[hb] at this
   have this:a.tmps.getD d undef=.int kd n:=this
   rw[hy]
   cases he:a.tmps[d]? with
   |none=>rfl
   |some v=>simp[he] at this;rw[this];rfl
 exact (R.bA h).elim
def I8 (ops:Array Oper) (g:Option (Nat×Bool)) (T:T) (no yes:R):R:=Option.rec (motive:=fun _=>R) yes (fun g=>UQ ops g T no yes) g
theorem aDR {ops:Array Oper} {o:Oper} {T:T} {no yes:R} {r:AV} {s:St} (h:I8 ops o.guard T no yes=.ok r s):
 ∃b,(if b then yes else no)=.ok r s∧∀{ι:aH} {m:Nat} {a:Act},RA ι m T a→Region.wanted o (yielded ops a.tmps)=b:=by
 unfold Region.wanted
 cases hg:o.guard with
 |none=>rw[hg] at h;exact⟨true,h,fun {ι m a} ra=>rfl⟩
 |some g=>
  rw[hg] at h
  obtain⟨b,h1,h2⟩:=bIN (show UQ ops g T no yes=.ok r s from h)
  exact⟨b,h1,fun {ι m a} ra=>h2 ra⟩
def LA (l:AV):Nat→T→(T→R)→R:=AV.rec (motive:=fun _=>Nat→T→(T→R)→R) (fun _ _ _=>.bad 91) (fun _ _ _ _=>.bad 91) (fun _ _ _ _ _=>.bad 91) (fun _ _ _ _ _=>.bad 91) (fun _ _ _=>.bad 91) (fun _ _ _ _ _=>.bad 91) (fun _ _ _=>.bad 91) (fun _ _ _ _ _ _ _=>.bad 91) (fun _ _ _ _ _ _ _=>.bad 91) (fun _ _ _=>.bad 91) (fun _ _ _ _=>.bad 91) (fun _ _ _ _ _ _ _ _=>.bad 91) (fun _ _ _=>.bad 91) (fun _ _ _=>.bad 91) (fun _ _ _ _ _ _=>.bad 91) (fun _ _ _ _ _=>.bad 91) (fun _ _ _ _ _=>.bad 91) (fun _ _ _ _=>.bad 91) (fun i T k=>k T) (fun h t _ ih i T k=>aS (Nat.ble i 255) (EG i h T fun T=>ih (Nat.succ i) T k)) l
theorem aDZ:∀{l:AV} {i:Nat} {T:T} {k:Ev.T→R} {r:AV} {s:St},LA l i T k=.ok r s→
 ∃T',k T'=.ok r s∧l.O7=true∧∀t,t<256→yA t T'=if i≤t∧t<i+l.len then l.nth (t-i) else yA t T
 |.nl,i,T,k,r,s,h=>⟨T,h,rfl,fun t _=>by rw[if_neg (by show ¬(i≤t∧t<i+0);omega)]⟩
 |.cons a l,i,T,k,r,s,h=>by
   change aS (Nat.ble i 255) (EG i a T fun T=>LA l (Nat.succ i) T k)=_ at h
   obtain⟨h1,h⟩:=cI h
   have h1:=Nat.le_of_ble_eq_true h1
   rw[aD1] at h
   obtain⟨T',h,hl,hT⟩:=aDZ h
   refine⟨T',h,hl,fun t ht=>?_⟩
   rw[hT t ht]
   show _=if i≤t∧t<i+(l.len+1) then _ else _
   by_cases e:t=i
   · subst e
     rw[if_neg (by omega),if_pos (by omega),aDT,Nat.sub_self];rfl
   by_cases g:i+1≤t∧t<i+1+l.len
   · rw[if_pos (by omega),if_pos (by omega),show t-i=(t-Nat.succ i)+1 by omega];rfl
   rw[if_neg (by omega),if_neg (by omega),aDO (by omega) ht (fun h=>e h.symm)]
 |.top,_,_,_,_,_,h=>(R.bA h).elim
 |.bool _,_,_,_,_,_,h=>(R.bA h).elim
 |.int _ _,_,_,_,_,_,h=>(R.bA h).elim
 |.str _ _,_,_,_,_,_,h=>(R.bA h).elim
 |.pnil,_,_,_,_,_,h=>(R.bA h).elim
 |.ptr _ _,_,_,_,_,_,h=>(R.bA h).elim
 |.snil,_,_,_,_,_,h=>(R.bA h).elim
 |.sl _ _ _ _,_,_,_,_,_,h=>(R.bA h).elim
 |.slu _ _ _ _,_,_,_,_,_,h=>(R.bA h).elim
 |.mnil,_,_,_,_,_,h=>(R.bA h).elim
 |.map _,_,_,_,_,_,h=>(R.bA h).elim
 |.fn _ _ _,_,_,_,_,_,h=>(R.bA h).elim
 |.fnil,_,_,_,_,_,h=>(R.bA h).elim
 |.inil,_,_,_,_,_,h=>(R.bA h).elim
 |.iface _ _,_,_,_,_,_,h=>(R.bA h).elim
 |.agg _,_,_,_,_,_,h=>(R.bA h).elim
 |.tup _,_,_,_,_,_,h=>(R.bA h).elim
 |.ge _,_,_,_,_,_,h=>(R.bA h).elim
def N8 (P:Program) (T:T) (S:St):List ResultVar→(AV→R)→R
 | [],k=>k .nl
 |.tmp t::l,k=>N8 P T S l fun r=>k (.cons (dX t T) r)
 |.cell a t::l,k=>match K5 P t with
   |some f=>f (dX a T) S.h fun v=>N8 P T S l fun r=>k (.cons v r)
   |none=>.bad 92
def QS (a:Act):ResultVar→Sem Value
 |.tmp t=>pure (a.tmps.getD t undef)
 |.cell x t=>do loadVar t (←asAddr (a.tmps.getD x undef))
theorem bG4 (fn:Func) (a:Act):results fn a.tmps=(do
 let vs ←fn.results.mapM (QS a)
 pure (if h:vs.size=1 then vs[0] else .tuple vs)):=by
 unfold results
 have:(fun x:ResultVar=>(match x with
  |.tmp t=>pure (a.tmps.getD t undef)
  |.cell x t=>do loadVar t (←asAddr (a.tmps.getD x undef)):Sem Value))=QS a:=by
  funext x;cases x<;>rfl
 rw[←this]
 rfl
theorem aN0 {T:T} {S:St}:∀{l:List ResultVar} {k:AV→R} {r:AV} {s:St},N8 P T S l k=.ok r s→
 ∃v,k v=.ok r s∧∀{ι:aH} {m:Nat} {a:Act} {w:World},RA ι m T a→HR ι S w→∃vs:List Value,RL ι v vs∧
  (l.mapM (QS a)).run P w=.ok vs w
 | [],k,r,s,h=>⟨_,h,fun {ι m a w} _ _=>⟨[],rfl,rfl⟩⟩
 |.tmp t::l,k,r,s,h=>by
   have h:N8 P T S l (fun r=>k (.cons (dX t T) r))=.ok r s:=h
   obtain⟨v,h,hv⟩:=aN0 h
   refine⟨_,h,fun {ι m a w} ra hr=>?_⟩
   obtain⟨vs,h1,h2⟩:=hv ra hr
   refine⟨_::vs,⟨_,_,rfl,ra.tmp t,h1⟩,?_⟩
   have h3:(QS a (.tmp t)).run P w=.ok (a.tmps.getD t undef) w:=rfl
   rw[List.mapM_cons]
   simp only[Sem.run_bind,Sem.run_pure,Result.andThen_ok,h2,h3]
 |.cell x t::l,k,r,s,h=>by
   unfold N8 at h
   split at h
   rotate_left
   · exact (R.bA h).elim
   rename_i f hf
   obtain⟨v0,h,hv0⟩:=a1X hf h
   obtain⟨v,h,hv⟩:=aN0 h
   refine⟨_,h,fun {ι m a w} ra hr=>?_⟩
   obtain⟨vs,h1,h2⟩:=hv ra hr
   obtain⟨p,z,e,g1,g2⟩:=hv0 (ra.tmp x) (n:=S.n) hr
   refine⟨z::vs,⟨_,_,rfl,g2,h1⟩,?_⟩
   have h3:(QS a (.cell x t)).run P w=.ok z w:=by
    unfold QS
    dsimp only
    rw[e]
    exact g1
   rw[List.mapM_cons]
   simp only[Sem.run_bind,Sem.run_pure,Result.andThen_ok,h2,h3]
def aQX (v:AV) (k:AV→R):R:=match v with
 |.cons x .nl=>k x
 |v=>k (.tup v)
def EP (P:Program) (fn:Func) (T:T) (S:St) (k:AV→R):R:=N8 P T S fn.results.toList fun v=>aQX v k
theorem aNZ {fn:Func} {T:T} {S:St} {k:AV→R} {r:AV} {s:St} (h:EP P fn T S k=.ok r s):
 ∃v,k v=.ok r s∧∀{ι:aH} {m:Nat} {a:Act} {w:World},RA ι m T a→HR ι S w→∃u,(results fn a.tmps).run P w=.ok u w∧RV ι v u:=by
 obtain⟨l,h,hl⟩:=aN0 h
 have hres:∀{a:Act} {w:World} {vs:List Value},(fn.results.toList.mapM (QS a)).run P w=.ok vs w→
  (results fn a.tmps).run P w=.ok (if h:vs.toArray.size=1 then vs.toArray[0] else .tuple vs.toArray) w:=by
  intro a w vs h
  rw[bG4,Array.mapM_eq_mapM_toList]
  simp only[Sem.run_bind,Sem.run_map,h,Result.andThen_ok,Sem.run_pure]
 unfold aQX at h
 split at h
 · rename_i x
   refine⟨x,h,fun {ι m a w} ra hr=>?_⟩
   obtain⟨vs,h1,h2⟩:=hl ra hr
   obtain⟨u,q,rfl,h3,h4⟩:=h1
   have h4:q=[]:=h4
   subst h4
   exact⟨u,by rw[hres h2];rfl,h3⟩
 rename_i hx
 refine⟨_,h,fun {ι m a w} ra hr=>?_⟩
 obtain⟨vs,h1,h2⟩:=hl ra hr
 refine⟨.tuple vs.toArray,?_,⟨vs.toArray,rfl,h1⟩⟩
 rw[hres h2,dif_neg]
 intro e
 have hlen:vs.length=1:=by simpa using e
 match l,vs,h1,hlen with
 |.cons x .nl,[u],_,_=>exact hx x rfl
 |.cons x (.cons y t),[u],⟨_,_,e,_,⟨_,_,e2,_⟩⟩,_=>cases e;cases e2
 |.nl,[u],e,_=>cases e
def pV (fn:Func):Bool:=match fn.name == "runtime.NumGoroutine",fn.body,Nat.ble fn.ntmps 256 with
 |false,some _,true=>true
 |_,_,_=>false
def aQL (P:Program) (ev:Ev) (fn:Func) (c:Code) (args:AV) (S:St) (k:K):R:=LA args 0 pG fun T=>
 ev (.code c) fn.ntmps T S (fun T S=>EP P fn T S fun v=>k v S) (fun e T S=>match e with
  |.rt=>EP P fn T S fun v=>k v S
  |_=>.bad 93)
def QK (P:Program) (g:Nat) (args:AV) (S:St) (v:AV) (S':St):Prop:=(∃fn,P.funcs[g]?=some fn∧pV fn=true)∧∀{ι:aH} {vs:List Value} {w:World},RL ι args vs→HR ι S w→
 Calls P g vs.toArray w fun e w'=>∃u κ,e=.returned u∧RV κ v u∧HR κ S' w'∧Ext ι w κ w'
def I_ (P:Program) (M:l4):Prop:=∀g args S v S',M g args S=some (v,S')→QK P g args S v S'
def Post (ι:aH) (w:World) (m:Nat) (dfs:List Deferred) (e:Exit) (T:T) (S:St):Exit→Act→World→Prop:=fun e' a w'=>
 e'=e∧∃κ,RA κ m T a∧HR κ S w'∧Ext ι w κ w'∧a.defers=dfs
def QN:Ex→Exit
 |.ex id=>.exit id
 |.gt l=>.goto l
 |.rt=>.ret
def U_ (P:Program) (body:Code) (Q:Exit→Act→World→Prop):Nat→Code→Act→World→Prop
 |0,_,_,_=>False
 |n+1,cur,a,w=>cur.wp P (fun e a w=>match e with
   |.goto l=>match findLabel body l with
     |some rest=>U_ P body Q n rest a w
     |none=>Q (.goto l) a w
   |e=>Q e a w) a w
theorem aXT {body:Code} {Q:Exit→Act→World→Prop} {a:Act} {w:World} (n:Nat) (h:U_ P body Q n body a w):(Code.scope body).wp P Q a w:=by
 intro b k cs
 have key:∀n cur a w,U_ P body Q n cur a w→∃e a' w',Q e a' w'∧Arrives P (lone (b.at a (.code cur::.inScope body::k)) cs w) b k cs e a' w':=by
  intro n
  induction n with
  |zero=>intro cur a w h;exact h.elim
  |succ n ih=>
   intro cur a w h
   obtain⟨e,a₁,w₁,hq,LK⟩:=h b (.inScope body::k) cs
   cases e with
   |normal=>exact⟨.normal,a₁,w₁,hq,Steps.trans LK (.one step_inScope)⟩
   |exit id=>exact⟨.exit id,a₁,w₁,hq,fun k' hk=>LK k' (by simp[exitTo,hk])⟩
   |goto l=>
    dsimp only at hq
    split at hq
    · rename_i rest hr
      obtain⟨e₂,a₂,w₂,hq₂,bPG⟩:=ih rest a₁ w₁ hq
      exact⟨e₂,a₂,w₂,hq₂,.of_steps (LK _ (by simp[gotoIn,hr])) bPG⟩
    rename_i hr
    exact⟨.goto l,a₁,w₁,hq,fun k' hk=>LK k' (by simp[gotoIn,hr,hk])⟩
   |ret=>exact⟨_,a₁,w₁,hq,LK⟩
   |panic ch=>exact⟨_,a₁,w₁,hq,LK⟩
   |outgrown=>exact⟨_,a₁,w₁,hq,LK⟩
 obtain⟨e,a',w',hq,LK⟩:=key n body a w h
 exact⟨e,a',w',hq,.of_steps (.one step_scope) LK⟩
theorem aNH {body:Code} {Q Q':Exit→Act→World→Prop} (hq:∀e a w,Q e a w→Q' e a w):∀{n:Nat} {cur:Code} {a:Act} {w:World},U_ P body Q n cur a w→U_ P body Q' n cur a w
 |0,_,_,_,h=>h.elim
 |n+1,cur,a,w,h=>wp_mono h fun e a w h=>by
   cases e<;>first|exact hq _ _ _ h|skip
   dsimp only at h ⊢
   split at h
   · exact aNH hq h
   exact hq _ _ _ h
theorem aMM {c:Code} {Q Q':Exit→Act→World→Prop} (hq:∀e a w,Q e a w→Q' e a w):∀{n:Nat} {a:Act} {w:World},Code.rounds P c Q n a w→Code.rounds P c Q' n a w
 |0,_,_,h=>h.elim
 |n+1,a,w,h=>wp_mono h fun e a w h=>by
   cases e<;>first|exact hq _ _ _ h|exact aMM hq h
def Says (P:Program) (j:Job) (m:Nat) (T:T) (S:St) (e:Exit) (T':Ev.T) (S':St):Prop:=match j with
 |.code c=>∀{ι:aH} {a:Act} {w:World},RA ι m T a→HR ι S w→c.wp P (Post ι w m a.defers e T' S') a w
 |.loop b=>∃n,∀{ι:aH} {a:Act} {w:World},RA ι m T a→HR ι S w→Code.rounds P b (Post ι w m a.defers e T' S') n a w
 |.scope cur body=>∃n,∀{ι:aH} {a:Act} {w:World},RA ι m T a→HR ι S w→U_ P body (Post ι w m a.defers e T' S') n cur a w
 |.ops l i n=>∀{ι:aH} {a:Act} {w:World},RA ι m T a→HR ι S w→wpOps P l (Post ι w m a.defers e T' S') (List.range' i n) a w
def yG (P:Program) (ev:Ev):Prop:=∀{j:Job} {m:Nat} {T:T} {S:St} {kn:KN} {kx:KX} {r:AV} {s:St},ev j m T S kn kx=.ok r s→
 (∃T' S',kn T' S'=.ok r s∧Says P j m T S .normal T' S')∨∃x T' S',kx x T' S'=.ok r s∧Says P j m T S (QN x) T' S'
theorem bKI {ev:Ev} (fX:yG P ev) {g:Nat} {fn:Func} (hf:P.funcs[g]?=some fn) (hg:pV fn=true) {c:Code} (hc:fn.body=some c) {args:AV} {S:St} {k:K} {r:AV} {s:St} (h:aQL P ev fn c args S k=.ok r s):
 ∃v S',k v S'=.ok r s∧QK P g args S v S':=by
 obtain⟨T,h,hl,hT⟩:=aDZ h
 have hm:fn.ntmps≤256:=by
  unfold pV at hg
  split at hg
  · rename_i h;exact Nat.le_of_ble_eq_true h
  cases hg
 have start:∀{ι:aH} {vs:List Value},RL ι args vs→RA ι fn.ntmps T { tmps:=vs.toArray++Array.replicate (fn.ntmps-vs.toArray.size) undef,defers:=[] }:=by
  intro ι vs DD
  refine⟨by simp;omega,hm,fun t ht=>?_⟩
  rw[hT t ht]
  have hlen:=DD.len
  by_cases e:0≤t∧t<0+args.len
  · rw[if_pos e,Nat.sub_zero]
    obtain⟨u,h1,h2⟩:=DD.nth t (by omega)
    have:(vs.toArray++Array.replicate (fn.ntmps-vs.toArray.size) undef).getD t undef=u:=by
     rw[Array.getD_eq_getD_getElem?,Array.getElem?_append_left (by simp;omega)]
     simp[h1]
    rw[this];exact h2
  rw[if_neg e,aOI];exact trivial
 have fin:∀{e:Exit} {T':Ev.T} {S':St},(e=.normal∨e=.ret)→EP P fn T' S' (fun v=>k v S')=.ok r s→Says P (.code c) fn.ntmps T S e T' S'→∃v S',k v S'=.ok r s∧QK P g args S v S':=by
  intro e T' S' he hr hs
  obtain⟨v,h,hv⟩:=aNZ hr
  refine⟨v,S',h,⟨fn,hf,hg⟩,fun {ι vs w} DD hh=>?_⟩
  refine calls_of_wp hf hc (wp_mono (hs (start DD) hh) ?_)
  rintro e' a' w' ⟨rfl,κ,ra,kC,hx,hd⟩
  obtain⟨u,h1,h2⟩:=hv ra kC
  rcases he with rfl|rfl
  · exact⟨hd,u,h1,u,κ,rfl,h2,kC,hx⟩
  exact⟨hd,u,h1,u,κ,rfl,h2,kC,hx⟩
 rcases fX h with⟨T',S',h,hs⟩|⟨x,T',S',h,hs⟩
 · exact fin (.inl rfl) h hs
 cases x with
 |rt=>exact fin (.inr rfl) h hs
 |ex=>exact (R.bA h).elim
 |gt=>exact (R.bA h).elim
def isRec (o:Oper):Bool:=match o.op,o.guard with
 |.call c,none=>match c.callee with
   |.builtin .recover=>true
   |_=>false
 |_,_=>false
theorem TX {ops:Array Oper} {Q0:Exit→Act→World→Prop} {Q:Exit→Act→List Frame→World→Prop} {cs:List Frame} (hn:∀e a w,Q0 e a w→e=.normal) (hq:∀a w,Q0 .normal a w→Q .normal a cs w):
 ∀{l:List Nat} {a:Act} {w:World},wpOps P ops Q0 l a w→wpOpsS P ops Q l a cs w
 | [],a,w,h=>hq _ _ h
 |i::l,a,w,h=>by
   simp only[wpOps] at h
   simp only[wpOpsS]
   cases ho:ops[i]? with
   |none=>simp only[ho] at h ⊢;exact TX hn hq h
   |some o=>
    simp only[ho] at h ⊢
    split
    rotate_left
    · rename_i hw
      rw[if_neg hw] at h
      exact TX hn hq h
    rename_i hw
    rw[if_pos hw] at h
    have h:o.wp P a w (wpOps P ops Q0 l) Q0:=h.resolve_right fun hh=>by
     obtain⟨_,a',w',h2⟩:=hh
     cases hn _ _ _ h2
    unfold Oper.wp at h
    generalize (execOp a.eval o).run P w=r at h ⊢
    cases r with
    |ok n w'=>
     cases n<;>simp only[Oper.upon] at h ⊢<;>first
      |exact TX hn hq h
      |exact h.elim
      |exact Rows.mono h fun v w hv=>TX hn hq hv
      |exact Calls.mono h fun e w he=>by
        cases e with
        |returned v=>exact TX hn hq he
        |panicked c=>cases hn _ _ _ he
        |outgrown=>obtain⟨a',w',h2⟩:=he;cases hn _ _ _ h2
    |halt x w'=>
     cases x<;>simp only[Oper.upon] at h ⊢<;>first
      |exact h.elim
      |cases hn _ _ _ h
theorem TW {ops:Array Oper} {Q0 Q:Exit→Act→World→Prop} {l2:List Nat} (hn:∀e a w,Q0 e a w→e=.normal) (hq:∀a w,Q0 .normal a w→wpOps P ops Q l2 a w):
 ∀{l:List Nat} {a:Act} {w:World},wpOps P ops Q0 l a w→wpOps P ops Q (l++l2) a w
 | [],a,w,h=>hq _ _ h
 |i::l,a,w,h=>by
   rw[List.cons_append]
   simp only[wpOps] at h ⊢
   cases ho:ops[i]? with
   |none=>simp only[ho] at h ⊢;exact TW hn hq h
   |some o=>
    simp only[ho] at h ⊢
    split
    rotate_left
    · rename_i hw
      rw[if_neg hw] at h
      exact TW hn hq h
    rename_i hw
    rw[if_pos hw] at h
    have h:o.wp P a w (wpOps P ops Q0 l) Q0:=h.resolve_right fun hh=>by
     obtain⟨_,a',w',h2⟩:=hh
     cases hn _ _ _ h2
    refine .inl ?_
    unfold Oper.wp at h ⊢
    generalize (execOp a.eval o).run P w=r at h ⊢
    cases r with
    |ok n w'=>
     cases n<;>simp only[Oper.upon] at h ⊢<;>first
      |exact TW hn hq h
      |exact h.elim
      |exact Rows.mono h fun v w hv=>TW hn hq hv
      |exact Calls.mono h fun e w he=>by
        cases e with
        |returned v=>exact TW hn hq he
        |panicked c=>cases hn _ _ _ he
        |outgrown=>obtain⟨a',w',h2⟩:=he;cases hn _ _ _ h2
    |halt x w'=>
     cases x<;>simp only[Oper.upon] at h ⊢<;>first
      |exact h.elim
      |cases hn _ _ _ h
def YU (P:Program) (ev:Ev) (g:Nat) (l:AV) (S:St) (k:St→R):R:=match P.funcs[g]? with
 |some fn=>aS (pV fn) (match fn.body with
   |some (.seq (.region _ ops false) rest)=>match ops[0]? with
     |some o=>match o.dst with
       |some d=>aS (isRec o) (LA l 0 pG fun T=>ER fn.ntmps (some d) .inil T fun T=>ev (.ops ops 1 (Nat.sub ops.size 1)) fn.ntmps T S (fun T S=>
        ev (.code rest) fn.ntmps T S (fun T S=>EP P fn T S fun _=>k S) (fun e T S=>match e with
         |.rt=>EP P fn T S fun _=>k S
         |_=>.bad 106)) (fun _ _ _=>.bad 117))
       |none=>.bad 107
     |none=>.bad 107
   |_=>.bad 108)
 |none=>.bad 109
def a1A (P:Program) (g:Nat) (l:AV) (S S':St):Prop:=(∃fn,P.funcs[g]?=some fn∧pV fn=true)∧∀{ι:aH} {vs:List Value} {w:World},RL ι l vs→HR ι S w→
 CallsD P g vs.toArray .returning w fun e u w'=>u=.returning∧∃v κ,e=.returned v∧HR κ S' w'∧Ext ι w κ w'
theorem aZV {fn:Func} (hm:fn.ntmps≤256) {l:AV} {T:T} (hT:∀t,t<256→yA t T=if 0≤t∧t<0+l.len then l.nth (t-0) else yA t pG) {ds:List Deferred} {ι:aH} {vs:List Value} (DD:RL ι l vs):
 RA ι fn.ntmps T { tmps:=vs.toArray++Array.replicate (fn.ntmps-vs.toArray.size) undef,defers:=ds }:=by
 refine⟨by simp;omega,hm,fun t ht=>?_⟩
 rw[hT t ht]
 have hlen:=DD.len
 by_cases e:0≤t∧t<0+l.len
 · rw[if_pos e,Nat.sub_zero]
   obtain⟨u,h1,h2⟩:=DD.nth t (by omega)
   have:(vs.toArray++Array.replicate (fn.ntmps-vs.toArray.size) undef).getD t undef=u:=by
    rw[Array.getD_eq_getD_getElem?,Array.getElem?_append_left (by simp;omega)]
    simp[h1]
   rw[this];exact h2
 rw[if_neg e,aOI];exact trivial
theorem a0V {fn:Func} (hg:pV fn=true):fn.ntmps≤256:=by
 unfold pV at hg
 split at hg
 · rename_i h;exact Nat.le_of_ble_eq_true h
 cases hg
theorem bIA {ev:Ev} (fX:yG P ev) {g:Nat} {l:AV} {S:St} {k:St→R} {r:AV} {s:St} (h:YU P ev g l S k=.ok r s):
 ∃S',k S'=.ok r s∧a1A P g l S S':=by
 unfold YU at h
 split at h
 rotate_left
 · exact (R.bA h).elim
 rename_i fn hf
 obtain⟨hg,h⟩:=cI h
 have hm:=a0V hg
 split at h
 rotate_left
 · exact (R.bA h).elim
 rename_i id ops rest hb
 split at h
 rotate_left
 · exact (R.bA h).elim
 rename_i o ho
 split at h
 rotate_left
 · exact (R.bA h).elim
 rename_i d hd
 obtain⟨ZG,h⟩:=cI h
 obtain⟨T0,h,hl,hT0⟩:=aDZ h
 obtain⟨T1,h,MI⟩:=aN1 h
 have hro:o.guard=none∧∀(ρ:Operand→Value) (w:World),(execOp ρ o).run P w=.ok .recover w:=by
  unfold isRec at ZG
  split at ZG
  rotate_left
  · cases ZG
  rename_i c ho hgu
  split at ZG
  · rename_i hc
    refine⟨hgu,fun ρ w=>?_⟩
    unfold execOp;rw[ho]
    simp only[resolve,hc,Sem.run_bind,Sem.run_pure,Result.andThen_ok,invoke]
    rfl
  cases ZG
 obtain⟨n,hn⟩:∃n,ops.size=n+1:=⟨ops.size-1,by have:=(Array.getElem?_eq_some_iff.1 ho).1;omega⟩
 rcases fX h with⟨T2,S2,h,hs2⟩|⟨x,T2,S2,h,hs2⟩
 rotate_left
 · exact (R.bA h).elim
 have fin:∀{e:Exit} {T':Ev.T} {S':St},(e=.normal∨e=.ret)→EP P fn T' S' (fun _=>k S')=.ok r s→Says P (.code rest) fn.ntmps T2 S2 e T' S'→∃S',k S'=.ok r s∧a1A P g l S S':=by
  intro e T' S' he hr hs
  obtain⟨v,h,hv⟩:=aNZ hr
  refine⟨S',h,⟨fn,hf,hg⟩,fun {ι vs w} DD hh=>callsD_of_wpS hf hb fun c₀ cs hc₀=>wpS_seq (wpS_region ?_)⟩
  have bPD:recoverD (c₀::cs)=none:=by simp only[recoverD,hc₀]
  have ra0:=aZV hm hT0 (ds:=[]) DD
  have ra1:=MI ra0 (u:=.nilIface) rfl
  have mO:∀y,Region.wanted o y=true:=fun y=>by unfold Region.wanted;rw[hro.1]
  rw[hn,List.range_eq_range',List.range'_succ]
  simp only[wpOpsS,ho,mO,if_true,hro.2,bPD,hd]
  have Y3:=hs2 ra1 hh
  rw[show Nat.sub ops.size 1=n by rw[hn];rfl] at Y3
  refine TX (fun e a w hp=>hp.1) ?_ Y3
  rintro a2 w2 ⟨-,κ2,V2,hr2,hx2,hd2⟩
  refine wpS_of_wp (wp_mono (hs V2 hr2) ?_)
  rintro e' a' w' ⟨rfl,κ,ra,kC,hx,qP⟩
  obtain⟨u,h1,h2⟩:=hv ra kC
  have hc:c₀={ c₀ with mode:=.returning }:=by rw[←hc₀]
  have qP:a'.defers=[]:=qP.trans hd2
  rcases he with rfl|rfl
  · exact⟨qP,.returning,by rw[←hc],u,h1,rfl,u,κ,rfl,kC,hx2.trans hx⟩
  exact⟨qP,.returning,by rw[←hc],u,h1,rfl,u,κ,rfl,kC,hx2.trans hx⟩
 rcases fX h with⟨T',S',h,hs⟩|⟨x,T',S',h,hs⟩
 · exact fin (.inl rfl) h hs
 cases x with
 |rt=>exact fin (.inr rfl) h hs
 |ex=>exact (R.bA h).elim
 |gt=>exact (R.bA h).elim
def aP3 (p:Oper):Option Operand:=match p.op,p.dst,p.guard with
 |.defer c,none,none=>match c.callee,c.args with
   |.value x,⟨[]⟩=>some x
   |_,_=>none
 |_,_,_=>none
def aQ0 (c:Code):Option (Code×Array Oper×Operand×Code):=match c with
 |.seq r0 (.seq (.region id ops false) rest)=>match ops[Nat.sub ops.size 1]? with
   |some p=>match aP3 p with
     |some x=>some (r0,ops,x,rest)
     |none=>none
   |none=>none
 |_=>none
def aQM (P:Program) (ev:Ev) (fn:Func) (r0:Code) (ops:Array Oper) (x:Operand) (rest:Code) (args:AV) (S:St) (k:K):R:=LA args 0 pG fun T=>
 ev (.code r0) fn.ntmps T S (fun T S=>ev (.ops ops 0 (Nat.sub ops.size 1)) fn.ntmps T S (fun T S=>aI9 (aY x T) fun g first cap=>match first with
  |.nl=>ev (.code rest) fn.ntmps T S (fun T S=>YU P ev g cap S fun S=>EP P fn T S fun v=>k v S) (fun e T S=>match e with
    |.rt=>YU P ev g cap S fun S=>EP P fn T S fun v=>k v S
    |_=>.bad 110)
  |_=>.bad 116) (fun _ _ _=>.bad 118)) (fun _ _ _=>.bad 111)
def U2 (P:Program) (ev:Ev) (fn:Func) (c:Code) (args:AV) (S:St) (k:K):R:=match aQ0 c with
 |none=>aQL P ev fn c args S k
 |some (r0,ops,x,rest)=>aQM P ev fn r0 ops x rest args S k
theorem bGO {g:Nat} {fn:Func} (hf:P.funcs[g]?=some fn) (hg:pV fn=true) (args:Array Value) (w:World):(callFunc g args).run P w=.ok (.enter g args) w:=by
 have h2:(fn.name == "runtime.NumGoroutine")=false:=by unfold pV at hg;split at hg;assumption;cases hg
 have h3:fn.body.isNone=false:=by unfold pV at hg;split at hg;rename_i hb _;rw[hb];rfl;cases hg
 simp only[callFunc,Sem.run_bind,run_program,Result.andThen_ok,hf,h2,h3,Bool.false_eq_true,if_false]
 rfl
theorem bKJ {ev:Ev} (fX:yG P ev) {g:Nat} {fn:Func} (hf:P.funcs[g]?=some fn) (hg:pV fn=true) {r0 rest:Code} {id:Nat} {ops:Array Oper} {p:Oper} {x:Operand}
 (hc:fn.body=some (.seq r0 (.seq (.region id ops false) rest))) (ho:ops[Nat.sub ops.size 1]?=some p) (hp:aP3 p=some x) {args:AV} {S:St} {k:K} {r:AV} {s:St} (h:aQM P ev fn r0 ops x rest args S k=.ok r s):
 ∃v S',k v S'=.ok r s∧QK P g args S v S':=by
 have hm:=a0V hg
 obtain⟨T0,h,hl,hT0⟩:=aDZ h
 have hpp:p.guard=none∧p.dst=none∧∀(ρ:Operand→Value) (w:World) (g':Nat) (c:Array Value),ρ x=.func (.func g') #[] c→(execOp ρ p).run P w=.ok (.defer { target:=.fn (.func g') c,args:=#[] }) w:=by
  unfold aP3 at hp
  split at hp
  rotate_left
  · cases hp
  rename_i c h1 h2 h3
  split at hp
  · rename_i t h4 h5
    cases hp
    refine⟨h3,h2,fun ρ w g' cap he=>?_⟩
    unfold execOp;rw[h1]
    simp only[resolve,h4,h5,he,Deferred.ofValue,Sem.run_bind,Sem.run_pure,Result.andThen_ok,List.map_toArray,List.map_nil,Array.append_empty]
  cases hp
 have hw2:∀y,Region.wanted p y=true:=fun y=>by unfold Region.wanted;rw[hpp.1]
 obtain⟨n,hn⟩:∃n,ops.size=n+1:=⟨ops.size-1,by have h1:=(Array.getElem?_eq_some_iff.1 ho).1;have h2:Nat.sub ops.size 1=ops.size-1:=rfl;omega⟩
 have hno:Nat.sub ops.size 1=n:=by rw[hn];rfl
 rw[hno] at ho
 rcases fX h with⟨T1,S1,h,hs1⟩|⟨x,T1,S1,h,hs1⟩
 rotate_left
 · exact (R.bA h).elim
 rcases fX h with⟨T2,S2,h,hs2⟩|⟨x,T2,S2,h,hs2⟩
 · obtain⟨g',first,cap,hx0,h⟩:=a1V h
   split at h
   rotate_left
   · exact (R.bA h).elim
   have fin:∀{e:Exit} {T3:Ev.T} {S3:St},(e=.normal∨e=.ret)→YU P ev g' cap S3 (fun S=>EP P fn T3 S fun v=>k v S)=.ok r s→Says P (.code rest) fn.ntmps T2 S2 e T3 S3→∃v S',k v S'=.ok r s∧QK P g args S v S':=by
    intro e T3 S3 he h hs3
    obtain⟨S4,h,⟨fn',hf',hg'⟩,cC⟩:=bIA fX h
    obtain⟨v,h,hv⟩:=aNZ h
    refine⟨v,S4,h,⟨fn,hf,hg⟩,fun {ι vs w} DD hh=>calls_of_wp_defers hf hc (wp_seq (wp_mono (hs1 (aZV hm hT0 DD) hh) ?_))⟩
    rintro e1 a1 w1 ⟨rfl,κ1,ra1,hr1,hx1,hd1⟩
    refine wp_seq (wp_region ?_)
    rw[hn,List.range_succ,List.range_eq_range']
    have Y3:=hs2 ra1 hr1
    rw[hno] at Y3
    refine TW (fun e a w hp=>hp.1) ?_ Y3
    rintro a2 w2 ⟨-,κ2,V2,hr2,hx2,hd2⟩
    have e1:=bD V2 x;rw[hx0] at e1
    obtain⟨f1,c1,e1,e2,e3⟩:=e1
    have AA:f1=#[]:=by
     have e2:f1.toList=[]:=e2
     simpa using e2
    subst AA
    simp only[wpOps,ho,hw2,if_true,Oper.wp,hpp.2.2 _ w2 g' c1 e1,Oper.upon_defer,hpp.2.1]
    refine .inl ?_
    have bP4:RA κ2 fn.ntmps T2 { a2 with defers:=[{ target:=.fn (.func g') c1,args:=#[] }] }:=⟨V2.size,V2.le,V2.val⟩
    have hdd:a2.defers=[]:=hd2.trans hd1
    show (rest.wp P _ ({ a2 with defers:=_::a2.defers }:Act) w2)
    rw[hdd]
    refine wp_mono (hs3 bP4 hr2) ?_
    rintro e3' a3 w3 ⟨rfl,κ3,ra3,hr3,hx3,hd3⟩
    have hd3:a3.defers=[{ target:=.fn (.func g') c1,args:=#[] }]:=hd3
    have hle:Leaves P fn a3.tmps (fun e w'=>∃u κ,e=.returned u∧RV κ v u∧HR κ S4 w'∧Ext ι w κ w') a3.defers .returning w3:=by
     rw[hd3]
     refine leaves_cons (fun e=>by cases e) (args:=#[]++c1) (bGO hf' hg' _ _) ?_
     have bRE:=cC (vs:=c1.toList) (e3.mono hx3.le) hr3
     rw[show (#[]++c1:Array Value)=c1.toList.toArray by simp]
     refine CallsD.mono bRE ?_
     rintro e4 u4 w4 ⟨rfl,v4,κ4,rfl,hr4,hx4⟩
     obtain⟨z,k1,k2⟩:=hv (ra3.mono hx4.le) hr4
     exact⟨z,k1,z,κ4,rfl,k2,hr4,(((hx1.trans hx2).trans hx3).trans hx4)⟩
    rcases he with rfl|rfl
    · exact hle
    exact hle
   rcases fX h with⟨T3,S3,h,hs3⟩|⟨x,T3,S3,h,hs3⟩
   · exact fin (.inl rfl) h hs3
   cases x with
   |rt=>exact fin (.inr rfl) h hs3
   |ex=>exact (R.bA h).elim
   |gt=>exact (R.bA h).elim
 exact (R.bA h).elim
theorem bKH {ev:Ev} (fX:yG P ev) {g:Nat} {fn:Func} (hf:P.funcs[g]?=some fn) (hg:pV fn=true) {c:Code} (hc:fn.body=some c) {args:AV} {S:St} {k:K} {r:AV} {s:St} (h:U2 P ev fn c args S k=.ok r s):
 ∃v S',k v S'=.ok r s∧QK P g args S v S':=by
 unfold U2 at h
 split at h
 · exact bKI fX hf hg hc h
 rename_i r0 ops x rest ho
 unfold aQ0 at ho
 split at ho
 rotate_left
 · cases ho
 split at ho
 · rename_i p hp
   split at ho
   · rename_i x2 hx2
     cases ho
     exact bKJ fX hf hg hc hp hx2 h
   cases ho
 cases ho
def aIY (P:Program) (M:l4) (ev:Ev) (S:St) (g:Nat) (args:AV) (k:K):R:=match M g args S with
 |some (v,S')=>k v S'
 |none=>match P.funcs[g]? with
   |some fn=>aS (pV fn) (match fn.body with
     |some c=>U2 P ev fn c args S k
     |none=>.bad 94)
   |none=>.bad 95
theorem aNQ {M:l4} (hM:I_ P M) {ev:Ev} (fX:yG P ev) {S:St} {g:Nat} {args:AV} {k:K} {r:AV} {s:St} (h:aIY P M ev S g args k=.ok r s):
 ∃v S',k v S'=.ok r s∧QK P g args S v S':=by
 unfold aIY at h
 split at h
 · rename_i v S' hm
   exact⟨v,S',h,hM _ _ _ _ _ hm⟩
 split at h
 · rename_i fn hf
   obtain⟨hg,h⟩:=cI h
   split at h
   · rename_i c hc
     exact bKH fX hf hg hc h
   exact (R.bA h).elim
 exact (R.bA h).elim
def doK (P:Program) (M:l4) (ev:Ev) (x:Kd) (T:T) (S:St) (k:K):R:=match x with
 |.pure f=>f T fun v=>k v S
 |.load f=>f T S.h fun v=>k v S
 |.make f=>f T fun b mk=>OA S b fun i S=>k (mk i) S
 |.eff f=>f T S k
 |.call f=>f T fun g l=>aIY P M ev S g l k
 |.no=>.bad 96
theorem a27 {M:l4} (hM:I_ P M) {ev:Ev} (fX:yG P ev) {o:Oper} {x:Kd} (hx:fO P o x) {T:T} {S:St} {k:K} {r:AV} {s:St} (h:doK P M ev x T S k=.ok r s):
 ∃v S',k v S'=.ok r s∧∀{ι:aH} {m:Nat} {a:Act} {w:World},RA ι m T a→HR ι S w→∀{next:Act→World→Prop} {Q:Exit→Act→World→Prop},
  (∀κ u w',RV κ v u→HR κ S' w'→Ext ι w κ w'→next (a.put o.dst u) w')→o.wp P a w next Q:=by
 cases x with
 |pure f=>
  obtain⟨v,h,hv⟩:=hx h
  refine⟨v,S,h,fun {ι m a w} ra hr {next Q} hn=>?_⟩
  obtain⟨u,h1,h2⟩:=hv (w:=w) ra
  unfold Oper.wp
  rw[h1,Oper.upon_value]
  exact hn ι u w h2 hr (Ext.refl _ _)
 |load f=>
  obtain⟨v,h,hv⟩:=hx h
  refine⟨v,S,h,fun {ι m a w} ra hr {next Q} hn=>?_⟩
  obtain⟨u,h1,h2⟩:=hv ra (n:=S.n) hr
  unfold Oper.wp
  rw[h1,Oper.upon_value]
  exact hn ι u w h2 hr (Ext.refl _ _)
 |make f=>
  obtain⟨b,mk,h,hb,hv⟩:=hx h
  obtain⟨hlt,h⟩:=X_ h
  refine⟨_,_,h,fun {ι m a w} ra hr {next Q} hn=>?_⟩
  obtain⟨ob,sz,u,h1,h2,h3⟩:=hv (w:=w) ra
  have PQ:ι S.n=none:=hr.fresh _ (Nat.le_refl _)
  have GQ:=(hr.YE hlt b).make (b:=S.n) PQ (fun h'=>Nat.lt_irrefl _ (hr.sW _ h')) (Nat.lt_succ_self _) ⟨w.heap.size,0,sz⟩ (w':=w.alloc ob) rfl rfl rfl (by simp) (fun k hk=>heap_alloc_old hk) (Nat.le_refl _) (by
   show RO _ (bZ S.n (dY S.n b S.h)) _ _
   rw[KQ];exact h2 _ (aH.NM PQ _))
  unfold Oper.wp
  rw[h1,Oper.upon_value]
  exact hn _ u _ (h3 _ _ (aH.BC _ _ _)) GQ.1 GQ.2
 |eff f=>
  obtain⟨v,S',h,hv⟩:=hx h
  refine⟨v,S',h,fun {ι m a w} ra hr {next Q} hn=>?_⟩
  obtain⟨nx,w',κ,u,h1,h2,h3,h4,h5⟩:=hv ra hr
  unfold Oper.wp
  rw[h1]
  rcases h2 with rfl|⟨rfl,rfl⟩
  · rw[Oper.upon_value];exact hn κ u w' h3 h4 h5
  rw[Oper.upon_skip];exact hn κ undef w' h3 h4 h5
 |call f=>
  obtain⟨g,l,h,hv⟩:=hx h
  obtain⟨v,S',h,⟨fn,hf,hg⟩,hc⟩:=aNQ hM fX h
  refine⟨v,S',h,fun {ι m a w} ra hr {next Q} hn=>?_⟩
  obtain⟨vs,h1,h2⟩:=hv (w:=w) ra
  have h3:=h2 fn hf (by unfold pV at hg;split at hg;assumption;cases hg) (by unfold pV at hg;split at hg;rename_i hb _;rw[hb];rfl;cases hg)
  unfold Oper.wp
  rw[h3,Oper.upon_enter]
  refine (hc h1 hr).mono ?_
  rintro e w' ⟨u,κ,rfl,g1,g2,g3⟩
  exact hn κ u w' g1 g2 g3
 |no=>exact (R.bA h).elim
def NR (P:Program) (M:l4) (ev:Ev) (ops:Array Oper) (m:Nat) (o:Oper) (T:T) (S:St) (k:KN):R:=
 I8 ops o.guard T (ER m o.dst (.tup .nl) T fun T=>k T S) (doK P M ev (kd P o.op) T S fun v S=>ER m o.dst v T fun T=>k T S)
def LF (P:Program) (M:l4) (ev:Ev) (ops:Array Oper) (m:Nat) (l:List Oper):T→St→KN→R:=List.rec (motive:=fun _=>T→St→KN→R)
 (fun T S k=>k T S) (fun o _ ih T S k=>NR P M ev ops m o T S fun T S=>ih T S k) l
end
noncomputable section
variable {P:Program}
theorem bIY {M:l4} (hM:I_ P M) {ev:Ev} (fX:yG P ev) {ops:Array Oper} {m:Nat} {o:Oper} {T:T} {S:St} {k:KN} {r:AV} {s:St} (h:NR P M ev ops m o T S k=.ok r s):
 ∃T' S',k T' S'=.ok r s∧∀{i:Nat},ops[i]?=some o→∀{ι:aH} {a:Act} {w:World},RA ι m T a→HR ι S w→∀{rest:List Nat} {Q:Exit→Act→World→Prop},
  (∀κ a' w',RA κ m T' a'→HR κ S' w'→Ext ι w κ w'→a'.defers=a.defers→wpOps P ops Q rest a' w')→wpOps P ops Q (i::rest) a w:=by
 obtain⟨b,h,hb⟩:=aDR h
 cases b with
 |false=>
  rw[if_neg (by decide)] at h
  obtain⟨T',h,hT⟩:=aN1 h
  refine⟨T',S,h,fun {i} ho {ι a w} ra hr {rest Q} hn=>?_⟩
  simp only[wpOps,ho,hb ra,Bool.false_eq_true,if_false]
  exact hn ι _ w (hT ra ⟨#[],rfl,rfl⟩) hr (Ext.refl _ _) (aMN _ _ _)
 |true=>
  rw[if_pos rfl] at h
  obtain⟨v,S',h,hv⟩:=a27 hM fX aIN h
  obtain⟨T',h,hT⟩:=aN1 h
  refine⟨T',S',h,fun {i} ho {ι a w} ra hr {rest Q} hn=>?_⟩
  simp only[wpOps,ho,hb ra,if_true]
  exact .inl (hv ra hr fun κ u w' h1 h2 h3=>hn κ _ w' (hT (ra.mono h3.le) h1) h2 h3 (aMN _ _ _))
theorem aN4 {M:l4} (hM:I_ P M) {ev:Ev} (fX:yG P ev) {ops:Array Oper} {m:Nat}:∀{l:List Oper} {T:T} {S:St} {k:KN} {r:AV} {s:St},LF P M ev ops m l T S k=.ok r s→
 ∃T' S',k T' S'=.ok r s∧∀{i:Nat},(∀j o,l[j]?=some o→ops[i+j]?=some o)→∀{ι:aH} {a:Act} {w:World},RA ι m T a→HR ι S w→∀{Q:Exit→Act→World→Prop},
  (∀κ a' w',RA κ m T' a'→HR κ S' w'→Ext ι w κ w'→a'.defers=a.defers→Q .normal a' w')→wpOps P ops Q (List.range' i l.length) a w
 | [],T,S,k,r,s,h=>⟨T,S,h,fun {i} _ {ι a w} ra hr {Q} hn=>hn ι a w ra hr (Ext.refl _ _) rfl⟩
 |o::l,T,S,k,r,s,h=>by
   have h:NR P M ev ops m o T S (fun T S=>LF P M ev ops m l T S k)=.ok r s:=h
   obtain⟨T1,S1,h,h1⟩:=bIY hM fX h
   obtain⟨T2,S2,h,h2⟩:=aN4 hM fX h
   refine⟨T2,S2,h,fun {i} hl {ι a w} ra hr {Q} hn=>?_⟩
   rw[List.length_cons,List.range'_succ]
   refine h1 (hl 0 o rfl) ra hr fun κ a' w' g1 g2 g3 g4=>?_
   refine h2 (i:=i+1) (fun j o' hj=>by have:=hl (j+1) o' hj;rwa [show i+(j+1)=i+1+j by omega] at this) g1 g2 fun κ' a'' w'' k1 k2 k3 k4=>?_
   exact hn κ' a'' w'' k1 k2 (g3.trans k3) (k4.trans g4)
abbrev LB:=l4→Ev→Nat→Array Oper→T→St→KN→R
def aEF (P:Program) (D:LB):Prop:=∀{M:l4},I_ P M→∀{ev:Ev},yG P ev→∀{m:Nat} {ops:Array Oper} {T:T} {S:St} {k:KN} {r:AV} {s:St},D M ev m ops T S k=.ok r s→
 ∃T' S',k T' S'=.ok r s∧∀{id:Nat} {ι:aH} {a:Act} {w:World},RA ι m T a→HR ι S w→(Code.region id ops true).wp P (Post ι w m a.defers .normal T' S') a w
def bP3 (P:Program) (D:LB) (M:l4) (ev:Ev) (m:Nat) (ops:Array Oper) (draw:Bool):T→St→KN→R:=Bool.rec (motive:=fun _=>T→St→KN→R)
 (fun T S k=>LF P M ev ops m ops.toList T S k) (fun T S k=>D M ev m ops T S k) draw
abbrev Mo:=T→St→KN→KX→R
def YW (id:Nat) (kn:KN) (kx:KX) (e:Ex) (T:T) (S:St):R:=match e with
 |.ex i=>Bool.rec (motive:=fun _=>R) (kx (.ex i) T S) (kn T S) (Nat.beq i id)
 |e=>kx e T S
def aEK (ev:Ev) (m:Nat) (body:Code) (kn:KN) (kx:KX) (e:Ex) (T:T) (S:St):R:=match e with
 |.gt l=>match findLabel body l with
   |some rest=>ev (.scope rest body) m T S kn kx
   |none=>kx (.gt l) T S
 |e=>kx e T S
def nJ (P:Program) (D:LB) (M:l4) (ev:Ev) (m:Nat) (c:Code):Mo:=Code.rec (motive:=fun _=>Mo)
 (fun T S kn kx=>kn T S)
 (fun _ ops draw T S kn kx=>bP3 P D M ev m ops draw T S kn)
 (fun _ _ DC DB T S kn kx=>DC T S (fun T S=>DB T S kn kx) kx)
 (fun c _ _ DC DB T S kn kx=>FZ (aY c T) (DC T S kn kx) (DB T S kn kx))
 (fun id _ ih T S kn kx=>ih T S kn (YW id kn kx))
 (fun b _ T S kn kx=>ev (.loop b) m T S kn kx)
 (fun _ _ _ _ _ _ T S kn kx=>.bad 97)
 (fun id T S kn kx=>kx (.ex id) T S)
 (fun b _ T S kn kx=>ev (.scope b b) m T S kn kx)
 (fun _ T S kn kx=>kn T S)
 (fun l T S kn kx=>kx (.gt l) T S)
 (fun T S kn kx=>kx .rt T S)
 (fun _ T S kn kx=>.bad 98) c
theorem Post.trans {ι κ:aH} {w v:World} {m:Nat} {ds ds':List Deferred} {e:Exit} {T:T} {S:St} (h:Ext ι w κ v) (hd:ds'=ds) {e':Exit} {a:Act} {u:World} (hp:Post κ v m ds' e T S e' a u):Post ι w m ds e T S e' a u:=by
 obtain⟨h1,μ,h2,h3,h4,h5⟩:=hp
 exact⟨h1,μ,h2,h3,h.trans h4,h5.trans hd⟩
theorem aOT {D:LB} (hD:aEF P D) {M:l4} (hM:I_ P M) {ev:Ev} (fX:yG P ev) {m:Nat}:∀{c:Code} {T:T} {S:St} {kn:KN} {kx:KX} {r:AV} {s:St},nJ P D M ev m c T S kn kx=.ok r s→
 (∃T' S',kn T' S'=.ok r s∧Says P (.code c) m T S .normal T' S')∨∃x T' S',kx x T' S'=.ok r s∧Says P (.code c) m T S (QN x) T' S':=by
 intro c
 induction c with
 |skip=>exact fun {T S kn kx r s} h=>.inl ⟨T,S,h,fun {ι a w} ra hr=>wp_skip ⟨rfl,ι,ra,hr,Ext.refl _ _,rfl⟩⟩
 |region id ops draw=>
  intro T S kn kx r s h
  cases draw with
  |false=>
   obtain⟨T',S',h,hs⟩:=aN4 hM fX (show LF P M ev ops m ops.toList T S kn=.ok r s from h)
   refine .inl ⟨T',S',h,fun {ι a w} ra hr=>wp_region ?_⟩
   have:=hs (i:=0) (fun j o hj=>by rw[Nat.zero_add,←Array.getElem?_toList];exact hj) ra hr (Q:=Post ι w m a.defers .normal T' S') fun κ a' w' g1 g2 g3 g4=>⟨rfl,κ,g1,g2,g3,g4⟩
   rw[Array.length_toList,←List.range_eq_range'] at this
   exact this
  |true=>
   obtain⟨T',S',h,hs⟩:=hD hM fX (show D M ev m ops T S kn=.ok r s from h)
   exact .inl ⟨T',S',h,fun {ι a w} ra hr=>hs ra hr⟩
 |seq x y oZ DA=>
  intro T S kn kx r s h
  rcases oZ (show nJ P D M ev m x T S (fun T S=>nJ P D M ev m y T S kn kx) kx=.ok r s from h) with⟨T1,S1,h,h1⟩|⟨e,T1,S1,h,h1⟩
  · rcases DA h with⟨T2,S2,h,h2⟩|⟨e,T2,S2,h,h2⟩
    · refine .inl ⟨T2,S2,h,fun {ι a w} ra hr=>wp_seq (wp_mono (h1 ra hr) ?_)⟩
      rintro e a' w' ⟨rfl,κ,g1,g2,g3,g4⟩
      exact wp_mono (h2 g1 g2) fun e a w hp=>hp.trans g3 g4
    refine .inr ⟨e,T2,S2,h,fun {ι a w} ra hr=>wp_seq (wp_mono (h1 ra hr) ?_)⟩
    rintro e a' w' ⟨rfl,κ,g1,g2,g3,g4⟩
    exact wp_mono (h2 g1 g2) fun e a w hp=>hp.trans g3 g4
  refine .inr ⟨e,T1,S1,h,fun {ι a w} ra hr=>wp_seq (wp_mono (h1 ra hr) ?_)⟩
  rintro e' a' w' ⟨rfl,hp⟩
  cases e<;>exact⟨rfl,hp⟩
 |cond c x y oZ DA=>
  intro T S kn kx r s h
  rcases aDP (show FZ (aY c T) (nJ P D M ev m x T S kn kx) (nJ P D M ev m y T S kn kx)=.ok r s from h) with⟨hc,h⟩|⟨hc,h⟩
  · have Y4:∀{ι:aH} {a:Act},RA ι m T a→a.eval c=.bool true:=fun ra=>by
     have e:=bD ra c;rw[hc] at e;exact e
    rcases oZ h with⟨T',S',h,h1⟩|⟨e,T',S',h,h1⟩
    · exact .inl ⟨T',S',h,fun {ι a w} ra hr=>wp_cond_true (Y4 ra) (h1 ra hr)⟩
    exact .inr ⟨e,T',S',h,fun {ι a w} ra hr=>wp_cond_true (Y4 ra) (h1 ra hr)⟩
  have Y4:∀{ι:aH} {a:Act},RA ι m T a→a.eval c=.bool false:=fun ra=>by
   have e:=bD ra c;rw[hc] at e;exact e
  rcases DA h with⟨T',S',h,h1⟩|⟨e,T',S',h,h1⟩
  · exact .inl ⟨T',S',h,fun {ι a w} ra hr=>wp_cond_false (Y4 ra) (h1 ra hr)⟩
  exact .inr ⟨e,T',S',h,fun {ι a w} ra hr=>wp_cond_false (Y4 ra) (h1 ra hr)⟩
 |block id b ih=>
  intro T S kn kx r s h
  rcases ih (show nJ P D M ev m b T S kn (YW id kn kx)=.ok r s from h) with⟨T',S',h,h1⟩|⟨e,T',S',h,h1⟩
  · refine .inl ⟨T',S',h,fun {ι a w} ra hr=>wp_block (wp_mono (h1 ra hr) ?_)⟩
    rintro e' a' w' ⟨rfl,hp⟩
    exact⟨rfl,hp⟩
  cases e with
  |ex i=>
   have h0:(Bool.rec (motive:=fun _=>R) (kx (.ex i) T' S') (kn T' S') (Nat.beq i id))=.ok r s:=h
   clear h
   cases hb:Nat.beq i id with
   |true=>
    rw[hb] at h0
    obtain rfl:=Nat.eq_of_beq_eq_true hb
    refine .inl ⟨T',S',h0,fun {ι a w} ra hr=>wp_block (wp_mono (h1 ra hr) ?_)⟩
    rintro e' a' w' ⟨rfl,hp⟩
    simp only[QN,Exit.inBlock,if_true]
    exact⟨rfl,hp⟩
   |false=>
    rw[hb] at h0
    have hne:i≠id:=Nat.ne_of_beq_eq_false hb
    refine .inr ⟨.ex i,T',S',h0,fun {ι a w} ra hr=>wp_block (wp_mono (h1 ra hr) ?_)⟩
    rintro e' a' w' ⟨rfl,hp⟩
    simp only[QN,Exit.inBlock,hne,if_false]
    exact⟨rfl,hp⟩
  |gt l=>
   refine .inr ⟨.gt l,T',S',h,fun {ι a w} ra hr=>wp_block (wp_mono (h1 ra hr) ?_)⟩
   rintro e' a' w' ⟨rfl,hp⟩
   exact⟨rfl,hp⟩
  |rt=>
   refine .inr ⟨.rt,T',S',h,fun {ι a w} ra hr=>wp_block (wp_mono (h1 ra hr) ?_)⟩
   rintro e' a' w' ⟨rfl,hp⟩
   exact⟨rfl,hp⟩
 |loop b ih=>
  intro T S kn kx r s h
  rcases fX (show ev (.loop b) m T S kn kx=.ok r s from h) with⟨T',S',h,n,h1⟩|⟨e,T',S',h,n,h1⟩
  · exact .inl ⟨T',S',h,fun {ι a w} ra hr=>wp_loop_rounds n (h1 ra hr)⟩
  exact .inr ⟨e,T',S',h,fun {ι a w} ra hr=>wp_loop_rounds n (h1 ra hr)⟩
 |rangeFunc=>exact fun {T S kn kx r s} h=>(R.bA h).elim
 |exit id=>exact fun {T S kn kx r s} h=>.inr ⟨.ex id,T,S,h,fun {ι a w} ra hr=>wp_exit ⟨rfl,ι,ra,hr,Ext.refl _ _,rfl⟩⟩
 |scope b ih=>
  intro T S kn kx r s h
  rcases fX (show ev (.scope b b) m T S kn kx=.ok r s from h) with⟨T',S',h,n,h1⟩|⟨e,T',S',h,n,h1⟩
  · exact .inl ⟨T',S',h,fun {ι a w} ra hr=>aXT n (h1 ra hr)⟩
  exact .inr ⟨e,T',S',h,fun {ι a w} ra hr=>aXT n (h1 ra hr)⟩
 |label l=>exact fun {T S kn kx r s} h=>.inl ⟨T,S,h,fun {ι a w} ra hr=>wp_label ⟨rfl,ι,ra,hr,Ext.refl _ _,rfl⟩⟩
 |goto l=>exact fun {T S kn kx r s} h=>.inr ⟨.gt l,T,S,h,fun {ι a w} ra hr=>wp_goto ⟨rfl,ι,ra,hr,Ext.refl _ _,rfl⟩⟩
 |ret=>exact fun {T S kn kx r s} h=>.inr ⟨.rt,T,S,h,fun {ι a w} ra hr=>wp_ret ⟨rfl,ι,ra,hr,Ext.refl _ _,rfl⟩⟩
 |refuse=>exact fun {T S kn kx r s} h=>(R.bA h).elim
def evJ (P:Program) (D:LB) (M:l4) (ev:Ev):Ev:=fun j=>Job.rec (motive:=fun _=>Nat→T→St→KN→KX→R)
 (fun c m T S kn kx=>nJ P D M ev m c T S kn kx)
 (fun b m T S kn kx=>nJ P D M ev m b T S (fun T S=>ev (.loop b) m T S kn kx) kx)
 (fun cur body m T S kn kx=>nJ P D M ev m cur T S kn (aEK ev m body kn kx))
 (fun l i n m T S kn kx=>aS (Nat.beq ((l.toList.drop i).take n).length n) (LF P M ev l m ((l.toList.drop i).take n) T S kn)) j
def evN (P:Program) (D:LB) (M:l4) (n:Nat):Ev:=Nat.rec (motive:=fun _=>Ev) (fun _ _ _ _ _ _=>.bad 99) (fun _ ev=>evJ P D M ev) n
theorem bON {D:LB} (hD:aEF P D) {M:l4} (hM:I_ P M) {ev:Ev} (fX:yG P ev):yG P (evJ P D M ev):=by
 intro j m T S kn kx r s h
 cases j with
 |ops l i n=>
  have h:aS (Nat.beq ((l.toList.drop i).take n).length n) (LF P M ev l m ((l.toList.drop i).take n) T S kn)=.ok r s:=h
  obtain⟨hn,h⟩:=cI h
  have hn:=Nat.eq_of_beq_eq_true hn
  obtain⟨T',S',h,hs⟩:=aN4 hM fX h
  refine .inl ⟨T',S',h,fun {ι a w} ra hr=>?_⟩
  have:=hs (i:=i) (fun j o hj=>by
   rw[List.getElem?_take] at hj
   split at hj
   · rw[List.getElem?_drop,Array.getElem?_toList] at hj;exact hj
   cases hj) ra hr (Q:=Post ι w m a.defers .normal T' S') fun κ a' w' g1 g2 g3 g4=>⟨rfl,κ,g1,g2,g3,g4⟩
  rw[hn] at this
  exact this
 |code c=>exact aOT hD hM fX (show nJ P D M ev m c T S kn kx=.ok r s from h)
 |loop b=>
  rcases aOT hD hM fX (show nJ P D M ev m b T S (fun T S=>ev (.loop b) m T S kn kx) kx=.ok r s from h) with⟨T1,S1,h,h1⟩|⟨e,T1,S1,h,h1⟩
  · rcases fX h with⟨T2,S2,h,n,h2⟩|⟨e,T2,S2,h,n,h2⟩
    · refine .inl ⟨T2,S2,h,n+1,fun {ι a w} ra hr=>wp_mono (h1 ra hr) ?_⟩
      rintro e a' w' ⟨rfl,κ,g1,g2,g3,g4⟩
      exact aMM (fun e a w hp=>hp.trans g3 g4) (h2 g1 g2)
    refine .inr ⟨e,T2,S2,h,n+1,fun {ι a w} ra hr=>wp_mono (h1 ra hr) ?_⟩
    rintro e a' w' ⟨rfl,κ,g1,g2,g3,g4⟩
    exact aMM (fun e a w hp=>hp.trans g3 g4) (h2 g1 g2)
  refine .inr ⟨e,T1,S1,h,1,fun {ι a w} ra hr=>wp_mono (h1 ra hr) ?_⟩
  rintro e' a' w' ⟨rfl,hp⟩
  cases e<;>exact⟨rfl,hp⟩
 |scope cur body=>
  rcases aOT hD hM fX (show nJ P D M ev m cur T S kn (aEK ev m body kn kx)=.ok r s from h) with⟨T1,S1,h,h1⟩|⟨e,T1,S1,h,h1⟩
  · refine .inl ⟨T1,S1,h,1,fun {ι a w} ra hr=>wp_mono (h1 ra hr) ?_⟩
    rintro e a' w' ⟨rfl,hp⟩
    exact⟨rfl,hp⟩
  cases e with
  |gt l=>
   unfold aEK at h
   dsimp only at h
   split at h
   · rename_i rest JD
     rcases fX h with⟨T2,S2,h,n,h2⟩|⟨e,T2,S2,h,n,h2⟩
     · refine .inl ⟨T2,S2,h,n+1,fun {ι a w} ra hr=>wp_mono (h1 ra hr) ?_⟩
       rintro e a' w' ⟨rfl,κ,g1,g2,g3,g4⟩
       simp only[QN,JD]
       exact aNH (fun e a w hp=>hp.trans g3 g4) (h2 g1 g2)
     refine .inr ⟨e,T2,S2,h,n+1,fun {ι a w} ra hr=>wp_mono (h1 ra hr) ?_⟩
     rintro e a' w' ⟨rfl,κ,g1,g2,g3,g4⟩
     simp only[QN,JD]
     exact aNH (fun e a w hp=>hp.trans g3 g4) (h2 g1 g2)
   rename_i JD
   refine .inr ⟨.gt l,T1,S1,h,1,fun {ι a w} ra hr=>wp_mono (h1 ra hr) ?_⟩
   rintro e a' w' ⟨rfl,hp⟩
   simp only[QN,JD]
   exact⟨rfl,hp⟩
  |ex i=>
   refine .inr ⟨.ex i,T1,S1,h,1,fun {ι a w} ra hr=>wp_mono (h1 ra hr) ?_⟩
   rintro e a' w' ⟨rfl,hp⟩
   exact⟨rfl,hp⟩
  |rt=>
   refine .inr ⟨.rt,T1,S1,h,1,fun {ι a w} ra hr=>wp_mono (h1 ra hr) ?_⟩
   rintro e a' w' ⟨rfl,hp⟩
   exact⟨rfl,hp⟩
theorem aPG {D:LB} (hD:aEF P D) {M:l4} (hM:I_ P M):∀n,yG P (evN P D M n)
 |0=>by intro h;exact (R.bA h).elim
 |n+1=>bON hD hM (aPG hD hM n)
end
end
end Go.Ev
