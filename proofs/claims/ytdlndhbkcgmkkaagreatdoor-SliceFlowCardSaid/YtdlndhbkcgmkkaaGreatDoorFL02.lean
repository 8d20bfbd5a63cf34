/-
 Part 2 of 35 of a proof about the given program: facts on which the last part stands.
-/
import Derived.Test.YtdlndhbkcgmkkaaGreatDoorFL01
import Derived.Laws.Strings
import Derived.Laws.Slices
set_option maxHeartbeats 12800000
set_option linter.unusedVariables false
set_option linter.unusedSimpArgs false
namespace Go.Ev
section
open Go
noncomputable section
variable {P:Program} {o:Oper}
theorem M6 (b:UInt8) (l:List UInt8):jK (b::l)=b.toNat+256*jK l:=rfl
theorem aX3:∀l m:List UInt8,jK (l++m)=jK l+256 ^ l.length*jK m
 | [],m=>by simp[jK]
 |b::l,m=>by
   simp only[List.cons_append,M6,aX3 l m,List.length_cons,Nat.pow_succ]
   rw[Nat.mul_add,←Nat.mul_assoc,Nat.mul_comm 256 (256 ^ l.length)];omega
theorem a1R:∀l:List UInt8,jK l<256 ^ l.length
 | []=>by simp[jK]
 |b::l=>by
   have h1:=a1R l
   have h2:b.toNat<256:=UInt8.toNat_lt b
   simp only[M6,List.length_cons,Nat.pow_succ]
   omega
theorem aZ_:∀{l m:List UInt8},l.length=m.length→jK l=jK m→l=m
 | [],[],_,_=>rfl
 | [],_::_,h,_=>by cases h
 |_::_,[],h,_=>by cases h
 |b::l,c::m,h,e=>by
   rw[M6,M6] at e
   have h1:b.toNat<256:=UInt8.toNat_lt b
   have h2:c.toNat<256:=UInt8.toNat_lt c
   have e1:b.toNat=c.toNat:=by omega
   have e2:jK l=jK m:=by omega
   rw[UInt8.toNat_inj.1 e1,aZ_ (Nat.succ.inj h) e2]
theorem aMW:∀(i:Nat) (l:List UInt8),jK (l.drop i)=jK l / 256 ^ i
 |0,l=>by simp
 |i+1,[]=>by simp[jK]
 |i+1,b::l=>by
   have h1:b.toNat<256:=UInt8.toNat_lt b
   rw[List.drop_succ_cons,aMW i l,M6,Nat.pow_succ,Nat.mul_comm (256 ^ i) 256,←Nat.div_div_eq_div_mul]
   congr 1;omega
theorem bHI (i:Nat) (l:List UInt8) (h:i≤l.length):jK (l.take i)=jK l % 256 ^ i:=by
 have h1:=aX3 (l.take i) (l.drop i)
 rw[List.take_append_drop,List.length_take,Nat.min_eq_left h] at h1
 have h2:=a1R (l.take i)
 rw[List.length_take,Nat.min_eq_left h] at h2
 rw[h1,Nat.add_mul_mod_self_left,Nat.mod_eq_of_lt h2]
theorem bJG (i:Nat) (l:List UInt8) (c:UInt8) (h:l[i]?=some c):jK l / 256 ^ i % 256=c.toNat:=by
 rw[←aMW]
 obtain⟨hi,he⟩:=List.getElem?_eq_some_iff.1 h
 rw[List.drop_eq_getElem_cons hi,M6,he]
 have h1:c.toNat<256:=UInt8.toNat_lt c
 omega
theorem KL (s:ByteArray):s.data.toList.length=s.size:=by
 show s.data.toList.length=s.data.size;exact Array.length_toList
theorem a3M {s t:ByteArray}:(s.size=t.size∧jK s.data.toList=jK t.data.toList)↔s.toList=t.toList:=by
 rw[ByteArray.toList_eq,ByteArray.toList_eq]
 constructor
 · rintro⟨h1,h2⟩
   exact aZ_ (by rw[KL,KL];exact h1) h2
 intro h
 refine⟨?_,by rw[h]⟩
 rw[←KL,←KL,h]
theorem addr_add (b o n:Nat):(⟨b,o,none⟩:Addr).add n=⟨b,o+n,none⟩:=by
 unfold Addr.add;split<;>simp_all
def XQ (P:Program) (t:TypeId) (x:Operand) (i:Nat):Kd:=match P.underlying t with
 |some (.struct fs)=>match fs[i]? with
   |some f=>match P.info? f.type with
     |some j=>match Nat.beq j.size 0 with
       |true=>.no
       |false=>.pure fun T k=>EK (aY x T) fun b o=>fN (Nat.add o f.offset) fun o=>k (.ptr b o)
     |none=>.no
   |none=>.no
 |_=>.no
theorem bE7 {t:TypeId} {x:Operand} {i:Nat} (ho:o.op=.fieldAddr t x i):fO P o (XQ P t x i):=by
 unfold XQ
 split
 rotate_left
 · exact trivial
 rename_i fs h1
 split
 rotate_left
 · exact trivial
 rename_i f h2
 split
 rotate_left
 · exact trivial
 rename_i j h3
 split
 · exact trivial
 rename_i h4
 have h4:j.size≠0:=Nat.ne_of_beq_eq_false h4
 intro T k r s h
 obtain⟨b,n,hc,h⟩:=T4 h
 rw[gQ] at h
 refine⟨_,h,fun {ι m a w} ra=>?_⟩
 have e:=bD ra x;rw[hc] at e;obtain⟨l,hl,e⟩:=e
 refine⟨_,?_,⟨l,hl,rfl⟩⟩
 unfold execOp;rw[ho]
 simp[e,Instr.fieldAt,underlying,h1,h2,Instr.sureAddr,fieldPlace,sizeOf,typeInfo,h3,h4,addr_add,Nat.add_assoc]
def aI8 (v:AV) (k:Nat→Nat→Nat→R):R:=match v with
 |.sl b o n _=>k b o n
 |.slu b o n _=>k b o n
 |_=>.bad 33
theorem bK5 {v:AV} {k:Nat→Nat→Nat→R} {r:AV} {s:St} (h:aI8 v k=.ok r s):∃b o n,((∃c,v=.sl b o n c)∨∃z,v=.slu b o n z)∧k b o n=.ok r s:=by
 unfold aI8 at h
 split at h
 · exact⟨_,_,_,.inl ⟨_,rfl⟩,h⟩
 · exact⟨_,_,_,.inr ⟨_,rfl⟩,h⟩
 exact (R.bA h).elim
theorem bO4 {ι:aH} {v:AV} {b i n:Nat} {u:Value} (h:(∃c,v=.sl b i n c)∨∃z,v=.slu b i n z) (hn:0<n) (hr:RV ι v u):∃l c,ι b=some l∧u=.slice (some ⟨l.b,l.d+i,none⟩) n c:=by
 rcases h with⟨c,rfl⟩|⟨z,rfl⟩
 · obtain⟨l,hl,e⟩:=hr;exact⟨l,c,hl,e⟩
 obtain⟨l,hl,⟨c,e,-⟩|⟨h0,-⟩⟩:=hr
 · exact⟨l,c,hl,e⟩
 omega
def XP (P:Program) (t:TypeId) (x i:Operand):Kd:=match P.underlying t with
 |some (.slice e)=>match P.info? e with
   |some j=>.pure fun T k=>aI8 (aY x T) fun b o n=>EL (aY i T) fun i=>aS (Nat.ble (Nat.succ i) n) (fN (Nat.add o (Nat.mul i j.size)) fun o=>k (.ptr b o))
   |none=>.no
 |some (.array n e)=>match P.info? e with
   |some j=>.pure fun T k=>EK (aY x T) fun b o=>EL (aY i T) fun i=>aS (Nat.ble (Nat.succ i) n) (fN (Nat.add o (Nat.mul i j.size)) fun o=>k (.ptr b o))
   |none=>.no
 |_=>.no
theorem bE6 {t:TypeId} {x i:Operand} (ho:o.op=.indexAddr t x i):fO P o (XP P t x i):=by
 unfold XP
 split
 · rename_i e h1
   split
   rotate_left
   · exact trivial
   rename_i j h2
   intro T k r s h
   obtain⟨b,q,n,hc,h⟩:=bK5 h
   obtain⟨kd,y,hi,h⟩:=KP h
   obtain⟨hlt,h⟩:=cI h
   have hlt:y<n:=Nat.le_of_ble_eq_true hlt
   rw[gQ] at h
   refine⟨_,h,fun {ι m a w} ra=>?_⟩
   obtain⟨l,c,hl,e1⟩:=bO4 hc (by omega) (bD ra x)
   have e2:=bD ra i;rw[hi] at e2;have e2:a.eval i=_:=e2
   refine⟨_,?_,⟨l,hl,rfl⟩⟩
   have h3:(y:Int)<(n:Int):=by omega
   unfold execOp;rw[ho]
   simp[e1,e2,Instr.indexAt,underlying,h1,asIntOf,sizeOf,typeInfo,h2,h3,hlt,addr_add,Nat.add_assoc]
 · rename_i n e h1
   split
   rotate_left
   · exact trivial
   rename_i j h2
   intro T k r s h
   obtain⟨b,q,hc,h⟩:=T4 h
   obtain⟨kd,y,hi,h⟩:=KP h
   obtain⟨hlt,h⟩:=cI h
   have hlt:y<n:=Nat.le_of_ble_eq_true hlt
   rw[gQ] at h
   refine⟨_,h,fun {ι m a w} ra=>?_⟩
   have e1:=bD ra x;rw[hc] at e1;obtain⟨l,hl,e1⟩:=e1
   have e2:=bD ra i;rw[hi] at e2;have e2:a.eval i=_:=e2
   refine⟨_,?_,⟨l,hl,rfl⟩⟩
   unfold execOp;rw[ho]
   simp[e1,e2,Instr.indexAt,underlying,h1,asIntOf,Instr.sureAddr,sizeOf,typeInfo,h2,hlt,addr_add,Nat.add_assoc]
 exact trivial
def aO_ (P:Program) (t:TypeId) (x i:Operand):Kd:=match P.underlying t with
 |some .string=>.pure fun T k=>EL (aY i T) fun i=>match aY x T with
   |.str n b=>aS (Nat.ble (Nat.succ i) n) (fN (Nat.mod (Nat.div b (Nat.pow 256 i)) 256) fun c=>k (.int .u8 (.ofNat c)))
   |_=>.bad 34
 |_=>.no
theorem bJS {t:TypeId} {x i:Operand} (ho:o.op=.index t x i):fO P o (aO_ P t x i):=by
 unfold aO_
 split
 rotate_left
 · exact trivial
 rename_i h1
 intro T k r s h
 obtain⟨kd,y,hi,h⟩:=KP h
 split at h
 rotate_left
 · exact (R.bA h).elim
 rename_i n b hc
 obtain⟨hlt,h⟩:=cI h
 have hlt:y<n:=Nat.le_of_ble_eq_true hlt
 rw[gQ] at h
 refine⟨_,h,fun {ι m a w} ra=>?_⟩
 have e1:=bD ra x;rw[hc] at e1;obtain⟨z,e1,hz,hb⟩:=e1
 have e2:=bD ra i;rw[hi] at e2;have e2:a.eval i=_:=e2
 have hy:y<z.size:=by omega
 have hg:z.data.toList[y]?=some z[y]:=by
  rw[List.getElem?_eq_getElem (by rw[KL];exact hy)];rfl
 refine⟨.int .u8 (.ofNat (z[y]).toNat),?_,?_⟩
 · unfold execOp;rw[ho]
   simp[e1,e2,Instr.index,underlying,h1,asIntOf,hy]
 show Value.int .u8 _=Value.int .u8 _
 congr 2
 rw[←bJG y _ _ hg,hb];rfl
def C_ (x:Option Operand) (T:T) (d:Nat) (k:Nat→R):R:=match x with
 |none=>k d
 |some x=>EL (aY x T) k
theorem EC {x:Option Operand} {T:T} {d:Nat} {k:Nat→R} {r:AV} {s:St} (h:C_ x T d k=.ok r s):
 ∃n,k n=.ok r s∧(x=none→n=d)∧∀y,x=some y→∃kd,∀{ι:aH} {m:Nat} {a:Act},RA ι m T a→a.eval y=.int kd (.ofNat n):=by
 cases x with
 |none=>exact⟨d,h,fun _=>rfl,fun y e=>by cases e⟩
 |some y=>
  obtain⟨kd,n,hc,h⟩:=KP h
  refine⟨n,h,(fun e=>by cases e),fun z e=>?_⟩
  cases e
  refine⟨kd,fun {ι m a} ra=>?_⟩
  have e:=bD ra y;rw[hc] at e;exact e
theorem KM {w:World} {kd:IntKind} {n y:Nat} {c:BoundsCode} (h:n≤y):(Instr.sliceBound (.int kd (n:Int)) y c).run P w=.ok n w:=by
 unfold Instr.sliceBound
 have h1:(n:Int)≤(y:Int):=by omega
 simp[asIntOf,h1,h]
theorem XO {w:World} {isS:Bool} {len cap:Nat} {a:Act} {lo hi mx:Option Operand} {l h m:Nat} (hm:mx.isSome=true→hi.isSome=true)
 (h1:lo=none→l=0) (h2:hi=none→h=len) (h3:mx=none→m=cap)
 (g1:∀y,lo=some y→∃kd,a.eval y=.int kd (.ofNat l)) (g2:∀y,hi=some y→∃kd,a.eval y=.int kd (.ofNat h)) (g3:∀y,mx=some y→∃kd,a.eval y=.int kd (.ofNat m))
 (hl:l≤h) (hh:hi.isSome=true→h≤m) (hc:m≤cap):(Instr.sliceBounds isS len cap (lo.map a.eval) (hi.map a.eval) (mx.map a.eval)).run P w=.ok (l,h,m) w:=by
 unfold Instr.sliceBounds
 cases mx with
 |none=>
  obtain rfl:=h3 rfl
  cases hi with
  |none=>
   obtain rfl:=h2 rfl
   cases lo with
   |none=>obtain rfl:=h1 rfl;simp
   |some y=>obtain⟨kd,e⟩:=g1 y rfl;simp only[Option.map_some,Option.map_none,e];simp[KM hl]
  |some z=>
   obtain⟨kz,ez⟩:=g2 z rfl
   cases lo with
   |none=>obtain rfl:=h1 rfl;simp only[Option.map_some,Option.map_none,ez];simp[KM (hh rfl)]
   |some y=>obtain⟨kd,e⟩:=g1 y rfl;simp only[Option.map_some,Option.map_none,e,ez];simp[KM hl,KM (hh rfl)]
 |some x=>
  obtain⟨kx,ex⟩:=g3 x rfl
  cases hi with
  |none=>exact absurd (hm rfl) (by simp)
  |some z=>
   obtain⟨kz,ez⟩:=g2 z rfl
   cases lo with
   |none=>obtain rfl:=h1 rfl;simp only[Option.map_some,Option.map_none,ez,ex];simp[KM (hh rfl),KM hc]
   |some y=>obtain⟨kd,e⟩:=g1 y rfl;simp only[Option.map_some,e,ez,ex];simp[KM hl,KM (hh rfl),KM hc]
def aEI (sz b o n c:Nat) (lo hi mx:Option Operand) (T:T) (k:AV→R):R:=C_ lo T 0 fun l=>C_ hi T n fun h=>C_ mx T c fun m=>
 aS (Nat.ble l h) (aS (Nat.ble h m) (aS (Nat.ble m c) (fN (Nat.add o (Nat.mul (cond (Nat.beq m l) 0 l) sz)) fun o=>fN (Nat.sub h l) fun n=>fN (Nat.sub m l) fun c=>k (.sl b o n c))))
def a3Q (sz b o n:Nat) (lo hi mx:Option Operand) (T:T) (k:AV→R):R:=match mx with
 |none=>C_ lo T 0 fun l=>C_ hi T n fun h=>aS (Nat.ble l h) (aS (Nat.ble h n) (fN (Nat.add o (Nat.mul l sz)) fun o=>fN (Nat.sub h l) fun n=>k (.slu b o n sz)))
 |some _=>aEI sz b o n n lo hi mx T k
def aI_ (hi mx:Option Operand):Bool:=match hi,mx with
 |none,some _=>false
 |_,_=>true
theorem a0H {hi mx:Option Operand} (h:aI_ hi mx=true):mx.isSome=true→hi.isSome=true:=by
 cases hi<;>cases mx<;>simp_all[aI_]
def aO9 (P:Program) (t:TypeId) (x:Operand) (lo hi mx:Option Operand):Kd:=match aI_ hi mx,P.underlying t with
 |true,some .string=>match mx with
   |none=>.pure fun T k=>match aY x T with
     |.str n b=>C_ lo T 0 fun l=>C_ hi T n fun h=>aS (Nat.ble l h) (aS (Nat.ble h n) (fN (Nat.sub h l) fun m=>fN (Nat.mod (Nat.div b (Nat.pow 256 l)) (Nat.pow 256 m)) fun b=>k (.str m b)))
     |_=>.bad 35
   |some _=>.no
 |true,some (.slice e)=>match P.info? e with
   |some j=>.pure fun T k=>match aY x T with
     |.snil=>C_ lo T 0 fun l=>C_ hi T 0 fun h=>C_ mx T 0 fun m=>aS (Nat.beq l 0) (aS (Nat.beq h 0) (aS (Nat.beq m 0) (k .snil)))
     |.sl b o n c=>aEI j.size b o n c lo hi mx T k
     |.slu b o n sz=>aS (Nat.beq sz j.size) (aS (Nat.ble 1 n) (a3Q j.size b o n lo hi mx T k))
     |_=>.bad 35
   |none=>.no
 |true,some (.array n e)=>match P.info? e with
   |some j=>.pure fun T k=>EK (aY x T) fun b o=>aEI j.size b o n n lo hi mx T k
   |none=>.no
 |_,_=>.no
theorem aMR {sz b q n c:Nat} {lo hi mx:Option Operand} {T:T} {k:AV→R} {r:AV} {s:St} (hmx:aI_ hi mx=true) (h:aEI sz b q n c lo hi mx T k=.ok r s):
 ∃l y m,k (.sl b (q+(if m=l then 0 else l)*sz) (y-l) (m-l))=.ok r s∧l≤y∧y≤m∧m≤c∧
  ∀{ι:aH} {mm:Nat} {a:Act} {w:World} {isS:Bool} (cap:Nat),(mx=none→cap=c)→c≤cap→RA ι mm T a→(Instr.sliceBounds isS n cap (lo.map a.eval) (hi.map a.eval) (mx.map a.eval)).run P w=.ok (l,y,m) w:=by
 obtain⟨l,h,a1,b1⟩:=EC h
 obtain⟨y,h,a2,b2⟩:=EC h
 obtain⟨m,h,a3,b3⟩:=EC h
 obtain⟨c1,h⟩:=cI h
 obtain⟨c2,h⟩:=cI h
 obtain⟨c3,h⟩:=cI h
 have c1:=Nat.le_of_ble_eq_true c1
 have c2:=Nat.le_of_ble_eq_true c2
 have c3:=Nat.le_of_ble_eq_true c3
 rw[gQ,gQ,gQ] at h
 have e:cond (Nat.beq m l) 0 l=if m=l then 0 else l:=by
  by_cases e:m=l
  · subst e;simp
  rw[if_neg e,show Nat.beq m l=false from by rw[Bool.eq_false_iff];exact fun h=>e (Nat.eq_of_beq_eq_true h)];rfl
 rw[e] at h
 exact⟨l,y,m,h,c1,c2,c3,fun {ι mm a w isS} cap cB hc ra=>XO (a0H hmx) a1 a2 (fun e=>(a3 e).trans (cB e).symm) (fun y e=>(b1 y e).imp fun _ h=>h ra) (fun y e=>(b2 y e).imp fun _ h=>h ra) (fun y e=>(b3 y e).imp fun _ h=>h ra) c1 (fun _=>c2) (Nat.le_trans c3 hc)⟩
theorem aNW {ι:aH} {b q l y m sz:Nat} {L:Loc} (hb:ι b=some L):RV ι (.sl b (q+(if m=l then 0 else l)*sz) (y-l) (m-l))
 (.slice (if m=l then some ⟨L.b,L.d+q,none⟩ else some ((⟨L.b,L.d+q,none⟩:Addr).add (l*sz))) (y-l) (m-l)):=by
 refine⟨L,hb,?_⟩
 by_cases e:m=l
 · simp[e]
 simp[e,addr_add,Nat.add_assoc]
theorem bJR {t:TypeId} {x:Operand} {lo hi mx:Option Operand} (ho:o.op=.slice t x lo hi mx):fO P o (aO9 P t x lo hi mx):=by
 unfold aO9
 split
 · rename_i hmx h1
   split
   rotate_left
   · exact trivial
   intro T k r s h
   dsimp only at h
   split at h
   rotate_left
   · exact (R.bA h).elim
   rename_i n b hc
   obtain⟨l,h,a1,b1⟩:=EC h
   obtain⟨y,h,a2,b2⟩:=EC h
   obtain⟨c1,h⟩:=cI h
   obtain⟨c2,h⟩:=cI h
   have c1:=Nat.le_of_ble_eq_true c1
   have c2:=Nat.le_of_ble_eq_true c2
   rw[gQ,gQ] at h
   refine⟨_,h,fun {ι mm a w} ra=>?_⟩
   have e1:=bD ra x;rw[hc] at e1;obtain⟨z,e1,hz,hb⟩:=e1
   have hr:=XO (P:=P) (w:=w) (isS:=false) (len:=z.size) (cap:=z.size) (a:=a) (lo:=lo) (hi:=hi) (mx:=none) (l:=l) (h:=y) (m:=z.size) (by simp) a1 (by rw[hz];exact a2) (fun _=>rfl)
    (fun y e=>(b1 y e).imp fun _ h=>h ra) (fun y e=>(b2 y e).imp fun _ h=>h ra) (fun y e=>by cases e) c1 (fun _=>by omega) (Nat.le_refl _)
   simp only[Option.map_none] at hr
   refine⟨.string (z.extract l y),?_,⟨_,rfl,?_,?_⟩⟩
   · unfold execOp;rw[ho]
     simp[e1,Instr.sliceAt,Instr.slice,underlying,h1,hr]
   · simp
     first|done|omega
   have hd:(z.extract l y).data.toList=(z.data.toList.drop l).take (y-l):=by
    rw[ByteArray.data_extract,Array.toList_extract]
    first|done|rfl
   rw[hd,bHI _ _ (by rw[List.length_drop,KL];omega),aMW,hb]
   first|done|rfl
 · rename_i e hmx h1
   split
   rotate_left
   · exact trivial
   rename_i j h2
   intro T k r s h
   dsimp only at h
   split at h
   · rename_i hc
     obtain⟨l,h,a1,b1⟩:=EC h
     obtain⟨y,h,a2,b2⟩:=EC h
     obtain⟨m,h,a3,b3⟩:=EC h
     obtain⟨c1,h⟩:=cI h
     obtain⟨c2,h⟩:=cI h
     obtain⟨c3,h⟩:=cI h
     obtain rfl:=Nat.eq_of_beq_eq_true c1
     obtain rfl:=Nat.eq_of_beq_eq_true c2
     obtain rfl:=Nat.eq_of_beq_eq_true c3
     refine⟨_,h,fun {ι mm a w} ra=>⟨.slice none 0 0,?_,rfl⟩⟩
     have e1:=bD ra x;rw[hc] at e1;have e1:a.eval x=_:=e1
     have hr:=XO (P:=P) (w:=w) (isS:=true) (len:=0) (cap:=0) (a:=a) (lo:=lo) (hi:=hi) (mx:=mx) (l:=0) (h:=0) (m:=0) (a0H hmx) a1 a2 a3
      (fun y e=>(b1 y e).imp fun _ h=>h ra) (fun y e=>(b2 y e).imp fun _ h=>h ra) (fun y e=>(b3 y e).imp fun _ h=>h ra) (Nat.le_refl _) (fun _=>Nat.le_refl _) (Nat.le_refl _)
     unfold execOp;rw[ho]
     simp[e1,Instr.sliceAt,Instr.slice,underlying,h1,hr,sizeOf,typeInfo,h2]
   · rename_i b q n c hc
     obtain⟨l,y,m,h,c1,c2,c3,hr⟩:=aMR (P:=P) hmx h
     refine⟨_,h,fun {ι mm a w} ra=>?_⟩
     have e1:=bD ra x;rw[hc] at e1;obtain⟨L,hL,e1⟩:=e1
     refine⟨_,?_,aNW hL⟩
     unfold execOp;rw[ho]
     simp[e1,Instr.sliceAt,Instr.slice,underlying,h1,hr _ (fun _=>rfl) (Nat.le_refl _) ra,sizeOf,typeInfo,h2]
   · rename_i b q n sz hc
     obtain⟨d1,g1⟩:=cI h
     obtain⟨d2,g2⟩:=cI g1
     clear g1 h
     obtain rfl:=Nat.eq_of_beq_eq_true d1
     have d2:=Nat.le_of_ble_eq_true d2
     unfold a3Q at g2
     cases mx with
     |none=>
      dsimp only at g2
      obtain⟨l,h,a1,b1⟩:=EC g2
      obtain⟨y,h,a2,b2⟩:=EC h
      obtain⟨c1,h⟩:=cI h
      obtain⟨c2,h⟩:=cI h
      have c1:=Nat.le_of_ble_eq_true c1
      have c2:=Nat.le_of_ble_eq_true c2
      rw[gQ,gQ] at h
      refine⟨_,h,fun {ι mm a w} ra=>?_⟩
      have e1:=bD ra x;rw[hc] at e1;obtain⟨L,hL,⟨cap,e1,cB,lF,h63⟩|⟨h0,-⟩⟩:=e1
      · have hr:=XO (P:=P) (w:=w) (isS:=true) (len:=n) (cap:=cap) (a:=a) (lo:=lo) (hi:=hi) (mx:=none) (l:=l) (h:=y) (m:=cap) (by simp) a1 a2 (fun _=>rfl)
         (fun y e=>(b1 y e).imp fun _ h=>h ra) (fun y e=>(b2 y e).imp fun _ h=>h ra) (fun y e=>by cases e) c1 (fun _=>by omega) (Nat.le_refl _)
        simp only[Option.map_none] at hr
        refine⟨.slice (if cap=l then some ⟨L.b,L.d+q,none⟩ else some ((⟨L.b,L.d+q,none⟩:Addr).add (l*j.size))) (y-l) (cap-l),?_,⟨L,hL,?_⟩⟩
        · unfold execOp;rw[ho]
          simp[e1,Instr.sliceAt,Instr.slice,underlying,h1,hr,sizeOf,typeInfo,h2]
        by_cases e:cap=l
        · right
          refine⟨by show Nat.sub y l=0;show y-l=0;omega,⟨L.b,L.d+q,none⟩,?_⟩
          rw[if_pos e,show y-l=0 by omega,show cap-l=0 by omega]
        left
        refine⟨cap-l,?_,?_,?_,?_⟩
        · rw[if_neg e,addr_add,Nat.add_assoc];rfl
        · show q+l*j.size+(cap-l)*j.size=L.s
          rw[←cB,Nat.add_assoc,←Nat.add_mul,show l+(cap-l)=cap by omega]
        · show y-l≤cap-l;omega
        omega
      omega
     |some mx'=>
      dsimp only at g2
      obtain⟨l,y,m,h,c1,c2,c3,hr⟩:=aMR (P:=P) hmx g2
      refine⟨_,h,fun {ι mm a w} ra=>?_⟩
      have e1:=bD ra x;rw[hc] at e1;obtain⟨L,hL,⟨cap,e1,cB,lF,h63⟩|⟨h0,-⟩⟩:=e1
      · refine⟨.slice (if m=l then some ⟨L.b,L.d+q,none⟩ else some ((⟨L.b,L.d+q,none⟩:Addr).add (l*j.size))) (y-l) (m-l),?_,aNW hL⟩
        have hr2:=hr (w:=w) (isS:=true) cap (fun e=>by cases e) lF ra
        simp only[Option.map_some] at hr2
        unfold execOp;rw[ho]
        simp[e1,Instr.sliceAt,Instr.slice,underlying,h1,hr2,sizeOf,typeInfo,h2]
      omega
   exact (R.bA h).elim
 · rename_i n e hmx h1
   split
   rotate_left
   · exact trivial
   rename_i j h2
   intro T k r s h
   obtain⟨b,q,hc,h⟩:=T4 h
   obtain⟨l,y,m,h,c1,c2,c3,hr⟩:=aMR (P:=P) hmx h
   refine⟨_,h,fun {ι mm a w} ra=>?_⟩
   have e1:=bD ra x;rw[hc] at e1;obtain⟨L,hL,e1⟩:=e1
   refine⟨_,?_,aNW hL⟩
   unfold execOp;rw[ho]
   simp[e1,Instr.sliceAt,underlying,h1,hr _ (fun _=>rfl) (Nat.le_refl _) ra,sizeOf,typeInfo,h2,Instr.sureAddr]
   by_cases e:m=l<;>simp[e]
 exact trivial
end
noncomputable section
variable {P:Program} {o:Oper}
abbrev B2:=IntKind→Int→Int→(AV→R)→R
def QZ:BinOp→Option B2
 |.add=>some fun kd x y k=>iK kd (j8 kd (x+y)) k
 |.sub=>some fun kd x y k=>iK kd (j8 kd (x-y)) k
 |.mul=>some fun kd x y k=>iK kd (j8 kd (x*y)) k
 |.quo=>some fun kd x y k=>aS (!FC y 0) (iK kd (j8 kd (x.tdiv y)) k)
 |.rem=>some fun kd x y k=>aS (!FC y 0) (iK kd (x.tmod y) k)
 |.and=>some fun kd x y k=>iK kd (j8 kd (BitVec.ofInt kd.bits x &&& BitVec.ofInt kd.bits y).toNat) k
 |.or=>some fun kd x y k=>iK kd (j8 kd (BitVec.ofInt kd.bits x ||| BitVec.ofInt kd.bits y).toNat) k
 |.xor=>some fun kd x y k=>iK kd (j8 kd (BitVec.ofInt kd.bits x ^^^ BitVec.ofInt kd.bits y).toNat) k
 |.andNot=>some fun kd x y k=>iK kd (j8 kd (BitVec.ofInt kd.bits x &&& ~~~BitVec.ofInt kd.bits y).toNat) k
 |.eql=>some fun _ x y k=>bK (FC x y) k
 |.neq=>some fun _ x y k=>bK (!FC x y) k
 |.lss=>some fun _ x y k=>bK (!JZ y x) k
 |.leq=>some fun _ x y k=>bK (JZ x y) k
 |.gtr=>some fun _ x y k=>bK (!JZ x y) k
 |.geq=>some fun _ x y k=>bK (JZ y x) k
 |.shl | .shr=>none
theorem aY9 (x y:Int):(!decide (x≤y))=decide (y<x):=by rw[Bool.eq_iff_iff];simp
theorem bNJ {op:BinOp} {f:B2} (hf:QZ op=some f) {kd:IntKind} {x y:Int} {k:AV→R} {r:AV} {s:St} (h:f kd x y k=.ok r s):
 ∃v,k v=.ok r s∧∀{ι:aH} {t:TypeId} {w:World},∃u,(binOp op t (.int kd x) (.int kd y)).run P w=.ok u w∧RV ι v u:=by
 cases op<;>simp only[QZ,Option.some.injEq] at hf<;>first|(cases hf;done)|skip
 all_goals subst hf
 all_goals try (simp only[K6,X4,aIZ,aO6,aID] at h)
 case add=>exact⟨_,h,fun {ι t w}=>⟨_,by simp[binOp,Op.intArith],rfl⟩⟩
 case sub=>exact⟨_,h,fun {ι t w}=>⟨_,by simp[binOp,Op.intArith],rfl⟩⟩
 case mul=>exact⟨_,h,fun {ι t w}=>⟨_,by simp[binOp,Op.intArith],rfl⟩⟩
 case quo=>
  obtain⟨hy,h⟩:=cI h
  have hy:y≠0:=by simpa using hy
  exact⟨_,h,fun {ι t w}=>⟨_,by simp[binOp,Op.intDiv,hy],rfl⟩⟩
 case rem=>
  obtain⟨hy,h⟩:=cI h
  have hy:y≠0:=by simpa using hy
  exact⟨_,h,fun {ι t w}=>⟨_,by simp[binOp,Op.intDiv,hy],rfl⟩⟩
 case and=>exact⟨_,h,fun {ι t w}=>⟨_,by simp[binOp,Op.intBits],rfl⟩⟩
 case or=>exact⟨_,h,fun {ι t w}=>⟨_,by simp[binOp,Op.intBits],rfl⟩⟩
 case xor=>exact⟨_,h,fun {ι t w}=>⟨_,by simp[binOp,Op.intBits],rfl⟩⟩
 case andNot=>exact⟨_,h,fun {ι t w}=>⟨_,by simp[binOp,Op.intBits],rfl⟩⟩
 case eql=>exact⟨_,h,fun {ι t w}=>⟨.bool (decide (x=y)),by simp[binOp,Op.intCmp];rfl,rfl⟩⟩
 case neq=>exact⟨_,h,fun {ι t w}=>⟨.bool (!decide (x=y)),by simp[binOp,Op.intCmp];rfl,rfl⟩⟩
 case lss=>exact⟨_,h,fun {ι t w}=>⟨.bool (!decide (y≤x)),by rw[aY9];simp[binOp,Op.intCmp],rfl⟩⟩
 case leq=>exact⟨_,h,fun {ι t w}=>⟨.bool (decide (x≤y)),by simp[binOp,Op.intCmp],rfl⟩⟩
 case gtr=>exact⟨_,h,fun {ι t w}=>⟨.bool (!decide (x≤y)),by rw[aY9];simp[binOp,Op.intCmp],rfl⟩⟩
 exact⟨_,h,fun {ι t w}=>⟨.bool (decide (y≤x)),by simp[binOp,Op.intCmp],rfl⟩⟩
theorem XZ {op:BinOp} {t:TypeId} {x y:Operand} {k k':IntKind} {a b:Int} {w:World}:(eqGuard op t x y (.int k a) (.int k' b)).run P w=.ok () w:=by
 cases op<;>rfl
theorem bJ3 {op:BinOp} {t:TypeId} {x y:Operand} {a b:ByteArray} {w:World}:(eqGuard op t x y (.string a) (.string b)).run P w=.ok () w:=by
 cases op<;>rfl
def aQ6 (f:B2) (x y:Operand):Kd:=.pure fun T k=>rF (aY x T) (.bad 40) fun kx a=>rF (aY y T) (.bad 40) fun ky b=>aS (JP kx ky) (f kx a b k)
theorem a2U {op:BinOp} {f:B2} (hf:QZ op=some f) {t u:TypeId} {x y:Operand} (ho:o.op=.binOp op t x y u):fO P o (aQ6 f x y):=fun {T k r s} h=>by
 rcases QH h with⟨kx,a,h1,h⟩|⟨-,h⟩
 rotate_left
 · exact (R.bA h).elim
 rcases QH h with⟨ky,b,h2,h⟩|⟨-,h⟩
 · obtain⟨hk,g⟩:=cI h
   clear h
   obtain rfl:=aOV hk
   obtain⟨v,h,hv⟩:=bNJ (P:=P) hf g
   refine⟨v,h,fun {ι m ac w} ra=>?_⟩
   have e1:=bD ra x;rw[h1] at e1;have e1:ac.eval x=_:=e1
   have e2:=bD ra y;rw[h2] at e2;have e2:ac.eval y=_:=e2
   obtain⟨u',hu,hr⟩:=hv (ι:=ι) (t:=t) (w:=w)
   refine⟨u',?_,hr⟩
   unfold execOp;rw[ho]
   simp[e1,e2,XZ,hu]
 exact (R.bA h).elim
def YP (left:Bool) (x y:Operand):Kd:=.pure fun T k=>rF (aY x T) (.bad 41) fun kx a=>EL (aY y T) fun b=>
 match left with
 |true=>iK kx (j8 kx (a*2 ^ (min b kx.bits))) k
 |false=>iK kx (a.fdiv (2 ^ (min b kx.bits))) k
theorem a0M {left:Bool} {t u:TypeId} {x y:Operand} (ho:o.op=.binOp (if left then .shl else .shr) t x y u):fO P o (YP left x y):=fun {T k r s} h=>by
 rcases QH h with⟨kx,a,h1,h⟩|⟨-,h⟩
 rotate_left
 · exact (R.bA h).elim
 obtain⟨ky,b,h2,h⟩:=KP h
 cases left with
 |true=>
  simp only[K6,X4] at h
  refine⟨_,h,fun {ι m ac w} ra=>⟨_,?_,rfl⟩⟩
  have e1:=bD ra x;rw[h1] at e1;have e1:ac.eval x=_:=e1
  have e2:=bD ra y;rw[h2] at e2;have e2:ac.eval y=_:=e2
  have hb:¬((b:Int)<0):=by omega
  unfold execOp;rw[ho]
  simp[e1,e2,XZ,binOp,Op.shift,hb]
 |false=>
  simp only[K6] at h
  refine⟨_,h,fun {ι m ac w} ra=>⟨_,?_,rfl⟩⟩
  have e1:=bD ra x;rw[h1] at e1;have e1:ac.eval x=_:=e1
  have e2:=bD ra y;rw[h2] at e2;have e2:ac.eval y=_:=e2
  have hb:¬((b:Int)<0):=by omega
  unfold execOp;rw[ho]
  simp[e1,e2,XZ,binOp,Op.shift,hb]
def NU (v:AV) (k:Nat→Nat→R):R:=match v with
 |.str n b=>k n b
 |_=>.bad 42
theorem aNC {v:AV} {k:Nat→Nat→R} {r:AV} {s:St} (h:NU v k=.ok r s):∃n b,v=.str n b∧k n b=.ok r s:=by
 unfold NU at h
 split at h
 · exact⟨_,_,rfl,h⟩
 exact (R.bA h).elim
def aH_ (neg:Bool) (x y:Operand):Kd:=.pure fun T k=>NU (aY x T) fun n a=>NU (aY y T) fun m b=>bK (Bool.xor neg (Nat.beq n m&&Nat.beq a b)) k
theorem a0K {neg:Bool} {t u:TypeId} {x y:Operand} (ho:o.op=.binOp (if neg then .neq else .eql) t x y u):fO P o (aH_ neg x y):=fun {T k r s} h=>by
 obtain⟨n,a,h1,h⟩:=aNC h
 obtain⟨m,b,h2,h⟩:=aNC h
 rw[aIZ] at h
 refine⟨_,h,fun {ι mm ac w} ra=>⟨_,?_,rfl⟩⟩
 have e1:=bD ra x;rw[h1] at e1;obtain⟨p,e1,hp,hpa⟩:=e1
 have e2:=bD ra y;rw[h2] at e2;obtain⟨q,e2,hq,hqa⟩:=e2
 have hb:(Nat.beq n m&&Nat.beq a b)=(p.toList==q.toList):=by
  rw[Bool.eq_iff_iff,Bool.and_eq_true,beq_iff_eq,←a3M,←hp,←hq,←hpa,←hqa,Nat.beq_eq,Nat.beq_eq]
 rw[hb]
 unfold execOp;rw[ho]
 cases neg<;>simp[e1,e2,bJ3,binOp,Op.stringOp]
def P1 (x y:AV):Option Bool:=match x,y with
 |.bool a,.bool b=>some (a==b)
 |.pnil,.pnil=>some true
 |.pnil,.ptr _ _=>some false
 |.ptr _ _,.pnil=>some false
 |.snil,.snil=>some true
 |.snil,.sl _ _ _ _=>some false
 |.snil,.slu _ _ _ _=>some false
 |.sl _ _ _ _,.snil=>some false
 |.slu _ _ _ _,.snil=>some false
 |.mnil,.mnil=>some true
 |.mnil,.map _=>some false
 |.map _,.mnil=>some false
 |.fnil,.fnil=>some true
 |.fnil,.fn _ _ _=>some false
 |.fn _ _ _,.fnil=>some false
 |.inil,.iface _ _=>some false
 |.iface _ _,.inil=>some false
 |_,_=>none
def eqD (d:TypeDesc) (x:AV):Bool:=match d,x with
 |.bool,.bool _=>true
 |.pointer _,.pnil=>true
 |.pointer _,.ptr _ _=>true
 |.slice _,.snil=>true
 |.slice _,.sl _ _ _ _=>true
 |.slice _,.slu _ _ _ _=>true
 |.map _ _,.mnil=>true
 |.map _ _,.map _=>true
 |.func _ _ _,.fnil=>true
 |.func _ _ _,.fn _ _ _=>true
 |.interface _,.inil=>true
 |.interface _,.iface _ _=>true
 |_,_=>false
theorem bF4 {n:Nat} {t:TypeId} {d:TypeDesc} (ht:P.underlying t=some d) {u v:Value} {w:World} {b:Bool}
 (h:(match d,u,v with
  |.bool,.bool a,.bool b=>some (a==b)
  |.pointer _,.pointer none,.pointer b=>some b.isNone
  |.pointer _,.pointer (some _),.pointer none=>some false
  |.slice _,.slice none _ _,.slice b _ _=>some b.isNone
  |.slice _,.slice (some _) _ _,.slice none _ _=>some false
  |.map _ _,.map none,.map b=>some b.isNone
  |.map _ _,.map (some _),.map none=>some false
  |.func _ _ _,.nilFunc,.nilFunc=>some true
  |.func _ _ _,.nilFunc,.func _ _ _=>some false
  |.func _ _ _,.func _ _ _,.nilFunc=>some false
  |.interface _,.nilIface,.iface _ _=>some false
  |.interface _,.iface _ _,.nilIface=>some false
  |_,_,_=>none)=some b):(Op.equalIn (n+1) t u v).run P w=.ok b w:=by
 split at h<;>cases h<;>(rename_i rT;simp[Op.equalIn,underlying,rT])
theorem bOO {d:TypeDesc} {x y:AV} {b:Bool} (h:P1 x y=some b) (hd:eqD d x=true) {t:TypeId} (ht:P.underlying t=some d) {ι:aH} {u v:Value} (hu:RV ι x u) (hv:RV ι y v) {w:World}:
 (Op.equal t u v).run P w=.ok b w:=by
 show (Op.equalIn (9999+1) t u v).run P w=_
 generalize 9999=n
 refine bF4 ht ?_
 unfold P1 at h
 split at h<;>cases h<;>cases d<;>(try (cases hd;done))
 · cases hu;cases hv;rfl
 · cases hu;cases hv;rfl
 · cases hu;obtain⟨_,-,rfl⟩:=hv;rfl
 · cases hv;obtain⟨_,-,rfl⟩:=hu;rfl
 · cases hu;cases hv;rfl
 · cases hu;obtain⟨_,-,rfl⟩:=hv;rfl
 · cases hu;obtain⟨_,-,⟨_,rfl,-⟩|⟨-,_,rfl⟩⟩:=hv<;>rfl
 · cases hv;obtain⟨_,-,rfl⟩:=hu;rfl
 · cases hv;obtain⟨_,-,⟨_,rfl,-⟩|⟨-,_,rfl⟩⟩:=hu<;>rfl
 · cases hu;cases hv;rfl
 · cases hu;obtain⟨_,-,rfl⟩:=hv;rfl
 · cases hv;obtain⟨_,-,rfl⟩:=hu;rfl
 · cases hu;cases hv;rfl
 · cases hu;obtain⟨_,_,rfl,-⟩:=hv;rfl
 · cases hv;obtain⟨_,_,rfl,-⟩:=hu;rfl
 · cases hu;obtain⟨_,rfl,-⟩:=hv;rfl
 cases hv;obtain⟨_,rfl,-⟩:=hu;rfl
theorem bJ5 {x y:AV} {b:Bool} (h:P1 x y=some b) {ι:aH} {u v:Value} (hu:RV ι x u) (hv:RV ι y v) {op:BinOp} {t:TypeId} {p q:Operand} {w:World}:
 (eqGuard op t p q u v).run P w=.ok () w:=by
 unfold P1 at h
 split at h<;>cases h
 · cases hu;cases hv;cases op<;>rfl
 · cases hu;cases hv;cases op<;>rfl
 · cases hu;obtain⟨_,-,rfl⟩:=hv;cases op<;>rfl
 · cases hv;obtain⟨_,-,rfl⟩:=hu;cases op<;>rfl
 · cases hu;cases hv;cases op<;>rfl
 · cases hu;obtain⟨_,-,rfl⟩:=hv;cases op<;>rfl
 · cases hu;obtain⟨_,-,⟨_,rfl,-⟩|⟨-,_,rfl⟩⟩:=hv<;>cases op<;>rfl
 · cases hv;obtain⟨_,-,rfl⟩:=hu;cases op<;>rfl
 · cases hv;obtain⟨_,-,⟨_,rfl,-⟩|⟨-,_,rfl⟩⟩:=hu<;>cases op<;>rfl
 · cases hu;cases hv;cases op<;>rfl
 · cases hu;obtain⟨_,-,rfl⟩:=hv;cases op<;>rfl
 · cases hv;obtain⟨_,-,rfl⟩:=hu;cases op<;>rfl
 · cases hu;cases hv;cases op<;>rfl
 · cases hu;obtain⟨_,_,rfl,-⟩:=hv;cases op<;>rfl
 · cases hv;obtain⟨_,_,rfl,-⟩:=hu;cases op<;>rfl
 · cases hu;obtain⟨_,rfl,-⟩:=hv;cases op<;>rfl
 cases hv;obtain⟨_,rfl,-⟩:=hu;cases op<;>rfl
theorem bM9 {x y:AV} {b:Bool} (h:P1 x y=some b) {ι:aH} {u v:Value} (hu:RV ι x u) (hv:RV ι y v) {t:TypeId}:
 binOp .eql t u v=(do pure (.bool (←Op.equal t u v)))∧binOp .neq t u v=(do pure (.bool (!(←Op.equal t u v)))):=by
 unfold P1 at h
 split at h<;>cases h
 · cases hu;cases hv;exact⟨rfl,rfl⟩
 · cases hu;cases hv;exact⟨rfl,rfl⟩
 · cases hu;obtain⟨_,-,rfl⟩:=hv;exact⟨rfl,rfl⟩
 · cases hv;obtain⟨_,-,rfl⟩:=hu;exact⟨rfl,rfl⟩
 · cases hu;cases hv;exact⟨rfl,rfl⟩
 · cases hu;obtain⟨_,-,rfl⟩:=hv;exact⟨rfl,rfl⟩
 · cases hu;obtain⟨_,-,⟨_,rfl,-⟩|⟨-,_,rfl⟩⟩:=hv<;>exact⟨rfl,rfl⟩
 · cases hv;obtain⟨_,-,rfl⟩:=hu;exact⟨rfl,rfl⟩
 · cases hv;obtain⟨_,-,⟨_,rfl,-⟩|⟨-,_,rfl⟩⟩:=hu<;>exact⟨rfl,rfl⟩
 · cases hu;cases hv;exact⟨rfl,rfl⟩
 · cases hu;obtain⟨_,-,rfl⟩:=hv;exact⟨rfl,rfl⟩
 · cases hv;obtain⟨_,-,rfl⟩:=hu;exact⟨rfl,rfl⟩
 · cases hu;cases hv;exact⟨rfl,rfl⟩
 · cases hu;obtain⟨_,_,rfl,-⟩:=hv;exact⟨rfl,rfl⟩
 · cases hv;obtain⟨_,_,rfl,-⟩:=hu;exact⟨rfl,rfl⟩
 · cases hu;obtain⟨_,rfl,-⟩:=hv;exact⟨rfl,rfl⟩
 cases hv;obtain⟨_,rfl,-⟩:=hu;exact⟨rfl,rfl⟩
def kEq (neg:Bool) (d:TypeDesc) (x y:Operand):Kd:=.pure fun T k=>aS (eqD d (aY x T)) (match P1 (aY x T) (aY y T) with
 |some b=>bK (Bool.xor neg b) k
 |none=>.bad 43)
theorem a45 {neg:Bool} {t u:TypeId} {d:TypeDesc} (ht:P.underlying t=some d) {x y:Operand} (ho:o.op=.binOp (if neg then .neq else .eql) t x y u):fO P o (kEq neg d x y):=fun {T k r s} h=>by
 obtain⟨hd,h⟩:=cI h
 split at h
 rotate_left
 · exact (R.bA h).elim
 rename_i b hb
 rw[aIZ] at h
 refine⟨_,h,fun {ι mm ac w} ra=>⟨_,?_,rfl⟩⟩
 have e1:=bD ra x
 have e2:=bD ra y
 have he:=bOO (P:=P) hb hd ht e1 e2 (w:=w)
 have hg:=fun op=>bJ5 (P:=P) hb e1 e2 (op:=op) (t:=t) (p:=x) (q:=y) (w:=w)
 have a73:=bM9 hb e1 e2 (t:=t)
 unfold execOp;rw[ho]
 cases neg
 · simp[hg,a73.1,he]
 simp[hg,a73.2,he]
end
noncomputable section
variable {P:Program} {o:Oper}
theorem HR.cell {ι:aH} {S:St} {w:World} (h:HR ι S w) {b:Nat} {l:Loc} (hb:ι b=some l) {n:Nat} {c:Cs} (hc:bZ b S.h=.cells n c) {i:Nat} (hi:i<n):
 ∃x,w.cell? ⟨l.b,l.d+i,none⟩=some x∧RV ι (c.get i) x:=by
 have:=h.live b l hb
 rw[hc] at this
 obtain⟨-,-,a,e,f,h1,-,h2,h3⟩:=this
 obtain⟨x,h4,h5⟩:=h3 i hi
 refine⟨x,?_,h5⟩
 unfold World.cell?
 rw[h1];exact h4
theorem HR.cells {ι:aH} {S:St} {w:World} (h:HR ι S w) {b:Nat} {l:Loc} (hb:ι b=some l) {m:Nat} {c:Cs} (hc:bZ b S.h=.cells m c) (n q:Nat) (hn:q+n≤m):
 ∃vs:List Value,(loadCells ⟨l.b,l.d+q,none⟩ n).run P w=.ok vs.toArray w∧RL ι (JB c n q) vs:=by
 have hx:∀j,j<n→∃x,w.cell? ⟨l.b,l.d+(q+j),none⟩=some x∧RV ι (c.get (q+j)) x:=fun j hj=>h.cell hb hc (by omega)
 refine⟨(List.range n).map fun j=>(w.cell? ⟨l.b,l.d+(q+j),none⟩).getD undef,?_,?_⟩
 · refine run_loadCells (P:=P) w _ n _ fun j hj=>?_
   obtain⟨x,h1,-⟩:=hx j hj
   rw[addr_add,Nat.add_assoc,h1];rfl
 refine RL.of (XT _ _ _) (by rw[KJ];simp) fun i hi=>?_
 rw[KJ] at hi
 obtain⟨x,h1,h2⟩:=hx i hi
 refine⟨x,?_,?_⟩
 · simp[hi,h1]
 rw[aDU _ _ _ _ hi];exact h2
def K5 (P:Program) (t:TypeId):Option (AV→Hp→(AV→R)→R):=match P.underlying t,P.info? t with
 |some d,some i=>match UL d with
   |true=>some fun v H k=>EK v fun b o=>onCells (bZ b H) fun n c=>aS (Nat.ble (Nat.add o i.size) n) (K2 c i.size o fun l=>k (.agg l))
   |false=>some fun v H k=>EK v fun b o=>onCells (bZ b H) fun n c=>aS (Nat.ble (Nat.succ o) n) (k (c.get o))
 |_,_=>none
theorem a1X {t:TypeId} {f:AV→Hp→(AV→R)→R} (hf:K5 P t=some f) {v:AV} {H:Hp} {k:AV→R} {r:AV} {s:St} (h:f v H k=.ok r s):
 ∃x,k x=.ok r s∧∀{ι:aH} {n:Nat} {u:Value} {w:World},RV ι v u→HR ι ⟨H,n⟩ w→∃a z,u=.pointer (some a)∧(loadVar t a).run P w=.ok z w∧RV ι x z:=by
 unfold K5 at hf
 split at hf
 rotate_left
 · cases hf
 rename_i d i h1 h2
 split at hf<;>cases hf
 · rename_i h3
   obtain⟨b,q,rfl,h⟩:=T4 h
   obtain⟨n,c,hc,h⟩:=XL h
   obtain⟨hn,h⟩:=cI h
   rw[aD2] at h
   refine⟨_,h,fun {ι n' u w} hu hr=>?_⟩
   obtain⟨l,hl,rfl⟩:=hu
   obtain⟨vs,g1,g2⟩:=hr.cells (P:=P) hl hc i.size q (Nat.le_of_ble_eq_true hn)
   refine⟨_,.agg vs.toArray,rfl,?_,⟨_,rfl,g2⟩⟩
   unfold loadVar
   simp[TZ h1,h3,sizeOf,typeInfo,h2,g1]
 rename_i h3
 obtain⟨b,q,rfl,h⟩:=T4 h
 obtain⟨n,c,hc,h⟩:=XL h
 obtain⟨hn,h⟩:=cI h
 refine⟨_,h,fun {ι n' u w} hu hr=>?_⟩
 obtain⟨l,hl,rfl⟩:=hu
 obtain⟨x,g1,g2⟩:=hr.cell hl hc (Nat.le_of_ble_eq_true hn)
 refine⟨_,x,rfl,?_,g2⟩
 unfold loadVar
 simp[TZ h1,h3,g1]
def YZ (P:Program) (t:TypeId) (x:Operand):Kd:=match K5 P t with
 |some f=>.load fun T H k=>f (aY x T) H k
 |none=>.no
theorem bLF {t:TypeId} {x:Operand} (ho:o.op=.load t x):fO P o (YZ P t x):=by
 unfold YZ
 split
 rotate_left
 · exact trivial
 rename_i f hf
 intro T H k r s h
 obtain⟨v,h,hv⟩:=a1X hf h
 refine⟨v,h,fun {ι m n a w} ra hr=>?_⟩
 obtain⟨p,z,e,g1,g2⟩:=hv (bD ra x) hr
 refine⟨z,?_,g2⟩
 unfold execOp;rw[ho]
 simp[e,Instr.loadAt,Instr.sureAddr,g1]
theorem aEM {κ:aH} {w:World} {l:AV} {c:Cs} {n:Nat} {arr:Array Value} {e:TypeId} (hn:n=l.len) (hr:n≤c.room) (hg:∀j,j<l.len→c.get (0+j)=l.nth j) (hl:RL κ l arr.toList):
 RO κ (.cells n c) ⟨w.heap.size,0,arr.size⟩ (w.alloc (.cells arr e)):=by
 have hlen:l.len=arr.size:=by rw[hl.len];simp
 refine⟨hr,by show n≤arr.size;omega,arr,e,(0,0),aDJ,.inl rfl,by simp,fun i hi=>?_⟩
 obtain⟨u,h1,h2⟩:=hl.nth i (by omega)
 refine⟨u,?_,?_⟩
 · simp at h1 ⊢;exact h1
 have:=hg i (by omega)
 rw[Nat.zero_add] at this
 rw[this];exact h2
theorem XW {l:AV} {m:Nat} {c':Cs} (hr:c'.room=(Cs.new m).room) (hd:l.len=0∨0+l.len≤(Cs.new m).room):0+l.len≤c'.room:=by
 rcases hd with h|h
 · rw[h];exact Nat.zero_le _
 omega
def K0 (P:Program) (t:TypeId):Option (Value×AV):=match P.info? t with
 |some i=>match i.zero with
   |some z=>some (z,toL z.cells.toList)
   |none=>none
 |none=>none
theorem X3 {t:TypeId} {z:Value} {l:AV} (h:K0 P t=some (z,l)):(∀w,(zeroValue t).run P w=.ok z w)∧∀ι,RL ι l z.cells.toList:=by
 unfold K0 at h
 split at h
 rotate_left
 · cases h
 rename_i i h1
 split at h
 · rename_i z' h2
   cases h
   refine⟨fun w=>?_,fun ι=>toL_rep ι _⟩
   unfold zeroValue typeInfo
   simp[h1,h2]
 cases h
def aPC (P:Program) (t:TypeId):Kd:=match K0 P t with
 |some (_,l)=>uO Kd.no l 0 (Cs.new l.len) fun n c=>.make fun T k=>k (.cells n c) fun b=>.ptr b 0
 |none=>.no
theorem bJW {t:TypeId} (ho:o.op=.alloc t):fO P o (aPC P t):=by
 unfold aPC
 split
 rotate_left
 · exact trivial
 rename_i z l hz
 obtain⟨h1,h2⟩:=X3 hz
 rcases IY (rfl:uO Kd.no l 0 (Cs.new l.len) (fun n c=>Kd.make fun T k=>k (.cells n c) fun b=>.ptr b 0)=_) with h|⟨c,h,-,hr,hd,hg,-⟩
 · rw[h];exact trivial
 rw[←h]
 intro T k r s g
 refine⟨_,_,g,(fun e=>by cases e),fun {ι m a w} ra=>⟨.cells z.cells t,z.cells.size,.pointer (some ⟨w.heap.size,0,none⟩),?_,fun κ _=>?_,fun κ i hi=>⟨_,hi,rfl⟩⟩⟩
 · unfold execOp;rw[ho]
   simp[Instr.alloc,h1,newVar,newRow]
   first|done|rfl
 exact aEM (Nat.zero_add _) (XW hr hd) hg (h2 κ)
def aQ7 (x:Operand):Kd:=.make fun T k=>YL (aY x T) fun l=>uO (R.bad 50) l 0 (Cs.new l.len) fun n c=>k (.cells n c) fun b=>.ptr b 0
theorem bMW {t:TypeId} {x:Operand} (ho:o.op=.box t x):fO P o (aQ7 x):=fun {T k r s} h=>by
 obtain⟨l,h,hl⟩:=aMV h
 rcases IY h with h|⟨c,h,-,hr,hd,hg,-⟩
 · exact (R.bA h.symm).elim
 refine⟨_,_,h,(fun e=>by cases e),fun {ι m a w} ra=>⟨.cells (a.eval x).cells t,(a.eval x).cells.size,.pointer (some ⟨w.heap.size,0,none⟩),?_,fun κ hκ=>?_,fun κ i hi=>⟨_,hi,rfl⟩⟩⟩
 · unfold execOp;rw[ho]
   simp[Instr.box,newVar,newRow]
   first|done|rfl
 exact aEM (Nat.zero_add _) (XW hr hd) hg ((hl (bD ra x)).mono hκ)
def aN6 (t:TypeId) (x:Option Operand):Kd:=match x with
 |none=>.make fun T k=>k (.map []) fun b=>.map b
 |some _=>.no
theorem bGE {t:TypeId} {x:Option Operand} (ho:o.op=.makeMap t x):fO P o (aN6 t x):=by
 unfold aN6
 split
 · intro T k r s h
   refine⟨_,_,h,(fun e=>by cases e),fun {ι m a w} ra=>⟨.map #[] 0,0,.map (some w.heap.size),?_,fun κ _=>⟨#[],0,aDJ,rfl⟩,fun κ i hi=>⟨_,hi,rfl⟩⟩⟩
   unfold execOp;rw[ho]
   simp[Instr.makeMap]
   first|done|rfl
 exact trivial
theorem HR.put {ι:aH} {S:St} {w:World} (h:HR ι S w) {b:Nat} {l:Loc} (hb:ι b=some l) {n:Nat} {c c':Cs} (hc:bZ b S.h=.cells n c) {q:Nat} {x:AV} {vs:List Value}
 (hr:c'.room=c.room) (hg:∀j,j<x.len→c'.get (q+j)=x.nth j) (hk:∀j,j<c.room→(j<q∨q+x.len≤j)→c'.get j=c.get j) (hq:q+x.len≤n) (hx:RL ι x vs) (h1:∀v∈vs,v.oneCell'=true):
 ∃w',(storeCells ⟨l.b,l.d+q,none⟩ vs).run P w=.ok () w'∧HR ι ⟨dY b (.cells n c') S.h,S.n⟩ w'∧Ext ι w ι w':=by
 have F7:=h.live b l hb
 rw[hc] at F7
 obtain⟨g1,g2,a,e,f,g3,gf,g4,g5⟩:=F7
 have hlen:=hx.len
 have hrun:=aMB (P:=P) l.b (l.d+q) e f vs 0 a w g3 gf (by omega) h1
 refine⟨_,hrun,h.turn hb (by rw[hc];exact fun e=>by cases e) _ rfl rfl rfl (by simp) (fun k hk=>aXO hk) ?_⟩
 have hsz:(a.toList.take (l.d+q+0)++vs++a.toList.drop (l.d+q+0+vs.length)).length=a.size:=by simp;omega
 refine⟨by rw[hr];exact g1,g2,_,e,f,aMO g3,gf.size (by simpa using hsz),by rw[←g4];simpa using hsz,fun i hi=>?_⟩
 have bZ:∀j,(a.toList.take (l.d+q+0)++vs++a.toList.drop (l.d+q+0+vs.length)).toArray[j]?=if j<l.d+q then a[j]? else if j<l.d+q+vs.length then vs[j-(l.d+q)]? else a[j]?:=by
  intro j
  have VA:min (l.d+q) a.size=l.d+q:=by omega
  simp only[List.getElem?_toArray,Nat.add_zero,List.append_assoc]
  rw[List.getElem?_append]
  simp only[List.length_take,Array.length_toList,VA]
  split
  · rename_i hj;rw[List.getElem?_take,if_pos hj];simp
  rename_i hj
  rw[List.getElem?_append]
  split
  · rename_i hj2;rw[if_pos (by omega)]
  rename_i hj2
  rw[if_neg (by omega),List.getElem?_drop]
  simp only[Array.getElem?_toList]
  congr 1;omega
 rw[bZ]
 by_cases kD:i<q
 · rw[if_pos (by omega),hk i (by omega) (.inl kD)]
   exact g5 i hi
 by_cases jQ:i<q+x.len
 · rw[if_neg (by omega),if_pos (by omega)]
   obtain⟨u,k1,k2⟩:=hx.nth (i-q) (by omega)
   refine⟨u,by rw[show l.d+i-(l.d+q)=i-q by omega];exact k1,?_⟩
   have:=hg (i-q) (by omega)
   rw[show q+(i-q)=i by omega] at this
   rw[this];exact k2
 rw[if_neg (by omega),if_neg (by omega),hk i (by omega) (.inr (by omega))]
 exact g5 i hi
def iA (b q:Nat) (l:AV) (S:St) (k:St→R):R:=onCells (bZ b S.h) fun n c=>aS (Nat.ble (Nat.add q l.len) n) (aS l.ones (uO (R.bad 51) l q c fun _ c=>F6 b (.cells n c) S.h fun h=>k ⟨h,S.n⟩))
theorem X7 {b q:Nat} {l:AV} {S:St} {k:St→R} {r:AV} {s:St} (h:iA b q l S k=.ok r s):
 ∃S',k S'=.ok r s∧∀{ι:aH} {L:Loc} {vs:List Value} {w:World},HR ι S w→ι b=some L→RL ι l vs→
  ∃w',(storeCells ⟨L.b,L.d+q,none⟩ vs).run P w=.ok () w'∧HR ι S' w'∧Ext ι w ι w':=by
 obtain⟨n,c,hc,h⟩:=XL h
 obtain⟨h1,h⟩:=cI h
 obtain⟨h2,h⟩:=cI h
 have h1:q+l.len≤n:=Nat.le_of_ble_eq_true h1
 rcases IY h with h|⟨c',h,-,hr,-,hg,hk⟩
 · exact (R.bA h.symm).elim
 rw[YA] at h
 exact⟨_,h,fun {ι L vs w} hh hb hl=>hh.put (P:=P) hb hc hr hg hk h1 hl (aNB h2 hl)⟩
def YO (P:Program) (t:TypeId) (a x:Operand):Kd:=match P.info? t with
 |some i=>.eff fun T S k=>EK (aY a T) fun b o=>YL (aY x T) fun l=>aS (Nat.beq l.len i.size) (iA b o l S fun S=>k (.tup .nl) S)
 |none=>.no
theorem bJQ {t:TypeId} {a x:Operand} (ho:o.op=.store t a x):fO P o (YO P t a x):=by
 unfold YO
 split
 rotate_left
 · exact trivial
 rename_i i hi
 intro T S k r s h
 obtain⟨b,q,hc,h⟩:=T4 h
 obtain⟨l,h,hl⟩:=aMV h
 obtain⟨h1,h⟩:=cI h
 obtain⟨S',h,hs⟩:=X7 (P:=P) h
 refine⟨_,_,h,fun {ι m ac w} ra hr=>?_⟩
 have e1:=bD ra a;rw[hc] at e1;obtain⟨L,hL,e1⟩:=e1
 have e2:=hl (bD ra x)
 obtain⟨w',g1,g2,g3⟩:=hs hr hL e2
 have hlen:=e2.len
 rw[Nat.eq_of_beq_eq_true h1] at hlen
 refine⟨.skip,w',ι,undef,?_,.inr ⟨rfl,rfl⟩,⟨#[],rfl,rfl⟩,g2,g3⟩
 unfold execOp;rw[ho]
 have hsz:(ac.eval x).cells.size=i.size:=by rw[hlen];simp
 simp[e1,Instr.storeAt,Instr.sureAddr,storeVar,sizeOf,typeInfo,hi,hsz,g1]
end
noncomputable section
variable {P:Program} {o:Oper}
def Y6 (l:AV) (off:Nat):AV→AV
 |.cons v vs=>Y6 (l.aQV off v) (Nat.succ off) vs
 |_=>l
theorem RL.set {ι:aH}:∀{x:AV} {l:List Value} (i:Nat) {v:AV} {u:Value},RL ι x l→RV ι v u→RL ι (x.aQV i v) (l.set i u)
 |.nl,l,i,v,u,h,_=>by cases h;cases i<;>rfl
 |.cons a t,l,0,v,u,h,hv=>by
   obtain⟨p,q,rfl,h1,h2⟩:=h
   exact⟨u,q,rfl,hv,h2⟩
 |.cons a t,l,i+1,v,u,h,hv=>by
   obtain⟨p,q,rfl,h1,h2⟩:=h
   exact⟨p,q.set i u,rfl,h1,RL.set (x:=t) i h2 hv⟩
 |.top,_,_,_,_,h,_=>h.elim
 |.bool _,_,_,_,_,h,_=>h.elim
 |.int _ _,_,_,_,_,h,_=>h.elim
 |.str _ _,_,_,_,_,h,_=>h.elim
 |.pnil,_,_,_,_,h,_=>h.elim
 |.ptr _ _,_,_,_,_,h,_=>h.elim
 |.snil,_,_,_,_,h,_=>h.elim
 |.sl _ _ _ _,_,_,_,_,h,_=>h.elim
 |.slu _ _ _ _,_,_,_,_,h,_=>h.elim
 |.mnil,_,_,_,_,h,_=>h.elim
 |.map _,_,_,_,_,h,_=>h.elim
 |.fn _ _ _,_,_,_,_,h,_=>h.elim
 |.fnil,_,_,_,_,h,_=>h.elim
 |.inil,_,_,_,_,h,_=>h.elim
 |.iface _ _,_,_,_,_,h,_=>h.elim
 |.agg _,_,_,_,_,h,_=>h.elim
 |.tup _,_,_,_,_,h,_=>h.elim
 |.ge _,_,_,_,_,h,_=>h.elim
def QO (l:List Value) (off:Nat):List Value→List Value
 | []=>l
 |v::vs=>QO (l.set off v) (off+1) vs
theorem aX6:∀(vs:List Value) (l:List Value) (off:Nat),(QO l off vs).length=l.length
 | [],_,_=>rfl
 |v::vs,l,off=>by rw[QO,aX6 vs];simp
theorem RL.fill {ι:aH}:∀{x y:AV} {l vs:List Value} (i:Nat),RL ι x l→RL ι y vs→RL ι (Y6 x i y) (QO l i vs)
 |x,.nl,l,vs,i,h,hv=>by cases hv;exact h
 |x,.cons a t,l,vs,i,h,hv=>by
   obtain⟨p,q,rfl,h1,h2⟩:=hv
   exact RL.fill (i+1) (h.set i h1) h2
 |_,.top,_,_,_,_,h=>h.elim
 |_,.bool _,_,_,_,_,h=>h.elim
 |_,.int _ _,_,_,_,_,h=>h.elim
 |_,.str _ _,_,_,_,_,h=>h.elim
 |_,.pnil,_,_,_,_,h=>h.elim
 |_,.ptr _ _,_,_,_,_,h=>h.elim
 |_,.snil,_,_,_,_,h=>h.elim
 |_,.sl _ _ _ _,_,_,_,_,h=>h.elim
 |_,.slu _ _ _ _,_,_,_,_,h=>h.elim
 |_,.mnil,_,_,_,_,h=>h.elim
 |_,.map _,_,_,_,_,h=>h.elim
 |_,.fn _ _ _,_,_,_,_,h=>h.elim
 |_,.fnil,_,_,_,_,h=>h.elim
 |_,.inil,_,_,_,_,h=>h.elim
 |_,.iface _ _,_,_,_,_,h=>h.elim
 |_,.agg _,_,_,_,_,h=>h.elim
 |_,.tup _,_,_,_,_,h=>h.elim
 |_,.ge _,_,_,_,_,h=>h.elim
theorem a0X (off:Nat):∀(vs:List Value) (j:Nat) (cs:Array Value),
 ((vs.zipIdx j).foldl (fun (cs:Array Value) (x:Value×Nat)=>cs.setIfInBounds (off+x.2) x.1) cs).toList=QO cs.toList (off+j) vs
 | [],_,_=>rfl
 |v::vs,j,cs=>by
   rw[List.zipIdx_cons,List.foldl_cons,a0X off vs (j+1)]
   simp[QO,Nat.add_assoc]
def NY (place:Nat→Option (Nat×Nat)) (total:Nat) (T:T):List (Nat×Operand)→AV→(AV→R)→R
 | [],l,k=>k l
 |(i,x)::r,l,k=>match place i with
   |some (off,size)=>YL (aY x T) fun ps=>aS (Nat.beq ps.len size) (aS (Nat.ble (Nat.add off size) total) (NY place total T r (Y6 l off ps) k))
   |none=>.bad 52
theorem aDX {place:Nat→Option (Nat×Nat)} {total:Nat} {T:T}:∀{ps:List (Nat×Operand)} {l:AV} {k:AV→R} {r:AV} {s:St},NY place total T ps l k=.ok r s→
 ∃l',k l'=.ok r s∧∀{ι:aH} {m:Nat} {a:Act} {cs:Array Value},RA ι m T a→RL ι l cs.toList→cs.size=total→
  ∃ds,Instr.fill place cs (ps.map fun p=>(p.1,a.eval p.2))=some ds∧RL ι l' ds.toList∧ds.size=total
 | [],l,k,r,s,h=>⟨l,h,fun {ι m a cs} _ hl hs=>⟨cs,rfl,hl,hs⟩⟩
 |(i,x)::ps,l,k,r,s,h=>by
   unfold NY at h
   split at h
   rotate_left
   · exact (R.bA h).elim
   rename_i off size hp
   obtain⟨q,h,hq⟩:=aMV h
   obtain⟨h1,h⟩:=cI h
   obtain⟨h2,h⟩:=cI h
   have h2:off+size≤total:=Nat.le_of_ble_eq_true h2
   obtain⟨l',h,hl'⟩:=aDX h
   refine⟨l',h,fun {ι m a cs} ra hl hs=>?_⟩
   have hx:=hq (bD ra x)
   have hlen:=hx.len
   rw[Nat.eq_of_beq_eq_true h1] at hlen
   have hsz:(a.eval x).cells.size=size:=by rw[hlen];simp
   have a6A:((a.eval x).cells.zipIdx.foldl (fun (cs:Array Value) (x:Value×Nat)=>cs.setIfInBounds (off+x.2) x.1) cs).toList=QO cs.toList off (a.eval x).cells.toList:=by
    rw[←Array.foldl_toList,Array.toList_zipIdx,a0X];rfl
   obtain⟨ds,g1,g2,g3⟩:=hl' (cs:=(a.eval x).cells.zipIdx.foldl (fun (cs:Array Value) (x:Value×Nat)=>cs.setIfInBounds (off+x.2) x.1) cs) ra (by rw[a6A];exact hl.fill off hx)
    (by rw[←Array.length_toList,a6A,aX6,Array.length_toList,hs])
   refine⟨ds,?_,g2,g3⟩
   simp only[List.map_cons,Instr.fill,hp]
   rw[if_neg (by rw[hsz,hs];simp;omega)]
   exact g1
def YF (P:Program):List Field→Option (List (Nat×Nat))
 | []=>some []
 |f::fs=>match P.info? f.type,YF P fs with
   |some i,some l=>some ((f.offset,i.size)::l)
   |_,_=>none
theorem aY6:∀{fs:List Field} {l:List (Nat×Nat)} {w:World},YF P fs=some l→(fs.mapM (m:=Sem) fun f=>do pure (f.offset,←sizeOf f.type)).run P w=.ok l w
 | [],l,w,h=>by cases h;rfl
 |f::fs,l,w,h=>by
   unfold YF at h
   split at h
   · rename_i i l' h1 h2
     cases h
     have hs:(sizeOf f.type).run P w=.ok i.size w:=by simp[sizeOf,typeInfo,h1]
     rw[List.mapM_cons]
     simp only[Sem.run_bind,hs,Result.andThen_ok,Sem.run_pure,aY6 h2]
   cases h
def YQ (P:Program) (t:TypeId) (ps:Array (Nat×Operand)):Kd:=match K0 P t,P.underlying t with
 |some (z,l),some (.struct fs)=>match YF P fs.toList with
   |some pl=>.pure fun T k=>NY (fun i=>pl[i]?) l.len T ps.toList l fun l=>k (.agg l)
   |none=>.no
 |some (z,l),some (.array _ e)=>match P.info? e with
   |some i=>.pure fun T k=>NY (fun j=>some (j*i.size,i.size)) l.len T ps.toList l fun l=>k (.agg l)
   |none=>.no
 |_,_=>.no
theorem bJV {t:TypeId} {ps:Array (Nat×Operand)} (ho:o.op=.build t ps):fO P o (YQ P t ps):=by
 unfold YQ
 split
 · rename_i z l fs hz h1
   obtain⟨z1,z2⟩:=X3 hz
   split
   rotate_left
   · exact trivial
   rename_i pl hpl
   intro T k r s h
   obtain⟨l',h,hl⟩:=aDX h
   refine⟨_,h,fun {ι m a w} ra=>?_⟩
   obtain⟨ds,g1,g2,-⟩:=hl (cs:=z.cells) ra (z2 ι) (by rw[(z2 ι).len];simp)
   refine⟨.agg ds,?_,⟨ds,rfl,g2⟩⟩
   have hm:(fs.mapM (m:=Sem) fun f=>do pure (f.offset,←sizeOf f.type)).run P w=.ok pl.toArray w:=by
    rw[Array.mapM_eq_mapM_toList]
    simp only[Sem.run_map,aY6 hpl,Result.andThen_ok]
   simp only[bind_pure_comp] at hm
   unfold execOp;rw[ho]
   simp[Instr.build,z1,underlying,h1,hm,g1]
 · rename_i z l n e hz h1
   obtain⟨z1,z2⟩:=X3 hz
   split
   rotate_left
   · exact trivial
   rename_i i h2
   intro T k r s h
   obtain⟨l',h,hl⟩:=aDX h
   refine⟨_,h,fun {ι m a w} ra=>?_⟩
   obtain⟨ds,g1,g2,-⟩:=hl (cs:=z.cells) ra (z2 ι) (by rw[(z2 ι).len];simp)
   refine⟨.agg ds,?_,⟨ds,rfl,g2⟩⟩
   unfold execOp;rw[ho]
   simp[Instr.build,z1,underlying,h1,sizeOf,typeInfo,h2,g1]
 exact trivial
end
noncomputable section
variable {P:Program} {o:Oper}
def ED (l:AV):Nat→AV
 |0=>.nl
 |n+1=>l.app (ED l n)
theorem aYP (Z:Array Value) (sz:Nat) (h:Z.size=sz):∀n,((List.range (n*sz)).map fun i=>Z[i % Z.size]!)=(List.replicate n Z.toList).flatten
 |0=>by simp
 |n+1=>by
   rw[show (n+1)*sz=sz+n*sz by rw[Nat.add_mul,Nat.one_mul,Nat.add_comm],List.range_add,List.map_append,List.replicate_succ,List.flatten_cons,List.map_map]
   congr 1
   · apply List.ext_getElem
     · simp[h]
     intro i h1 h2
     simp at h1 h2
     have:i % Z.size=i:=Nat.mod_eq_of_lt (by omega)
     simp[this,h2]
   rw[←aYP Z sz h n]
   apply List.map_congr_left
   intro i _
   simp[h]
theorem RL.zeros {ι:aH} {l:AV} {Z:Array Value} {sz:Nat} (h:Z.size=sz) (hl:RL ι l Z.toList):∀n,RL ι (ED l n) ((Array.range (n*sz)).map fun i=>Z[i % Z.size]!).toList:=by
 intro n
 rw[Array.toList_map,Array.toList_range,aYP Z sz h n]
 induction n with
 |zero=>exact rfl
 |succ n ih=>rw[List.replicate_succ,List.flatten_cons];exact hl.app ih
structure El where
 e:TypeId
 size:Nat
 bytes:Nat
 z:Value
 l:AV
def S6 (P:Program) (t:TypeId):Option El:=match P.underlying t with
 |some (.slice e)=>match P.info? e,K0 P e with
   |some i,some (z,l)=>match Nat.beq l.len i.size&&(Nat.ble 1 i.size&&Nat.ble i.bytes 65536) with
     |true=>some ⟨e,i.size,i.bytes,z,l⟩
     |false=>none
   |_,_=>none
 |_=>none
structure OX (P:Program) (t:TypeId) (x:El):Prop where
 under:P.underlying t=some (.slice x.e)
 info:∃i,P.info? x.e=some i∧i.size=x.size∧i.bytes=x.bytes
 zero:∀w,(zeroValue x.e).run P w=.ok x.z w
 rep:∀ι,RL ι x.l x.z.cells.toList
 len:x.z.cells.size=x.size
 pos:1≤x.size
 small:x.bytes≤65536
theorem aIE {t:TypeId} {x:El} (h:S6 P t=some x):OX P t x:=by
 unfold S6 at h
 split at h
 rotate_left
 · cases h
 rename_i e h1
 split at h
 rotate_left
 · cases h
 rename_i i z l h2 h3
 split at h
 rotate_left
 · cases h
 rename_i h4
 cases h
 simp only[Bool.and_eq_true] at h4
 obtain⟨z1,z2⟩:=X3 h3
 refine⟨h1,⟨i,h2,rfl,rfl⟩,z1,z2,?_,Nat.le_of_ble_eq_true h4.2.1,Nat.le_of_ble_eq_true h4.2.2⟩
 have:=(z2 aH.zero).len
 rw[Nat.eq_of_beq_eq_true h4.1] at this
 rw[←Array.length_toList];exact this.symm
theorem OX.sizeOf {t:TypeId} {x:El} (h:OX P t x) (w:World):(sizeOf x.e).run P w=.ok x.size w:=by
 obtain⟨i,h1,h2,h3⟩:=h.info
 simp[Go.sizeOf,typeInfo,h1,h2]
theorem OX.typeInfo {t:TypeId} {x:El} (h:OX P t x) (w:World):∃i,(typeInfo x.e).run P w=.ok i w∧i.size=x.size∧i.bytes=x.bytes:=by
 obtain⟨i,h1,h2,h3⟩:=h.info
 exact⟨i,by simp[Go.typeInfo,h1],h2,h3⟩
theorem kM {t:TypeId} {d:TypeDesc} {w:World} (h:P.underlying t=some d):(underlying t).run P w=.ok d w:=by simp[underlying,h]
def XM (P:Program) (t:TypeId) (len:Nat) (ps:Array (Nat×Operand)):Kd:=match S6 P t with
 |some x=>match Nat.ble (len*x.size) 16777216 with
   |true=>.make fun T k=>NY (fun j=>some (j*x.size,x.size)) (len*x.size) T ps.toList (ED x.l len) fun l=>uO (R.bad 53) l 0 (Cs.new l.len) fun n c=>k (.cells n c) fun b=>.sl b 0 len len
   |false=>.no
 |none=>.no
theorem bEQ {t:TypeId} {len:Nat} {ps:Array (Nat×Operand)} (ho:o.op=.buildSlice t len ps):fO P o (XM P t len ps):=by
 unfold XM
 split
 rotate_left
 · exact trivial
 rename_i x hx
 have ok:=aIE hx
 split
 rotate_left
 · exact trivial
 rename_i hle
 have hle:=Nat.le_of_ble_eq_true hle
 intro T k r s h
 obtain⟨l,h,hl⟩:=aDX h
 rcases IY h with h|⟨c,h,-,hr,hd,hg,-⟩
 · exact (R.bA h.symm).elim
 refine⟨_,_,h,(fun e=>by cases e),fun {ι m a w} ra=>?_⟩
 have hz:∃Z:Array Value,(len*x.size=0∧Z=#[]∨len*x.size≠0∧Z=x.z.cells)∧((Array.range (len*x.size)).map fun i=>Z[i % Z.size]!).size=len*x.size∧RL ι (ED x.l len) ((Array.range (len*x.size)).map fun i=>Z[i % Z.size]!).toList:=by
  by_cases e:len*x.size=0
  · refine⟨#[],.inl ⟨e,rfl⟩,by simp,?_⟩
    have:len=0:=by
     rcases Nat.mul_eq_zero.1 e with h|h
     · exact h
     have:=ok.pos;omega
    subst this
    simp[ED];exact rfl
  exact⟨x.z.cells,.inr ⟨e,rfl⟩,by simp,(ok.rep ι).zeros ok.len len⟩
 obtain⟨Z,hz1,hz2,hz3⟩:=hz
 obtain⟨ds,g1,g2,g3⟩:=hl ra hz3 hz2
 refine⟨.cells ds x.e,ds.size,.slice (some ⟨w.heap.size,0,none⟩) len len,?_,fun κ hκ=>aEM (Nat.zero_add _) (XW hr hd) hg (g2.mono hκ),fun κ i hi=>⟨_,hi,rfl⟩⟩
 unfold execOp;rw[ho]
 have bQT:¬(len*x.size > 2 ^ 24):=by omega
 have P0:Instr.fill (fun i=>some (i*x.size,x.size)) ((Array.range (len*x.size)).map fun i=>Z[i % Z.size]!) (ps.map fun p=>(p.1,a.eval p.2)).toList=some ds:=by rw[Array.toList_map];exact g1
 simp only[Instr.buildSlice,Sem.run_bind,kM ok.under,Result.andThen_ok,ok.sizeOf w]
 rw[if_neg bQT]
 rcases hz1 with⟨e,rfl⟩|⟨e,rfl⟩
 · simp only[pure_bind,Sem.run_bind,Sem.run_pure,Result.andThen_ok]
   rw[if_pos e]
   simp only[pure_bind,P0,Sem.run_bind,Sem.run_pure,newRow,run_newObj,Result.andThen_ok]
   rfl
 simp only[pure_bind,Sem.run_bind,Sem.run_pure,Result.andThen_ok]
 rw[if_neg e]
 simp only[pure_bind,bind_assoc,Sem.run_bind,ok.zero,Result.andThen_ok,P0,Sem.run_pure,newRow,run_newObj]
 rfl
def aMX (P:Program) (t:TypeId) (x y:Operand):Kd:=match S6 P t with
 |some e=>.make fun T k=>EL (aY x T) fun n=>EL (aY y T) fun c=>aS (Nat.ble n c) (aS (Nat.ble c 1000000) (uO (R.bad 54) (ED e.l c) 0 (Cs.new (Nat.mul c e.size)) fun m cs=>k (.cells m cs) fun b=>.sl b 0 n c))
 |none=>.no
theorem wrap_small {n:Nat} (h:n≤1000000):IntKind.i64.wrap (n:Int)=n:=by
 rw[←X4]
 show Bool.rec (motive:=fun _=>Int) _ _ (BK .i64 n)=_
 have:BK .i64 n=true:=by show Nat.ble n 9223372036854775807=true;rw[Nat.ble_eq];omega
 rw[this];rfl
theorem bE5 {t:TypeId} {x y:Operand} (ho:o.op=.makeSlice t x y):fO P o (aMX P t x y):=by
 unfold aMX
 split
 rotate_left
 · exact trivial
 rename_i e he
 have ok:=aIE he
 intro T k r s h
 obtain⟨kn,n,h1,h⟩:=KP h
 obtain⟨kc,c,h2,h⟩:=KP h
 obtain⟨h3,h⟩:=cI h
 obtain⟨h4,h⟩:=cI h
 have h3:=Nat.le_of_ble_eq_true h3
 have h4:=Nat.le_of_ble_eq_true h4
 rcases IY h with h|⟨cs,h,-,hr,hd,hg,-⟩
 · exact (R.bA h.symm).elim
 have hroom:0+(ED e.l c).len≤cs.room:=by
  rcases hd with hd|hd
  · rw[hd];exact Nat.zero_le _
  rw[hr];exact hd
 refine⟨_,_,h,(fun e=>by cases e),fun {ι m a w} ra=>?_⟩
 have e1:=bD ra x;rw[h1] at e1;have e1:a.eval x=.int kn (n:Int):=e1
 have e2:=bD ra y;rw[h2] at e2;have e2:a.eval y=.int kc (c:Int):=e2
 obtain⟨i,hi,kD,jQ⟩:=ok.typeInfo w
 have hb:=ok.small
 have hmul:e.bytes*c≤65536*1000000:=Nat.mul_le_mul hb h4
 have bS6:((e.bytes:Int)*(c:Int))≤65536*1000000:=by rw[←Int.natCast_mul];omega
 have wc:=wrap_small h4
 have wn:=wrap_small (Nat.le_trans h3 h4)
 have hz:∃Z:Array Value,(c*e.size=0∧Z=#[]∨c*e.size≠0∧Z=e.z.cells)∧RL ι (ED e.l c) ((Array.range (c*e.size)).map fun i=>Z[i % Z.size]!).toList:=by
  by_cases g:c*e.size=0
  · refine⟨#[],.inl ⟨g,rfl⟩,?_⟩
    have:c=0:=by
     rcases Nat.mul_eq_zero.1 g with h|h
     · exact h
     have:=ok.pos;omega
    subst this
    simp[ED];exact rfl
  exact⟨e.z.cells,.inr ⟨g,rfl⟩,(ok.rep ι).zeros ok.len c⟩
 obtain⟨Z,hz1,hz2⟩:=hz
 refine⟨.cells ((Array.range (c*e.size)).map fun i=>Z[i % Z.size]!) e.e,_,.slice (some ⟨w.heap.size,0,none⟩) n c,?_,fun κ hκ=>aEM (Nat.zero_add _) hroom hg (hz2.mono hκ),fun κ i hi=>⟨_,hi,rfl⟩⟩
 unfold execOp;rw[ho]
 have t3:¬((e.bytes:Int)*(c:Int) > 2 ^ 48):=by omega
 have t1:decide ((c:Int)<0)=false:=decide_eq_false (by omega)
 have t2:decide ((e.bytes:Int)*(c:Int) > 2 ^ 48)=false:=decide_eq_false t3
 have t4:decide ((n:Int)<0)=false:=decide_eq_false (by omega)
 have t5:decide ((n:Int) > (c:Int))=false:=decide_eq_false (by omega)
 simp only[Instr.makeSlice,Sem.run_bind,kM ok.under,Result.andThen_ok,e1,e2,asInt,asIntOf,Sem.run_pure,hi,kD,jQ,wc,wn,ok.sizeOf w,pure_bind,run_askRoom,Int.toNat_natCast]
 rw[t1,t2,t4,t5]
 simp only[Bool.or_false,Bool.false_eq_true,if_false,Sem.run_bind,run_askRoom,Result.andThen_ok,ok.sizeOf w]
 rcases hz1 with⟨g,rfl⟩|⟨g,rfl⟩
 · rw[if_pos g]
   simp only[newRow,Sem.run_bind,run_newObj,Sem.run_pure,Result.andThen_ok,pure_bind]
   rfl
 rw[if_neg g]
 simp only[newRow,Sem.run_bind,run_newObj,Sem.run_pure,Result.andThen_ok,pure_bind,ok.zero,bind_assoc]
 rfl
end
end
end Go.Ev
