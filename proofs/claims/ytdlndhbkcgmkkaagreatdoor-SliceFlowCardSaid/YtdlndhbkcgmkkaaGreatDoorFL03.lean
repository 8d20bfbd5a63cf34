/-
 Part 3 of 35 of a proof about the given program: facts on which the last part stands.
-/
import Derived.Test.YtdlndhbkcgmkkaaGreatDoorFL02
import Derived.Laws.StructEq
set_option maxHeartbeats 12800000
set_option linter.unusedVariables false
set_option linter.unusedSimpArgs false
namespace Go.Ev
section
open Go
noncomputable section
variable {P:Program} {o:Oper}
theorem FU {b:Builtin} {args:Array Operand} {ts:Array TypeId} {a:Act} {w:World} (ho:o.op=.call { callee:=.builtin b,args:=args,argTypes:=ts }):
 ∃consts,(execOp a.eval o).run P w=(builtin b ts o.type consts (args.map a.eval)).run P w:=by
 refine⟨args.map fun | .const _=>true|_=>false,?_⟩
 unfold execOp;rw[ho]
 simp[resolve,invoke]
 rfl
theorem a07 (p q:ByteArray):(p==q)=true↔p=q:=by
 show (p.data==q.data)=true↔p=q
 rw[beq_iff_eq]
 exact⟨fun h=>by cases p;cases q;simp at h;rw[h],fun h=>by rw[h]⟩
def aJA (v:AV) (k:AV→R):R:=match v with
 |.str n _=>k (.int .i64 (.ofNat n))
 |.sl _ _ n _=>k (.int .i64 (.ofNat n))
 |.slu _ _ n _=>k (.int .i64 (.ofNat n))
 |.snil=>k (.int .i64 (.ofNat 0))
 |.mnil=>k (.int .i64 (.ofNat 0))
 |_=>.bad 60
def aQ3 (d:TypeDesc) (v:AV):Bool:=match d,v with
 |.string,.str _ _=>true
 |.slice _,.sl _ _ _ _=>true
 |.slice _,.slu _ _ _ _=>true
 |.slice _,.snil=>true
 |.map _ _,.mnil=>true
 |_,_=>false
def OB (P:Program) (ts:Array TypeId) (args:Array Operand):Kd:=match args,ts[0]? with
 |⟨[x]⟩,some t=>match P.underlying t with
   |some (.map kt et)=>.load fun T H k=>match aY x T with
     |.mnil=>k (.int .i64 (.ofNat 0))
     |.map b=>UT (bZ b H) fun es=>k (.int .i64 (.ofNat es.length))
     |_=>.bad 61
   |some d=>.pure fun T k=>aS (aQ3 d (aY x T)) (aJA (aY x T) k)
   |none=>.no
 |_,_=>.no
theorem RM.len {ι:aH}:∀{es:List (AV×AV)} {l:List MapEntry},RM ι es l→es.length=l.length
 | [],l,h=>by cases h;rfl
 |(a,v)::r,l,h=>by
   obtain⟨e,q,rfl,-,-,h2⟩:=h
   exact congrArg Nat.succ (RM.len h2)
theorem HR.map {ι:aH} {S:St} {w:World} (h:HR ι S w) {b:Nat} {l:Loc} (hb:ι b=some l) {es:List (AV×AV)} (hc:bZ b S.h=.map es):
 ∃a k,w.heap[l.b]?=some (.map a k)∧RM ι es a.toList:=by
 have:=h.live b l hb
 rw[hc] at this
 exact this
theorem bMV {ts:Array TypeId} {args:Array Operand} (ho:o.op=.call { callee:=.builtin .len,args:=args,argTypes:=ts }):fO P o (OB P ts args):=by
 unfold OB
 split
 rotate_left
 · exact trivial
 rename_i x t ht
 split
 · rename_i kt et h1
   intro T H k r s h
   dsimp only at h
   split at h
   · rename_i hc
     refine⟨_,h,fun {ι m n a w} ra hr=>⟨.int .i64 (.ofNat 0),?_,rfl⟩⟩
     have e1:=bD ra x;rw[hc] at e1;have e1:a.eval x=_:=e1
     obtain⟨cs,hb⟩:=FU (P:=P) (a:=a) (w:=w) ho
     rw[hb]
     simp[builtin,Builtin.len_,ht,e1,kM h1,goInt]
   · rename_i b hc
     obtain⟨es,hes,h⟩:=aND h
     refine⟨_,h,fun {ι m n a w} ra hr=>⟨.int .i64 (.ofNat es.length),?_,rfl⟩⟩
     have e1:=bD ra x;rw[hc] at e1;obtain⟨l,hl,e1⟩:=e1
     obtain⟨ar,kk,g1,g2⟩:=hr.map hl hes
     obtain⟨cs,hb⟩:=FU (P:=P) (a:=a) (w:=w) ho
     rw[hb]
     have hlen:=g2.len
     have hg:(getObj l.b).run P w=.ok (.map ar kk) w:=by simp[getObj,Sem.run,g1]
     simp[builtin,Builtin.len_,ht,e1,kM h1,hg,goInt,hlen]
   exact (R.bA h).elim
 · rename_i d h1 h2
   intro T k r s h
   obtain⟨hd,h⟩:=cI h
   generalize hc:aY x T=v at hd h
   unfold aJA at h
   split at h
   · refine⟨_,h,fun {ι m a w} ra=>⟨_,?_,rfl⟩⟩
     have e1:=bD ra x;rw[hc] at e1;obtain⟨z,e1,hz,-⟩:=e1
     obtain⟨cs,hb⟩:=FU (P:=P) (a:=a) (w:=w) ho
     cases d<;>first|(cases hd;done)|skip
     rw[hb]
     simp[builtin,Builtin.len_,ht,e1,kM h2,goInt,hz]
   · refine⟨_,h,fun {ι m a w} ra=>⟨_,?_,rfl⟩⟩
     have e1:=bD ra x;rw[hc] at e1;obtain⟨z,-,e1⟩:=e1
     obtain⟨cs,hb⟩:=FU (P:=P) (a:=a) (w:=w) ho
     cases d<;>first|(cases hd;done)|skip
     rw[hb]
     simp[builtin,Builtin.len_,ht,e1,kM h2,goInt]
   · refine⟨_,h,fun {ι m a w} ra=>⟨_,?_,rfl⟩⟩
     have e1:=bD ra x;rw[hc] at e1
     obtain⟨cs,hb⟩:=FU (P:=P) (a:=a) (w:=w) ho
     cases d<;>first|(cases hd;done)|skip
     rw[hb]
     obtain⟨z,-,⟨_,e1,-⟩|⟨rfl,_,e1⟩⟩:=e1<;>simp[builtin,Builtin.len_,ht,e1,kM h2,goInt]
   · refine⟨_,h,fun {ι m a w} ra=>⟨_,?_,rfl⟩⟩
     have e1:=bD ra x;rw[hc] at e1;have e1:a.eval x=_:=e1
     obtain⟨cs,hb⟩:=FU (P:=P) (a:=a) (w:=w) ho
     cases d<;>first|(cases hd;done)|skip
     rw[hb]
     simp[builtin,Builtin.len_,ht,e1,kM h2,goInt]
   · refine⟨_,h,fun {ι m a w} ra=>⟨_,?_,rfl⟩⟩
     have e1:=bD ra x;rw[hc] at e1;have e1:a.eval x=_:=e1
     obtain⟨cs,hb⟩:=FU (P:=P) (a:=a) (w:=w) ho
     cases d<;>first|(cases hd;done)|skip
     rw[hb]
     simp[builtin,Builtin.len_,ht,e1,kM h2,goInt]
   exact (R.bA h).elim
 exact trivial
def aOO (mx:Bool) (args:Array Operand):Kd:=match args with
 |⟨[x,y]⟩=>.pure fun T k=>rF (aY x T) (.bad 63) fun kx a=>rF (aY y T) (.bad 63) fun _ b=>match mx with
   |true=>iK kx (cond (JZ a b) b a) k
   |false=>iK kx (cond (JZ a b) a b) k
 |_=>.no
theorem bHS {mx:Bool} {ts:Array TypeId} {args:Array Operand} (ho:o.op=.call { callee:=.builtin (if mx then .max else .min),args:=args,argTypes:=ts }):fO P o (aOO mx args):=by
 unfold aOO
 split
 rotate_left
 · exact trivial
 rename_i x y
 intro T k r s h
 rcases QH h with⟨kx,a,h1,h⟩|⟨-,h⟩
 rotate_left
 · exact (R.bA h).elim
 rcases QH h with⟨ky,b,h2,h⟩|⟨-,h⟩
 · cases mx
   · simp only[K6,aO6] at h
     refine⟨_,h,fun {ι m ac w} ra=>⟨_,?_,rfl⟩⟩
     have e1:=bD ra x;rw[h1] at e1;have e1:ac.eval x=_:=e1
     have e2:=bD ra y;rw[h2] at e2;have e2:ac.eval y=_:=e2
     obtain⟨cs,hb⟩:=FU (P:=P) (a:=ac) (w:=w) ho
     rw[hb]
     by_cases g:a≤b
     · have:¬b<a:=by omega
       simp[builtin,Builtin.min_,Builtin.min2,e1,e2,g,this]
     have:b<a:=by omega
     simp[builtin,Builtin.min_,Builtin.min2,e1,e2,g,this]
   simp only[K6,aO6] at h
   refine⟨_,h,fun {ι m ac w} ra=>⟨_,?_,rfl⟩⟩
   have e1:=bD ra x;rw[h1] at e1;have e1:ac.eval x=_:=e1
   have e2:=bD ra y;rw[h2] at e2;have e2:ac.eval y=_:=e2
   obtain⟨cs,hb⟩:=FU (P:=P) (a:=ac) (w:=w) ho
   rw[hb]
   rcases Int.lt_trichotomy a b with g|g|g
   · have g2:a≤b:=by omega
     have g3:¬b<a:=by omega
     simp[builtin,Builtin.max_,Builtin.max2,e1,e2,g,g2,g3]
   · subst g
     simp[builtin,Builtin.max_,Builtin.max2,e1,e2]
   have g2:¬a≤b:=by omega
   have g3:¬a<b:=by omega
   simp[builtin,Builtin.max_,Builtin.max2,e1,e2,g,g2,g3]
 exact (R.bA h).elim
def U5 (x y:AV):Option Bool:=match x,y with
 |.int k a,.int l b=>match JP k l with
   |true=>some (FC a b)
   |false=>none
 |.str n a,.str m b=>some (Nat.beq n m&&Nat.beq a b)
 |.bool a,.bool b=>some (a==b)
 |_,_=>none
def plainKey (d:TypeDesc) (x:AV):Bool:=match d,x with
 |.int _,.int _ _=>true
 |.string,.str _ _=>true
 |.bool,.bool _=>true
 |_,_=>false
theorem a2T {x y:AV} {b:Bool} (h:U5 x y=some b) {d:TypeDesc} (hd:plainKey d x=true) {ι:aH} {u v:Value} (hu:RV ι x u) (hv:RV ι y v):
 Instr.sameNow d u v=some b∧(b=true→∀n,Instr.sameBits n v u=true):=by
 unfold U5 at h
 split at h
 · split at h<;>cases h
   rename_i k a l b hk
   obtain rfl:=aOV hk
   cases d<;>first|(cases hd;done)|skip
   cases hu;cases hv
   refine⟨by simp[Instr.sameNow,aID];rfl,fun hb n=>?_⟩
   rw[aID,decide_eq_true_eq] at hb
   subst hb
   cases n<;>simp[Instr.sameBits]
 · rename_i n a m b
   cases h
   cases d<;>first|(cases hd;done)|skip
   obtain⟨p,rfl,hp,hpa⟩:=hu
   obtain⟨q,rfl,hq,hqa⟩:=hv
   have hb:(Nat.beq n m&&Nat.beq a b)=decide (p=q):=by
    rw[Bool.eq_iff_iff,Bool.and_eq_true,decide_eq_true_eq,Nat.beq_eq,Nat.beq_eq,←hp,←hq,←hpa,←hqa,a3M,ByteArray.toList_eq,ByteArray.toList_eq]
    exact⟨fun h=>by cases p;cases q;simp at h;rw[h],fun h=>by rw[h]⟩
   refine⟨?_,fun he k=>?_⟩
   · rw[hb];simp[Instr.sameNow]
     rw[Bool.eq_iff_iff,a07];simp
   rw[hb,decide_eq_true_eq] at he
   subst he
   cases k<;>exact (a07 _ _).2 rfl
 · cases h
   cases d<;>first|(cases hd;done)|skip
   cases hu;cases hv
   rename_i a b
   refine⟨rfl,fun he n=>?_⟩
   have:a=b:=by simpa using he
   subst this
   cases n<;>simp[Instr.sameBits]
 cases h
def K9 (x:AV):List (AV×AV)→Nat→(Option (Nat×AV)→R)→R
 | [],_,k=>k none
 |(a,v)::r,i,k=>match U5 x a with
   |some true=>k (some (i,v))
   |some false=>K9 x r (i+1) k
   |none=>.bad 64
theorem aNM {x:AV}:∀{es:List (AV×AV)} {i:Nat} {k:Option (Nat×AV)→R} {r:AV} {s:St},K9 x es i k=.ok r s→
 ∃q,k q=.ok r s∧∀{d:TypeDesc},plainKey d x=true→∀{ι:aH} {u:Value} {l:List MapEntry},RV ι x u→RM ι es l→
  match q with
  |none=>Instr.findNow d u l i=some none
  |some (j,v)=>∃z e,Instr.findNow d u l i=some (some (j,z))∧RV ι v z∧i≤j∧l[j-i]?=some e∧∀n,Instr.sameBits n e.key u=true
 | [],i,k,r,s,h=>⟨none,h,fun {d} _ {ι u l} _ hl=>by cases hl;rfl⟩
 |(a,v)::es,i,k,r,s,h=>by
   unfold K9 at h
   split at h
   · rename_i hk
     refine⟨some (i,v),h,fun {d} hd {ι u l} hu hl=>?_⟩
     obtain⟨e,q,rfl,h1,h2,-⟩:=hl
     obtain⟨g1,g2⟩:=a2T hk hd hu h1
     exact⟨e.val,e,by simp[Instr.findNow,g1],h2,Nat.le_refl _,by simp,g2 rfl⟩
   · rename_i hk
     obtain⟨q,h,hq⟩:=aNM h
     refine⟨q,h,fun {d} hd {ι u l} hu hl=>?_⟩
     obtain⟨e,p,rfl,h1,-,h3⟩:=hl
     obtain⟨g1,-⟩:=a2T hk hd hu h1
     have:=hq hd hu h3
     cases q with
     |none=>simp only[Instr.findNow,g1];exact this
     |some jv=>
      obtain⟨j,v'⟩:=jv
      obtain⟨z,e',k1,k2,k3,k4,k5⟩:=this
      refine⟨z,e',by simp only[Instr.findNow,g1];exact k1,k2,by omega,?_,k5⟩
      rw[show j-i=(j-(i+1))+1 by omega];exact k4
   exact (R.bA h).elim
theorem run_checkKey {d:TypeDesc} {t:TypeId} (ht:P.underlying t=some d) {x:AV} (hd:plainKey d x=true) {e:Bool} {v:Value} {w:World}:(Instr.checkKey e 10000 t v).run P w=.ok () w:=by
 show (Instr.checkKey e (9999+1) t v).run P w=_
 generalize 9999=n
 unfold Instr.checkKey
 cases d<;>first|(cases hd;done)|skip
 all_goals simp only[Sem.run_bind,kM ht,Result.andThen_ok]
 all_goals rfl
def CO (P:Program) (t:TypeId) (x y:Operand) (ok:Bool):Kd:=match P.underlying t with
 |some (.map kt et)=>match P.underlying kt,K0 P et,P.underlying et with
   |some d,some (z,l),some ed=>.load fun T H k=>aS (plainKey d (aY y T)) (ZC (aY x T) H fun es=>K9 (aY y T) es 0 fun q=>match q with
     |some (_,v)=>fin ok true v k
     |none=>fin ok false (toAV z) k)
   |_,_,_=>.no
 |_=>.no
where
 ZC (m:AV) (H:Hp) (k:List (AV×AV)→R):R:=match m with
  |.mnil=>k []
  |.map b=>UT (bZ b H) k
  |_=>.bad 65
 fin (ok b:Bool) (v:AV) (k:AV→R):R:=match ok with
  |true=>k (.tup (.cons v (.cons (.bool b) .nl)))
  |false=>k v
theorem bLB {m:AV} {H:Hp} {k:List (AV×AV)→R} {r:AV} {s:St} (h:CO.ZC m H k=.ok r s):
 ∃es,k es=.ok r s∧∀{ι:aH} {n:Nat} {u:Value} {w:World},RV ι m u→HR ι ⟨H,n⟩ w→∃a,RM ι es a.toList∧(u=.map none∧a=#[]∨∃b c,u=.map (some b)∧w.heap[b]?=some (.map a c)):=by
 unfold CO.ZC at h
 split at h
 · exact⟨[],h,fun {ι n u w} hu hr=>⟨#[],rfl,.inl ⟨hu,rfl⟩⟩⟩
 · obtain⟨es,he,h⟩:=aND h
   refine⟨es,h,fun {ι n u w} hu hr=>?_⟩
   obtain⟨l,hl,rfl⟩:=hu
   obtain⟨a,c,h1,h2⟩:=hr.map hl he
   exact⟨a,h2,.inr ⟨_,c,rfl,h1⟩⟩
 exact (R.bA h).elim
theorem bHT {t:TypeId} {x y:Operand} {ok:Bool} (ho:o.op=.lookup t x y ok):fO P o (CO P t x y ok):=by
 unfold CO
 split
 rotate_left
 · exact trivial
 rename_i kt et h1
 split
 rotate_left
 · exact trivial
 rename_i d z l ed h2 h3 h4
 obtain⟨z1,-⟩:=X3 h3
 intro T H k r s h
 obtain⟨hd,h⟩:=cI h
 obtain⟨es,h,hm⟩:=bLB h
 obtain⟨q,h,hq⟩:=aNM h
 have main:∀{ι:aH} {m n:Nat} {a:Act} {w:World},RA ι m T a→HR ι ⟨H,n⟩ w→∃v b,RV ι (match q with|some (_,v)=>v|none=>toAV z) v∧b=q.isSome∧
  (execOp a.eval o).run P w=.ok (.value (if ok then .tuple #[v,.bool b] else v)) w:=by
  intro ι m n a w ra hr
  obtain⟨ar,hl,hu⟩:=hm (bD ra x) hr
  have hf:=hq hd (bD ra y) hl
  have J7:∀e,(Instr.checkKey e 10000 kt (a.eval y)).run P w=.ok () w:=fun e=>run_checkKey h2 hd
  cases q with
  |none=>
   refine⟨z,false,toAV_rep ι z,rfl,?_⟩
   have GU:(Instr.findKey kt (a.eval y) ar.toList).run P w=.ok none w:=by
    unfold Instr.findKey
    simp only[Sem.run_bind,kM h2,Result.andThen_ok]
    rw[hf];rfl
   unfold execOp;rw[ho]
   rcases hu with⟨e,rfl⟩|⟨b,c,e,hb⟩
   · simp[Instr.lookup,kM h1,e,J7]
     simp at GU
     cases ok<;>simp[GU,z1]
   have hg:(getObj b).run P w=.ok (.map ar c) w:=by simp[getObj,Sem.run,hb]
   simp[Instr.lookup,kM h1,e,J7,hg]
   cases ok<;>simp[GU,z1]
  |some jv=>
   obtain⟨j,v⟩:=jv
   obtain⟨zz,en,k1,k2,-⟩:=hf
   refine⟨zz,true,k2,rfl,?_⟩
   have GU:(Instr.findKey kt (a.eval y) ar.toList).run P w=.ok (some (j,zz)) w:=by
    unfold Instr.findKey
    simp only[Sem.run_bind,kM h2,Result.andThen_ok]
    rw[k1];rfl
   unfold execOp;rw[ho]
   rcases hu with⟨e,rfl⟩|⟨b,c,e,hb⟩
   · simp[Instr.lookup,kM h1,e,J7]
     simp at GU
     cases ok<;>simp[GU]
   have hg:(getObj b).run P w=.ok (.map ar c) w:=by simp[getObj,Sem.run,hb]
   simp[Instr.lookup,kM h1,e,J7,hg]
   cases ok<;>simp[GU]
 cases q with
 |none=>
  unfold CO.fin at h
  cases ok
  · refine⟨_,h,fun {ι m n a w} ra hr=>?_⟩
    obtain⟨v,b,g1,rfl,g2⟩:=main ra hr
    exact⟨v,by simpa using g2,g1⟩
  refine⟨_,h,fun {ι m n a w} ra hr=>?_⟩
  obtain⟨v,b,g1,rfl,g2⟩:=main ra hr
  exact⟨_,by simpa using g2,⟨_,rfl,_,_,rfl,g1,_,_,rfl,rfl,rfl⟩⟩
 |some jv=>
  unfold CO.fin at h
  cases ok
  · refine⟨_,h,fun {ι m n a w} ra hr=>?_⟩
    obtain⟨v,b,g1,rfl,g2⟩:=main ra hr
    exact⟨v,by simpa using g2,g1⟩
  refine⟨_,h,fun {ι m n a w} ra hr=>?_⟩
  obtain⟨v,b,g1,rfl,g2⟩:=main ra hr
  exact⟨_,by simpa using g2,⟨_,rfl,_,_,rfl,g1,_,_,rfl,rfl,rfl⟩⟩
end
noncomputable section
variable {P:Program} {o:Oper}
def ZA (x v:AV):List (AV×AV)→Nat→List (AV×AV)
 | [],_=>[]
 |(a,u)::r,0=>(x,v)::r
 |(a,u)::r,i+1=>(a,u)::ZA x v r i
theorem RM.put {ι:aH} {x v:AV} {p q:Value} (hx:RV ι x p) (hv:RV ι v q):∀{es:List (AV×AV)} {l:List MapEntry} (i:Nat),RM ι es l→
 RM ι (ZA x v es i) (l.modify i fun e=>{ e with key:=p,val:=q })
 | [],l,i,h=>by
   cases h
   show List.modify [] i _=[]
   cases i<;>simp
 |(a,u)::r,l,0,h=>by
   obtain⟨e,t,rfl,h1,h2,h3⟩:=h
   exact⟨{ e with key:=p,val:=q },t,by simp,hx,hv,h3⟩
 |(a,u)::r,l,i+1,h=>by
   obtain⟨e,t,rfl,h1,h2,h3⟩:=h
   exact⟨e,_,by simp,h1,h2,RM.put hx hv i h3⟩
theorem RM.snoc {ι:aH} {x v:AV} {e:MapEntry} (hx:RV ι x e.key) (hv:RV ι v e.val):∀{es:List (AV×AV)} {l:List MapEntry},RM ι es l→RM ι (es++[(x,v)]) (l++[e])
 | [],l,h=>by cases h;exact⟨e,[],rfl,hx,hv,rfl⟩
 |(a,u)::r,l,h=>by
   obtain⟨d,t,rfl,h1,h2,h3⟩:=h
   exact⟨d,t++[e],rfl,h1,h2,RM.snoc hx hv h3⟩
def UD (P:Program) (t:TypeId) (m x y:Operand):Kd:=match P.underlying t with
 |some (.map kt _)=>match P.underlying kt with
   |some d=>.eff fun T S k=>match aY m T with
     |.map b=>UT (bZ b S.h) fun es=>aS (plainKey d (aY x T)) (K9 (aY x T) es 0 fun q=>match q with
       |some (i,_)=>F6 b (.map (ZA (aY x T) (aY y T) es i)) S.h fun h=>k (.tup .nl) ⟨h,S.n⟩
       |none=>F6 b (.map (es++[(aY x T,aY y T)])) S.h fun h=>k (.tup .nl) ⟨h,S.n⟩)
     |_=>.bad 66
   |none=>.no
 |_=>.no
theorem aYE {w:World} {r:Nat} {o:Obj} (h:r<w.heap.size):({ w with heap:=w.heap.setIfInBounds r o }:World).heap[r]?=some o:=by
 simp[Array.getElem?_setIfInBounds,h]
theorem aXP {w:World} {r k:Nat} {o:Obj} (h:k≠r):({ w with heap:=w.heap.setIfInBounds r o }:World).heap[k]?=w.heap[k]?:=by
 simp[Array.getElem?_setIfInBounds,Ne.symm h]
theorem aZG {t:TypeId} {m x y:Operand} (ho:o.op=.mapUpdate t m x y∨o.op=.insert t m x y):fO P o (UD P t m x y):=by
 unfold UD
 split
 rotate_left
 · exact trivial
 rename_i kt et h1
 split
 rotate_left
 · exact trivial
 rename_i d h2
 intro T S k r s h
 dsimp only at h
 split at h
 rotate_left
 · exact (R.bA h).elim
 rename_i b hc
 obtain⟨es,hes,h⟩:=aND h
 obtain⟨hd,h⟩:=cI h
 obtain⟨q,h,hq⟩:=aNM h
 have hne:bZ b S.h≠.gone:=by rw[hes];exact fun e=>by cases e
 have ex:∀{a:Act},execOp a.eval o=(do Instr.mapUpdate t (a.eval m) (a.eval x) (a.eval y);pure .skip):=by
  intro a;rcases ho with ho|ho<;>(unfold execOp;rw[ho])
 cases q with
 |none=>
  dsimp only at h
  rw[YA] at h
  refine⟨_,_,h,fun {ι mm a w} ra hr=>?_⟩
  have e1:=bD ra m;rw[hc] at e1;obtain⟨l,hl,e1⟩:=e1
  obtain⟨ar,c,g1,g2⟩:=hr.map hl hes
  have hf:=hq hd (bD ra x) g2
  have hlt:l.b<w.heap.size:=(Array.getElem?_eq_some_iff.1 g1).1
  have GU:(Instr.findKey kt (a.eval x) ar.toList).run P w=.ok none w:=by
   unfold Instr.findKey
   simp only[Sem.run_bind,kM h2,Result.andThen_ok]
   rw[hf];rfl
  have hg:(getObj l.b).run P w=.ok (.map ar c) w:=by simp[getObj,Sem.run,g1]
  have dY:∀ob,(setObj l.b ob).run P w=.ok () { w with heap:=w.heap.setIfInBounds l.b ob }:=fun ob=>by simp[setObj,Sem.run,g1]
  obtain⟨k1,k2⟩:=hr.turn hl hne (.map (es++[(aY x T,aY y T)])) (w':={ w with heap:=w.heap.setIfInBounds l.b (.map (ar.push { key:=a.eval x,val:=a.eval y,born:=c }) (c+1)) }) rfl rfl rfl (by simp) (fun k hk=>aXP hk)
   ⟨_,_,aYE hlt,by rw[Array.toList_push];exact RM.snoc (bD ra x) (bD ra y) g2⟩
  refine⟨.skip,_,ι,undef,?_,.inr ⟨rfl,rfl⟩,⟨#[],rfl,rfl⟩,k1,k2⟩
  rw[ex]
  simp[Instr.mapUpdate,kM h1,e1,hg,run_checkKey h2 hd,GU,dY]
 |some jv=>
  obtain⟨j,v⟩:=jv
  dsimp only at h
  rw[YA] at h
  refine⟨_,_,h,fun {ι mm a w} ra hr=>?_⟩
  have e1:=bD ra m;rw[hc] at e1;obtain⟨l,hl,e1⟩:=e1
  obtain⟨ar,c,g1,g2⟩:=hr.map hl hes
  obtain⟨z,en,f1,-,-,f4,f5⟩:=hq hd (bD ra x) g2
  rw[Nat.sub_zero] at f4
  have hlt:l.b<w.heap.size:=(Array.getElem?_eq_some_iff.1 g1).1
  have GU:(Instr.findKey kt (a.eval x) ar.toList).run P w=.ok (some (j,z)) w:=by
   unfold Instr.findKey
   simp only[Sem.run_bind,kM h2,Result.andThen_ok]
   rw[f1];rfl
  have hg:(getObj l.b).run P w=.ok (.map ar c) w:=by simp[getObj,Sem.run,g1]
  have dY:∀ob,(setObj l.b ob).run P w=.ok () { w with heap:=w.heap.setIfInBounds l.b ob }:=fun ob=>by simp[setObj,Sem.run,g1]
  have hen:ar[j]?=some en:=by rw[←Array.getElem?_toList];exact f4
  have hst:(Instr.keyThatStays en.key (a.eval x)).run P w=.ok (a.eval x) w:=by
   unfold Instr.keyThatStays
   rw[f5 10000];rfl
  obtain⟨k1,k2⟩:=hr.turn hl hne (.map (ZA (aY x T) (aY y T) es j)) (w':={ w with heap:=w.heap.setIfInBounds l.b (.map (ar.modify j fun e=>{ e with key:=a.eval x,val:=a.eval y }) c) }) rfl rfl rfl (by simp) (fun k hk=>aXP hk)
   ⟨_,_,aYE hlt,by rw[Array.toList_modify];exact RM.put (bD ra x) (bD ra y) j g2⟩
  refine⟨.skip,_,ι,undef,?_,.inr ⟨rfl,rfl⟩,⟨#[],rfl,rfl⟩,k1,k2⟩
  rw[ex]
  simp[Instr.mapUpdate,kM h1,e1,hg,run_checkKey h2 hd,GU,dY,hen,hst]
def JH:Nat→Nat→AV
 |0,_=>.nl
 |n+1,x=>.cons (.int .u8 (.ofNat (Nat.mod x 256))) (JH n (Nat.div x 256))
theorem aNT {ι:aH}:∀(l:List UInt8),RL ι (JH l.length (jK l)) (l.map fun b=>.int .u8 b.toNat)
 | []=>rfl
 |b::l=>by
   have h1:b.toNat<256:=UInt8.toNat_lt b
   refine⟨.int .u8 b.toNat,l.map fun b=>.int .u8 b.toNat,rfl,?_,?_⟩
   · show Value.int .u8 (b.toNat:Int)=.int .u8 _
     congr 2
     show b.toNat=Nat.mod (jK (b::l)) 256
     rw[M6]
     show _=(b.toNat+256*jK l) % 256
     omega
   have:Nat.div (jK (b::l)) 256=jK l:=by
    rw[M6]
    show (b.toNat+256*jK l) / 256=_
    omega
   rw[this]
   exact aNT l
def aI6 (sz:Nat) (v:AV) (H:Hp) (k:Nat→AV→R):R:=match v with
 |.snil=>k 0 .nl
 |.sl b o n _=>fN (Nat.mul n sz) fun m=>Bool.rec (motive:=fun _=>R) (onCells (bZ b H) fun q c=>aS (Nat.ble (Nat.add o m) q) (K2 c m o fun l=>k n l)) (k 0 .nl) (Nat.beq n 0)
 |.slu b o n _=>fN (Nat.mul n sz) fun m=>Bool.rec (motive:=fun _=>R) (onCells (bZ b H) fun q c=>aS (Nat.ble (Nat.add o m) q) (K2 c m o fun l=>k n l)) (k 0 .nl) (Nat.beq n 0)
 |.str n b=>k n (JH n b)
 |_=>.bad 67
theorem a1H {sz:Nat} {v:AV} {H:Hp} {k:Nat→AV→R} {r:AV} {s:St} (h:aI6 sz v H k=.ok r s):
 ∃n l,k n l=.ok r s∧((∃a b,v=.str a b)∨l.len=n*sz)∧∀{ι:aH} {N:Nat} {u:Value} {w:World},RV ι v u→HR ι ⟨H,N⟩ w→
  (Builtin.lenOf u).run P w=.ok n w∧∃vs:List Value,RL ι l vs∧(Builtin.firstCells sz n u).run P w=.ok vs.toArray w:=by
 have main:∀{b q n:Nat},(Bool.rec (motive:=fun _=>R) (onCells (bZ b H) fun t c=>aS (Nat.ble (Nat.add q (Nat.mul n sz)) t) (K2 c (Nat.mul n sz) q fun l=>k n l)) (k 0 .nl) (Nat.beq n 0):R)=.ok r s→
  ∃l,k n l=.ok r s∧l.len=n*sz∧(n=0→l=.nl)∧∀{ι:aH} {N:Nat} {L:Loc} {w:World},0<n→ι b=some L→HR ι ⟨H,N⟩ w→∃vs:List Value,RL ι l vs∧(loadCells ⟨L.b,L.d+q,none⟩ (n*sz)).run P w=.ok vs.toArray w:=by
  intro b q n h
  cases hn:Nat.beq n 0 with
  |true=>
   rw[hn] at h
   have:n=0:=Nat.eq_of_beq_eq_true hn
   subst this
   exact⟨.nl,h,by simp[AV.len],fun _=>rfl,fun hp=>absurd hp (Nat.lt_irrefl _)⟩
  |false=>
   rw[hn] at h
   obtain⟨t,c,hc,h⟩:=XL h
   obtain⟨hle,h⟩:=cI h
   rw[aD2] at h
   have zZ:n≠0:=Nat.ne_of_beq_eq_false hn
   refine⟨_,h,KJ _ _ _,fun e=>absurd e zZ,fun {ι N L w} _ hb hr=>?_⟩
   obtain⟨vs,g1,g2⟩:=hr.cells (P:=P) hb hc (n*sz) q (Nat.le_of_ble_eq_true hle)
   exact⟨vs,g2,g1⟩
 unfold aI6 at h
 split at h
 · refine⟨0,.nl,h,.inr (by simp[AV.len]),fun {ι N u w} hu hr=>?_⟩
   have hu:u=_:=hu
   subst hu
   exact⟨rfl,[],rfl,rfl⟩
 · rename_i b q n c
   rw[gQ] at h
   obtain⟨l,h,hlen,h0,hm⟩:=main h
   refine⟨n,l,h,.inr hlen,fun {ι N u w} hu hr=>?_⟩
   obtain⟨L,hL,rfl⟩:=hu
   refine⟨rfl,?_⟩
   rcases Nat.eq_zero_or_pos n with e|e
   · subst e
     rw[h0 rfl]
     exact⟨[],rfl,by simp[Builtin.firstCells,loadCells,loadCellsFrom]⟩
   obtain⟨vs,g1,g2⟩:=hm e hL hr
   exact⟨vs,g1,by simp only[Builtin.firstCells];exact g2⟩
 · rename_i b q n z
   rw[gQ] at h
   obtain⟨l,h,hlen,h0,hm⟩:=main h
   refine⟨n,l,h,.inr hlen,fun {ι N u w} hu hr=>?_⟩
   obtain⟨L,hL,⟨cap,rfl,-⟩|⟨rfl,ad,rfl⟩⟩:=hu
   · refine⟨rfl,?_⟩
     rcases Nat.eq_zero_or_pos n with e|e
     · subst e
       rw[h0 rfl]
       exact⟨[],rfl,by simp[Builtin.firstCells,loadCells,loadCellsFrom]⟩
     obtain⟨vs,g1,g2⟩:=hm e hL hr
     exact⟨vs,g1,by simp only[Builtin.firstCells];exact g2⟩
   refine⟨rfl,?_⟩
   rw[h0 rfl]
   exact⟨[],rfl,by simp[Builtin.firstCells,loadCells,loadCellsFrom]⟩
 · rename_i n b
   refine⟨n,_,h,.inl ⟨_,_,rfl⟩,fun {ι N u w} hu hr=>?_⟩
   obtain⟨z,rfl,hz,hb⟩:=hu
   refine⟨by simp[Builtin.lenOf,hz],z.data.toList.map fun b=>.int .u8 b.toNat,?_,?_⟩
   · have:=aNT (ι:=ι) z.data.toList
     rw[KL,hz,hb] at this
     exact this
   have he:z.extract 0 n=z:=by
    rw[←hz]
    apply ByteArray.ext
    rw[ByteArray.data_extract]
    exact Array.extract_size
   simp only[Builtin.firstCells,Sem.run_pure,he]
   congr 1
   rw[←Array.toList_map,Array.toArray_toList]
 exact (R.bA h).elim
end
noncomputable section
variable {P:Program} {o:Oper}
theorem a0U (n:Nat):∀(r c:Nat),c<n→Builtin.growBy n r c≤n+(n+768) / 4
 |0,c,h=>by unfold Builtin.growBy;omega
 |r+1,c,h=>by
   unfold Builtin.growBy
   split
   · omega
   by_cases g:c+(c+768) / 4<n
   · exact a0U n r _ g
   cases r with
   |zero=>unfold Builtin.growBy;omega
   |succ r=>unfold Builtin.growBy;rw[if_pos (by omega)];omega
theorem aZC {n c:Nat} (h:c<n):Builtin.nextslicecap n c≤2*n+4000:=by
 unfold Builtin.nextslicecap
 split
 · omega
 split
 · omega
 have:=a0U n 4 c h;omega
def Y9 (P:Program) (t:TypeId):Bool:=match P.underlying t with
 |some (.slice _)=>true
 |some .string=>true
 |_=>false
theorem a2M {t:TypeId} (h:Y9 P t=true):(∃e,P.underlying t=some (.slice e))∨P.underlying t=some .string:=by
 unfold Y9 at h
 split at h
 · exact .inl ⟨_,by assumption⟩
 · exact .inr (by assumption)
 cases h
section
variable {t t1 ty:TypeId} {x:El} (hz:Y9 P t1=true) (ok:OX P t x) {base:Option Addr} {l cap n:Nat} {y:Value} {w:World} {vs:List Value}
include hz ok
theorem TU (hn:(Builtin.lenOf y).run P w=.ok n w) (hf:(Builtin.firstCells x.size n y).run P w=.ok vs.toArray w) (hc:l+n≤cap):(Builtin.append_ #[t,t1] ty #[.slice base l cap,y]).run P w=((match base with|some a=>storeCells (a.add (l*x.size)) vs|none=>pure ()).run P w).andThen fun _ w'=>.ok (.slice base (l+n) cap) w':=by
 rcases a2M hz with⟨d,hd⟩|hd<;>cases base<;>simp[Builtin.append_,kM ok.under,ok.sizeOf,kM hd,hn,hf,hc]
theorem aMF (hn:(Builtin.lenOf y).run P w=.ok n w) (hf:(Builtin.firstCells x.size n y).run P w.drew=.ok vs.toArray w.drew) (hc:cap<l+n) (hl:l+n≤1000000) {old:List Value} (ho:(Builtin.firstCells x.size l (.slice base l cap)).run P w.drew=.ok old.toArray w.drew):
 ∃nc,l+n≤nc∧nc<9223372036854775808∧(Builtin.append_ #[t,t1] ty #[.slice base l cap,y]).run P w=.ok (.slice (some ⟨w.heap.size,0,none⟩) (l+n) nc) (w.drew.alloc (.cells (old++vs++(Builtin.zeroCells x.z.cells (nc-(l+n))).toList).toArray x.e)):=by
 obtain⟨i,hi,kD,jQ⟩:=ok.info
 have hb:=ok.small
 have UW:=aZC hc
 have hmul:Builtin.nextslicecap (l+n) cap*x.bytes≤2004000*65536:=Nat.mul_le_mul (by omega) hb
 refine⟨(Question.appendCap (l+n) cap x.e).cut (w.tape w.drawn (.appendCap (l+n) cap x.e)),by show _≤_+_;omega,by
  have:=Nat.mod_lt (w.tape w.drawn (.appendCap (l+n) cap x.e)) (show 0<2 ^ 63-(l+n) by omega)
  show _+_<_;omega,?_⟩
 have h1:¬(l+n≤cap):=by omega
 have h63:¬(9223372036854775807<((l:Int)+(n:Int))):=by omega
 have h48:¬(281474976710656<Builtin.nextslicecap (l+n) cap*x.bytes):=by omega
 have hti:∀w,(typeInfo x.e).run P w=.ok i w:=fun w=>by simp[typeInfo,hi]
 have hsz:=ok.sizeOf
 have hzero:=ok.zero
 rcases a2M hz with⟨d,hd⟩|hd<;>simp[Builtin.append_,kM ok.under,hsz,hti,jQ,kM hd,hn,hf,ho,h1,h63,h48,Question.forced,hzero,newRow]
 all_goals
  congr 2
  apply Array.ext'
  simp[List.append_assoc]
end
end
noncomputable section
variable {P:Program} {o:Oper}
def OA (S:St) (o:AO) (k:Nat→St→R):R:=aS (Nat.ble (Nat.succ S.n) 65536) (F6 S.n o S.h fun h=>fN (Nat.succ S.n) fun n=>k S.n ⟨h,n⟩)
theorem X_ {S:St} {o:AO} {k:Nat→St→R} {r:AV} {s:St} (h:OA S o k=.ok r s):S.n<65536∧k S.n ⟨dY S.n o S.h,S.n+1⟩=.ok r s:=by
 obtain⟨h1,h⟩:=cI h
 rw[YA,gQ] at h
 exact⟨Nat.le_of_ble_eq_true h1,h⟩
def aIC (S:St) (l:AV) (n sz:Nat) (k:K):R:=uO (R.bad 70) l 0 (Cs.new l.len) fun m c=>OA S (.cells m c) fun b S=>k (.slu b 0 n sz) S
theorem aM2 {S:St} {l:AV} {n sz:Nat} {k:K} {r:AV} {s:St} (h:aIC S l n sz k=.ok r s):
 ∃v S',k v S'=.ok r s∧∀{ι:aH} {w:World} {vs zs:List Value} {e:TypeId} {nc:Nat},HR ι S w→RL ι l vs→vs.length=n*sz→n≤nc→nc<9223372036854775808→(vs++zs).length=nc*sz→
  ∃κ,RV κ v (.slice (some ⟨w.heap.size,0,none⟩) n nc)∧HR κ S' (w.drew.alloc (.cells (vs++zs).toArray e))∧Ext ι w κ (w.drew.alloc (.cells (vs++zs).toArray e)):=by
 rcases IY h with h|⟨c,h,-,hr,hd,hg,-⟩
 · exact (R.bA h.symm).elim
 obtain⟨h1,h⟩:=X_ h
 refine⟨_,_,h,fun {ι w vs zs e nc} hh hl hlen hn bQO bQG=>?_⟩
 have hroom:=XW hr hd
 have qM:=hl.len
 have hres:=hh.YE h1 (.cells (0+l.len) c)
 have hput:=hres.make (b:=S.n) (hh.fresh _ (Nat.le_refl _)) (fun h'=>Nat.lt_irrefl _ (hh.sW _ h')) (Nat.lt_succ_self _) ⟨w.heap.size,0,nc*sz⟩ (w':=w.drew.alloc (.cells (vs++zs).toArray e)) rfl rfl rfl (by simp) (fun k hk=>heap_alloc_old (w:=w.drew) hk) (Nat.le_refl _) ?_
 · refine⟨_,?_,hput⟩
   exact⟨_,aH.BC _ _ _,   .inl ⟨nc,by simp,by simp,hn,bQO⟩⟩
 show RO _ (bZ S.n (dY S.n (.cells (0+l.len) c) S.h)) _ _
 rw[KQ]
 refine⟨hroom,?_,(vs++zs).toArray,e,(0,0),aDJ (w:=w.drew),.inl rfl,by simpa using bQG,fun i hi=>?_⟩
 · show 0+l.len≤nc*sz
   rw[Nat.zero_add,qM,hlen];exact Nat.mul_le_mul_right _ hn
 obtain⟨u,k1,k2⟩:=(hl.mono (aH.NM (hh.fresh S.n (Nat.le_refl _)) ⟨w.heap.size,0,nc*sz⟩)).nth i (by omega)
 refine⟨u,?_,?_⟩
 · simp only[Nat.zero_add,List.getElem?_toArray]
   rw[List.getElem?_append_left (by omega)];exact k1
 have:=hg i (by omega)
 rw[Nat.zero_add] at this
 rw[this];exact k2
def aQG (c:Cs) (m:Nat) (k:Cs→R):R:=match c with
 |.c1 a=>(match Nat.ble m 16 with
   |true=>k (.c1 a)
   |false=>aB.iA .d0 a (aB.all (aB.all .top)) fun a=>(match Nat.ble m 256 with
     |true=>k (.c2 a)
     |false=>aB.iA .d0 a (aB.all (aB.all (aB.all .top))) fun a=>k (.c3 a)))
 |.c2 a=>(match Nat.ble m 256 with
   |true=>k (.c2 a)
   |false=>aB.iA .d0 a (aB.all (aB.all (aB.all .top))) fun a=>k (.c3 a))
 |.c3 a=>k (.c3 a)
theorem toD_zero {k:Nat} (h:k % 16=0):toD k=.d0:=by rw[toD_mod,h];rfl
theorem a5F (a:aB AV) {j:Nat} (hj:j<16):Cs.get j (.c2 (aB.set .d0 a (aB.all (aB.all .top))))=Cs.get j (.c1 a):=by
 simp only[Cs.get,toD_land]
 rw[toD_zero (k:=Nat.div j 16) (by show (j / 16) % 16=0;omega),aB.get_set_same]
theorem a5E (a:aB (aB AV)) {j:Nat} (hj:j<256):Cs.get j (.c3 (aB.set .d0 a (aB.all (aB.all (aB.all .top)))))=Cs.get j (.c2 a):=by
 simp only[Cs.get,toD_land]
 rw[toD_zero (k:=Nat.div j 256) (by show (j / 256) % 16=0;omega),aB.get_set_same]
theorem bJ4 {c:Cs} {m:Nat} {k:Cs→R} {r:AV} {s:St} (h:aQG c m k=.ok r s):∃c':Cs,k c'=.ok r s∧c.room≤c'.room∧∀j,j<c.room→c'.get j=c.get j:=by
 unfold aQG at h
 split at h
 · split at h
   · exact⟨_,h,Nat.le_refl _,fun _ _=>rfl⟩
   rw[aB.KT] at h
   split at h
   · exact⟨_,h,by show 16≤256;decide,fun j hj=>a5F _ hj⟩
   rw[aB.KT] at h
   exact⟨_,h,by show 16≤4096;decide,fun j hj=>(a5E _ (Nat.lt_trans (show j<16 from hj) (by decide))).trans (a5F _ hj)⟩
 · split at h
   · exact⟨_,h,Nat.le_refl _,fun _ _=>rfl⟩
   rw[aB.KT] at h
   exact⟨_,h,by show 256≤4096;decide,fun j hj=>a5E _ hj⟩
 exact⟨_,h,Nat.le_refl _,fun _ _=>rfl⟩
def aPY (c:Cs) (q m:Nat) (new:AV) (k:Cs→R):R:=match q with
 |0=>fN (Nat.add m new.len) fun t=>aQG c t fun c=>uO (R.bad 71) new m c fun _ c=>k c
 |_=>K2 c m q fun old=>fN (Nat.add m new.len) fun t=>uO (R.bad 71) (old.app new) 0 (Cs.new t) fun _ c=>k c
theorem aOX:∀(x y:AV) (j:Nat),x.O7=true→(x.app y).nth j=if j<x.len then x.nth j else y.nth (j-x.len)
 |.nl,y,j,_=>by simp[AV.app,AV.len]
 |.cons a t,y,0,_=>by simp[AV.app,AV.len,AV.nth]
 |.cons a t,y,j+1,h=>by
   have:=aOX t y j h
   simp only[AV.app,AV.nth,AV.len,Nat.succ_eq_add_one,Nat.add_lt_add_iff_right]
   rw[this]
   split
   · rfl
   congr 1;omega
 |.top,_,_,h=>by cases h
 |.bool _,_,_,h=>by cases h
 |.int _ _,_,_,h=>by cases h
 |.str _ _,_,_,h=>by cases h
 |.pnil,_,_,h=>by cases h
 |.ptr _ _,_,_,h=>by cases h
 |.snil,_,_,h=>by cases h
 |.sl _ _ _ _,_,_,h=>by cases h
 |.slu _ _ _ _,_,_,h=>by cases h
 |.mnil,_,_,h=>by cases h
 |.map _,_,_,h=>by cases h
 |.fn _ _ _,_,_,h=>by cases h
 |.fnil,_,_,h=>by cases h
 |.inil,_,_,h=>by cases h
 |.iface _ _,_,_,h=>by cases h
 |.agg _,_,_,h=>by cases h
 |.tup _,_,_,h=>by cases h
 |.ge _,_,_,h=>by cases h
theorem I5:∀(x y:AV),x.O7=true→(x.app y).len=x.len+y.len
 |.nl,y,_=>by simp[AV.app,AV.len]
 |.cons a t,y,h=>by simp only[AV.app,AV.len,I5 t y h];omega
 |.top,_,h=>by cases h
 |.bool _,_,h=>by cases h
 |.int _ _,_,h=>by cases h
 |.str _ _,_,h=>by cases h
 |.pnil,_,h=>by cases h
 |.ptr _ _,_,h=>by cases h
 |.snil,_,h=>by cases h
 |.sl _ _ _ _,_,h=>by cases h
 |.slu _ _ _ _,_,h=>by cases h
 |.mnil,_,h=>by cases h
 |.map _,_,h=>by cases h
 |.fn _ _ _,_,h=>by cases h
 |.fnil,_,h=>by cases h
 |.inil,_,h=>by cases h
 |.iface _ _,_,h=>by cases h
 |.agg _,_,h=>by cases h
 |.tup _,_,h=>by cases h
 |.ge _,_,h=>by cases h
theorem bJP {c:Cs} {q m:Nat} {new:AV} {k:Cs→R} {r:AV} {s:St} (h:aPY c q m new k=.ok r s):
 ∃c':Cs,k c'=.ok r s∧(new.len=0∨m+new.len≤c'.room)∧(new.len≠0→q+m≤c.room→(∀j,j<m→c'.get j=c.get (q+j))∧∀j,j<new.len→c'.get (m+j)=new.nth j):=by
 unfold aPY at h
 split at h
 · rw[gQ] at h
   obtain⟨c1,h,h1,h2⟩:=bJ4 h
   rcases IY h with h|⟨c2,h,-,hr,hd,hg,hk⟩
   · exact (R.bA h.symm).elim
   refine⟨c2,h,?_,fun hne hq=>⟨fun j hj=>?_,hg⟩⟩
   · rcases hd with hd|hd
     · exact .inl hd
     exact .inr (by rw[hr];exact hd)
   rw[hk j (by omega) (.inl hj),h2 j (by omega),Nat.zero_add]
 rw[aD2,gQ] at h
 rcases IY h with h|⟨c2,h,-,hr,hd,hg,hk⟩
 · exact (R.bA h.symm).elim
 have hl:=I5 (JB c m q) new (XT _ _ _)
 rw[KJ] at hl
 refine⟨c2,h,?_,fun hne hq=>⟨fun j hj=>?_,fun j hj=>?_⟩⟩
 · rcases hd with hd|hd
   · left;omega
   right;omega
 · have:=hg j (by omega)
   rw[Nat.zero_add,aOX _ _ _ (XT _ _ _),KJ,if_pos hj,aDU _ _ _ _ hj] at this
   exact this
 have:=hg (m+j) (by omega)
 rw[Nat.zero_add,aOX _ _ _ (XT _ _ _),KJ,if_neg (by omega),show m+j-m=j by omega] at this
 exact this
theorem HR.take {ι:aH} {S:St} {w w':World} (h:HR ι S w) {b:Nat} (hb:ι b=none) (hv:¬ι.res b) (l:Loc)
 (pA:w'.os=w.os) (Y1:w'.tape=w.tape) (hout:w'.output=w.output) (hsz:w.heap.size≤w'.heap.size)
 (hk:∀k:Nat,k<w.heap.size→k≠l.b→w'.heap[k]?=w.heap[k]?) (Z0:∀c m,ι c=some m→bZ c S.h≠.gone→m.b≠l.b) (hlt:b<S.n)
 (ZJ:(∃b' l',ι b'=some l'∧l'.b=l.b)∨w.heap.size≤l.b) (ho:RO (ι.put b l) (bZ b S.h) l w'):
 HR (ι.put b l) S w'∧Ext ι w (ι.put b l) w':=by
 have hle:=aH.NM hb l
 refine⟨⟨h.lim,?_,?_,?_,h.sW⟩,⟨pA,Y1,hout,hsz,hle,fun k hlt hn=>hk k hlt ?_,?_,rfl,fun c hc hn=>by rw[aH.uE _ _ (by rintro rfl;exact hv hc)];exact hn⟩⟩
 · intro c hc
   rw[aH.uE _ _ (by omega)]
   exact h.fresh c hc
 · intro c m e
   by_cases hcb:c=b
   · subst hcb;rw[aH.BC] at e;cases e;exact ho
   rw[aH.uE _ _ hcb] at e
   have:=h.live c m e
   by_cases hg:bZ c S.h=.gone
   · rw[hg];exact trivial
   exact (this.mono hle).world (hk _ (this.lt hg) (Z0 c m e hg))
 · intro c e m n hc he mQ hge hne
   by_cases hcb:c=b
   · subst hcb
     rw[aH.BC] at hc;cases hc
     rw[aH.uE _ _ (fun h=>hne h.symm)] at he
     exact (Z0 e n he hge).symm
   rw[aH.uE _ _ hcb] at hc
   by_cases J6:e=b
   · subst J6
     rw[aH.BC] at he;cases he
     exact Z0 c m hc mQ
   rw[aH.uE _ _ J6] at he
   exact h.apart c e m n hc he mQ hge hne
 · rcases ZJ with⟨b',l',h1,h2⟩|h1
   · exact fun e=>hn b' l' h1 (h2.trans e.symm)
   omega
 intro c m e
 by_cases hcb:c=b
 · subst hcb;rw[aH.BC] at e;cases e;exact ZJ
 rw[aH.uE _ _ hcb] at e;exact .inl ⟨c,m,e,rfl⟩
theorem bHN {κ:aH} {c c':Cs} {q m:Nat} {new:AV} {os vs:List Value} (h1:∀j,j<m→c'.get j=c.get (q+j)) (h2:∀j,j<new.len→c'.get (m+j)=new.nth j)
 (ho:∀j,j<m→∃x,os[j]?=some x∧RV κ (c.get (q+j)) x) (hl:os.length=m) (hn:RL κ new vs):∀i,i<m+new.len→∃x,(os++vs)[i]?=some x∧RV κ (c'.get i) x:=by
 intro i hi
 by_cases g:i<m
 · obtain⟨x,a,b⟩:=ho i g
   exact⟨x,by rw[List.getElem?_append_left (by omega)];exact a,by rw[h1 i g];exact b⟩
 obtain⟨x,a,b⟩:=hn.nth (i-m) (by omega)
 refine⟨x,by rw[List.getElem?_append_right (by omega),hl];exact a,?_⟩
 have:=h2 (i-m) (by omega)
 rw[show m+(i-m)=i by omega] at this
 rw[this];exact b
def a3E (sz:Nat) (s y:AV) (S:St) (k:K):R:=aI6 sz y S.h fun n new=>aS (Nat.ble n 100000) (aS (Nat.beq new.len (Nat.mul n sz)) (match s with
 |.snil=>(match n with
   |0=>k .snil S
   |_=>aIC S new n sz k)
 |.sl b o l c=>fN (Nat.add l n) fun need=>(match Nat.ble need c with
   |true=>iA b (Nat.add o (Nat.mul l sz)) new S fun S=>k (.sl b o need c) S
   |false=>aI6 sz s S.h fun l2 old=>aS (Nat.beq l2 l) (aS (Nat.ble need 1000000) (aIC S (old.app new) need sz k)))
 |.slu b o l z=>aS (Nat.beq z sz) (match n with
   |0=>k s S
   |_=>fN (Nat.add l n) fun need=>aS (Nat.ble need 1000000) (onCells (bZ b S.h) fun m c=>(match Nat.ble 1 l&&Nat.ble (Nat.add o (Nat.mul need sz)) m with
     |true=>iA b (Nat.add o (Nat.mul l sz)) new S fun S=>k (.slu b o need sz) S
     |false=>aS (Nat.beq (Nat.add o (Nat.mul l sz)) m) (aS new.ones (aPY c o (Nat.mul l sz) new fun c=>F6 b .gone S.h fun h=>fN (Nat.mul need sz) fun m=>OA ⟨h,S.n⟩ (.cells m c) fun b S=>k (.slu b 0 need sz) S)))))
 |_=>.bad 72))
def aED (P:Program) (ts:Array TypeId) (args:Array Operand):Kd:=match args,ts with
 |⟨[x,y]⟩,⟨[t,t1]⟩=>match S6 P t,Y9 P t1 with
   |some e,true=>.eff fun T S k=>a3E e.size (aY x T) (aY y T) S k
   |_,_=>.no
 |_,_=>.no
theorem bGT {t t1:TypeId} {e:El} (ok:OX P t e) (hz:Y9 P t1=true) {s y:AV} {S:St} {k:K} {r:AV} {q:St} (h:a3E e.size s y S k=.ok r q):
 ∃v S',k v S'=.ok r q∧∀{ι:aH} {w:World} {us uy:Value} {ty:TypeId},HR ι S w→RV ι s us→RV ι y uy→
  ∃u w' κ,(Builtin.append_ #[t,t1] ty #[us,uy]).run P w=.ok u w'∧RV κ v u∧HR κ S' w'∧Ext ι w κ w':=by
 obtain⟨n,new,h,-,JJ⟩:=a1H (P:=P) h
 obtain⟨hn,h⟩:=cI h
 obtain⟨qL,h⟩:=cI h
 have hn:=Nat.le_of_ble_eq_true hn
 have qL:new.len=n*e.size:=Nat.eq_of_beq_eq_true qL
 have drew:∀{w:World} {ι:aH},HR ι S w→HR ι S w.drew:=fun h=>h.world fun _=>rfl
 have hzc:∀m,(Builtin.zeroCells e.z.cells m).toList.length=m*e.size:=fun m=>by simp[Builtin.zeroCells,ok.len]
 have aRP:=ok.pos
 cases s with
 |snil=>
  dsimp only at h
  split at h
  · refine⟨_,_,h,fun {ι w us uy ty} hh hs hy=>?_⟩
    have hs:us=_:=hs
    subst hs
    obtain⟨h1,vs,h2,h3⟩:=JJ hy hh
    have hr:=TU (P:=P) hz ok (base:=none) (l:=0) (cap:=0) (ty:=ty) h1 h3 (Nat.le_refl _)
    exact⟨_,_,ι,hr,rfl,hh,Ext.refl _ _⟩
  rename_i zZ
  obtain⟨v,S',h,hv⟩:=aM2 h
  refine⟨_,_,h,fun {ι w us uy ty} hh hs hy=>?_⟩
  have hs:us=_:=hs
  subst hs
  obtain⟨h1,vs,h2,h3⟩:=JJ hy hh
  obtain⟨h1',vs',MM,h3'⟩:=JJ hy (drew hh)
  have a54:0<n:=Nat.pos_of_ne_zero zZ
  obtain⟨nc,g1,QY,g2⟩:=aMF (P:=P) hz ok (base:=none) (l:=0) (cap:=0) (ty:=ty) (old:=[]) h1 h3' (by omega) (by omega) rfl
  simp only[Nat.zero_add,List.nil_append] at g1 g2
  have hlen:=MM.len
  obtain⟨κ,k1,k2,k3⟩:=hv (zs:=(Builtin.zeroCells e.z.cells (nc-n)).toList) (e:=e.e) (nc:=nc) hh MM (by omega) g1 QY (by
   rw[List.length_append,hzc,←hlen,qL,←Nat.add_mul];congr 1;omega)
  exact⟨_,_,κ,g2,k1,k2,k3⟩
 |sl b o l c=>
  dsimp only at h
  rw[gQ] at h
  split at h
  · rename_i hc
    have hc:l+n≤c:=Nat.le_of_ble_eq_true hc
    obtain⟨S',h,dY⟩:=X7 (P:=P) h
    refine⟨_,_,h,fun {ι w us uy ty} hh hs hy=>?_⟩
    obtain⟨L,hL,rfl⟩:=hs
    obtain⟨h1,vs,h2,h3⟩:=JJ hy hh
    have hr:=TU (P:=P) hz ok (base:=some ⟨L.b,L.d+o,none⟩) (l:=l) (cap:=c) (ty:=ty) h1 h3 hc
    obtain⟨w',g1,g2,g3⟩:=dY hh hL h2
    refine⟨_,w',ι,?_,⟨L,hL,rfl⟩,g2,g3⟩
    rw[hr]
    dsimp only
    rw[addr_add,Nat.add_assoc]
    have P0:(storeCells ⟨L.b,L.d+(o+l*e.size),none⟩ vs).run P w=.ok () w':=g1
    rw[P0];rfl
  rename_i hc
  have hc:c<l+n:=by
   have:¬(l+n≤c):=fun h=>by
    have h2:Nat.ble (l+n) c=true:=by rw[Nat.ble_eq];exact h
    have hc:Nat.ble (l+n) c=false:=hc
    rw[hc] at h2;cases h2
   omega
  obtain⟨l2,old,h,gR,hso⟩:=a1H (P:=P) h
  obtain⟨e1,h⟩:=cI h
  obtain⟨e2,h⟩:=cI h
  obtain rfl:=Nat.eq_of_beq_eq_true e1
  have e2:l2+n≤1000000:=Nat.le_of_ble_eq_true e2
  have gR:old.len=l2*e.size:=by
   rcases gR with⟨_,_,h⟩|h
   · cases h
   exact h
  obtain⟨v,S',h,hv⟩:=aM2 h
  refine⟨_,_,h,fun {ι w us uy ty} hh hs hy=>?_⟩
  have hs0:=hs
  obtain⟨L,hL,rfl⟩:=hs
  obtain⟨h1,vs,h2,h3⟩:=JJ hy hh
  obtain⟨h1',vs',MM,h3'⟩:=JJ hy (drew hh)
  obtain⟨-,os,o2,o3⟩:=hso hs0 (drew hh)
  obtain⟨nc,g1,QY,g2⟩:=aMF (P:=P) hz ok (base:=some ⟨L.b,L.d+o,none⟩) (l:=l2) (cap:=c) (ty:=ty) (old:=os) h1 h3' hc e2 o3
  have hlen:=MM.len
  have aP_:=o2.len
  obtain⟨κ,k1,k2,k3⟩:=hv (zs:=(Builtin.zeroCells e.z.cells (nc-(l2+n))).toList) (e:=e.e) (nc:=nc) hh (o2.app MM) (by
   rw[List.length_append,←hlen,←aP_,qL,gR,←Nat.add_mul];rfl) g1 QY (by
   rw[List.length_append,List.length_append,hzc,←hlen,←aP_,qL,gR,←Nat.add_mul,←Nat.add_mul];congr 1;omega)
  exact⟨_,_,κ,g2,k1,k2,k3⟩
 |slu b o l z=>
  dsimp only at h
  obtain⟨e1,h⟩:=cI h
  obtain rfl:=Nat.eq_of_beq_eq_true e1
  split at h
  · refine⟨_,_,h,fun {ι w us uy ty} hh hs hy=>?_⟩
    obtain⟨h1,vs,h2,h3⟩:=JJ hy hh
    have DD:vs=[]:=by
     have:=h2.len
     rw[qL,Nat.zero_mul] at this
     exact List.eq_nil_of_length_eq_zero this.symm
    subst DD
    have hs0:=hs
    obtain⟨L,hL,⟨cap,rfl,cB,hlc,h63⟩|⟨rfl,ad,rfl⟩⟩:=hs
    · have hr:=TU (P:=P) hz ok (base:=some ⟨L.b,L.d+o,none⟩) (l:=l) (cap:=cap) (ty:=ty) h1 h3 (by omega)
      exact⟨_,_,ι,hr,hs0,hh,Ext.refl _ _⟩
    have hr:=TU (P:=P) hz ok (base:=some ad) (l:=0) (cap:=0) (ty:=ty) h1 h3 (by omega)
    exact⟨_,_,ι,hr,hs0,hh,Ext.refl _ _⟩
  rename_i zZ
  have a54:0<n:=Nat.pos_of_ne_zero zZ
  rw[gQ] at h
  obtain⟨e2,h⟩:=cI h
  have e2:l+n≤1000000:=Nat.le_of_ble_eq_true e2
  obtain⟨m,c,hc,h⟩:=XL h
  have hne:bZ b S.h≠.gone:=by rw[hc];exact fun e=>by cases e
  split at h
  · rename_i cV
    rw[Bool.and_eq_true] at cV
    have i1:1≤l:=Nat.le_of_ble_eq_true cV.1
    have i2:o+(l+n)*e.size≤m:=Nat.le_of_ble_eq_true cV.2
    obtain⟨S',h,dY⟩:=X7 (P:=P) h
    refine⟨_,_,h,fun {ι w us uy ty} hh hs hy=>?_⟩
    obtain⟨h1,vs,h2,h3⟩:=JJ hy hh
    obtain⟨L,hL,⟨cap,rfl,cB,hlc,h63⟩|⟨rfl,ad,rfl⟩⟩:=hs
    rotate_left
    · omega
    have F7:=hh.live b L hL
    rw[hc] at F7
    obtain⟨-,hms,-⟩:=F7
    have JK:l+n≤cap:=by
     rcases Nat.lt_or_ge cap (l+n) with h|h
     · have:cap*e.size+e.size≤(l+n)*e.size:=by rw[←Nat.succ_mul];exact Nat.mul_le_mul_right _ h
       omega
     exact h
    have hr:=TU (P:=P) hz ok (base:=some ⟨L.b,L.d+o,none⟩) (l:=l) (cap:=cap) (ty:=ty) h1 h3 JK
    obtain⟨w',g1,g2,g3⟩:=dY hh hL h2
    refine⟨_,w',ι,?_,⟨L,hL,.inl ⟨cap,rfl,cB,JK,h63⟩⟩,g2,g3⟩
    rw[hr]
    dsimp only
    rw[addr_add,Nat.add_assoc]
    have P0:(storeCells ⟨L.b,L.d+(o+l*e.size),none⟩ vs).run P w=.ok () w':=g1
    rw[P0];rfl
  obtain⟨e3,h⟩:=cI h
  have e3:o+l*e.size=m:=Nat.eq_of_beq_eq_true e3
  obtain⟨e4,h⟩:=cI h
  obtain⟨c',h,hroom,hcon⟩:=bJP h
  rw[YA,gQ] at h
  obtain⟨hlt,h⟩:=X_ h
  have hlt:S.n<65536:=hlt
  refine⟨_,_,h,fun {ι w us uy ty} hh hs hy=>?_⟩
  obtain⟨h1,vs,h2,h3⟩:=JJ hy hh
  obtain⟨h1',vs',MM,h3'⟩:=JJ hy (drew hh)
  obtain⟨L,hL,hs⟩:=hs
  have F7:=hh.live b L hL
  rw[hc] at F7
  obtain⟨hmr,hms,ar,el,fz,a56,oG,bTB,I7⟩:=F7
  have a69:new.len≠0:=by
   rw[qL]
   have:1*1≤n*e.size:=Nat.mul_le_mul a54 aRP
   omega
  obtain⟨hc1,hc2⟩:=hcon a69 (by show o+l*e.size≤c.room;omega)
  have hc1:∀j,j<l*e.size→c'.get j=c.get (o+j):=hc1
  have hc2:∀j,j<new.len→c'.get (l*e.size+j)=new.nth j:=hc2
  have hroom:l*e.size+new.len≤c'.room:=hroom.resolve_left a69
  have bS5:(l+n)*e.size=l*e.size+new.len:=by rw[qL,Nat.add_mul]
  have bPE:=hh.kill hL
  have PQ:ι S.n=none:=hh.fresh _ (Nat.le_refl _)
  have hres:=bPE.YE (show S.n<65536 from hlt) (.cells ((l+n)*e.size) c')
  have hgn:bZ S.n (dY S.n (.cells ((l+n)*e.size) c') (dY b .gone S.h))=.cells ((l+n)*e.size) c':=KQ _ _ _
  have Z0:∀c m,ι c=some m→bZ c (dY S.n (.cells ((l+n)*e.size) c') (dY b .gone S.h))≠.gone→m.b≠L.b:=by
   intro d m hd hg
   have hdn:d≠S.n:=by rintro rfl;rw[PQ] at hd;cases hd
   have hds:=hh.small hd
   rw[XR hlt hds (fun h=>hdn h.symm)] at hg
   have SF:d≠b:=by rintro rfl;rw[KQ] at hg;exact hg rfl
   rw[XR (hh.small hL) hds (fun h=>SF h.symm)] at hg
   exact hh.apart d b m L hd hL hg hne SF
  have bS4:=h2.len
  have grow:∀{base:Option Addr} {cap:Nat} {os:List Value},cap<l+n→(Builtin.firstCells e.size l (.slice base l cap)).run P w.drew=.ok os.toArray w.drew→os.length=l*e.size→
   (∀j,j<l*e.size→∃x,os[j]?=some x∧RV ι (c.get (o+j)) x)→
   ∃u w' κ,(Builtin.append_ #[t,t1] ty #[.slice base l cap,uy]).run P w=.ok u w'∧RV κ (.slu S.n 0 (l+n) e.size) u∧HR κ ⟨dY S.n (.cells ((l+n)*e.size) c') (dY b .gone S.h),S.n+1⟩ w'∧Ext ι w κ w':=by
   intro base cap os cB pA aP8 bMY
   obtain⟨nc,g1,QY,g2⟩:=aMF (P:=P) hz ok (base:=base) (l:=l) (cap:=cap) (ty:=ty) (old:=os) h1 h3' cB e2 pA
   have hle:=aH.NM PQ ⟨w.heap.size,0,nc*e.size⟩
   have GQ:=hres.make (b:=S.n) PQ (fun h'=>Nat.lt_irrefl _ (hh.sW _ h')) (Nat.lt_succ_self _) ⟨w.heap.size,0,nc*e.size⟩ (w':=w.drew.alloc (.cells (os++vs'++(Builtin.zeroCells e.z.cells (nc-(l+n))).toList).toArray e.e)) rfl rfl rfl (by simp) (fun k hk=>heap_alloc_old (w:=w.drew) hk) (Nat.le_refl _) (by
    show RO _ (bZ S.n (dY S.n (.cells ((l+n)*e.size) c') (dY b .gone S.h))) _ _
    rw[hgn]
    refine⟨by omega,Nat.mul_le_mul_right _ g1,_,_,(0,0),aDJ (w:=w.drew),.inl rfl,?_,fun i hi=>?_⟩
    · have:=MM.len
      simp only[List.size_toArray,List.length_append,hzc,aP8,←this,qL,Nat.zero_add]
      rw[←Nat.add_mul,←Nat.add_mul];congr 1;omega
    have hi:i<(l+n)*e.size:=hi
    obtain⟨x,a1,a2⟩:=bHN (κ:=ι.put S.n ⟨w.heap.size,0,nc*e.size⟩) hc1 hc2 (fun j hj=>let ⟨x,p,q⟩:=bMY j hj;⟨x,p,q.mono hle⟩) aP8 (MM.mono hle) i (by omega)
    refine⟨x,?_,a2⟩
    simp only[Nat.zero_add,List.getElem?_toArray]
    rw[List.getElem?_append_left (by rw[List.length_append,aP8,←MM.len];omega)]
    exact a1)
   exact⟨_,_,_,g2,⟨_,aH.BC _ _ _,.inl ⟨nc,by simp,by simp,g1,QY⟩⟩,GQ.1,GQ.2⟩
  rcases hs with⟨cap,rfl,cB,hlc,h63⟩|⟨rfl,ad,rfl⟩
  rotate_left
  · have hl0:0*e.size=0:=Nat.zero_mul _
    exact grow (os:=[]) (by omega) (by simp[Builtin.firstCells,loadCells,loadCellsFrom]) (by rw[hl0];rfl) (fun j hj=>by rw[hl0] at hj;exact absurd hj (Nat.not_lt_zero _))
  obtain⟨os,o1,o2⟩:=(drew hh).cells (P:=P) hL hc (l*e.size) o (by omega)
  have ol:=o2.len
  rw[KJ] at ol
  have bN2:∀j,j<l*e.size→∃x,os[j]?=some x∧RV ι (c.get (o+j)) x:=fun j hj=>by
   obtain⟨x,p,q⟩:=o2.nth j (by rw[KJ];exact hj)
   rw[aDU _ _ _ _ hj] at q
   exact⟨x,p,q⟩
  rcases Nat.lt_or_ge cap (l+n) with g|g
  · exact grow g (by simp only[Builtin.firstCells];exact o1) ol.symm bN2
  have hr:=TU (P:=P) hz ok (base:=some ⟨L.b,L.d+o,none⟩) (l:=l) (cap:=cap) (ty:=ty) h1 h3 g
  have JK:(l+n)*e.size≤cap*e.size:=Nat.mul_le_mul_right _ g
  have hst:=aMB (P:=P) L.b (L.d+(o+l*e.size)) el fz vs 0 ar w a56 oG (by omega) (aNB e4 h2)
  have hle:=aH.NM PQ ⟨L.b,L.d+o,L.s-o⟩
  have GQ:=hres.take (b:=S.n) PQ (fun h'=>Nat.lt_irrefl _ (hh.sW _ h')) ⟨L.b,L.d+o,L.s-o⟩ (w':=w.setRow L.b (ar.toList.take (L.d+(o+l*e.size)+0)++vs++ar.toList.drop (L.d+(o+l*e.size)+0+vs.length)).toArray) rfl rfl rfl (by simp) (fun k _ hk=>aXO hk) Z0 (Nat.lt_succ_self _) (.inl ⟨b,L,hL,rfl⟩) (by
   show RO _ (bZ S.n (dY S.n (.cells ((l+n)*e.size) c') (dY b .gone S.h))) _ _
   rw[hgn]
   refine⟨by omega,by show (l+n)*e.size≤L.s-o;omega,_,el,fz,aMO a56,oG.size (by simp;omega),?_,fun i hi=>?_⟩
   · simp
     omega
   have hi:i<(l+n)*e.size:=hi
   have VA:min (L.d+(o+l*e.size)) ar.size=L.d+(o+l*e.size):=by omega
   by_cases gi:i<l*e.size
   · obtain⟨x,p,q⟩:=I7 (o+i) (by omega)
     refine⟨x,?_,by rw[hc1 i gi];exact q.mono hle⟩
     simp only[Nat.add_zero,List.append_assoc,List.getElem?_toArray]
     rw[List.getElem?_append_left (by simp;omega),List.getElem?_take,if_pos (by omega),Array.getElem?_toList,Nat.add_assoc]
     exact p
   obtain⟨x,p,q⟩:=(h2.mono hle).nth (i-l*e.size) (by omega)
   have:=hc2 (i-l*e.size) (by omega)
   rw[show l*e.size+(i-l*e.size)=i by omega] at this
   refine⟨x,?_,by rw[this];exact q⟩
   simp only[Nat.add_zero,List.append_assoc,List.getElem?_toArray]
   rw[List.getElem?_append_right (by simp;omega),List.getElem?_append_left (by simp[VA];omega)]
   simp only[List.length_take,Array.length_toList,VA]
   rw[show L.d+o+i-(L.d+(o+l*e.size))=i-l*e.size by omega]
   exact p)
  refine⟨.slice (some ⟨L.b,L.d+o,none⟩) (l+n) cap,_,_,?_,⟨_,aH.BC _ _ _,.inl ⟨cap,by simp,by show 0+cap*e.size=L.s-o;omega,g,h63⟩⟩,GQ.1,GQ.2⟩
  rw[hr]
  dsimp only
  rw[addr_add,Nat.add_assoc,hst];rfl
 |_=>exact (R.bA h).elim
theorem aZH {ts:Array TypeId} {args:Array Operand} (ho:o.op=.call { callee:=.builtin .append,args:=args,argTypes:=ts }):fO P o (aED P ts args):=by
 unfold aED
 split
 rotate_left
 · exact trivial
 rename_i x y t t1
 split
 rotate_left
 · exact trivial
 rename_i e he hz
 intro T S k r s h
 obtain⟨v,S',h,hv⟩:=bGT (aIE he) hz h
 refine⟨v,S',h,fun {ι m a w} ra hr=>?_⟩
 obtain⟨u,w',κ,g1,g2,g3,g4⟩:=hv (ty:=o.type) hr (bD ra x) (bD ra y)
 refine⟨.value u,w',κ,u,?_,.inl rfl,g2,g3,g4⟩
 obtain⟨cs,hb⟩:=FU (P:=P) (a:=a) (w:=w) ho
 rw[hb]
 have P0:(Builtin.append_ #[t,t1] o.type #[a.eval x,a.eval y]).run P w=.ok u w':=g1
 simp[builtin,P0]
end
noncomputable section
variable {P:Program} {o:Oper}
def aPS (P:Program) (t:TypeId) (off:Nat) (l:AV):Option AV:=match P.underlying t,P.info? t with
 |some d,some i=>match UL d with
   |true=>some (.agg ((l.drop off).take i.size))
   |false=>match Nat.ble (Nat.succ off) l.len with
     |true=>some (l.nth off)
     |false=>none
 |_,_=>none
theorem bI3 {t:TypeId} {off:Nat} {l v:AV} (h:aPS P t off l=some v) {ι:aH} {z:Array Value} {w:World} (hl:RL ι l z.toList):∃u,(part t z off).run P w=.ok u w∧RV ι v u:=by
 unfold aPS at h
 split at h
 rotate_left
 · cases h
 rename_i d i h1 h2
 split at h
 · rename_i h3
   cases h
   refine⟨.agg (z.extract off (off+i.size)),?_,⟨_,rfl,?_⟩⟩
   · unfold part
     simp[TZ h1,h3,sizeOf,typeInfo,h2]
   have:(z.extract off (off+i.size)).toList=(z.toList.drop off).take i.size:=by simp[Array.toList_extract,List.extract,Nat.add_sub_cancel_left]
   rw[this]
   exact (hl.drop off).take _
 rename_i h3
 split at h
 · rename_i hi
   cases h
   obtain⟨u,hu,hr⟩:=hl.nth off (Nat.le_of_ble_eq_true hi)
   refine⟨u,?_,hr⟩
   simp at hu
   unfold part
   simp[TZ h1,h3,hu]
 cases h
def isC:Operand→Bool
 |.const _=>true
 |_=>false
def a3C (x y:AV):Bool:=match x,y with
 |.inil,.inil=>true
 |_,_=>false
def U6 (neg:Bool) (d:TypeDesc) (x y:Operand):Kd:=match d,isC x||isC y with
 |.interface _,true=>.pure fun T k=>match a3C (aY x T) (aY y T) with
   |true=>bK (Bool.xor neg true) k
   |false=>aS (eqD d (aY x T)) (match P1 (aY x T) (aY y T) with
     |some b=>bK (Bool.xor neg b) k
     |none=>.bad 43)
 |d,_=>kEq neg d x y
theorem a2V {neg:Bool} {t u:TypeId} {d:TypeDesc} (ht:P.underlying t=some d) {x y:Operand} (ho:o.op=.binOp (if neg then .neq else .eql) t x y u):fO P o (U6 neg d x y):=by
 unfold U6
 split
 rotate_left
 · exact a45 ht ho
 rename_i ms hc
 intro T k r s h
 dsimp only at h
 split at h
 rotate_left
 · exact a45 ht ho h
 rename_i hb
 rw[aIZ] at h
 refine⟨_,h,fun {ι mm ac w} ra=>⟨_,?_,rfl⟩⟩
 have e1:=bD ra x
 have e2:=bD ra y
 unfold a3C at hb
 split at hb
 rotate_left
 · cases hb
 rename_i h1 h2
 rw[h1] at e1;rw[h2] at e2
 have e1:ac.eval x=.nilIface:=e1
 have e2:ac.eval y=.nilIface:=e2
 have hg:∀op,(eqGuard op t x y .nilIface .nilIface).run P w=.ok () w:=fun op=>by
  unfold eqGuard
  cases x<;>cases y<;>cases op<;>first|(cases hc;done)|rfl
 have he:(Op.equal t .nilIface .nilIface).run P w=.ok true w:=by
  show (Op.equalIn (9999+1) t .nilIface .nilIface).run P w=_
  generalize 9999=n
  simp[Op.equalIn,underlying,ht]
 unfold execOp;rw[ho]
 cases neg
 · have hb:binOp .eql t .nilIface .nilIface=(do pure (.bool (←Op.equal t .nilIface .nilIface))):=rfl
   simp[e1,e2,hg,hb,he]
 have hb:binOp .neq t .nilIface .nilIface=(do pure (.bool (!(←Op.equal t .nilIface .nilIface)))):=rfl
 simp[e1,e2,hg,hb,he]
def aOP (P:Program) (t:TypeId) (x i:Operand):Kd:=match P.underlying t with
 |some (.array len e)=>match P.info? e with
   |some inf=>.pure fun T k=>EL (aY i T) fun i=>aPX (aY x T) fun l=>aS (Nat.ble (Nat.succ i) len) (match aPS P e (Nat.mul i inf.size) l with
     |some v=>k v
     |none=>.bad 115)
   |none=>.no
 |_=>aO_ P t x i
theorem bHU {t:TypeId} {x i:Operand} (ho:o.op=.index t x i):fO P o (aOP P t x i):=by
 unfold aOP
 split
 rotate_left
 · exact bJS ho
 rename_i len e h1
 split
 rotate_left
 · exact trivial
 rename_i inf h2
 intro T k r s h
 obtain⟨kd,y,hi,h⟩:=KP h
 obtain⟨l,hc,h⟩:=a0E h
 obtain⟨hlt,h⟩:=cI h
 have hlt:y<len:=Nat.le_of_ble_eq_true hlt
 split at h
 rotate_left
 · exact (R.bA h).elim
 rename_i v hv
 refine⟨v,h,fun {ι m a w} ra=>?_⟩
 have e1:=bD ra x;rw[hc] at e1;obtain⟨z,e1,hl⟩:=e1
 have e2:=bD ra i;rw[hi] at e2;have e2:a.eval i=_:=e2
 obtain⟨u,g1,g2⟩:=bI3 hv hl (w:=w)
 refine⟨u,?_,g2⟩
 have g1:(part e z (y*inf.size)).run P w=.ok u w:=g1
 unfold execOp;rw[ho]
 simp[e1,e2,Instr.index,underlying,h1,asIntOf,hlt,sizeOf,typeInfo,h2,g1]
theorem bD9 {t t1 ty:TypeId} {x:El} {kd:IntKind} (hd:P.underlying t1=some (.int kd)) (ok:OX P t x) {n:Nat} (hn:1≤n) (hl:n≤100000) {k:IntKind} {w:World}:
 ∃nc,n≤nc∧nc<9223372036854775808∧(Builtin.append_ #[t,t1] ty #[.slice none 0 0,.int k n]).run P w=.ok (.slice (some ⟨w.heap.size,0,none⟩) n nc) (w.drew.alloc (.cells ((Builtin.zeroCells x.z.cells n).toList++(Builtin.zeroCells x.z.cells (nc-n)).toList).toArray x.e)):=by
 obtain⟨i,hi,kD,jQ⟩:=ok.info
 have hb:=ok.small
 have UW:=aZC (show 0<n by omega)
 have hmul:Builtin.nextslicecap n 0*x.bytes≤204000*65536:=Nat.mul_le_mul (by omega) hb
 refine⟨(Question.appendCap n 0 x.e).cut (w.tape w.drawn (.appendCap n 0 x.e)),by show _≤_+_;omega,by
  have:=Nat.mod_lt (w.tape w.drawn (.appendCap n 0 x.e)) (show 0<2 ^ 63-n by omega)
  show _+_<_;omega,?_⟩
 have h1:¬(n=0):=by omega
 have h63:¬(9223372036854775807<(n:Int)):=by omega
 have h48:¬(281474976710656<Builtin.nextslicecap n 0*x.bytes):=by omega
 have hti:∀w,(typeInfo x.e).run P w=.ok i w:=fun w=>by simp[typeInfo,hi]
 have hsz:=ok.sizeOf
 have hzero:=ok.zero
 have aRP:=ok.pos
 have hw:=wrap_small (show n≤1000000 by omega)
 have aRT:¬((n:Int)<0):=by omega
 have bRJ:¬(281474976710656<(n:Int)*(x.bytes:Int)):=by
  have:n*x.bytes≤100000*65536:=Nat.mul_le_mul hl hb
  have:((n:Int)*(x.bytes:Int))≤100000*65536:=by rw[←Int.natCast_mul];omega
  omega
 have hx0:¬(x.size=0):=by omega
 simp[Builtin.append_,kM ok.under,hsz,hti,jQ,kM hd,h1,h63,h48,hw,aRT,bRJ,hx0,Question.forced,hzero,newRow,asInt,asIntOf,Builtin.firstCells]
 rw[if_neg (fun h=>by rcases Nat.mul_eq_zero.1 h with h|h<;>omega)]
 congr 3
 apply Array.ext'
 simp
def aN8 (P:Program) (ts:Array TypeId) (args:Array Operand):Kd:=match args,ts with
 |⟨[x,y]⟩,⟨[t,t1]⟩=>match S6 P t,P.underlying t1 with
   |some e,some (.int _)=>.eff fun T S k=>match aY x T with
     |.snil=>EL (aY y T) fun n=>aS (Nat.ble 1 n) (aS (Nat.ble n 100000) (aIC S (ED e.l n) n e.size k))
     |_=>.bad 119
   |_,_=>aED P ⟨[t,t1]⟩ ⟨[x,y]⟩
 |args,ts=>aED P ts args
theorem bGG {ts:Array TypeId} {args:Array Operand} (ho:o.op=.call { callee:=.builtin .append,args:=args,argTypes:=ts }):fO P o (aN8 P ts args):=by
 unfold aN8
 split
 rotate_left
 · exact aZH ho
 rename_i x y t t1
 split
 rotate_left
 · exact aZH ho
 rename_i e kd he hd
 intro T S k r s h
 dsimp only at h
 split at h
 rotate_left
 · exact (R.bA h).elim
 rename_i hx
 obtain⟨kn,n,hy,h⟩:=KP h
 obtain⟨h3,h⟩:=cI h
 obtain⟨h4,h⟩:=cI h
 have h3:=Nat.le_of_ble_eq_true h3
 have h4:=Nat.le_of_ble_eq_true h4
 obtain⟨v,S',h,hv⟩:=aM2 h
 have ok:=aIE he
 refine⟨v,S',h,fun {ι m a w} ra hr=>?_⟩
 have e1:=bD ra x;rw[hx] at e1;have e1:a.eval x=.slice none 0 0:=e1
 have e2:=bD ra y;rw[hy] at e2;have e2:a.eval y=.int kn (n:Int):=e2
 obtain⟨nc,g1,QY,g2⟩:=bD9 (P:=P) (ty:=o.type) hd ok h3 h4 (k:=kn) (w:=w)
 have hsz:∀q,(Builtin.zeroCells e.z.cells q).toList.length=q*e.size:=fun q=>by simp[Builtin.zeroCells,ok.len]
 have hrl:RL ι (ED e.l n) (Builtin.zeroCells e.z.cells n).toList:=by
  have:=(ok.rep ι).zeros ok.len n
  unfold Builtin.zeroCells
  simpa only[ok.len] using this
 obtain⟨κ,k1,k2,k3⟩:=hv (zs:=(Builtin.zeroCells e.z.cells (nc-n)).toList) (e:=e.e) (nc:=nc) hr hrl (hsz n) g1 QY (by
  rw[List.length_append,hsz,hsz,←Nat.add_mul];congr 1;omega)
 refine⟨.value _,_,κ,_,?_,.inl rfl,k1,k2,k3⟩
 obtain⟨cs,hb⟩:=FU (P:=P) (a:=a) (w:=w) ho
 rw[hb]
 simp[builtin,e1,e2,g2]
end
end
end Go.Ev
