/-
 Part 5 of 35 of a proof about the given program: facts on which the last part stands.
-/
import Derived.Test.YtdlndhbkcgmkkaaGreatDoorFL04
import Derived.Orders
set_option maxHeartbeats 12800000
set_option linter.unusedVariables false
set_option linter.unusedSimpArgs false
namespace Go.Ev
section
open Go
noncomputable section
variable {P:Program}
def VK:Fn→Fn→Bool
 |.func f,.func g=>Nat.beq f g
 |_,_=>false
theorem bM6 {f g:Fn} (h:VK f g=true):f=g:=by
 unfold VK at h
 split at h
 · rw[Nat.eq_of_beq_eq_true h]
 cases h
def j9:AV→AV→Bool
 |.bool a,.bool b=>a==b
 |.int k a,.int l b=>JP k l&&FC a b
 |.str n a,.str m b=>Nat.beq n m&&Nat.beq a b
 |.pnil,.pnil=>true
 |.ptr b o,.ptr c p=>Nat.beq b c&&Nat.beq o p
 |.snil,.snil=>true
 |.sl b o n c,.sl b' o' n' c'=>Nat.beq b b'&&(Nat.beq o o'&&(Nat.beq n n'&&Nat.beq c c'))
 |.slu b o n c,.slu b' o' n' c'=>Nat.beq b b'&&(Nat.beq o o'&&(Nat.beq n n'&&Nat.beq c c'))
 |.mnil,.mnil=>true
 |.map b,.map c=>Nat.beq b c
 |.fn f x y,.fn g x' y'=>VK f g&&(j9 x x'&&j9 y y')
 |.fnil,.fnil=>true
 |.inil,.inil=>true
 |.iface t x,.iface u y=>Nat.beq t u&&j9 x y
 |.agg x,.agg y=>j9 x y
 |.tup x,.tup y=>j9 x y
 |.ge a,.ge b=>Nat.beq a b
 |.nl,.nl=>true
 |.cons a x,.cons b y=>j9 a b&&j9 x y
 |_,_=>false
theorem a3D:∀{a b:AV},j9 a b=true→a=b:=by
 intro a
 induction a with
 |top=>intro b h;cases b<;>cases h
 |bool a=>intro b h;cases b<;>first|(cases h;done)|skip
          simp only[j9,beq_iff_eq] at h;rw[h]
 |int k a=>intro b h;cases b<;>first|(cases h;done)|skip
           simp only[j9,Bool.and_eq_true] at h
           obtain⟨h1,h2⟩:=h
           rw[aID,decide_eq_true_eq] at h2
           rw[aOV h1,h2]
 |str n x=>intro b h;cases b<;>first|(cases h;done)|skip
           simp only[j9,Bool.and_eq_true,Nat.beq_eq] at h;rw[h.1,h.2]
 |pnil=>intro b h;cases b<;>first|(cases h;done)|rfl
 |ptr c o=>intro b h;cases b<;>first|(cases h;done)|skip
           simp only[j9,Bool.and_eq_true,Nat.beq_eq] at h;rw[h.1,h.2]
 |snil=>intro b h;cases b<;>first|(cases h;done)|rfl
 |sl c o n k=>intro b h;cases b<;>first|(cases h;done)|skip
              simp only[j9,Bool.and_eq_true,Nat.beq_eq] at h;rw[h.1,h.2.1,h.2.2.1,h.2.2.2]
 |slu c o n k=>intro b h;cases b<;>first|(cases h;done)|skip
               simp only[j9,Bool.and_eq_true,Nat.beq_eq] at h;rw[h.1,h.2.1,h.2.2.1,h.2.2.2]
 |mnil=>intro b h;cases b<;>first|(cases h;done)|rfl
 |map c=>intro b h;cases b<;>first|(cases h;done)|skip
         simp only[j9,Nat.beq_eq] at h;rw[h]
 |fn f x y oZ DA=>intro b h;cases b<;>first|(cases h;done)|skip
                  simp only[j9,Bool.and_eq_true] at h
                  rw[bM6 h.1,oZ h.2.1,DA h.2.2]
 |fnil=>intro b h;cases b<;>first|(cases h;done)|rfl
 |inil=>intro b h;cases b<;>first|(cases h;done)|rfl
 |iface t x ih=>intro b h;cases b<;>first|(cases h;done)|skip
                simp only[j9,Bool.and_eq_true,Nat.beq_eq] at h
                rw[h.1,ih h.2]
 |agg x ih=>intro b h;cases b<;>first|(cases h;done)|skip
            rw[ih h]
 |tup x ih=>intro b h;cases b<;>first|(cases h;done)|skip
            rw[ih h]
 |ge n=>intro b h;cases b<;>first|(cases h;done)|skip
        simp only[j9,Nat.beq_eq] at h;rw[h]
 |nl=>intro b h;cases b<;>first|(cases h;done)|rfl
 |cons a x DC oZ=>intro b h;cases b<;>first|(cases h;done)|skip
                  simp only[j9,Bool.and_eq_true] at h
                  rw[DC h.1,oZ h.2]
def aJV (c d:Cs):Nat→Bool
 |0=>true
 |j+1=>j9 (c.get j) (d.get j)&&aJV c d j
theorem a2D {c d:Cs}:∀{n:Nat},aJV c d n=true→∀j,j<n→c.get j=d.get j
 |0,_,j,h=>by omega
 |n+1,h,j,hj=>by
   simp only[aJV,Bool.and_eq_true] at h
   by_cases e:j=n
   · subst e;exact a3D h.1
   exact a2D h.2 j (by omega)
def aIH:AO→AO→Bool
 |.cells n c,.cells m d=>Nat.beq n m&&(Nat.ble n d.room&&aJV c d n)
 |.map [],.map []=>true
 |_,_=>false
theorem RO.same {ι:aH} {x y:AO} {l:Loc} {w:World} (h:aIH x y=true) (r:RO ι x l w):RO ι y l w:=by
 unfold aIH at h
 split at h
 · simp only[Bool.and_eq_true,Nat.beq_eq] at h
   obtain⟨rfl,h1,h2⟩:=h
   obtain⟨r1,r2,a,e,f,r3,rf,r4,r5⟩:=r
   refine⟨Nat.le_of_ble_eq_true h1,r2,a,e,f,r3,rf,r4,fun i hi=>?_⟩
   rw[←a2D h2 i hi];exact r5 i hi
 · exact r
 cases h
structure bQ where
 i:Nat
 ls:List (Nat×Bool)
structure Ph where
 ns:List bQ
 re:List bQ
 e:Option bQ
structure aS1 where
 big:Nat
 JY:List Ph
def inb (big i j:Nat):Bool:=Nat.beq (Nat.land (Nat.shiftRight big (Nat.add (Nat.mul 64 i) j)) 1) 1
def idxs:List bQ→List Nat
 | []=>[]
 |s::l=>s.i::idxs l
def yE:Option bQ→List Nat
 |none=>[]
 |some s=>[s.i]
def opsOf:List Ph→List Nat
 | []=>[]
 |p::r=>idxs p.ns++(yE p.e++opsOf r)
def hasN (i:Nat):List Nat→Bool
 | []=>false
 |j::l=>Nat.beq i j||hasN i l
theorem T_ {i:Nat}:∀{l:List Nat},hasN i l=true↔i∈l
 | []=>by simp[hasN]
 |j::l=>by simp[hasN,T_ (l:=l)]
def NH (big:Nat):List Ph→Bool
 | []=>false
 |ph::rest=>(idxs ph.ns).all (fun i=>hasN i (idxs ph.re))&&match ph.e,rest with
   |none,[]=>true
   |some e,LZ::_=>(opsOf rest).all (fun i=>inb big i e.i&&!Nat.beq i e.i)&&((idxs ph.re).all (fun i=>!Nat.beq i e.i&&(!hasN i (opsOf rest)&&(inb big e.i i||hasN i (idxs LZ.re))))&&NH big rest)
   |_,_=>false
def aQN (big:Nat) (n i:Nat) (o:Oper):Bool:=o.after.toList.all (fun e=>!Region.binds .any e||Nat.blt e.on i) &&
 (List.range n).all fun j=>!inb big i j||o.after.toList.any fun e=>Region.binds .any e&&(Nat.beq e.on j||inb big e.on j)
def a6G (i:Nat) (o:Oper) (l:List (Oper×Nat)):Bool:=match o.dst with
 |none=>true
 |some d=>l.all fun p=>match p.1.dst with
   |none=>true
   |some d'=>!Nat.beq d d'||Nat.beq i p.2
def a6O (big:Nat) (l:List (Oper×Nat)) (s:bQ):Bool:=s.ls.all fun q=>match q.2 with
 |true=>l.any fun p=>(match p.1.dst with|some d=>Nat.beq d q.1|none=>false)&&inb big s.i p.2
 |false=>l.all fun p=>(match p.1.dst with|some d=>!Nat.beq d q.1|none=>true)||(Nat.beq s.i p.2||inb big p.2 s.i)
def NF:List Ph→List bQ
 | []=>[]
 |p::r=>p.ns++(p.re++(p.e.toList++NF r))
def YB (ops:Array Oper) (pl:aS1):Bool:=
 let l:=ops.toList.zipIdx
 l.all (fun p=>aQN pl.big ops.size p.2 p.1&&a6G p.2 p.1 l)&&((NF pl.JY).all (fun s=>a6O pl.big l s)&&((List.range ops.size).all (fun i=>hasN i (opsOf pl.JY))&&NH pl.big pl.JY))
def JC (T0 T:T) (l:List (Nat×Bool)):Ev.T→(Ev.T→R)→R:=List.rec (motive:=fun _=>Ev.T→(Ev.T→R)→R)
 (fun M k=>k M) (fun q _ ih M k=>aS (Nat.ble q.1 255) (EG q.1 (Bool.rec (dX q.1 T0) (dX q.1 T) q.2) M fun M=>ih M k)) l
def gS (P:Program) (Mo:l4) (ev:Ev) (ops:Array Oper) (m:Nat) (T0:T) (s:bQ) (T:Ev.T) (S:St) (k:KN):R:=match ops[s.i]? with
 |some o=>JC T0 T s.ls pG fun M=>I8 ops o.guard M (ER m o.dst (.tup .nl) T fun T=>k T S) (doK P Mo ev (kd P o.op) M S fun v S=>ER m o.dst v T fun T=>k T S)
 |none=>.bad 101
abbrev Bs:=List (Nat×Nat)
def nK (x:Kd) (T:T) (S:St) (k:AV→St→Option Nat→R):R:=match x with
 |.pure f=>f T fun v=>k v S none
 |.load f=>f T S.h fun v=>k v S none
 |.make f=>f T fun b mk=>OA S b fun i S=>k (mk i) S (some i)
 |_=>.bad 102
def a8M (i:Nat) (b:Option Nat) (bs:Bs):Bs:=match b with
 |none=>bs
 |some b=>(i,b)::bs
def runN (P:Program) (ops:Array Oper) (m:Nat) (T0:T):List bQ→T→St→Bs→(T→St→Bs→R)→R
 | [],T,S,bs,k=>k T S bs
 |s::l,T,S,bs,k=>match ops[s.i]? with
   |some o=>JC T0 T s.ls pG fun M=>I8 ops o.guard M (ER m o.dst (.tup .nl) T fun T=>runN P ops m T0 l T S bs k)
     (nK (kd P o.op) M S fun v S b=>ER m o.dst v T fun T=>runN P ops m T0 l T S (a8M s.i b bs) k)
   |none=>.bad 101
def O6 (m:Nat) (d:Option Nat) (v:AV) (T:T) (k:R):R:=match d with
 |none=>k
 |some d=>aS (Nat.ble (Nat.succ d) m) (aS (j9 v (dX d T)) k)
def U0 (i:Nat):Bs→Option Nat
 | []=>none
 |(j,b)::l=>match Nat.beq i j with
   |true=>some b
   |false=>U0 i l
theorem a0Z {i b:Nat}:∀{bs:Bs},U0 i bs=some b→(i,b)∈bs
 |(j,c)::l,h=>by
   unfold U0 at h
   split at h
   · rename_i e
     rw[Nat.eq_of_beq_eq_true e];cases h;exact .head _
   exact .tail _ (a0Z h)
def chK (x:Kd) (M:T) (S:St) (i m:Nat) (d:Option Nat) (T:Ev.T) (bs:Bs) (k:R):R:=match x with
 |.pure f=>f M fun v=>O6 m d v T k
 |.load f=>f M S.h fun v=>O6 m d v T k
 |.make f=>f M fun b mk=>match U0 i bs with
   |some j=>aS (aIH b (bZ j S.h)) (O6 m d (mk j) T k)
   |none=>.bad 103
 |_=>.bad 104
def OQ (P:Program) (ops:Array Oper) (m:Nat) (T0:T):List bQ→T→St→Bs→R→R
 | [],T,S,bs,k=>k
 |s::l,T,S,bs,k=>match ops[s.i]? with
   |some o=>JC T0 T s.ls pG fun M=>I8 ops o.guard M (O6 m o.dst (.tup .nl) T (OQ P ops m T0 l T S bs k)) (chK (kd P o.op) M S s.i m o.dst T bs (OQ P ops m T0 l T S bs k))
   |none=>.bad 101
def N_ (P:Program) (Mo:l4) (ev:Ev) (ops:Array Oper) (m:Nat) (T0:T):List Ph→T→St→Bs→KN→R
 | [],T,S,bs,k=>.bad 105
 |ph::rest,T,S,bs,k=>runN P ops m T0 ph.ns T S bs fun T S bs=>OQ P ops m T0 ph.re T S bs (match ph.e with
   |none=>k T S
   |some e=>gS P Mo ev ops m T0 e T S fun T S'=>aS (Nat.ble S.n S'.n) (N_ P Mo ev ops m T0 rest T S' bs k))
end
noncomputable section
variable {P:Program}
def aH.on (ι:aH) (r:Nat→Prop):aH:=⟨ι.f,r⟩
theorem HR.on {ι:aH} {S:St} {w:World} (h:HR ι S w) {r:Nat→Prop} (hr:∀b,r b→b<S.n):HR (ι.on r) S w:=
 ⟨h.lim,h.fresh,fun b l e=>RO.mono (ι:=ι) (κ:=ι.on r) (fun _ _ h=>h) (h.live b l e),h.apart,hr⟩
theorem Ext.step {ι ι' κ:aH} {w v u:World} {r:Nat→Prop} (h:Ext ι w (ι'.on ι.res) v) (g:Ext (ι'.on r) v κ u) (hk:∀b,ι.res b→r b):Ext ι w (κ.on ι.res) u where
 os:=g.os.trans h.os
 tape:=g.tape.trans h.tape
 output:=g.output.trans h.output
 size:=Nat.le_trans h.size g.size
 le:=fun b l e=>g.le b l (h.le b l e)
 keep k hk hn:=(g.keep k (Nat.lt_of_lt_of_le hk h.size) fun b l hb e=>by
  rcases h.new b l hb with⟨b',l',h1,h2⟩|h1
  · exact hn b' l' h1 (h2.trans e)
  omega).trans (h.keep k hk hn)
 new b l hb:=by
  rcases g.new b l hb with⟨b',l',h1,h2⟩|h1
  · rcases h.new b' l' h1 with⟨b'',l'',h3,h4⟩|h3
    · exact .inl ⟨b'',l'',h3,h4.trans h2⟩
    exact .inr (h2▸h3)
  exact .inr (Nat.le_trans h.size h1)
 same:=rfl
 wait b hr hn:=g.wait b (hk b hr) (h.wait b hr hn)
def Wr (ops:Array Oper) (t i:Nat):Prop:=∃o,ops[i]?=some o∧o.dst=some t
structure QQ (ops:Array Oper) (big:Nat):Prop where
 back:∀i o,ops[i]?=some o→∀e∈o.after,Region.binds .any e=true→e.on<i
 bef:∀i o,ops[i]?=some o→∀j,j<ops.size→inb big i j=true→∃e∈o.after,Region.binds .any e=true∧(e.on=j∨inb big e.on j=true)
 one:∀t i j,Wr ops t i→Wr ops t j→i=j
def aAC (ops:Array Oper) (big:Nat) (s:bQ):Prop:=∀t f,(t,f)∈s.ls→(f=true→∃i,Wr ops t i∧inb big s.i i=true)∧(f=false→∀i,Wr ops t i→s.i=i∨inb big i s.i=true)
theorem YC {ops:Array Oper} {p:Oper×Nat→Bool} (h:ops.toList.zipIdx.all p=true) {i:Nat} {o:Oper} (ho:ops[i]?=some o):p (o,i)=true:=by
 rw[List.all_eq_true] at h
 exact h _ (List.mk_mem_zipIdx_iff_getElem?.2 (by rw[Array.getElem?_toList];exact ho))
theorem bL4 {ops:Array Oper} {p:Oper×Nat→Bool} (h:ops.toList.zipIdx.any p=true):∃i o,ops[i]?=some o∧p (o,i)=true:=by
 rw[List.any_eq_true] at h
 obtain⟨⟨o,i⟩,h1,h2⟩:=h
 have:=List.mk_mem_zipIdx_iff_getElem?.1 h1
 rw[Array.getElem?_toList] at this
 exact⟨i,o,this,h2⟩
theorem bFU {ops:Array Oper} {pl:aS1} (h:YB ops pl=true):
 QQ ops pl.big∧(∀s∈NF pl.JY,aAC ops pl.big s)∧(∀i,i<ops.size→i∈opsOf pl.JY)∧NH pl.big pl.JY=true:=by
 unfold YB at h
 simp only[Bool.and_eq_true] at h
 obtain⟨h1,h2,h3,h4⟩:=h
 refine⟨⟨fun i o ho e he hb=>?_,fun i o ho j hj SA=>?_,?_⟩,fun s hs t f hf=>?_,fun i hi=>?_,h4⟩
 · have:=YC h1 ho
   simp only[Bool.and_eq_true,aQN] at this
   have:=List.all_eq_true.1 this.1.1 e (by simpa using he)
   simp only[hb,Bool.not_true,Bool.false_or] at this
   simpa[Nat.blt_eq] using this
 · have:=YC h1 ho
   simp only[Bool.and_eq_true,aQN] at this
   have:=List.all_eq_true.1 this.1.2 j (List.mem_range.2 hj)
   simp only[SA,Bool.not_true,Bool.false_or,List.any_eq_true,Bool.and_eq_true,Bool.or_eq_true,Nat.beq_eq] at this
   obtain⟨e,he,h5,h6⟩:=this
   exact⟨e,by simpa using he,h5,h6⟩
 · rintro t i j ⟨o,ho,hd⟩ ⟨o',l9,WG⟩
   have:=YC h1 ho
   simp only[Bool.and_eq_true,a6G,hd] at this
   have:=YC this.2 l9
   simp only[WG] at this
   simpa using this
 · have:=List.all_eq_true.1 h2 s hs
   unfold a6O at this
   have:=List.all_eq_true.1 this _ hf
   refine⟨?_,?_⟩
   · rintro rfl
     dsimp only at this
     obtain⟨i,o,ho,hp⟩:=bL4 this
     simp only[Bool.and_eq_true] at hp
     refine⟨i,⟨o,ho,?_⟩,hp.2⟩
     have:=hp.1
     split at this
     · rename_i d hd;rw[hd,Nat.eq_of_beq_eq_true this]
     cases this
   rintro rfl i ⟨o,ho,hd⟩
   dsimp only at this
   have:=YC this ho
   simp only[hd,Bool.or_eq_true] at this
   rcases this with h|h|h
   · simp at h
   · exact .inl (Nat.eq_of_beq_eq_true h)
   exact .inr h
 exact T_.1 (List.all_eq_true.1 h3 i (List.mem_range.2 hi))
def YX (T0 T:T) (s:bQ) (ι:aH) (a:Act):Prop:=∀t f,(t,f)∈s.ls→RV ι (Bool.rec (dX t T0) (dX t T) f:AV) (a.tmps.getD t undef)
theorem RA.em {ι:aH} {m:Nat} {a:Act} (h:m≤a.tmps.size) (hm:m≤256):RA ι m pG a:=⟨h,hm,fun t ht=>by rw[aOI];exact trivial⟩
theorem RA.mark {ι:aH} {m t:Nat} {M:T} {a:Act} {v:AV} (ra:RA ι m M a) (ht:t<256) (hv:RV ι v (a.tmps.getD t undef)):RA ι m (N7 t v M) a:=
 ⟨ra.size,ra.le,fun u hu=>by
  by_cases e:t=u
  · subst e;rw[aDT];exact hv
  rw[aDO ht hu e];exact ra.val u hu⟩
theorem aZD {T0 T:T}:∀{l:List (Nat×Bool)} {M:Ev.T} {k:Ev.T→R} {r:AV} {s:St},JC T0 T l M k=.ok r s→
 ∃M',k M'=.ok r s∧∀{ι:aH} {m:Nat} {a:Act},RA ι m M a→(∀t f,(t,f)∈l→RV ι (Bool.rec (dX t T0) (dX t T) f:AV) (a.tmps.getD t undef))→RA ι m M' a
 | [],M,k,r,s,h=>⟨M,h,fun ra _=>ra⟩
 |(t,f)::l,M,k,r,s,h=>by
   change aS (Nat.ble t 255) (EG t (Bool.rec (dX t T0) (dX t T) f) M fun M=>JC T0 T l M k)=_ at h
   obtain⟨h1,h⟩:=cI h
   have h1:=Nat.le_of_ble_eq_true h1
   rw[aD1] at h
   obtain⟨M',h,hM⟩:=aZD h
   exact⟨M',h,fun ra hl=>hM (ra.mark (by omega) (hl t f (.head _))) fun t' f' h'=>hl t' f' (.tail _ h')⟩
theorem aNE {T0 T:T} {q:bQ} {k:Ev.T→R} {r:AV} {s:St} (h:JC T0 T q.ls pG k=.ok r s):
 ∃M,k M=.ok r s∧∀{ι:aH} {m:Nat} {a:Act},m≤a.tmps.size→m≤256→YX T0 T q ι a→RA ι m M a:=by
 obtain⟨M,h,hM⟩:=aZD h
 exact⟨M,h,fun h1 h2 h3=>hM (RA.em h1 h2) h3⟩
theorem T8 {m:Nat} {d:Option Nat} {v:AV} {T:T} {k:Ev.T→R} {r:AV} {s:St} (hm:m≤256) (h:ER m d v T k=.ok r s):
 ∃T',k T'=.ok r s∧(∀t,d≠some t→dX t T'=dX t T)∧∀t,d=some t→t<m∧dX t T'=v:=by
 cases d with
 |none=>exact⟨T,h,fun t _=>rfl,fun t h=>by cases h⟩
 |some d=>
  obtain⟨h1,h⟩:=cI h
  have h1:d<m:=Nat.le_of_ble_eq_true h1
  rw[aD1] at h
  refine⟨_,h,fun t ht=>?_,fun t ht=>?_⟩
  · unfold dX
    cases hb:Nat.ble t 255 with
    |false=>rfl
    |true=>
     have:=Nat.le_of_ble_eq_true hb
     exact aDO (by omega) (by omega) (by rintro rfl;exact ht rfl) _ _
  cases ht
  refine⟨h1,?_⟩
  unfold dX
  rw[show Nat.ble d 255=true from Nat.ble_eq_true_of_le (by omega)]
  exact aDT _ _ _
structure OY (n0:Nat) (bs:Bs) (S:St):Prop where
 lo:∀i b,(i,b)∈bs→n0≤b
 hi:∀i b,(i,b)∈bs→b<S.n
 inj:∀i j b,(i,b)∈bs→(j,b)∈bs→i=j
theorem T7 {ops:Array Oper} {m:Nat} (hm:m≤256) {T0:T} {n0:Nat}:∀{ns:List bQ} {T:Ev.T} {S:St} {bs:Bs} {k:Ev.T→St→Bs→R} {r:AV} {s:St},runN P ops m T0 ns T S bs k=.ok r s→OY n0 bs S→n0≤S.n→
 ∃T1 S1 oJ,k T1 S1 oJ=.ok r s∧S.n≤S1.n∧(∀ι w,HR ι S w→HR ι S1 w)∧OY n0 oJ S1∧(∀i b,(i,b)∈oJ→(i,b)∈bs∨S.n≤b)∧∀t,(∀i∈idxs ns,¬Wr ops t i)→dX t T1=dX t T
 | [],T,S,bs,k,r,s,h,hb,hn=>⟨T,S,bs,h,Nat.le_refl _,fun _ _ h=>h,hb,fun _ _ h=>.inl h,fun _ _=>rfl⟩
 |q::l,T,S,bs,k,r,s,h,hb,hn=>by
   unfold runN at h
   split at h
   rotate_left
   · exact (R.bA h).elim
   rename_i o ho
   obtain⟨M,h,-⟩:=aNE h
   obtain⟨b,h,-⟩:=aDR h
   have fin:∀{v:AV} {T':Ev.T},(∀t,o.dst≠some t→dX t T'=dX t T)→∀t,(∀i∈idxs (q::l),¬Wr ops t i)→dX t T'=dX t T:=by
    intro v T' hT t ht
    exact hT t fun e=>ht q.i (.head _) ⟨o,ho,e⟩
   cases b with
   |false=>
    rw[if_neg (by decide)] at h
    obtain⟨T',h,hT,-⟩:=T8 hm h
    obtain⟨T1,S1,oJ,h,g1,g2,g3,g4,g5⟩:=T7 hm h hb hn
    exact⟨T1,S1,oJ,h,g1,g2,g3,g4,fun t ht=>(g5 t fun i hi=>ht i (.tail _ hi)).trans (fin (v:=.top) hT t ht)⟩
   |true=>
    rw[if_pos rfl] at h
    have jA:=aIN (P:=P) (o:=o)
    unfold nK at h
    split at h
    · rename_i f hf
      rw[hf] at jA
      obtain⟨v,h,-⟩:=jA h
      obtain⟨T',h,hT,-⟩:=T8 hm h
      obtain⟨T1,S1,oJ,h,g1,g2,g3,g4,g5⟩:=T7 hm h hb hn
      exact⟨T1,S1,oJ,h,g1,g2,g3,g4,fun t ht=>(g5 t fun i hi=>ht i (.tail _ hi)).trans (fin (v:=.top) hT t ht)⟩
    · rename_i f hf
      rw[hf] at jA
      obtain⟨v,h,-⟩:=jA h
      obtain⟨T',h,hT,-⟩:=T8 hm h
      obtain⟨T1,S1,oJ,h,g1,g2,g3,g4,g5⟩:=T7 hm h hb hn
      exact⟨T1,S1,oJ,h,g1,g2,g3,g4,fun t ht=>(g5 t fun i hi=>ht i (.tail _ hi)).trans (fin (v:=.top) hT t ht)⟩
    · rename_i f hf
      rw[hf] at jA
      obtain⟨ao,mk,h,-⟩:=jA h
      obtain⟨hlt,h⟩:=X_ h
      obtain⟨T',h,hT,-⟩:=T8 hm h
      have hb':OY n0 ((q.i,S.n)::bs) ⟨dY S.n ao S.h,S.n+1⟩:=by
       refine⟨fun i b hi=>?_,fun i b hi=>?_,fun i j b hi hj=>?_⟩
       · cases hi with
         |head=>exact hn
         |tail _ hi=>exact hb.lo i b hi
       · cases hi with
         |head=>exact Nat.lt_succ_self _
         |tail _ hi=>exact Nat.lt_succ_of_lt (hb.hi i b hi)
       cases hi with
       |head=>cases hj with
         |head=>rfl
         |tail _ hj=>exact absurd (hb.hi _ _ hj) (Nat.lt_irrefl _)
       |tail _ hi=>cases hj with
         |head=>exact absurd (hb.hi _ _ hi) (Nat.lt_irrefl _)
         |tail _ hj=>exact hb.inj i j b hi hj
      obtain⟨T1,S1,oJ,h,g1,g2,g3,g4,g5⟩:=T7 hm h hb' (Nat.le_succ_of_le hn)
      refine⟨T1,S1,oJ,h,Nat.le_trans (Nat.le_succ _) g1,fun ι w hr=>g2 ι w (hr.YE hlt ao),g3,fun i b hi=>?_,fun t ht=>(g5 t fun i hi=>ht i (.tail _ hi)).trans (fin (v:=.top) hT t ht)⟩
      rcases g4 i b hi with h|h
      · cases h with
        |head=>exact .inr (Nat.le_refl _)
        |tail _ h=>exact .inl h
      exact .inr (Nat.le_trans (Nat.le_succ _) h)
    exact (R.bA h).elim
def aEG (P:Program) (ops:Array Oper) (m:Nat) (T0:T) (s:bQ) (T:Ev.T) (S:St) (bs:Bs):Prop:=∃o,ops[s.i]?=some o∧∀{ι:aH} {a:Act} {w:World},YX T0 T s ι a→m≤a.tmps.size→HR ι S w→
 (∀b,(s.i,b)∈bs→ι b=none∧¬ι.res b)→∃u w' κ,(∀(K:Act→World→Prop) (Q:Exit→Act→World→Prop),K (a.put o.dst u) w'→wpOp P ops Q s.i K a w)∧HR κ S w'∧Ext ι w κ w'∧∀d,o.dst=some d→d<m∧RV κ (dX d T) u
theorem aEC {m:Nat} {d:Option Nat} {v:AV} {T:T} {k:R} {r:AV} {s:St} (h:O6 m d v T k=.ok r s):k=.ok r s∧∀t,d=some t→t<m∧v=dX t T:=by
 cases d with
 |none=>exact⟨h,fun t h=>by cases h⟩
 |some d=>
  obtain⟨h1,h⟩:=cI h
  obtain⟨h2,h⟩:=cI h
  exact⟨h,fun t ht=>by cases ht;exact⟨Nat.le_of_ble_eq_true h1,a3D h2⟩⟩
theorem aOG {ops:Array Oper} {m:Nat} (hm:m≤256) {T0:T} {T:Ev.T} {S:St} {bs:Bs} {n0:Nat} (hb:OY n0 bs S):∀{l:List bQ} {k:R} {r:AV} {s:St},OQ P ops m T0 l T S bs k=.ok r s→
 k=.ok r s∧∀q∈l,aEG P ops m T0 q T S bs
 | [],k,r,s,h=>⟨h,fun q hq=>by cases hq⟩
 |q::l,k,r,s,h=>by
   unfold OQ at h
   split at h
   rotate_left
   · exact (R.bA h).elim
   rename_i o ho
   obtain⟨M,h,hM⟩:=aNE h
   obtain⟨b,h,hg⟩:=aDR h
   have fin:∀{k':R},OQ P ops m T0 l T S bs k=k'→k'=.ok r s→aEG P ops m T0 q T S bs→k=.ok r s∧∀q'∈q::l,aEG P ops m T0 q' T S bs:=by
    intro k' e h hq
    obtain⟨h1,h2⟩:=aOG hm hb (e.trans h)
    exact⟨h1,fun q' h'=>by cases h' with
     |head=>exact hq
     |tail _ h'=>exact h2 q' h'⟩
   cases b with
   |false=>
    rw[if_neg (by decide)] at h
    obtain⟨h,hd⟩:=aEC h
    refine fin rfl h ⟨o,ho,fun {ι a w} mZ hsz hr jR=>⟨undef,w,ι,fun K Q hK=>?_,hr,Ext.refl _ _,fun d hdd=>?_⟩⟩
    · unfold wpOp
      simp only[ho,hg (hM hsz hm mZ),Bool.false_eq_true,if_false]
      exact hK
    obtain⟨h1,h2⟩:=hd d hdd
    exact⟨h1,h2▸⟨#[],rfl,rfl⟩⟩
   |true=>
    rw[if_pos rfl] at h
    have jA:=aIN (P:=P) (o:=o)
    have run:∀{ι:aH} {a:Act} {w w':World} {u:Value},YX T0 T q ι a→m≤a.tmps.size→(execOp a.eval o).run P w=.ok (.value u) w'→
     ∀(K:Act→World→Prop) (Q:Exit→Act→World→Prop),K (a.put o.dst u) w'→wpOp P ops Q q.i K a w:=by
     intro ι a w w' u mZ hsz hx K Q hK
     unfold wpOp
     simp only[ho,hg (hM hsz hm mZ),if_true]
     refine .inl ?_
     unfold Oper.wp
     rw[hx,Oper.upon_value];exact hK
    unfold chK at h
    split at h
    · rename_i f hf
      rw[hf] at jA
      obtain⟨v,h,hv⟩:=jA h
      obtain⟨h,hd⟩:=aEC h
      refine fin rfl h ⟨o,ho,fun {ι a w} mZ hsz hr jR=>?_⟩
      obtain⟨u,h1,h2⟩:=hv (w:=w) (hM hsz hm mZ)
      exact⟨u,w,ι,run mZ hsz h1,hr,Ext.refl _ _,fun d hdd=>⟨(hd d hdd).1,(hd d hdd).2▸h2⟩⟩
    · rename_i f hf
      rw[hf] at jA
      obtain⟨v,h,hv⟩:=jA h
      obtain⟨h,hd⟩:=aEC h
      refine fin rfl h ⟨o,ho,fun {ι a w} mZ hsz hr jR=>?_⟩
      obtain⟨u,h1,h2⟩:=hv (w:=w) (hM hsz hm mZ) (n:=S.n) hr
      exact⟨u,w,ι,run mZ hsz h1,hr,Ext.refl _ _,fun d hdd=>⟨(hd d hdd).1,(hd d hdd).2▸h2⟩⟩
    · rename_i f hf
      rw[hf] at jA
      obtain⟨ao,mk,h,hne,hv⟩:=jA h
      split at h
      rotate_left
      · exact (R.bA h).elim
      rename_i j hj
      have hj:=a0Z hj
      obtain⟨hs,h⟩:=cI h
      obtain⟨h,hd⟩:=aEC h
      refine fin rfl h ⟨o,ho,fun {ι a w} mZ hsz hr jR=>?_⟩
      obtain⟨x,sz,u,h1,h2,h3⟩:=hv (w:=w) (hM hsz hm mZ)
      obtain⟨b1,b2⟩:=jR j hj
      have GQ:=hr.make b1 b2 (hb.hi _ _ hj) ⟨w.heap.size,0,sz⟩ (w':=w.alloc x) rfl rfl rfl (by simp) (fun k hk=>heap_alloc_old hk) (Nat.le_refl _) ((h2 _ (aH.NM b1 _)).same hs)
      exact⟨u,_,_,run mZ hsz h1,GQ.1,GQ.2,fun d hdd=>⟨(hd d hdd).1,(hd d hdd).2▸h3 _ _ (aH.BC _ _ _)⟩⟩
    exact (R.bA h).elim
def bNR (P:Program) (ops:Array Oper) (m:Nat) (T0:T) (s:bQ) (T:Ev.T) (S:St) (T':Ev.T) (S':St):Prop:=∃o,ops[s.i]?=some o∧(∀t,o.dst≠some t→dX t T'=dX t T)∧∀{ι:aH} {a:Act} {w:World},YX T0 T s ι a→m≤a.tmps.size→HR ι S w→
 ∀(K:Act→World→Prop) (Q:Exit→Act→World→Prop),(∀κ u w',HR κ S' w'→Ext ι w κ w'→(∀d,o.dst=some d→d<m∧RV κ (dX d T') u)→K (a.put o.dst u) w')→wpOp P ops Q s.i K a w
theorem bOL {Mo:l4} (hMo:I_ P Mo) {ev:Ev} (fX:yG P ev) {ops:Array Oper} {m:Nat} (hm:m≤256) {T0:T} {q:bQ} {T:Ev.T} {S:St} {k:KN} {r:AV} {s:St} (h:gS P Mo ev ops m T0 q T S k=.ok r s):
 ∃T' S',k T' S'=.ok r s∧bNR P ops m T0 q T S T' S':=by
 unfold gS at h
 split at h
 rotate_left
 · exact (R.bA h).elim
 rename_i o ho
 obtain⟨M,h,hM⟩:=aNE h
 obtain⟨b,h,hg⟩:=aDR h
 cases b with
 |false=>
  rw[if_neg (by decide)] at h
  obtain⟨T',h,hT,hd⟩:=T8 hm h
  refine⟨T',S,h,o,ho,hT,fun {ι a w} mZ hsz hr K Q hK=>?_⟩
  unfold wpOp
  simp only[ho,hg (hM hsz hm mZ),Bool.false_eq_true,if_false]
  exact hK ι undef w hr (Ext.refl _ _) fun d hdd=>⟨(hd d hdd).1,(hd d hdd).2▸⟨#[],rfl,rfl⟩⟩
 |true=>
  rw[if_pos rfl] at h
  obtain⟨v,S',h,hv⟩:=a27 hMo fX aIN h
  obtain⟨T',h,hT,hd⟩:=T8 hm h
  refine⟨T',S',h,o,ho,hT,fun {ι a w} mZ hsz hr K Q hK=>?_⟩
  unfold wpOp
  simp only[ho,hg (hM hsz hm mZ),if_true]
  exact .inl (hv (hM hsz hm mZ) hr fun κ u w' h1 h2 h3=>hK κ u w' h2 h3 fun d hdd=>⟨(hd d hdd).1,(hd d hdd).2▸h1⟩)
end
noncomputable section
variable {P:Program}
def Ls (L:Array Bool) (i:Nat):Prop:=L.getD i false=true
theorem uL {L:Array Bool} {i j:Nat} (hi:i<L.size):Ls (L.setIfInBounds i true) j↔j=i∨Ls L j:=by
 unfold Ls
 by_cases e:i=j
 · subst e;simp[hi]
 rw[getD_set_ne false e]
 exact⟨.inr,fun h=>h.resolve_left fun h=>e h.symm⟩
theorem aOM {L:Array Bool} {i:Nat} (hi:i<L.size):L.getD i true=false↔¬Ls L i:=by
 unfold Ls
 simp[hi]
theorem a1P {a:Act} {d:Option Nat} {u:Value} {t:Nat} (h:d≠some t):(a.put d u).tmps.getD t undef=a.tmps.getD t undef:=by
 cases d with
 |none=>rfl
 |some d=>
  have:d≠t:=fun e=>h (e▸rfl)
  simp[Act.put,Array.getElem?_setIfInBounds,this]
theorem bE1 {a:Act} {u:Value} {t:Nat} (h:t<a.tmps.size):(a.put (some t) u).tmps.getD t undef=u:=by
 simp[Act.put,Array.getElem?_setIfInBounds,h]
theorem bK2 {a:Act} {d:Option Nat} {u:Value}:(a.put d u).tmps.size=a.tmps.size:=by
 cases d<;>simp[Act.put]
section
variable {ops:Array Oper} {big m n0:Nat} {T0:T} {ι0:aH} {w0:World} {ds:List Deferred}
structure Inv (ops:Array Oper) (big m:Nat) (T0:T) (ι0:aH) (w0:World) (ds:List Deferred) (L:Array Bool) (T:T) (S:St) (bs:Bs) (a:Act) (w:World) (ι:aH):Prop where
 size:L.size=ops.size
 cl:∀i j,i<ops.size→j<ops.size→Ls L i→inb big i j=true→Ls L j
 hr:HR ι S w
 ext:Ext ι0 w0 (ι.on ι0.res) w
 old:∀t,(∀i,Wr ops t i→¬Ls L i)→RV ι (dX t T0) (a.tmps.getD t undef)
 new:∀t i,Wr ops t i→Ls L i→RV ι (dX t T) (a.tmps.getD t undef)
 VZ:m≤a.tmps.size
 dfs:a.defers=ds
 keep:∀b,ι0.res b→ι.res b
 wait:∀i b,(i,b)∈bs→¬Ls L i→ι.res b∧ι b=none
theorem Inv.next {L:Array Bool} {T T':Ev.T} {S S':St} {bs:Bs} {a:Act} {w w':World} {ι κ:aH} (h:Inv ops big m T0 ι0 w0 ds L T S bs a w ι) (F:QQ ops big) {i:Nat} {o:Oper} (ho:ops[i]?=some o) (hn:¬Ls L i)
 (hp:∀e∈o.after,Region.binds .any e=true→Ls L e.on) (hb:OY n0 bs S) (h0:∀b,ι0.res b→b<n0) (hk:HR κ S' w') (hx:Ext (ι.on fun b=>ι.res b∧(i,b)∉bs) w κ w')
 (hT:∀t,o.dst≠some t→dX t T'=dX t T) {u:Value} (hu:∀d,o.dst=some d→d<m∧RV κ (dX d T') u):
 Inv ops big m T0 ι0 w0 ds (L.setIfInBounds i true) T' S' bs (a.put o.dst u) w' κ:=by
 have hi:i<ops.size:=(Array.getElem?_eq_some_iff.1 ho).1
 have WD:i<L.size:=by rw[h.size];exact hi
 have hle:ι.le κ:=hx.le
 have B1:κ.res=fun b=>ι.res b∧(i,b)∉bs:=hx.same
 have JE:∀b,ι0.res b→ι.res b∧(i,b)∉bs:=fun b hb'=>⟨h.keep b hb',fun hm=>by have:=hb.lo _ _ hm;have:=h0 b hb';omega⟩
 refine⟨by simpa using h.size,fun i' j hi' hj hl SA=>?_,hk,h.ext.step hx JE,fun t ht=>?_,fun t i' hw hl=>?_,by rw[bK2];exact h.VZ,by rw[aMN];exact h.dfs,fun b hb'=>by rw[B1];exact JE b hb',fun i' b hm hl=>?_⟩
 · rw[uL WD] at hl ⊢
   right
   rcases hl with rfl|hl
   · obtain⟨e,he,PO,h1⟩:=F.bef _ _ ho j hj SA
     have FA:=hp e he PO
     rcases h1 with rfl|h1
     · exact FA
     exact h.cl e.on j (Nat.lt_trans (F.back _ _ ho e he PO) hi) hj FA h1
   exact h.cl i' j hi' hj hl SA
 · have hd:o.dst≠some t:=fun e=>ht i ⟨o,ho,e⟩ ((uL WD).2 (.inl rfl))
   rw[a1P hd]
   exact (h.old t fun j hj hl=>ht j hj ((uL WD).2 (.inr hl))).mono hle
 · by_cases e:o.dst=some t
   · obtain⟨h1,h2⟩:=hu t e
     rw[e,bE1 (Nat.lt_of_lt_of_le h1 h.VZ)]
     exact h2
   rw[a1P e,hT t e]
   rcases (uL WD).1 hl with rfl|hl
   · obtain⟨o',l9,WG⟩:=hw
     rw[ho] at l9;cases l9
     exact absurd WG e
   exact (h.new t i' hw hl).mono hle
 have hl':¬Ls L i':=fun hh=>hl ((uL WD).2 (.inr hh))
 have hne:i'≠i:=fun hh=>hl ((uL WD).2 (.inl hh))
 obtain⟨h1,h2⟩:=h.wait i' b hm hl'
 have h3:(i,b)∉bs:=fun hh=>hne (hb.inj _ _ _ hm hh)
 exact⟨by rw[B1];exact⟨h1,h3⟩,hx.wait b ⟨h1,h3⟩ h2⟩
theorem Inv.mask {L:Array Bool} {T:Ev.T} {S:St} {bs:Bs} {a:Act} {w:World} {ι:aH} (h:Inv ops big m T0 ι0 w0 ds L T S bs a w ι) (F:QQ ops big) {q:bQ} (hq:aAC ops big q) {o:Oper} (ho:ops[q.i]?=some o) (hn:¬Ls L q.i)
 (hp:∀e∈o.after,Region.binds .any e=true→Ls L e.on) (r:Nat→Prop):YX T0 T q (ι.on r) a:=by
 have hi:q.i<ops.size:=(Array.getElem?_eq_some_iff.1 ho).1
 intro t f hf
 refine RV.mono (ι:=ι) (κ:=ι.on r) (fun _ _ h=>h) ?_
 obtain⟨h1,h2⟩:=hq t f hf
 cases f with
 |false=>
  refine h.old t fun i hw hl=>?_
  rcases h2 rfl i hw with e|e
  · exact hn (e▸hl)
  obtain⟨o',l9,-⟩:=hw
  exact hn (h.cl i q.i (Array.getElem?_eq_some_iff.1 l9).1 hi hl e)
 |true=>
  obtain⟨i,hw,e⟩:=h1 rfl
  obtain⟨o',l9,-⟩:=id hw
  have hi':i<ops.size:=(Array.getElem?_eq_some_iff.1 l9).1
  obtain⟨ed,he,PO,h3⟩:=F.bef _ _ ho i hi' e
  have FA:=hp ed he PO
  refine h.new t i hw ?_
  rcases h3 with rfl|h3
  · exact FA
  exact h.cl ed.on i (Nat.lt_trans (F.back _ _ ho ed he PO) hi) hi' FA h3
def Cov (ops:Array Oper) (ph:Ph) (rest:List Ph) (L:Array Bool):Prop:=
 (∀i,i<ops.size→¬Ls L i→i∈idxs ph.re∨i∈yE ph.e∨i∈opsOf rest)∧(∀i∈yE ph.e,¬Ls L i)∧∀i∈opsOf rest,¬Ls L i
theorem a1W {i:Nat}:∀{l:List bQ},i∈idxs l→∃q∈l,q.i=i
 |q::l,h=>by
   cases h with
   |head=>exact⟨q,.head _,rfl⟩
   |tail _ h=>obtain⟨p,h1,h2⟩:=a1W h;exact⟨p,.tail _ h1,h2⟩
def cnt (L:Array Bool):Nat:=L.toList.count false
theorem a3B {L:Array Bool} {i:Nat} (hi:i<L.size) (h:¬Ls L i):cnt (L.setIfInBounds i true)+1=cnt L:=by
 have hf:L[i]=false:=by
  unfold Ls at h
  simpa[hi] using h
 unfold cnt
 rw[Array.toList_setIfInBounds,List.count_set (by simpa using hi)]
 have aRP:0<L.toList.count false:=List.count_pos_iff.2 (by
  have:=Array.getElem_mem hi
  rw[hf] at this
  simpa using this)
 have h1:L.toList[i]'(by simpa using hi)=false:=by simpa using hf
 rw[h1]
 simp only[beq_self_eq_true,if_true,show (true==false)=false from rfl,Bool.false_eq_true,if_false]
 omega
theorem bLW {L:Array Bool} (h:cnt L=0) {i:Nat} (hi:i<L.size):Ls L i:=by
 unfold Ls
 cases hb:L[i] with
 |true=>simp[hi,hb]
 |false=>
  have:=Array.getElem_mem hi
  rw[hb] at this
  have:=List.count_pos_iff.2 (show false∈L.toList by simpa using this)
  unfold cnt at h
  omega
theorem bJC {L:Array Bool} (F:QQ ops big) (hs:L.size=ops.size) (h:Region.ready .any ops L=[]):∀i,i<ops.size→Ls L i:=by
 intro i
 induction i using Nat.strongRecOn with
 |ind i ih=>
  intro hi
  apply Classical.byContradiction
  intro hn
  have:i∈Region.ready .any ops L:=by
   rw[mem_ready]
   refine⟨(aOM (by omega)).2 hn,ops[i],by simp[hi],fun e he hb=>?_⟩
   have hlt:=F.back i ops[i] (by simp[hi]) e he hb
   exact ih e.on hlt (by omega)
  rw[h] at this
  cases this
theorem bKM {L:Array Bool} (hs:L.size=ops.size) (h:∀i,i<ops.size→Ls L i):Region.ready .any ops L=[]:=by
 apply List.eq_nil_iff_forall_not_mem.2
 intro i hi
 rw[mem_ready] at hi
 obtain⟨h1,o,ho,-⟩:=hi
 have hlt:=(Array.getElem?_eq_some_iff.1 ho).1
 exact (aOM (by omega)).1 h1 (h i hlt)
theorem mid {Q:Exit→Act→World→Prop} (F:QQ ops big) (h0:∀b,ι0.res b→b<n0) {ph:Ph} {rest:List Ph} {T:Ev.T} {S:St} {bs:Bs} (hb:OY n0 bs S)
 (hre:∀q∈ph.re,aAC ops big q∧aEG P ops m T0 q T S bs) (a7R:∀i∈idxs ph.re,i∉yE ph.e∧i∉opsOf rest) (bOH:∀i∈opsOf rest,∀j∈yE ph.e,inb big i j=true)
 (hlt:∀i∈yE ph.e,i<ops.size) (hend:ph.e=none→rest=[])
 (OL:ph.e=none→∀L a w ι,(∀i,i<ops.size→Ls L i)→Inv ops big m T0 ι0 w0 ds L T S bs a w ι→Q .normal a w)
 (bQ9:∀q,ph.e=some q→∀fuel L a w ι,Inv ops big m T0 ι0 w0 ds L T S bs a w ι→Cov ops ph rest L→¬Ls L q.i→(∀o,ops[q.i]?=some o→∀e∈o.after,Region.binds .any e=true→Ls L e.on)→cnt L≤fuel+1→
  wpOp P ops Q q.i (wpAny P .any ops Q fuel (L.setIfInBounds q.i true)) a w):
 ∀fuel L a w ι,Inv ops big m T0 ι0 w0 ds L T S bs a w ι→Cov ops ph rest L→cnt L≤fuel→wpAny P .any ops Q fuel L a w:=by
 have last:∀L a w ι,(∀i,i<ops.size→Ls L i)→Inv ops big m T0 ι0 w0 ds L T S bs a w ι→Cov ops ph rest L→Q .normal a w:=by
  intro L a w ι hall hinv oA
  refine OL ?_ L a w ι hall hinv
  cases he:ph.e with
  |none=>rfl
  |some q=>
   have hq:q.i∈yE ph.e:=by rw[he];exact .head _
   exact absurd (hall _ (hlt _ hq)) (oA.2.1 _ hq)
 intro fuel
 induction fuel with
 |zero=>
  intro L a w ι hinv oA hc
  have hall:∀i,i<ops.size→Ls L i:=fun i hi=>bLW (by omega) (by rw[hinv.size];exact hi)
  exact⟨bKM hinv.size hall,last L a w ι hall hinv oA⟩
 |succ fuel ih=>
  intro L a w ι hinv oA hc
  refine⟨fun hr=>last L a w ι (bJC F hinv.size hr) hinv oA,fun i hi=>?_⟩
  obtain⟨h1,o,ho,hp⟩:=mem_ready.1 hi
  have hi':i<ops.size:=(Array.getElem?_eq_some_iff.1 ho).1
  have hn:¬Ls L i:=(aOM (by rw[hinv.size];exact hi')).1 h1
  rcases oA.1 i hi' hn with h|h|h
  · obtain⟨q,hq,rfl⟩:=a1W h
    obtain⟨rW,o',l9,aRK⟩:=hre q hq
    rw[ho] at l9;cases l9
    have mZ:=hinv.mask F rW ho hn hp fun b=>ι.res b∧(q.i,b)∉bs
    have hr:=hinv.hr.on (r:=fun b=>ι.res b∧(q.i,b)∉bs) fun b hb'=>hinv.hr.sW b hb'.1
    obtain⟨u,w',κ,g1,g2,g3,g4⟩:=aRK mZ hinv.VZ hr fun b hm=>⟨(hinv.wait q.i b hm hn).2,fun hh=>hh.2 hm⟩
    have UW:=hinv.next F ho hn hp hb h0 g2 g3 (fun t _=>rfl) g4
    refine g1 _ Q (ih _ _ _ κ UW ⟨fun j hj hl=>?_,fun j hj hl=>?_,fun j hj hl=>?_⟩ ?_)
    · exact oA.1 j hj fun hh=>hl ((uL (by rw[hinv.size];exact hi')).2 (.inr hh))
    · rcases (uL (by rw[hinv.size];exact hi')).1 hl with rfl|hl
      · exact (a7R _ h).1 hj
      exact oA.2.1 j hj hl
    · rcases (uL (by rw[hinv.size];exact hi')).1 hl with rfl|hl
      · exact (a7R _ h).2 hj
      exact oA.2.2 j hj hl
    have:=a3B (by rw[hinv.size];exact hi') hn
    omega
  · cases he:ph.e with
    |none=>rw[he] at h;cases h
    |some q=>
     rw[he] at h
     have:i=q.i:=by simpa[yE] using h
     subst this
     exact bQ9 q he fuel L a w ι hinv oA hn (fun o' l9=>by rw[ho] at l9;cases l9;exact hp) hc
  exfalso
  cases he:ph.e with
  |none=>rw[hend he] at h;cases h
  |some q=>
   have hq:q.i∈yE ph.e:=by rw[he];exact .head _
   obtain⟨ed,hed,PO,h3⟩:=F.bef _ _ ho q.i (hlt _ hq) (bOH i h q.i hq)
   have FA:=hp ed hed PO
   refine oA.2.1 _ hq ?_
   rcases h3 with h3|h3
   · rw[←h3];exact FA
   exact hinv.cl ed.on q.i (Nat.lt_trans (F.back _ _ ho ed hed PO) hi') (hlt _ hq) FA h3
end
end
noncomputable section
variable {P:Program}
section
variable {ops:Array Oper} {big m n0:Nat} {T0:T}
theorem RV.on' {ι:aH} {r:Nat→Prop} {x:AV} {v:Value} (h:RV ι x v):RV (ι.on r) x v:=RV.mono (ι:=ι) (κ:=ι.on r) (fun _ _ h=>h) h
theorem Inv.start {ι0:aH} {w0:World} {ds:List Deferred} {L:Array Bool} {T T1:Ev.T} {S S1:St} {bs oJ:Bs} {a:Act} {w:World} {ι:aH} (h:Inv ops big m T0 ι0 w0 ds L T S bs a w ι) (F:QQ ops big)
 (g1:S.n≤S1.n) (g2:∀ι w,HR ι S w→HR ι S1 w) (g3:OY n0 oJ S1) (g4:∀i b,(i,b)∈oJ→(i,b)∈bs∨S.n≤b) {ns:List bQ} (g5:∀t,(∀i∈idxs ns,¬Wr ops t i)→dX t T1=dX t T)
 (qK:∀i∈idxs ns,¬Ls L i):Inv ops big m T0 ι0 w0 ds L T1 S1 oJ a w (ι.on fun b=>ι.res b∨S.n≤b∧b<S1.n):=by
 refine⟨h.size,h.cl,(g2 _ _ h.hr).on fun b hb=>?_,h.ext,fun t ht=>(h.old t ht).on',fun t i hw hl=>?_,h.VZ,h.dfs,fun b hb=>.inl (h.keep b hb),fun i b hm hl=>?_⟩
 · rcases hb with hb|hb
   · exact Nat.lt_of_lt_of_le (h.hr.sW b hb) g1
   exact hb.2
 · rw[g5 t fun j hj hw'=>qK j hj (F.one t i j hw hw'▸hl)]
   exact (h.new t i hw hl).on'
 rcases g4 i b hm with h1|h1
 · exact⟨.inl (h.wait i b h1 hl).1,(h.wait i b h1 hl).2⟩
 exact⟨.inr ⟨h1,g3.hi i b hm⟩,h.hr.fresh b h1⟩
theorem bMI (F:QQ ops big) {Mo:l4} (hMo:I_ P Mo) {ev:Ev} (fX:yG P ev) (hm:m≤256):∀{ph:Ph} {rest:List Ph} {T:Ev.T} {S:St} {bs:Bs} {k:KN} {r:AV} {s:St},N_ P Mo ev ops m T0 (ph::rest) T S bs k=.ok r s→
 NH big (ph::rest)=true→(∀q∈NF (ph::rest),aAC ops big q)→OY n0 bs S→n0≤S.n→
 ∃T' S',k T' S'=.ok r s∧(∀t,(∀i,¬Wr ops t i)→dX t T'=dX t T)∧∀{ι0:aH} {w0:World} {ds:List Deferred} {Q:Exit→Act→World→Prop},(∀b,ι0.res b→b<n0)→
  (∀L a w ι bs',(∀i,i<ops.size→Ls L i)→Inv ops big m T0 ι0 w0 ds L T' S' bs' a w ι→Q .normal a w)→
  ∀fuel L a w ι,Inv ops big m T0 ι0 w0 ds L T S bs a w ι→Cov ops ph rest L→(∀i∈idxs ph.ns,¬Ls L i)→cnt L≤fuel→wpAny P .any ops Q fuel L a w:=by
 intro ph rest
 induction rest generalizing ph with
 |nil=>
  intro T S bs k r s h hg rW hb hn
  unfold N_ at h
  obtain⟨T1,S1,oJ,h,g1,g2,g3,g4,g5⟩:=T7 hm h hb hn
  obtain⟨h,hre⟩:=aOG hm g3 h
  unfold NH at hg
  rw[Bool.and_eq_true] at hg
  cases he:ph.e with
  |some e=>rw[he] at hg;cases hg.2
  |none=>
   rw[he] at h
   refine⟨T1,S1,h,fun t ht=>g5 t fun i _=>ht i,fun {ι0 w0 ds Q} h0 hQ fuel L a w ι hinv oA qK hc=>?_⟩
   refine mid F h0 g3 (ph:=ph) (rest:=[]) (T:=T1) (fun q hq=>⟨rW q (by unfold NF;simp[hq]),hre q hq⟩) ?_ ?_ ?_ (fun _=>rfl) (fun _ L a w ι hall hinv=>hQ L a w ι oJ hall hinv) ?_ fuel L a w _ (hinv.start F g1 g2 g3 g4 g5 qK) oA hc
   · intro i _;rw[he];exact⟨by simp[yE],by simp[opsOf]⟩
   · intro i hi;cases hi
   · intro i hi;rw[he] at hi;cases hi
   intro q hq;rw[he] at hq;cases hq
 |cons LZ rest' ih=>
  intro T S bs k r s h hg rW hb hn
  unfold N_ at h
  obtain⟨T1,S1,oJ,h,g1,g2,g3,g4,g5⟩:=T7 hm h hb hn
  obtain⟨h,hre⟩:=aOG hm g3 h
  unfold NH at hg
  rw[Bool.and_eq_true] at hg
  obtain⟨hg1,hg⟩:=hg
  cases he:ph.e with
  |none=>rw[he] at hg;cases hg
  |some e=>
   rw[he] at h hg
   dsimp only at h hg
   simp only[Bool.and_eq_true] at hg
   obtain⟨hga,hgb,mQ⟩:=hg
   obtain⟨T2,S2,h,hE⟩:=bOL hMo fX hm h
   obtain⟨hle,h⟩:=cI h
   have hle:=Nat.le_of_ble_eq_true hle
   obtain⟨T',S',h,hT',JD⟩:=ih h mQ (fun q hq=>rW q (by unfold NF;simp[hq])) ⟨g3.lo,fun i b hi=>Nat.lt_of_lt_of_le (g3.hi i b hi) hle,g3.inj⟩ (Nat.le_trans hn (Nat.le_trans g1 hle))
   obtain⟨o,ho,hT2,aRK⟩:=hE
   refine⟨T',S',h,fun t ht=>(hT' t ht).trans ((hT2 t fun hd=>ht e.i ⟨o,ho,hd⟩).trans (g5 t fun i _=>ht i)),fun {ι0 w0 ds Q} h0 hQ fuel L a w ι hinv oA qK hc=>?_⟩
   have hei:e.i<ops.size:=(Array.getElem?_eq_some_iff.1 ho).1
   have hla:∀i∈opsOf (LZ::rest'),inb big i e.i=true∧i≠e.i:=fun i hi=>by
    have:=List.all_eq_true.1 hga i hi
    simp only[Bool.and_eq_true,Bool.not_eq_true'] at this
    exact⟨this.1,Nat.ne_of_beq_eq_false this.2⟩
   have E_:∀i∈idxs ph.re,i≠e.i∧i∉opsOf (LZ::rest')∧(inb big e.i i=true∨i∈idxs LZ.re):=fun i hi=>by
    have:=List.all_eq_true.1 hgb i hi
    simp only[Bool.and_eq_true,Bool.or_eq_true,Bool.not_eq_true',T_] at this
    refine⟨?_,?_,this.2.2⟩
    · rintro rfl
      have:=this.1
      simp at this
    intro hh
    have h2:=this.2.1
    rw[T_.2 hh] at h2
    cases h2
   have hlt:∀i∈yE ph.e,i<ops.size:=fun i hi=>by
    rw[he] at hi
    have:i=e.i:=by simpa[yE] using hi
    rw[this];exact hei
   refine mid F h0 g3 (ph:=ph) (rest:=LZ::rest') (T:=T1) (fun q hq=>⟨rW q (by unfold NF;simp[hq]),hre q hq⟩) ?_ ?_ hlt (fun hh=>by rw[he] at hh;cases hh) (fun hh=>by rw[he] at hh;cases hh) ?_ fuel L a w _ (hinv.start F g1 g2 g3 g4 g5 qK) oA hc
   · intro i hi
     refine⟨?_,(E_ i hi).2.1⟩
     rw[he];simpa[yE] using (E_ i hi).1
   · intro i hi j hj
     rw[he] at hj
     have:j=e.i:=by simpa[yE] using hj
     rw[this];exact (hla i hi).1
   intro q hq fuel L a w ι hinv oA hnq hpq hc
   rw[he] at hq;cases hq
   have hp:=hpq o ho
   have bQR:aAC ops big e:=rW e (by unfold NF;simp[he])
   have mZ:=hinv.mask F bQR ho hnq hp fun b=>ι.res b∧(e.i,b)∉oJ
   have hr:=hinv.hr.on (r:=fun b=>ι.res b∧(e.i,b)∉oJ) fun b hb'=>hinv.hr.sW b hb'.1
   refine aRK mZ hinv.VZ hr _ Q fun κ u w' k1 k2 k3=>?_
   have UW:=hinv.next F ho hnq hp g3 h0 k1 k2 hT2 k3
   have SE:e.i<L.size:=by rw[hinv.size];exact hei
   refine JD h0 hQ fuel _ _ _ κ UW ⟨fun i hi hl=>?_,fun i hi hl=>?_,fun i hi hl=>?_⟩ (fun i hi hl=>?_) (by have:=a3B SE hnq;omega)
   · have hl':¬Ls L i:=fun hh=>hl ((uL SE).2 (.inr hh))
     rcases oA.1 i hi hl' with h1|h1|h1
     · rcases (E_ i h1).2.2 with h2|h2
       · exact absurd (UW.cl e.i i hei hi ((uL SE).2 (.inl rfl)) h2) hl
       exact .inl h2
     · rw[he] at h1
       have:i=e.i:=by simpa[yE] using h1
       exact absurd ((uL SE).2 (.inl this)) hl
     unfold opsOf at h1
     rw[List.mem_append,List.mem_append] at h1
     rcases h1 with h1|h1|h1
     · have:=mQ
       unfold NH at this
       rw[Bool.and_eq_true] at this
       exact .inl (T_.1 (List.all_eq_true.1 this.1 i h1))
     · exact .inr (.inl h1)
     exact .inr (.inr h1)
   · have MD:i∈opsOf (LZ::rest'):=by unfold opsOf;simp[hi]
     rcases (uL SE).1 hl with h1|h1
     · exact (hla i MD).2 h1
     exact oA.2.2 i MD h1
   · have MD:i∈opsOf (LZ::rest'):=by unfold opsOf;simp[hi]
     rcases (uL SE).1 hl with h1|h1
     · exact (hla i MD).2 h1
     exact oA.2.2 i MD h1
   have MD:i∈opsOf (LZ::rest'):=by unfold opsOf;simp[hi]
   rcases (uL SE).1 hl with h1|h1
   · exact (hla i MD).2 h1
   exact oA.2.2 i MD h1
end
def a8K:List Oper→Nat→Nat→Nat
 | [],_,big=>big
 |o::l,i,big=>a8K l (i+1) (Nat.lor big (Nat.shiftLeft (o.after.toList.foldl (fun x e=>match Region.binds .any e with
   |true=>Nat.lor x (Nat.lor (Nat.shiftLeft 1 e.on) (Nat.land (Nat.shiftRight big (Nat.mul 64 e.on)) 18446744073709551615))
   |false=>x) 0) (Nat.mul 64 i)))
def bO9 (P:Program) (o:Oper):Bool:=match kd P o.op with
 |.pure _=>false
 |.load _=>false
 |.make _=>false
 |_=>true
def bO2 (ops:Array Oper) (big i:Nat) (o:Oper):bQ:=⟨i,(o.looksAt ops).map fun t=>(t,ops.toList.zipIdx.any fun p=>(match p.1.dst with|some d=>Nat.beq d t|none=>false)&&inb big i p.2)⟩
def a5U (big:Nat) (ns:List (Nat×bQ)):List bQ→List bQ→Nat→List Ph
 |carry,[],j=>[⟨(ns.filter fun p=>Nat.beq p.1 j).map (·.2),carry++(ns.filter fun p=>Nat.beq p.1 j).map (·.2),none⟩]
 |carry,e::es,j=>⟨(ns.filter fun p=>Nat.beq p.1 j).map (·.2),carry++(ns.filter fun p=>Nat.beq p.1 j).map (·.2),some e⟩::
   a5U big ns ((carry++(ns.filter fun p=>Nat.beq p.1 j).map (·.2)).filter fun s=>!inb big e.i s.i) es (j+1)
def U4 (P:Program) (ops:Array Oper):aS1:=
 let big:=a8K ops.toList 0 0
 let all:=ops.toList.zipIdx.map fun p=>(bO9 P p.1,bO2 ops big p.2 p.1)
 let es:=(all.filter (·.1)).map (·.2)
 let ns:=(all.filter (!·.1)).map fun p=>((es.filter fun e=>inb big p.2.i e.i).length,p.2)
 ⟨big,a5U big ns [] es 0⟩
def drawn (P:Program):LB:=fun Mo ev m ops T S k=>aS (P.follows .mixedOrders) (aS (Nat.ble m 256) (aS (YB ops (U4 P ops)) (N_ P Mo ev ops m T (U4 P ops).JY T S [] k)))
theorem a2C:aEF P (drawn P):=by
 intro Mo hMo ev fX m ops T S k r s h
 obtain⟨hf,h⟩:=cI h
 obtain⟨hm,h⟩:=cI h
 obtain⟨hg,h⟩:=cI h
 have hm:=Nat.le_of_ble_eq_true hm
 revert h hg
 generalize U4 P ops=pl
 intro hg h
 obtain⟨F,rW,hall,hgp⟩:=bFU hg
 obtain⟨big,JY⟩:=pl
 dsimp only at rW hall hgp h F
 cases JY with
 |nil=>cases hgp
 |cons ph rest=>
  obtain⟨T',S',h,hT',hw⟩:=bMI (n0:=S.n) F hMo fX hm h hgp rW ⟨(fun _ _ h=>by cases h),(fun _ _ h=>by cases h),(fun _ _ _ h=>by cases h)⟩ (Nat.le_refl _)
  refine⟨T',S',h,fun {id ι a w} ra hr=>wp_region_any hf ?_⟩
  have hno:∀i,¬Ls (Array.replicate ops.size false) i:=by
   intro i
   unfold Ls
   by_cases hi:i<ops.size<;>simp[hi,Array.getElem?_replicate]
  refine hw (ι0:=ι) (w0:=w) (ds:=a.defers) (fun b hb=>hr.sW b hb) ?_ _ _ _ _ ι ⟨by simp,fun i j _ _ hl=>absurd hl (hno i),hr.world (w':={ w with drawn:=w.drawn+1 }) (fun _=>rfl),Ext.world (ι:=ι) rfl rfl rfl rfl,fun t _=>ra.tmp t,fun t i _ hl=>absurd hl (hno i),ra.size,rfl,fun _ h=>h,(fun _ _ h=>by cases h)⟩ ⟨fun i hi _=>?_,fun i _=>hno i,fun i _=>hno i⟩ (fun i _=>hno i) ?_
  · intro L a' w' κ bs' hl hinv
    refine⟨rfl,κ.on ι.res,⟨hinv.VZ,hm,fun t ht=>?_⟩,hinv.hr.on fun b hb=>hinv.hr.sW b (hinv.keep b hb),hinv.ext,hinv.dfs⟩
    have e1:∀T:Ev.T,dX t T=yA t T:=fun T=>by
     unfold dX
     rw[show Nat.ble t 255=true from Nat.ble_eq_true_of_le (by omega)]
    refine RV.on' (ι:=κ) ?_
    by_cases hw':∃i,Wr ops t i
    · obtain⟨i,hi⟩:=hw'
      have hlt:i<ops.size:=by obtain⟨o,ho,-⟩:=hi;exact (Array.getElem?_eq_some_iff.1 ho).1
      rw[←e1];exact hinv.new t i hi (hl i hlt)
    have hw':∀i,¬Wr ops t i:=fun i hi=>hw' ⟨i,hi⟩
    rw[←e1,hT' t hw']
    exact hinv.old t fun i hi=>absurd hi (hw' i)
  · have:=hall i hi
    unfold opsOf at this
    rw[List.mem_append,List.mem_append] at this
    rcases this with h1|h1|h1
    · have:=hgp
      unfold NH at this
      rw[Bool.and_eq_true] at this
      exact .inl (T_.1 (List.all_eq_true.1 this.1 i h1))
    · exact .inr (.inl h1)
    exact .inr (.inr h1)
  unfold cnt
  simp[List.count_replicate]
end
end
end Go.Ev
