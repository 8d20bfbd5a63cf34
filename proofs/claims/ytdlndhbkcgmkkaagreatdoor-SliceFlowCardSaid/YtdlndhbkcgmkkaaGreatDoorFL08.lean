/-
 Part 8 of 35 of a proof about the given program: facts on which the last part stands.
-/
import Derived.Test.YtdlndhbkcgmkkaaGreatDoorFL07
set_option maxHeartbeats 12800000
set_option linter.unusedVariables false
set_option linter.unusedSimpArgs false
namespace Go.Proofs.YtdlndhbkcgmkkaaGreatDoor
section
namespace Sl
structure Sc where
 decl:List aA
 outer:List aA
 inner:List aA
 dF:Bool
 fault:Nat
def inL (l:List aA) (x:aA):Bool:=l.any fun y=>decide (y=x)
theorem bMX {l:List aA} {x:aA}:inL l x=true↔x∈l:=by
 unfold inL
 rw[List.any_eq_true]
 constructor
 · rintro⟨y,hy,e⟩
   exact of_decide_eq_true e▸hy
 exact fun h=>⟨x,h,decide_eq_true rfl⟩
def declares (st:Sc) (x:aA):Sc:=
 if st.fault≠0 then st else if inL st.decl x=true then { st with fault:=6 } else if 64≤st.decl.length then { st with fault:=3 } else
 if st.dF then { st with decl:=st.decl++[x],inner:=st.inner++[x] } else { st with decl:=st.decl++[x],outer:=st.outer++[x] }
def uses (st:Sc) (x:aA):Sc:=if st.fault=0∧inL st.outer x=false∧inL st.inner x=false then { st with fault:=5 } else st
def scope (ar:aA→Option Nat):Fo→Bool→Sc→Sc
 |.nil,_,st=>st
 |.cons k t _ s ps b _ r,true,st=>
  if st.fault≠0 then st else
  scope ar r true (
   if k=2 then scope ar s true (uses st t) else
   if k=5∨k=13 then
    match ar t with
    |none=>{ st with fault:=5 }
    |some m=>if m≠s.len then { st with fault:=1 } else scope ar s true st
   else if k=10 then { scope ar b false (ps.foldl declares { st with dF:=true,inner:=[] }) with dF:=false,inner:=[] }
   else scope ar s true st)
 |.cons k t _ s _ b e r,false,st=>
  if st.fault≠0 then st else
  scope ar r false (
   if (scope ar s true st).fault≠0 then scope ar s true st else
   if k=14 then scope ar e false (scope ar b false (declares (scope ar s true st) t)) else
   if k=15 then scope ar e false (scope ar b false (uses (scope ar s true st) t)) else
   if k=21 then scope ar e false (declares (scope ar b false (scope ar s true st)) t) else
   scope ar e false (scope ar b false (scope ar s true st)))
inductive bQ where
 |decl (x:aA)
 |use (x:aA)
 |opn
 |cls
 |call (x:aA) (args:Nat)
def fT (k:Nat) (t:aA) (sl:Nat) (ps:List aA):List bQ:=
 if k=2 then [.use t] else if k=5∨k=13 then [.call t sl] else if k=10 then .opn::ps.map .decl else []
def mG (k:Nat) (t:aA):List bQ:=if k=14 then [.decl t] else if k=15 then [.use t] else []
def sP (k:Nat) (t:aA):List bQ:=if k=21 then [.decl t] else if k=10 then [.cls] else []
def way:Fo→List bQ
 |.nil=>[]
 |.cons k t _ s ps b e r=>fT k t s.len ps++way s++mG k t++way b++sP k t++way e++way r
def mH (ar:aA→Option Nat) (st:Sc):bQ→Sc
 |.decl x=>declares st x
 |.use x=>uses st x
 |.opn=>if st.fault≠0 then st else { st with dF:=true }
 |.cls=>if st.fault≠0 then st else { st with dF:=false,inner:=[] }
 |.call x n=>if st.fault≠0 then st else match ar x with
   |none=>{ st with fault:=5 }
   |some m=>if m≠n then { st with fault:=1 } else st
def fL (ar:aA→Option Nat) (l:List bQ) (st:Sc):Sc:=l.foldl (mH ar) st
theorem XK {st:Sc} (h:st.fault≠0) (x:aA):declares st x=st:=by unfold declares;rw[if_pos h]
theorem X5 {st:Sc} (h:st.fault≠0) (x:aA):uses st x=st:=by unfold uses;rw[if_neg (fun h'=>h h'.1)]
theorem aZZ {ar:aA→Option Nat} {st:Sc} (h:st.fault≠0) (x:bQ):mH ar st x=st:=by
 cases x with
 |decl x=>exact XK h x
 |use x=>exact X5 h x
 |opn=>exact if_pos h
 |cls=>exact if_pos h
 |call x n=>exact if_pos h
theorem CJ {ar:aA→Option Nat}:∀(l:List bQ) {st:Sc},st.fault≠0→fL ar l st=st
 | [],_,_=>rfl
 |x::l,st,h=>by show fL ar l (mH ar st x)=st;rw[aZZ h x];exact CJ l h
theorem aNX {ar:aA→Option Nat} (l m:List bQ) (st:Sc):fL ar (l++m) st=fL ar m (fL ar l st):=List.foldl_append
theorem aZ4 {ar:aA→Option Nat} {st:Sc} (h:st.fault≠0):∀(l:Fo) (ex:Bool),scope ar l ex st=st
 |.nil,_=>by unfold scope;rfl
 |.cons ..,true=>by unfold scope;exact if_pos h
 |.cons ..,false=>by unfold scope;exact if_pos h
def Alike (a b:Sc):Prop:=a.fault=b.fault∧(a.fault=0→a=b)
theorem Alike.refl (a:Sc):Alike a a:=⟨rfl,fun _=>rfl⟩
theorem Alike.a43 {a b:Sc} (h:Alike a b) (f:a.fault≠0):b.fault≠0:=h.1▸f
theorem Alike.go {a b:Sc} {f g:Sc→Sc} (h:Alike a b) (hf:a.fault≠0→(f a).fault=a.fault) (hg:b.fault≠0→(g b).fault=b.fault) (hh:a.fault=0→a=b→Alike (f a) (g a)):Alike (f a) (g b):=by
 by_cases h0:a.fault=0
 · have:=h.2 h0
   rw[←this]
   exact hh h0 this
 exact⟨by rw[hf h0,hg (h.a43 h0),h.1],fun h1=>absurd (hf h0▸h1) h0⟩
section
variable {ar:aA→Option Nat} {hd:Nat→aA→Int→Nat→List aA→Nat→Nat→Bool→Bool}
theorem a2O (ps:List aA) (st:Sc):fL ar (ps.map .decl) st=ps.foldl declares st:=by
 unfold fL
 rw[List.foldl_map]
 rfl
structure Heads (hd:Nat→aA→Int→Nat→List aA→Nat→Nat→Bool→Bool):Prop where
 fn:∀{k t n sl ps bl el ins},k=10→hd k t n sl ps bl el ins=true→ins=false∧sl=0∧el=0
 expr:∀{k t n sl ps bl el ins},pS k=true→k≠10→hd k t n sl ps bl el ins=true→bl=0∧el=0
 bPW:∀{k t n sl ps bl el ins},k=21→hd k t n sl ps bl el ins=true→sl=0
theorem aXY (st:Sc) (x:aA):(declares st x).dF=st.dF:=by unfold declares;split;rfl;split;rfl;split;rfl;split<;>rfl
theorem bES {st:Sc} (h:st.dF=false) (x:aA):(declares st x).inner=st.inner:=by
 unfold declares;split;rfl;split;rfl;split;rfl;rw[if_neg (by simp[h])]
theorem bIQ (st:Sc) (x:aA):(uses st x).dF=st.dF:=by unfold uses;split<;>rfl
theorem bGW (st:Sc) (x:aA):(uses st x).inner=st.inner:=by unfold uses;split<;>rfl
theorem aZQ:∀(ps:List aA) (st:Sc),(ps.foldl declares st).dF=st.dF
 | [],_=>rfl
 |x::l,st=>by show (l.foldl declares (declares st x)).dF=_;rw[aZQ l,aXY]
def Open (ins:Bool) (st:Sc):Prop:=st.fault=0→st.dF=ins∧(ins=false→st.inner=[])
theorem Open.declares {ins:Bool} {st:Sc} (h:Open ins st) (x:aA):Open ins (declares st x):=fun h0=>by
 have hs:st.fault=0:=by
  rcases Decidable.em (st.fault=0) with h1|h1
  · exact h1
  rw[XK h1] at h0;exact h0
 obtain⟨h1,h2⟩:=h hs
 refine⟨by rw[aXY];exact h1,fun hi=>?_⟩
 rw[bES (by rw[h1,hi])]
 exact h2 hi
theorem Open.uses {ins:Bool} {st:Sc} (h:Open ins st) (x:aA):Open ins (uses st x):=fun h0=>by
 have hs:st.fault=0:=by
  rcases Decidable.em (st.fault=0) with h1|h1
  · exact h1
  rw[X5 h1] at h0;exact h0
 obtain⟨h1,h2⟩:=h hs
 exact⟨by rw[bIQ];exact h1,fun hi=>by rw[bGW];exact h2 hi⟩
theorem IV (H:Heads hd):∀(l:Fo) (ex ins:Bool) (st:Sc),bE hd l ex ins=true→Open ins st→Alike (scope ar l ex st) (fL ar (way l) st)∧Open ins (scope ar l ex st)
 |.nil,_,_,st,_,ho=>by unfold scope way;exact⟨Alike.refl _,ho⟩
 |.cons k t n s ps b e r,true,ins,st,hf,ho=>by
   unfold bE at hf
   simp only[Bool.and_eq_true] at hf
   obtain⟨⟨⟨⟨⟨hk,hh⟩,hs⟩,hb⟩,he⟩,hr⟩:=hf
   unfold scope way
   by_cases h0:st.fault≠0
   · rw[if_pos h0,CJ _ h0];exact⟨Alike.refl _,ho⟩
   rw[if_neg h0]
   simp only[aNX]
   have hke:pS k=true:=hk
   have B1:1≤k∧k≤13:=by unfold pS at hke;simpa using hke
   have MO:mG k t=[]:=by unfold mG;rw[if_neg (by omega),if_neg (by omega)]
   have key:∀x y:Sc,Alike x y→Open ins x→Alike (scope ar r true x) (fL ar (way r) y)∧Open ins (scope ar r true x):=fun x y L_ R8=>by
    obtain⟨a1,a2⟩:=IV H r true ins x hr R8
    refine⟨?_,a2⟩
    exact L_.go (f:=scope ar r true) (g:=fL ar (way r)) (fun hx=>by rw[aZ4 hx]) (fun hy=>by rw[CJ _ hy]) (fun _ _=>a1)
   by_cases h10:k=10
   · obtain⟨rfl,kW,AB⟩:=H.fn h10 hh
     have tS:s=.nil:=by cases s with|nil=>rfl|cons=>simp[Fo.len] at kW
     have hen:e=.nil:=by cases e with|nil=>rfl|cons=>simp[Fo.len] at AB
     subst tS hen h10
     rw[MO]
     have e1:fT 10 t (Fo.len .nil) ps=.opn::ps.map .decl:=rfl
     have e2:sP 10 t=[.cls]:=rfl
     rw[e1,e2]
     simp only[show ¬(10=2) by omega,show ¬(10=5∨10=13) by omega,if_false,if_true]
     obtain⟨cV,bQW⟩:=ho (by simpa using h0)
     have hst:{ st with dF:=true,inner:=[] }={ st with dF:=true }:=by
      have:=bQW rfl
      cases st
      simp_all
     show Alike (scope ar r true _) (fL ar (way r) (fL ar [] (fL ar [.cls] (fL ar (way b) (fL ar [] (fL ar [] (fL ar (ps.map .decl) (mH ar st .opn))))))))∧_
     have bQM:mH ar st .opn={ st with dF:=true }:=if_neg h0
     rw[bQM,hst,a2O]
     obtain⟨a1,a2⟩:=IV H b false true (ps.foldl declares { st with dF:=true }) (by simpa using hb) (fun _=>⟨by rw[aZQ],fun h=>by cases h⟩)
     refine key _ _ ?_ (fun _=>⟨rfl,fun _=>rfl⟩)
     refine a1.go (f:=fun z=>{ z with dF:=false,inner:=[] }) (g:=fun z=>mH ar z .cls) (fun _=>rfl) (fun hy=>by rw[aZZ hy]) (fun hz _=>?_)
     show Alike _ (mH ar _ .cls)
     rw[show mH ar (scope ar b false (ps.foldl declares { st with dF:=true })) .cls={ scope ar b false (ps.foldl declares { st with dF:=true }) with dF:=false,inner:=[] } from if_neg (by simpa using hz)]
     exact Alike.refl _
   obtain⟨hbl,AB⟩:=H.expr hke h10 hh
   have hbn:b=.nil:=by cases b with|nil=>rfl|cons=>simp[Fo.len] at hbl
   have hen:e=.nil:=by cases e with|nil=>rfl|cons=>simp[Fo.len] at AB
   subst hbn hen
   have e2:sP k t=[]:=by unfold sP;rw[if_neg (by omega),if_neg h10]
   rw[MO,e2]
   show Alike (scope ar r true _) (fL ar (way r) (fL ar (way s) (fL ar (fT k t s.len ps) st)))∧_
   by_cases h2:k=2
   · subst h2
     simp only[if_true]
     obtain⟨a1,a2⟩:=IV H s true ins (uses st t) hs (ho.uses t)
     exact key _ _ a1 a2
   simp only[h2,h10,if_false]
   by_cases h5:k=5∨k=13
   rotate_left
   · have e1:fT k t s.len ps=[]:=by unfold fT;rw[if_neg h2,if_neg h5,if_neg h10]
     rw[e1,if_neg h5]
     obtain⟨a1,a2⟩:=IV H s true ins st hs ho
     exact key _ _ a1 a2
   have e1:fT k t s.len ps=[.call t s.len]:=by unfold fT;rw[if_neg h2,if_pos h5]
   rw[e1,if_pos h5]
   show Alike (scope ar r true _) (fL ar (way r) (fL ar (way s) (mH ar st (.call t s.len))))∧_
   have e3:mH ar st (.call t s.len)=(match ar t with
    |none=>{ st with fault:=5 }
    |some m=>if m≠s.len then { st with fault:=1 } else st):=if_neg h0
   rw[e3]
   cases ar t with
   |none=>
    dsimp only
    rw[CJ (way s) (by simp)]
    exact key _ _ (Alike.refl _) (fun h=>by simp at h)
   |some m=>
    dsimp only
    by_cases hm:m≠s.len
    · rw[if_pos hm,if_pos hm,CJ (way s) (by simp)]
      exact key _ _ (Alike.refl _) (fun h=>by simp at h)
    rw[if_neg hm,if_neg hm]
    obtain⟨a1,a2⟩:=IV H s true ins st hs ho
    exact key _ _ a1 a2
 |.cons k t n s ps b e r,false,ins,st,hf,ho=>by
   unfold bE at hf
   simp only[Bool.and_eq_true] at hf
   obtain⟨⟨⟨⟨⟨hk,hh⟩,hs⟩,hb⟩,he⟩,hr⟩:=hf
   unfold scope way
   by_cases h0:st.fault≠0
   · rw[if_pos h0,CJ _ h0];exact⟨Alike.refl _,ho⟩
   rw[if_neg h0]
   simp only[aNX]
   have B1:14≤k∧k≤27:=by unfold kindOk k8 at hk;simpa using hk
   have h10:¬k=10:=by omega
   have e1:fT k t s.len ps=[]:=by unfold fT;rw[if_neg (by omega),if_neg (by omega),if_neg h10]
   have hb':bE hd b false ins=true:=by simpa[h10] using hb
   rw[e1]
   have aQY:∀(l:Fo) (x y:Sc),(∀z,Open ins z→Alike (scope ar l false z) (fL ar (way l) z)∧Open ins (scope ar l false z))→Alike x y→Open ins x→Alike (scope ar l false x) (fL ar (way l) y)∧Open ins (scope ar l false x):=fun l x y hl L_ R8=>by
    obtain⟨a1,a2⟩:=hl x R8
    exact⟨L_.go (f:=scope ar l false) (g:=fL ar (way l)) (fun hx=>by rw[aZ4 hx]) (fun hy=>by rw[CJ _ hy]) (fun _ _=>a1),a2⟩
   have hB:=fun x y=>aQY b x y (fun z hz=>IV H b false ins z hb' hz)
   have hE:=fun x y=>aQY e x y (fun z hz=>IV H e false ins z he hz)
   have hR:=fun x y=>aQY r x y (fun z hz=>IV H r false ins z hr hz)
   have hD:∀x y,Alike x y→Open ins x→Alike (declares x t) (declares y t)∧Open ins (declares x t):=fun x y L_ R8=>
    ⟨L_.go (f:=(declares · t)) (g:=(declares · t)) (fun hx=>by rw[XK hx]) (fun hx=>by rw[XK hx]) (fun _ _=>Alike.refl _),R8.declares t⟩
   have hU:∀x y,Alike x y→Open ins x→Alike (uses x t) (uses y t)∧Open ins (uses x t):=fun x y L_ R8=>
    ⟨L_.go (f:=(uses · t)) (g:=(uses · t)) (fun hx=>by rw[X5 hx]) (fun hx=>by rw[X5 hx]) (fun _ _=>Alike.refl _),R8.uses t⟩
   obtain⟨s1,s2⟩:=IV H s true ins st hs ho
   have fin:∀x y,Alike x y∧Open ins x→Alike (scope ar r false x) (fL ar (way r) y)∧Open ins (scope ar r false x):=fun x y p=>hR x y p.1 p.2
   refine fin _ _ ?_
   rw[show fL ar [] st=st from rfl]
   generalize scope ar s true st=x at s1 s2 ⊢
   generalize fL ar (way s) st=y at s1 ⊢
   by_cases hx:x.fault≠0
   · have hy:=s1.a43 hx
     rw[if_pos hx,CJ _ hy,CJ _ hy,CJ _ hy,CJ _ hy]
     exact⟨s1,s2⟩
   rw[if_neg hx]
   by_cases gV:k=14
   · subst gV
     obtain⟨a1,a2⟩:=hD x y s1 s2
     obtain⟨a1,a2⟩:=hB _ _ a1 a2
     exact hE _ _ a1 a2
   by_cases j3:k=15
   · subst j3
     obtain⟨a1,a2⟩:=hU x y s1 s2
     obtain⟨a1,a2⟩:=hB _ _ a1 a2
     exact hE _ _ a1 a2
   have e4:mG k t=[]:=by unfold mG;rw[if_neg gV,if_neg j3]
   rw[if_neg gV,if_neg j3,e4]
   by_cases iR:k=21
   · subst iR
     obtain⟨a1,a2⟩:=hB x y s1 s2
     obtain⟨a1,a2⟩:=hD _ _ a1 a2
     exact hE _ _ a1 a2
   have e5:sP k t=[]:=by unfold sP;rw[if_neg iR,if_neg h10]
   rw[if_neg iR,e5]
   obtain⟨a1,a2⟩:=hB x y s1 s2
   exact hE _ _ a1 a2
end
end Sl
namespace Sl
section
variable (nm op un:aA→Bool)
theorem aYF:Heads (dK nm op un) where
 fn:=fun {k t n sl ps bl el ins} hk h=>by
  subst hk
  simp[dK,nV,BL] at h
  exact⟨by simpa using h.1.1.2.1,by omega,by omega⟩
 expr:=fun {k t n sl ps bl el ins} hk h10 h=>by
  have ME:1≤k∧k≤13:=by unfold pS at hk;simpa using hk
  have e1:F3 k=false:=by unfold F3;exact decide_eq_false (by omega)
  have e2:BL k=false:=by unfold BL;exact decide_eq_false (by omega)
  simp[dK,e1,e2] at h
  exact⟨by omega,by omega⟩
 bPW:=fun {k t n sl ps bl el ins} hk h=>by
  subst hk
  simp[dK,nV] at h
  omega
def nodes (p:List Fc):Nat:=(p.map fun f=>f.body.cnt).sum
def depth (p:List Fc):Nat:=p.foldl (fun d f=>max d f.body.dep) 0
def h_ (hd:Nat→aA→Int→Nat→List aA→Nat→Nat→Bool→Bool) (f:Fc):Bool:=nm f.name&&mF nm f.ps&&bE hd f.body false false
def aEJ (hd:Nat→aA→Int→Nat→List aA→Nat→Nat→Bool→Bool) (p:List Fc):Nat:=
 if 16<p.length then 3 else if 1024<nodes p∨24<depth p then 3 else if p.all (h_ nm hd) then 0 else 1
def FX (p:List Fc):Nat:=aEJ nm (eJ nm op un) p
def nW (p:List Fc):Nat:=aEJ nm (dK nm op un) p
theorem bKX (p:List Fc):FX nm op un p=nW nm op un p:=by
 unfold FX nW aEJ
 have:h_ nm (eJ nm op un)=h_ nm (dK nm op un):=funext fun f=>by unfold h_;rw[YH]
 rw[this]
def arity (p:List Fc) (x:aA):Option Nat:=(p.find? fun f=>decide (f.name=x)).map fun f=>f.ps.length
def E4:Sc:=⟨[],[],[],false,0⟩
def NK (p:List Fc) (f:Fc):Nat:=(scope (arity p) f.body false (f.ps.foldl declares E4)).fault
def pR (p:List Fc) (f:Fc):Nat:=(fL (arity p) (f.ps.map .decl++way f.body) E4).fault
def EF:List Nat→Nat
 | []=>0
 |0::l=>EF l
 |(n+1)::_=>n+1
def twice (p:List Fc):Bool:=decide ¬(p.map (·.name)).Nodup
def YV (shape:List Fc→Nat) (names:List Fc→Fc→Nat) (dJ:aA) (p:List Fc):Nat:=
 if shape p≠0 then shape p else if twice p then 6 else
 match arity p dJ with
 |none=>5
 |some n=>if 0<n then 1 else EF (p.map (names p))
def NP (dJ:aA) (p:List Fc):Nat:=YV (FX nm op un) NK dJ p
def mY (dJ:aA) (p:List Fc):Nat:=YV (nW nm op un) pR dJ p
theorem aD6 {p:List Fc} (h:nW nm op un p=0):p.length≤16∧nodes p≤1024∧depth p≤24∧∀f∈p,h_ nm (dK nm op un) f=true:=by
 unfold nW aEJ at h
 by_cases h1:16<p.length
 · rw[if_pos h1] at h;cases h
 rw[if_neg h1] at h
 by_cases h2:1024<nodes p∨24<depth p
 · rw[if_pos h2] at h;cases h
 rw[if_neg h2] at h
 by_cases h3:p.all (h_ nm (dK nm op un))=true
 · exact⟨by omega,by omega,by omega,List.all_eq_true.1 h3⟩
 rw[if_neg h3] at h;cases h
theorem aZP:∀(ps:List aA) (st:Sc),Open false st→Open false (ps.foldl declares st)
 | [],_,h=>h
 |x::l,_,h=>aZP l _ (h.declares x)
theorem bK_ {p:List Fc} {f:Fc} (h:h_ nm (dK nm op un) f=true):NK p f=pR p f:=by
 unfold NK pR
 rw[aNX,a2O]
 unfold h_ at h
 simp only[Bool.and_eq_true] at h
 exact (IV (aYF nm op un) f.body false false _ h.2 (aZP f.ps E4 fun _=>⟨rfl,fun _=>rfl⟩)).1.1
theorem a2F (dJ:aA) (p:List Fc):NP nm op un dJ p=mY nm op un dJ p:=by
 unfold NP mY YV
 rw[bKX]
 by_cases h:nW nm op un p=0
 · have:p.map (NK p)=p.map (pR p):=List.map_congr_left fun f hf=>bK_ nm op un ((aD6 nm op un h).2.2.2 f hf)
   rw[this]
 rw[if_pos h,if_pos h]
end
end Sl
namespace Sl
structure Nd where
 k:Nat
 t:aA
 n:Int
 s:Fo
 ps:List aA
 b:Fo
 e:Fo
structure Sm where
 nd:Nd
 fn:Nat
 unit:Nat
 parent:Int
 follow:Int
 cD:Int
 body:Int
 els:Int
 index:Nat
 owner:Int
 part:Nat
 eP:List Nat
 bl:List Nat
 ol:List Nat
namespace Fo
def aD:Fo→Bool→Nat
 |nil,_=>0
 |cons _ _ _ s _ b e r,false=>1+aD s true+aD b false+aD e false+aD r false
 |cons k _ _ s _ b _ r,true=>aD s true+(if k=10 then aD b false else 0)+aD r true
def aK:Fo→Bool→Nat
 |nil,_=>0
 |cons _ _ _ s _ b e r,false=>aK s true+aK b false+aK e false+aK r false
 |cons k _ _ s _ b _ r,true=>aK s true+(if k=10 then 1+aK b false else 0)+aK r true
def cJ:Fo→Nat→List Nat
 |nil,_=>[]
 |cons _ _ _ s _ b e r,i=>i::cJ r (i+(1+aD s true+aD b false+aD e false))
def isNil:Fo→Bool
 |nil=>true
 |cons ..=>false
end Fo
open Fo
structure Pl where
 fn:Nat
 unit:Nat
 parent:Int
 after:Int
 cD:Int
 owner:Int
 part:Nat
 eP:List Nat
def recs (F:Nat):Fo→Bool→Nat→Nat→Nat→Pl→List Sm
 |nil,_,_,_,_,_=>[]
 |cons k t n s ps b e r,false,num,fns,i,p=>
  let at1:=num+1+aD s true
  let els:=at1+aD b false
  let jF:=els+aD e false
  let follow:Int:=if isNil r then p.after else (jF:Nat)
  let kU:Int:=if k=18 then (num:Nat) else follow
  let mU:Int:=if isNil b then kU else (at1:Nat)
  let el:Int:=if isNil e then follow else (els:Nat)
  let f1:=fns+aK s true
  let f2:=f1+aK b false
  let f3:=f2+aK e false
  ⟨⟨k,t,n,s,ps,b,e⟩,p.fn,p.unit,p.parent,follow,p.cD,mU,el,i,p.owner,p.part,p.eP,cJ b at1,cJ e els⟩::
    (recs F s true (num+1) fns 0 ⟨p.fn,p.unit,(num:Nat),-1,-1,-1,0,[]⟩++
    (recs F b false at1 f1 0 ⟨p.fn,p.unit,(num:Nat),kU,if k=21 then el else p.cD,(num:Nat),1,cJ b at1⟩++
    (recs F e false els f2 0 ⟨p.fn,p.unit,(num:Nat),follow,p.cD,(num:Nat),2,cJ e els⟩++
    recs F r false jF f3 (i+1) p)))
 |cons k _ _ s _ b _ r,true,num,fns,i,p=>
  let a1:=num+aD s true
  let f1:=fns+aK s true
  let a2:=a1+if k=10 then aD b false else 0
  let f2:=f1+if k=10 then 1+aK b false else 0
  recs F s true num fns 0 p++
   ((if k=10 then recs F b false a1 (f1+1) 0 ⟨p.fn,F+f1,p.parent,-1,-1,-1,0,cJ b a1⟩ else [])++
   recs F r true a2 f2 (i+1) p)
theorem eU (F:Nat):∀(l:Fo) (ex:Bool) (num fns i:Nat) (p:Pl),(recs F l ex num fns i p).length=aD l ex
 |nil,_,_,_,_,_=>by simp[recs,aD]
 |cons k t n s ps b e r,false,num,fns,i,p=>by
   simp only[recs,aD,List.length_cons,List.length_append,eU F s,eU F b,eU F e,eU F r]
   omega
 |cons k t n s ps b e r,true,num,fns,i,p=>by
   simp only[recs,aD,List.length_append,eU F s,eU F r]
   split
   · rw[eU F b];omega
   rw[List.length_nil];omega
theorem QJ:∀(l:Fo) (i:Nat),(cJ l i).length=l.len
 |nil,_=>rfl
 |cons _ _ _ s _ b e r,i=>by simp[cJ,Fo.len,QJ r]
def lN (F:Nat):List Fc→Nat→Nat→Nat→List Sm
 | [],_,_,_=>[]
 |f::l,i,num,fns=>recs F f.body false num fns 0 ⟨i,i,-1,-1,-1,-1,0,cJ f.body num⟩++lN F l (i+1) (num+aD f.body false) (fns+aK f.body false)
def all (p:List Fc):List Sm:=lN p.length p 0 0 0
def fns (p:List Fc):Nat:=(p.map fun f=>aK f.body false).sum
structure Loc (C:List Sm) (n:Nat) (r:Sm):Prop where
 own:r.owner<n
 low:-1≤r.owner
 at_:r.eP[r.index]?=some n
 next:∀m,r.eP[r.index+1]?=some m→r.follow=(m:Nat)
 last:r.eP[r.index+1]?=none→(r.owner<0→r.follow=-1)∧∀o,0≤r.owner→C[r.owner.toNat]?=some o→r.follow=if o.nd.k=18 then r.owner else o.follow
 top:r.owner<0→r.cD=-1
 up:∀o,0≤r.owner→C[r.owner.toNat]?=some o→r.cD=if o.nd.k=21∧r.part=1 then o.els else o.cD
 mU:r.body=match r.bl with | []=>(if r.nd.k=18 then (n:Int) else r.follow)|m::_=>(m:Int)
 els:r.els=match r.ol with | []=>r.follow|m::_=>(m:Int)
 par:-1≤r.parent∧r.parent<n
 bP6:(∀m∈r.bl,m<C.length)∧(∀m∈r.ol,m<C.length)∧∀m∈r.eP,m<C.length
theorem UA:∀(l:Fo) (i m:Nat),m∈cJ l i→m<i+aD l false
 |nil,_,_,h=>by simp[cJ] at h
 |cons _ _ _ s _ b e r,i,m,h=>by
   simp only[cJ,List.mem_cons] at h
   simp only[aD]
   rcases h with rfl|h
   · omega
   have:=UA r _ m h
   omega
def At (C:List Sm) (num:Nat) (l:List Sm):Prop:=∀j r,l[j]?=some r→C[num+j]?=some r
theorem At.head {C:List Sm} {num:Nat} {x:Sm} {l:List Sm} (h:At C num (x::l)):C[num]?=some x:=h 0 x rfl
theorem At.tail {C:List Sm} {num:Nat} {x:Sm} {l:List Sm} (h:At C num (x::l)):At C (num+1) l:=fun j r hj=>by
 have:=h (j+1) r (by simpa using hj)
 rwa [show num+(j+1)=num+1+j by omega] at this
theorem At.left {C:List Sm} {num:Nat} {l m:List Sm} (h:At C num (l++m)):At C num l:=fun j r hj=>h j r (by
 rw[List.getElem?_append_left (List.getElem?_eq_some_iff.1 hj).1];exact hj)
theorem At.right {C:List Sm} {num k:Nat} {l m:List Sm} (h:At C num (l++m)) (hl:l.length=k):At C (num+k) m:=fun j r hj=>by
 have:=h (k+j) r (by rw[List.getElem?_append_right (by omega),hl];simpa using hj)
 rwa [←Nat.add_assoc] at this
structure Ctx (C:List Sm) (num i:Nat) (l:Fo) (p:Pl):Prop where
 own:p.owner<num
 low:-1≤p.owner
 par:-1≤p.parent∧p.parent<num
 eP:∀j,p.eP[i+j]?=(cJ l num)[j]?
 WT:∀m∈p.eP,m<C.length
 top:p.owner<0→p.after=-1∧p.cD=-1
 up:l≠nil→∀o,0≤p.owner→C[p.owner.toNat]?=some o→p.after=(if o.nd.k=18 then p.owner else o.follow)∧p.cD=(if o.nd.k=21∧p.part=1 then o.els else o.cD)
theorem a2_ {C:List Sm} {num me:Nat} {l:Fo} {p:Pl} {o:Sm} (hs:l≠nil→num+aD l false≤C.length) (hme:me<num) (ho:C[me]?=some o) (h1:p.owner=me) (h2:p.parent=me) (h3:p.eP=cJ l num)
 (h4:l≠nil→p.after=(if o.nd.k=18 then p.owner else o.follow)∧p.cD=(if o.nd.k=21∧p.part=1 then o.els else o.cD)):Ctx C num 0 l p where
 own:=by omega
 low:=by omega
 par:=by omega
 eP:=fun j=>by rw[h3,Nat.zero_add]
 WT:=fun m hm=>by
  rw[h3] at hm
  cases l with
  |nil=>simp[cJ] at hm
  |cons=>exact Nat.lt_of_lt_of_le (UA _ _ m hm) (hs (by simp))
 top:=fun h=>by omega
 up:=fun hl o' _ l9=>by
  rw[h1] at l9
  have:o'=o:=Option.some.inj (l9.symm.trans (by simpa using ho))
  subst this
  exact h4 hl
theorem a0F (l:Fo) (i:Nat) (x:Int):(match cJ l i with | []=>x|m::_=>((m:Nat):Int))=if isNil l then x else (i:Nat):=by
 cases l<;>simp[cJ,isNil]
section
variable {hd:Nat→aA→Int→Nat→List aA→Nat→Nat→Bool→Bool}
def aI3 (hd:Nat→aA→Int→Nat→List aA→Nat→Nat→Bool→Bool):Prop:=∀{k t n sl ps bl el ins},k=18→hd k t n sl ps bl el ins=true→el=0
theorem KS (H:aI3 hd) (C:List Sm) (F:Nat):∀(l:Fo) (ex ins:Bool) (num fns i:Nat) (p:Pl),bE hd l ex ins=true→At C num (recs F l ex num fns i p)→num+aD l ex≤C.length→
 (ex=false→Ctx C num i l p)→(-1≤p.parent∧p.parent<num)→∀j r,(recs F l ex num fns i p)[j]?=some r→Loc C (num+j) r
 |nil,_,_,_,_,_,_,_,_,_,_,_,_,_,h=>by simp[recs] at h
 |cons k t n s ps b e r,false,ins,num,fns,i,p,hf,hat,hsz,hc,hp,j,x,hj=>by
   have hc:=hc rfl
   unfold bE at hf
   simp only[Bool.and_eq_true] at hf
   obtain⟨⟨⟨⟨⟨hk,hh⟩,hs⟩,hb⟩,he⟩,hr⟩:=hf
   have B1:14≤k∧k≤27:=by unfold kindOk k8 at hk;simpa using hk
   have h10:¬k=10:=by omega
   simp only[aD] at hsz
   unfold recs at hat hj
   dsimp only at hat hj
   have h0:=hat.head
   have ht:=hat.tail
   have a1:=ht.left
   have rT:=ht.right (k:=aD s true) (eU ..)
   have a2:=rT.left
   have ht3:=rT.right (k:=aD b false) (eU ..)
   have a3:=ht3.left
   have a4:=ht3.right (k:=aD e false) (eU ..)
   have hl0:=hc.eP 0
   cases j with
   |zero=>
    simp only[List.getElem?_cons_zero,Option.some.injEq] at hj
    subst hj
    refine⟨by simpa using hc.own,hc.low,?_,?_,?_,fun h=>(hc.top h).2,fun o h1 h2=>(hc.up (by simp) o h1 h2).2,?_,?_,by simpa using hp,?_⟩
    · simpa[cJ] using hl0
    · intro m hm
      have:=hc.eP 1
      simp only[cJ,List.getElem?_cons_succ] at this
      dsimp only at hm ⊢
      rw[this] at hm
      cases r with
      |nil=>simp[cJ] at hm
      |cons=>
       simp only[cJ,List.getElem?_cons_zero,Option.some.injEq] at hm
       simp only[isNil,Bool.false_eq_true,if_false,←hm]
       omega
    · intro hm
      have:=hc.eP 1
      simp only[cJ,List.getElem?_cons_succ] at this
      dsimp only at hm ⊢
      rw[this] at hm
      cases r with
      |nil=>
       simp only[isNil,if_true]
       exact⟨fun h=>(hc.top h).1,fun o h1 h2=>(hc.up (by simp) o h1 h2).1⟩
      |cons=>simp[cJ] at hm
    · dsimp only
      rw[a0F]
      simp
    · dsimp only
      rw[a0F]
    refine⟨fun m hm=>?_,fun m hm=>?_,hc.WT⟩
    · have:=UA _ _ m hm;omega
    have:=UA _ _ m hm;omega
   |succ j=>
    rw[List.getElem?_cons_succ] at hj
    rw[show num+(j+1)=num+1+j by omega]
    rcases Nat.lt_or_ge j (aD s true) with h1|h1
    · rw[List.getElem?_append_left (by rw[eU];exact h1)] at hj
      exact KS H C F s true ins (num+1) fns 0 _ hs a1 (by omega) (fun h=>by cases h) ⟨by dsimp only;omega,by dsimp only;omega⟩ j x hj
    rw[List.getElem?_append_right (by rw[eU];exact h1),eU] at hj
    rcases Nat.lt_or_ge (j-aD s true) (aD b false) with h2|h2
    · rw[List.getElem?_append_left (by rw[eU];exact h2)] at hj
      have:=KS H C F b false _ (num+1+aD s true) _ 0 _ hb a2 (by omega) (fun _=>a2_ (fun _=>by omega) (by omega) h0 rfl rfl rfl (fun _=>⟨rfl,by dsimp only;split<;>simp_all⟩)) ⟨by dsimp only;omega,by dsimp only;omega⟩ (j-aD s true) x hj
      rwa [show num+1+aD s true+(j-aD s true)=num+1+j by omega] at this
    rw[List.getElem?_append_right (by rw[eU];exact h2),eU] at hj
    rcases Nat.lt_or_ge (j-aD s true-aD b false) (aD e false) with h3|h3
    · rw[List.getElem?_append_left (by rw[eU];exact h3)] at hj
      have:=KS H C F e false _ (num+1+aD s true+aD b false) _ 0 _ he a3 (by omega) (fun _=>a2_ (fun _=>by omega) (by omega) h0 rfl rfl rfl (fun hne=>⟨by
       dsimp only
       by_cases oI:k=18
       · have:=H oI hh
         cases e with
         |nil=>exact absurd rfl hne
         |cons=>simp[Fo.len] at this
       rw[if_neg oI],by simp⟩)) ⟨by dsimp only;omega,by dsimp only;omega⟩ (j-aD s true-aD b false) x hj
      rwa [show num+1+aD s true+aD b false+(j-aD s true-aD b false)=num+1+j by omega] at this
    rw[List.getElem?_append_right (by rw[eU];exact h3),eU] at hj
    have:=KS H C F r false _ (num+1+aD s true+aD b false+aD e false) _ (i+1) p hr a4 (by omega) (fun _=>
     { own:=by have:=hc.own;omega
       low:=hc.low
       par:=by have:=hc.par;omega
       eP:=fun j=>by
        have:=hc.eP (j+1)
        simp only[cJ,List.getElem?_cons_succ] at this
        rw[show i+1+j=i+(j+1) by omega,this,show num+(1+aD s true+aD b false+aD e false)=num+1+aD s true+aD b false+aD e false by omega]
       WT:=hc.WT
       top:=hc.top
       up:=fun _=>hc.up (by simp) }) ⟨by omega,by omega⟩ (j-aD s true-aD b false-aD e false) x hj
    rwa [show num+1+aD s true+aD b false+aD e false+(j-aD s true-aD b false-aD e false)=num+1+j by omega] at this
 |cons k t n s ps b e r,true,ins,num,fns,i,p,hf,hat,hsz,_,hp,j,x,hj=>by
   unfold bE at hf
   simp only[Bool.and_eq_true] at hf
   obtain⟨⟨⟨⟨⟨hk,hh⟩,hs⟩,hb⟩,he⟩,hr⟩:=hf
   simp only[aD] at hsz
   unfold recs at hat hj
   dsimp only at hat hj
   have a1:=hat.left
   have rT:=hat.right (k:=aD s true) (eU ..)
   rcases Nat.lt_or_ge j (aD s true) with h1|h1
   · rw[List.getElem?_append_left (by rw[eU];exact h1)] at hj
     exact KS H C F s true ins num fns 0 _ hs a1 (by omega) (fun h=>by cases h) hp j x hj
   rw[List.getElem?_append_right (by rw[eU];exact h1),eU] at hj
   by_cases h10:k=10
   rotate_left
   · simp only[if_neg h10,List.nil_append] at rT hj hsz
     have:=KS H C F r true _ _ _ _ p hr rT (by omega) (fun h=>by cases h) (by omega) (j-aD s true) x hj
     rwa [show num+aD s true+(j-aD s true)=num+j by omega] at this
   simp only[if_pos h10] at rT hj hsz
   have a2:=rT.left
   have a3:=rT.right (k:=aD b false) (eU ..)
   rcases Nat.lt_or_ge (j-aD s true) (aD b false) with h2|h2
   · rw[List.getElem?_append_left (by rw[eU];exact h2)] at hj
     have:=KS H C F b false _ (num+aD s true) _ 0 _ hb a2 (by omega) (fun _=>
      { own:=by dsimp only;omega
        low:=by dsimp only;omega
        par:=by dsimp only;omega
        eP:=fun j=>by dsimp only;rw[Nat.zero_add]
        WT:=fun m hm=>by have:=UA _ _ m hm;omega
        top:=fun _=>⟨rfl,rfl⟩
        up:=fun _ o h=>by dsimp only at h;omega }) (by dsimp only;omega) (j-aD s true) x hj
     rwa [show num+aD s true+(j-aD s true)=num+j by omega] at this
   rw[List.getElem?_append_right (by rw[eU];exact h2),eU] at hj
   have:=KS H C F r true _ _ _ _ p hr a3 (by omega) (fun h=>by cases h) (by omega) (j-aD s true-aD b false) x hj
   rwa [show num+aD s true+aD b false+(j-aD s true-aD b false)=num+j by omega] at this
theorem aZ8 (H:aI3 hd) (C:List Sm) (F:Nat):∀(q:List Fc) (i num fns:Nat),(∀f∈q,bE hd f.body false false=true)→At C num (lN F q i num fns)→num+(q.map fun f=>aD f.body false).sum≤C.length→
 ∀j r,(lN F q i num fns)[j]?=some r→Loc C (num+j) r
 | [],_,_,_,_,_,_,j,r,h=>by simp[lN] at h
 |f::q,i,num,fns,hf,hat,hsz,j,x,hj=>by
   unfold lN at hat hj
   rw[List.map_cons,List.sum_cons] at hsz
   rcases Nat.lt_or_ge j (aD f.body false) with h1|h1
   · rw[List.getElem?_append_left (by rw[eU];exact h1)] at hj
     exact KS H C F f.body false false num fns 0 _ (hf f (by simp)) hat.left (by omega) (fun _=>
      { own:=by dsimp only;omega
        low:=by dsimp only;omega
        par:=by dsimp only;omega
        eP:=fun j=>by dsimp only;rw[Nat.zero_add]
        WT:=fun m hm=>by have:=UA _ _ m hm;omega
        top:=fun _=>⟨rfl,rfl⟩
        up:=fun _ o h=>by dsimp only at h;omega }) (by dsimp only;omega) j x hj
   rw[List.getElem?_append_right (by rw[eU];exact h1),eU] at hj
   have:=aZ8 H C F q (i+1) _ _ (fun f h=>hf f (List.mem_cons_of_mem _ h)) (hat.right (eU ..)) (by omega) (j-aD f.body false) x hj
   rwa [show num+aD f.body false+(j-aD f.body false)=num+j by omega] at this
theorem aM8 (F:Nat):∀(q:List Fc) (i num fns:Nat),(lN F q i num fns).length=(q.map fun f=>aD f.body false).sum
 | [],_,_,_=>rfl
 |f::q,i,num,fns=>by rw[lN,List.length_append,eU,aM8 F q,List.map_cons,List.sum_cons]
theorem bNL (H:aI3 hd) (p:List Fc) (hf:∀f∈p,bE hd f.body false false=true) {n:Nat} {r:Sm} (h:(all p)[n]?=some r):Loc (all p) n r:=by
 have:=aZ8 H (all p) p.length p 0 0 0 hf (fun j r hj=>by rw[Nat.zero_add];exact hj) (by unfold all;rw[aM8];omega) n r h
 rwa [Nat.zero_add] at this
end
theorem bGK (nm op un:aA→Bool):aI3 (dK nm op un):=fun {k t n sl ps bl el ins} hk h=>by
 subst hk
 simp[dK,BL] at h
 omega
end Sl
namespace Sl
open Fo
def dP (out:List aA) (x:aA):List aA:=if inL out x then out else out++[x]
def pQ (l:List bQ):List aA:=l.filterMap fun x=>match x with | .use y=>some y|_=>none
def sO (l:List bQ):List aA:=l.filterMap fun x=>match x with | .decl y=>some y|_=>none
def BN (ps:List aA) (b:Fo):List aA:=ps++sO (way b)
def UX (ps:List aA) (b:Fo):List aA:=(pQ (way b)).foldl (fun out x=>if inL (BN ps b) x||inL out x then out else out++[x]) []
def rG (k:Nat) (t:aA) (ps:List aA) (b:Fo):List aA:=if k=2 then [t] else if k=10 then UX ps b else []
def kO:Fo→List aA→List aA
 |nil,out=>out
 |cons k t _ s ps b _ r,out=>kO r (kO s ((rG k t ps b).foldl dP out))
def letters:Fo→List aA→List aA
 |nil,out=>out
 |cons k t _ _ _ b e r,out=>letters r (letters e (letters b (if k=14∨k=21 then out++[t] else out)))
def bJ:Fo→Bool→List aA→List aA
 |nil,_,out=>out
 |cons k t _ s ps b _ r,true,out=>bJ r true (if k=2 then dP out t else if k=10 then ((bJ b false []).filter fun x=>!inL (letters b ps) x).foldl dP out else bJ s true out)
 |cons k t _ s _ b e r,false,out=>bJ r false (bJ e false (bJ b false (if k=15 then dP (bJ s true out) t else bJ s true out)))
def K8 (ps:List aA) (b:Fo):List aA:=(bJ b false []).filter fun x=>!inL (letters b ps) x
theorem aOD (ex:Bool) (out:List aA):bJ nil ex out=out:=by unfold bJ;rfl
section
variable {hd:Nat→aA→Int→Nat→List aA→Nat→Nat→Bool→Bool}
structure aPO (hd:Nat→aA→Int→Nat→List aA→Nat→Nat→Bool→Bool):Prop extends Heads hd where
 name:∀{k t n sl ps bl el ins},k=2→hd k t n sl ps bl el ins=true→sl=0
end
theorem bFR (nm op un:aA→Bool):aPO (dK nm op un) where
 toHeads:=aYF nm op un
 name:=fun {k t n sl ps bl el ins} hk h=>by
  subst hk
  simp[dK,nV] at h
  omega
end Sl
namespace Sl
structure Ts where
 slot:Nat
 hard:Bool
 app:Bool
 calls:List Nat
inductive CA (F:Nat) (S:List Ts):Nat→Prop
 |hard {s:Ts}:s∈S→s.hard=true→CA F S s.slot
 |app {s:Ts}:s∈S→s.app=true→CA F S F→CA F S s.slot
 |call {s:Ts} {k:Nat}:s∈S→k∈s.calls→CA F S k→CA F S s.slot
def fC (F:Nat) (f:Nat→Bool) (s:Ts):Bool:=s.hard||(s.app&&f F)||s.calls.any f
noncomputable def oX (F:Nat) (S:List Ts) (k:Nat):Bool:=@decide (CA F S k) (Classical.propDecidable _)
theorem a2K {F:Nat} {S:List Ts} {k:Nat}:oX F S k=true↔CA F S k:=by unfold oX;exact @decide_eq_true_iff _ (Classical.propDecidable _)
theorem ND {F:Nat} {f:Nat→Bool} {s:Ts}:fC F f s=true↔s.hard=true∨(s.app=true∧f F=true)∨∃k∈s.calls,f k=true:=by
 unfold fC
 simp[or_assoc]
theorem aYR {F:Nat} {S:List Ts} {f:Nat→Bool} (h:∀k,f k=true→CA F S k) {s:Ts} (hs:s∈S) (hm:fC F f s=true):CA F S s.slot:=by
 rcases ND.1 hm with h1|⟨h1,h2⟩|⟨k,h1,h2⟩
 · exact .hard hs h1
 · exact .app hs h1 (h F h2)
 exact .call hs h1 (h k h2)
theorem a3L {F:Nat} {S:List Ts} {f:Nat→Bool} (h:∀k,f k=true→CA F S k) (hc:∀s∈S,fC F f s=true→f s.slot=true):f=oX F S:=by
 funext k
 rw[Bool.eq_iff_iff,a2K]
 refine⟨h k,fun ht=>?_⟩
 induction ht with
 |hard hs h1=>exact hc _ hs (ND.2 (.inl h1))
 |app hs h1 _ ih=>exact hc _ hs (ND.2 (.inr (.inl ⟨h1,ih⟩)))
 |call hs h1 _ ih=>exact hc _ hs (ND.2 (.inr (.inr ⟨_,h1,ih⟩)))
def stepT (F:Nat) (f:Nat→Bool) (s:Ts):Nat→Bool:=if fC F f s then fun k=>decide (k=s.slot)||f k else f
def FY (F:Nat) (S:List Ts) (f:Nat→Bool):Nat→Bool:=S.foldl (stepT F) f
def pP (F:Nat) (S:List Ts):Nat→(Nat→Bool)→Nat→Bool
 |0,f=>f
 |n+1,f=>pP F S n (FY F S f)
theorem aYV {F:Nat} {f:Nat→Bool} {s:Ts} {k:Nat} (h:f k=true):stepT F f s k=true:=by
 unfold stepT;split<;>simp[h]
theorem aM3 {F:Nat}:∀(S:List Ts) {f:Nat→Bool} {k:Nat},f k=true→S.foldl (stepT F) f k=true
 | [],_,_,h=>h
 |_::S,_,_,h=>aM3 S (aYV h)
theorem a0I {F:Nat} {f g:Nat→Bool} (h:∀k,f k=true→g k=true) {s:Ts} (hm:fC F f s=true):fC F g s=true:=by
 rcases ND.1 hm with h1|⟨h1,h2⟩|⟨k,h1,h2⟩
 · exact ND.2 (.inl h1)
 · exact ND.2 (.inr (.inl ⟨h1,h _ h2⟩))
 exact ND.2 (.inr (.inr ⟨k,h1,h _ h2⟩))
theorem aYG {F:Nat} {A:List Ts}:∀(S:List Ts),(∀s∈S,s∈A)→∀{f:Nat→Bool},(∀k,f k=true→CA F A k)→∀k,S.foldl (stepT F) f k=true→CA F A k
 | [],_,_,h,k,hk=>h k hk
 |s::S,hA,f,h,k,hk=>by
   refine aYG S (fun s h=>hA s (List.mem_cons_of_mem _ h)) (f:=stepT F f s) (fun j hj=>?_) k hk
   unfold stepT at hj
   split at hj
   · rename_i hm
     simp only[Bool.or_eq_true,decide_eq_true_eq] at hj
     rcases hj with rfl|hj
     · exact aYR h (hA s (by simp)) hm
     exact h j hj
   exact h j hj
theorem aX5 {F:Nat}:∀(S:List Ts) {f:Nat→Bool} {s:Ts},s∈S→fC F f s=true→S.foldl (stepT F) f s.slot=true
 | [],_,_,h,_=>by cases h
 |x::S,f,s,h,hm=>by
   rw[List.foldl_cons]
   rcases List.mem_cons.1 h with rfl|h
   · exact aM3 S (by unfold stepT;rw[if_pos hm];simp)
   exact aX5 S h (a0I (fun k hk=>aYV hk) hm)
def I9 (f:Nat→Bool) (n:Nat):Nat:=(List.range n).countP f
theorem aYL {f g:Nat→Bool} (h:∀k,f k=true→g k=true):∀n,I9 f n≤I9 g n
 |0=>Nat.le_refl _
 |n+1=>by
   have:=aYL h n
   unfold I9 at this ⊢
   rw[List.range_succ,List.countP_append,List.countP_append]
   simp only[List.countP_cons,List.countP_nil]
   have h1:=h n
   cases hf:f n
   · simp;omega
   rw[h1 hf];simp;omega
theorem a04 {f g:Nat→Bool} (h:∀k,f k=true→g k=true):∀n k,k<n→f k=false→g k=true→I9 f n<I9 g n
 |0,_,hk,_,_=>absurd hk (Nat.not_lt_zero _)
 |n+1,k,hk,h0,h1=>by
   have hm:=aYL h n
   unfold I9 at hm ⊢
   rw[List.range_succ,List.countP_append,List.countP_append]
   simp only[List.countP_cons,List.countP_nil]
   by_cases he:k=n
   · subst he
     rw[h0,h1]
     simp;omega
   have:=a04 h n k (by omega) h0 h1
   unfold I9 at this
   have h2:=h n
   cases hf:f n
   · simp;omega
   rw[h2 hf];simp;omega
theorem bJ8 (f:Nat→Bool) (n:Nat):I9 f n≤n:=by
 unfold I9
 exact Nat.le_trans List.countP_le_length (by simp)
theorem aX_ {F:Nat} {S:List Ts} (hF:∀s∈S,s.slot≤F):∀(n:Nat) (f:Nat→Bool),(∀k,f k=true→CA F S k)→F+1≤n+I9 f (F+1)→pP F S (n+1) f=oX F S
 |n,f,hf,hn=>by
   by_cases hc:∀s∈S,fC F f s=true→f s.slot=true
   ·
    have hst:∀s∈S,stepT F f s=f:=fun s hs=>by
     unfold stepT
     split
     · rename_i hm
       funext k
       by_cases he:k=s.slot
       · subst he;simp[hc s hs hm]
       simp[he]
     rfl
    have bOG:FY F S f=f:=by
     unfold FY
     clear hn hc hf hF
     revert hst
     generalize S=L
     intro hst
     induction L with
     |nil=>rfl
     |cons x L ih=>rw[List.foldl_cons,hst x (by simp)];exact ih fun s h=>hst s (List.mem_cons_of_mem _ h)
    have hall:∀m,pP F S m f=f:=fun m=>by
     induction m with
     |zero=>rfl
     |succ m ih=>rw[pP,bOG];exact ih
    rw[hall]
    exact a3L hf hc
   obtain⟨s,hs,hm,l_⟩:∃s∈S,fC F f s=true∧f s.slot=false:=by
    refine Classical.byContradiction fun h=>hc fun s hs hm=>?_
    cases hk:f s.slot
    · exact absurd ⟨s,hs,hm,hk⟩ h
    rfl
   have hlt:=a04 (f:=f) (g:=FY F S f) (fun k hk=>aM3 S hk) (F+1) s.slot (Nat.lt_succ_of_le (hF s hs)) l_ (aX5 S hs hm)
   have hle:=bJ8 (FY F S f) (F+1)
   match n with
   |0=>exact absurd hn (by have:=Nat.lt_of_lt_of_le hlt hle;omega)
   |n+1=>
    rw[pP]
    exact aX_ hF n _ (aYG S (fun _ h=>h) hf) (by omega)
theorem bG1 {F:Nat} {S:List Ts} (hF:∀s∈S,s.slot≤F):pP F S (F+2) (fun _=>false)=oX F S:=
 aX_ hF (F+1) _ (fun _ h=>by cases h) (by omega)
end Sl
namespace Sl
inductive KB (jF:Int→List Int) (init:List Int):Int→Prop
 |init {x:Int}:x∈init→KB jF init x
 |step {x y:Int}:KB jF init x→y∈jF x→KB jF init y
structure mW (jF:Int→List Int) (init:List Int) (tgt:Int) (todo:List Int) (seen:Int→Bool):Prop where
 ins:∀x∈todo,KB jF init x
 sn:∀x,seen x=true→KB jF init x∧x≠tgt∧∀y∈jF x,y∈todo∨y=-1∨seen y=true
 ini:∀x∈init,x∈todo∨x=-1∨seen x=true
section
variable {jF:Int→List Int} {init:List Int} {tgt:Int}
theorem mW.start (jF:Int→List Int) (init:List Int) (tgt:Int):mW jF init tgt init (fun _=>false):=
 ⟨fun _ h=>.init h,fun _ h=>(by cases h),fun _ h=>.inl h⟩
theorem mW.found {x:Int} {todo:List Int} {seen:Int→Bool} (h:mW jF init tgt (x::todo) seen):KB jF init x:=h.ins x (by simp)
theorem mW.skip {x:Int} {todo:List Int} {seen:Int→Bool} (h:mW jF init tgt (x::todo) seen) (hx:x=-1∨seen x=true):mW jF init tgt todo seen:=by
 have key:∀y,y∈x::todo∨y=-1∨seen y=true→y∈todo∨y=-1∨seen y=true:=fun y hy=>by
  rcases hy with hy|hy
  · rcases List.mem_cons.1 hy with rfl|hy
    · exact .inr hx
    exact .inl hy
  exact .inr hy
 exact⟨fun y hy=>h.ins y (List.mem_cons_of_mem _ hy),fun y hy=>⟨(h.sn y hy).1,(h.sn y hy).2.1,fun z hz=>key z ((h.sn y hy).2.2 z hz)⟩,fun y hy=>key y (h.ini y hy)⟩
theorem mW.mark {x:Int} {todo more:List Int} {seen seen':Int→Bool} (h:mW jF init tgt (x::todo) seen) (hx:x≠tgt) (hm:∀y,y∈more↔y∈jF x) (hs:∀y,seen' y=true↔y=x∨seen y=true):mW jF init tgt (todo++more) seen':=by
 have key:∀y,y∈x::todo∨y=-1∨seen y=true→y∈todo++more∨y=-1∨seen' y=true:=fun y hy=>by
  rcases hy with hy|hy|hy
  · rcases List.mem_cons.1 hy with rfl|hy
    · exact .inr (.inr ((hs _).2 (.inl rfl)))
    exact .inl (List.mem_append_left _ hy)
  · exact .inr (.inl hy)
  exact .inr (.inr ((hs _).2 (.inr hy)))
 refine⟨fun y hy=>?_,fun y hy=>?_,fun y hy=>key y (h.ini y hy)⟩
 · rcases List.mem_append.1 hy with hy|hy
   · exact h.ins y (List.mem_cons_of_mem _ hy)
   exact .step h.found ((hm y).1 hy)
 rcases (hs y).1 hy with rfl|hy
 · exact⟨h.found,hx,fun z hz=>.inl (List.mem_append_right _ ((hm z).2 hz))⟩
 exact⟨(h.sn y hy).1,(h.sn y hy).2.1,fun z hz=>key z ((h.sn y hy).2.2 z hz)⟩
theorem mW.done {seen:Int→Bool} (h:mW jF init tgt [] seen) (h0:jF (-1)=[]) (ht:tgt≠-1):¬KB jF init tgt:=fun hr=>by
 have key:∀x,KB jF init x→x=-1∨seen x=true:=fun x hx=>by
  induction hx with
  |init hi=>rcases h.ini _ hi with h1|h1
            · cases h1
            exact h1
  |step _ hy ih=>
   rcases ih with rfl|ih
   · rw[h0] at hy;cases hy
   rcases (h.sn _ ih).2.2 _ hy with h1|h1
   · cases h1
   exact h1
 rcases key tgt hr with h1|h1
 · exact ht h1
 exact (h.sn _ h1).2.1 rfl
end
noncomputable def BU (jF:Int→List Int) (init:List Int) (x:Int):Bool:=@decide (KB jF init x) (Classical.propDecidable _)
theorem aEB {jF:Int→List Int} {init:List Int} {x:Int}:BU jF init x=true↔KB jF init x:=by unfold BU;exact @decide_eq_true_iff _ (Classical.propDecidable _)
structure Gr where
 names:List aA
 C:List Sm
namespace Gr
variable (g:Gr)
def mJ (a b:Int):List Int:=if a=b then [a] else [min a b,max a b]
def ordinary (r:Sm):List Int:=
 if r.nd.k=17 then mJ r.body r.els else if r.nd.k=18 then mJ r.body r.follow else if r.nd.k=21 then [r.body] else if r.nd.k=19 then [-1] else if r.nd.k=20 then [] else [r.follow]
variable (reads:Sm→List aA)
end Gr
end Sl
end
section
open Go.RowKit
namespace Sl
def iF (w:World) (B:Nat) (v:Value) (ps:List aA):Prop:=∃A c,v=.slice A ps.length c∧ps.length≤c∧Reads w B 1 A ps.length (ps.map .string)
def Flat (w:World) (B:Nat):Fo→List Value→Prop
 |.nil,xs=>xs=[]
 |.cons k t n s ps b e r,xs=>∃sv pv bv ev ys,xs=.int .u8 k::.string t::.int .i64 n::sv::pv::bv::ev::ys∧
   (∃A c zs,sv=.slice A s.len c∧s.len≤c∧Reads w B 7 A s.len zs∧Flat w B s zs)∧iF w B pv ps∧
   (∃A c zs,bv=.slice A b.len c∧b.len≤c∧Reads w B 7 A b.len zs∧Flat w B b zs)∧
   (∃A c zs,ev=.slice A e.len c∧e.len≤c∧Reads w B 7 A e.len zs∧Flat w B e zs)∧Flat w B r ys
def cM (w:World) (B:Nat) (v:Value) (l:Fo):Prop:=∃A c zs,v=.slice A l.len c∧l.len≤c∧Reads w B 7 A l.len zs∧Flat w B l zs
structure lY (w:World) (B:Nat) (sv pv bv ev:Value) (s:Fo) (ps:List aA) (b e:Fo):Prop where
 subs:cM w B sv s
 aX:iF w B pv ps
 body:cM w B bv b
 els:cM w B ev e
theorem X1 {w:World} {B:Nat} {k:Nat} {t:aA} {n:Int} {s:Fo} {ps:List aA} {b e r:Fo} {xs:List Value} (h:Flat w B (.cons k t n s ps b e r) xs):
 ∃sv pv bv ev ys,xs=.int .u8 k::.string t::.int .i64 n::sv::pv::bv::ev::ys∧lY w B sv pv bv ev s ps b e∧Flat w B r ys:=by
 unfold Flat at h
 obtain⟨sv,pv,bv,ev,ys,h1,h2,h3,h4,h5,h6⟩:=h
 exact⟨sv,pv,bv,ev,ys,h1,⟨h2,h3,h4,h5⟩,h6⟩
theorem UE {w:World} {B:Nat} {k:Nat} {t:aA} {n:Int} {s:Fo} {ps:List aA} {b e r:Fo} {sv pv bv ev:Value} {ys:List Value} (h:lY w B sv pv bv ev s ps b e) (hr:Flat w B r ys):
 Flat w B (.cons k t n s ps b e r) (.int .u8 k::.string t::.int .i64 n::sv::pv::bv::ev::ys):=by
 unfold Flat
 exact⟨sv,pv,bv,ev,ys,rfl,h.subs,h.aX,h.body,h.els,hr⟩
theorem Flat.len {w:World} {B:Nat}:∀{l:Fo} {xs:List Value},Flat w B l xs→xs.length=l.len*7
 |.nil,xs,h=>by unfold Flat at h;subst h;rfl
 |.cons ..,xs,h=>by
   obtain⟨sv,pv,bv,ev,ys,rfl,-,hr⟩:=X1 h
   have:=hr.len
   simp only[List.length_cons,this,Fo.len]
   omega
theorem iF.keep {w w':World} {B:Nat} {v:Value} {ps:List aA} (h:iF w B v ps) (hk:∀p:Addr,p.block<B→w'.cell? p=w.cell? p):iF w' B v ps:=by
 obtain⟨A,c,h1,h2,h3⟩:=h
 exact⟨A,c,h1,h2,h3.keep hk⟩
theorem Flat.keep {w w':World} {B:Nat} (hk:∀p:Addr,p.block<B→w'.cell? p=w.cell? p):∀{l:Fo} {xs:List Value},Flat w B l xs→Flat w' B l xs
 |.nil,xs,h=>by unfold Flat at h ⊢;exact h
 |.cons k t n s ps b e r,xs,h=>by
   unfold Flat at h ⊢
   obtain⟨sv,pv,bv,ev,ys,h1,⟨A1,c1,z1,a1,a2,a3,a4⟩,h3,⟨A2,c2,z2,b1,b2,b3,b4⟩,⟨A3,c3,z3,d1,d2,d3,d4⟩,h6⟩:=h
   exact⟨sv,pv,bv,ev,ys,h1,⟨A1,c1,z1,a1,a2,a3.keep hk,Flat.keep hk a4⟩,h3.keep hk,⟨A2,c2,z2,b1,b2,b3.keep hk,Flat.keep hk b4⟩,⟨A3,c3,z3,d1,d2,d3.keep hk,Flat.keep hk d4⟩,Flat.keep hk h6⟩
theorem cM.keep {w w':World} {B:Nat} {v:Value} {l:Fo} (h:cM w B v l) (hk:∀p:Addr,p.block<B→w'.cell? p=w.cell? p):cM w' B v l:=by
 obtain⟨A,c,zs,h1,h2,h3,h4⟩:=h
 exact⟨A,c,zs,h1,h2,h3.keep hk,h4.keep hk⟩
theorem cM.below {w w':World} {B:Nat} {v:Value} {l:Fo} (h:cM w B v l) (hb:Below B w w'):cM w' B v l:=h.keep fun _ hp=>hb.cell hp
theorem iF.below {w w':World} {B:Nat} {v:Value} {l:List aA} (h:iF w B v l) (hb:Below B w w'):iF w' B v l:=h.keep fun _ hp=>hb.cell hp
theorem lY.below {w w':World} {B:Nat} {sv pv bv ev:Value} {s:Fo} {ps:List aA} {b e:Fo} (h:lY w B sv pv bv ev s ps b e) (hb:Below B w w'):lY w' B sv pv bv ev s ps b e:=
 ⟨h.subs.below hb,h.aX.below hb,h.body.below hb,h.els.below hb⟩
theorem iF.more {w:World} {B B':Nat} {v:Value} {ps:List aA} (h:iF w B v ps) (hB:B≤B'):iF w B' v ps:=by
 obtain⟨A,c,h1,h2,h3⟩:=h
 exact⟨A,c,h1,h2,h3.more hB⟩
theorem Flat.more {w:World} {B B':Nat} (hB:B≤B'):∀{l:Fo} {xs:List Value},Flat w B l xs→Flat w B' l xs
 |.nil,xs,h=>by unfold Flat at h ⊢;exact h
 |.cons k t n s ps b e r,xs,h=>by
   unfold Flat at h ⊢
   obtain⟨sv,pv,bv,ev,ys,h1,⟨A1,c1,z1,a1,a2,a3,a4⟩,h3,⟨A2,c2,z2,b1,b2,b3,b4⟩,⟨A3,c3,z3,d1,d2,d3,d4⟩,h6⟩:=h
   exact⟨sv,pv,bv,ev,ys,h1,⟨A1,c1,z1,a1,a2,a3.more hB,Flat.more hB a4⟩,h3.more hB,⟨A2,c2,z2,b1,b2,b3.more hB,Flat.more hB b4⟩,⟨A3,c3,z3,d1,d2,d3.more hB,Flat.more hB d4⟩,Flat.more hB h6⟩
theorem cM.more {w:World} {B B':Nat} {v:Value} {l:Fo} (h:cM w B v l) (hB:B≤B'):cM w B' v l:=by
 obtain⟨A,c,zs,h1,h2,h3,h4⟩:=h
 exact⟨A,c,zs,h1,h2,h3.more hB,h4.more hB⟩
theorem Flat.at_ {w:World} {B:Nat}:∀{l:Fo} {xs:List Value} (i:Nat),Flat w B l xs→i<l.len→
 ∃k t n s ps b e r sv pv bv ev,Fo.drop i l=.cons k t n s ps b e r∧lY w B sv pv bv ev s ps b e∧
  xs[i*7]?=some (.int .u8 k)∧xs[i*7+1]?=some (.string t)∧xs[i*7+2]?=some (.int .i64 n)∧xs[i*7+3]?=some sv∧xs[i*7+4]?=some pv∧xs[i*7+5]?=some bv∧xs[i*7+6]?=some ev
 |.nil,_,i,_,hi=>absurd hi (Nat.not_lt_zero _)
 |.cons k t n s ps b e r,xs,0,h,_=>by
   obtain⟨sv,pv,bv,ev,ys,rfl,hn,-⟩:=X1 h
   exact⟨k,t,n,s,ps,b,e,r,sv,pv,bv,ev,rfl,hn,rfl,rfl,rfl,rfl,rfl,rfl,rfl⟩
 |.cons k t n s ps b e r,xs,i+1,h,hi=>by
   obtain⟨sv,pv,bv,ev,ys,rfl,-,hr⟩:=X1 h
   obtain⟨k',t',n',s',C8,b',e',r',zT,l7,mD,AH,h1,h2,h3,h4,h5,h6,h7,h8,h9⟩:=hr.at_ i (by simpa[Fo.len] using hi)
   refine⟨k',t',n',s',C8,b',e',r',zT,l7,mD,AH,h1,h2,?_,?_,?_,?_,?_,?_,?_⟩
   · rw[show (i+1)*7=i*7+7 by omega];exact h3
   · rw[show (i+1)*7+1=i*7+1+7 by omega];exact h4
   · rw[show (i+1)*7+2=i*7+2+7 by omega];exact h5
   · rw[show (i+1)*7+3=i*7+3+7 by omega];exact h6
   · rw[show (i+1)*7+4=i*7+4+7 by omega];exact h7
   · rw[show (i+1)*7+5=i*7+5+7 by omega];exact h8
   rw[show (i+1)*7+6=i*7+6+7 by omega];exact h9
structure uM (w:World) (B:Nat) (a:Addr) (o:Nat) (k:Nat) (t:aA) (n:Int) (s:Fo) (ps:List aA) (b e:Fo) (sv pv bv ev:Value):Prop where
 kind:w.cell? (a.add o)=some (.int .u8 k)
 text:w.cell? (a.add (o+1))=some (.string t)
 num:w.cell? (a.add (o+2))=some (.int .i64 n)
 subs:w.cell? (a.add (o+3))=some sv
 aX:w.cell? (a.add (o+4))=some pv
 body:w.cell? (a.add (o+5))=some bv
 els:w.cell? (a.add (o+6))=some ev
 vals:lY w B sv pv bv ev s ps b e
 lt:a.block<B
theorem add_pos (b:Addr) {j:Nat} (hj:0<j):b.add j=⟨b.block,b.off+j,none⟩:=by unfold Addr.add;rw[if_neg (by omega)]
theorem rE {w:World} {a:Addr} {o j:Nat} {v:Value} (hj:0<j) (h:w.cell? (a.add (o+j))=some v):w.cell? ⟨(a.add o).block,(a.add o).off+j,none⟩=some v:=by
 rw[←aM5,add_pos _ hj] at h
 exact h
theorem uM.cells {w:World} {B:Nat} {a:Addr} {o k:Nat} {t:aA} {n:Int} {s:Fo} {ps:List aA} {b e:Fo} {sv pv bv ev:Value} (h:uM w B a o k t n s ps b e sv pv bv ev):
 w.cell? (a.add o)=some (.int .u8 k)∧w.cell? ⟨(a.add o).block,(a.add o).off+1,none⟩=some (.string t)∧w.cell? ⟨(a.add o).block,(a.add o).off+2,none⟩=some (.int .i64 n)∧w.cell? ⟨(a.add o).block,(a.add o).off+3,none⟩=some sv∧
 w.cell? ⟨(a.add o).block,(a.add o).off+4,none⟩=some pv∧w.cell? ⟨(a.add o).block,(a.add o).off+5,none⟩=some bv∧w.cell? ⟨(a.add o).block,(a.add o).off+6,none⟩=some ev:=
 ⟨h.kind,rE (by decide) h.text,rE (by decide) h.num,rE (by decide) h.subs,rE (by decide) h.aX,rE (by decide) h.body,rE (by decide) h.els⟩
theorem cM.at_ {w:World} {B:Nat} {A:Option Addr} {len c:Nat} {l:Fo} (h:cM w B (.slice A len c) l) {i:Nat} (hi:i<len):
 ∃a k t n s ps b e r sv pv bv ev,A=some a∧Fo.drop i l=.cons k t n s ps b e r∧uM w B a (i*7) k t n s ps b e sv pv bv ev:=by
 obtain⟨A',c',zs,h1,h2,h3,h4⟩:=h
 injection h1 with e1 e2 e3
 subst e1 e2 e3
 obtain⟨k,t,n,s,ps,b,e,r,sv,pv,bv,ev,hd,hn,x0,x1,x2,x3,x4,x5,x6⟩:=h4.at_ i hi
 obtain⟨a,rfl,hb,hc⟩:=h3.2 (by omega)
 exact⟨a,k,t,n,s,ps,b,e,r,sv,pv,bv,ev,rfl,hd,⟨hc _ _ x0,hc _ _ x1,hc _ _ x2,hc _ _ x3,hc _ _ x4,hc _ _ x5,hc _ _ x6,hn,hb⟩⟩
theorem cM.form {w:World} {B:Nat} {v:Value} {l:Fo} (h:cM w B v l):∃A c,v=.slice A l.len c∧l.len≤c:=by
 obtain⟨A',c',zs,h1,h2,h3,h4⟩:=h
 exact⟨A',c',h1,h2⟩
theorem eD:∀{i:Nat} {l:Fo} {k:Nat} {t:aA} {n:Int} {s:Fo} {ps:List aA} {b e r:Fo},Fo.drop i l=.cons k t n s ps b e r→Fo.drop (i+1) l=r
 |0,_,_,_,_,_,_,_,_,_,h=>by
   unfold Fo.drop at h
   subst h
   rfl
 |i+1,.nil,_,_,_,_,_,_,_,_,h=>by simp[Fo.drop] at h
 |i+1,.cons ..,_,_,_,_,_,_,_,_,h=>by
   rw[Fo.drop] at h ⊢
   exact eD h
theorem gB:∀(l:Fo),Fo.drop l.len l=.nil
 |.nil=>rfl
 |.cons _ _ _ _ _ _ _ r=>by rw[Fo.len,Fo.drop];exact gB r
end Sl
end
end Go.Proofs.YtdlndhbkcgmkkaaGreatDoor
