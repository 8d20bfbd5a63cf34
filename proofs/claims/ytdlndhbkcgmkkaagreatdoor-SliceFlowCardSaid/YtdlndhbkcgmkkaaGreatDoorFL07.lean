/-
 Part 7 of 35 of a proof about the given program: facts on which the last part stands.
-/
import Derived.Test.YtdlndhbkcgmkkaaGreatDoorFL06
import Derived.Test.YtdlndhbkcgmkkaaGreatDoorRows
import Derived.WalkKit
import Derived.WalkSpells
import Derived.WalkLawsBesides
import Derived.Deep.QuietTactic
import Derived.BigQuiet
import Derived.Lib.Hide
import Derived.IntWalk
import Derived.Laws.OwnMore
import Derived.Deep.AppendLies
import Derived.Deep.Draws
import Derived.Maps.AppendAt
import Derived.RegionTactic
import Derived.Deep.RegionWith
import Derived.Deep.RegionLaw
import Derived.Deep.LoopGhost
import Derived.Deep.OwnRows
import Derived.Deep.DeepMust
import Derived.Deep.DeepFit
import Derived.Laws.MakeOwn
import Derived.OwnWalk
set_option maxHeartbeats 12800000
set_option linter.unusedVariables false
set_option linter.unusedSimpArgs false
namespace Go.Ev
section
open Go
noncomputable section
variable {P:Program} {γ:Type}
def jG:l4:=fun _ _ _=>none
abbrev Rt:=T→St→(AV→R)→R
def rsS (P:Program) (l:List ResultVar):(Rt→γ)→γ:=List.rec (motive:=fun _=>(Rt→γ)→γ) (fun c=>c fun _ _ k=>k .nl)
 (fun x _ ih c=>ResultVar.rec (motive:=fun _=>γ) (fun t=>gT t fun g=>ih fun h=>c fun T S k=>g T fun v=>h T S fun r=>k (.cons v r))
  (fun a t=>match K5 P t with
   |some f=>gT a fun g=>ih fun h=>c fun T S k=>g T fun u=>f u S.h fun v=>h T S fun r=>k (.cons v r)
   |none=>c fun _ _ _=>.bad 92) x) l
theorem aO2:∀(l:List ResultVar) (c:Rt→γ),rsS P l c=c fun T S k=>N8 P T S l k
 | [],c=>rfl
 |.tmp t::l,c=>by
   show gT t (fun g=>rsS P l fun h=>c fun T S k=>g T fun v=>h T S fun r=>k (.cons v r))=_
   rw[UZ,aO2 l];rfl
 |.cell a t::l,c=>by
   show (match K5 P t with
    |some f=>gT a fun g=>rsS P l fun h=>c fun T S k=>g T fun u=>f u S.h fun v=>h T S fun r=>k (.cons v r)
    |none=>c fun _ _ _=>.bad 92)=c fun T S k=>(match K5 P t with
    |some f=>f (dX a T) S.h fun v=>N8 P T S l fun r=>k (.cons v r)
    |none=>.bad 92)
   cases K5 P t with
   |none=>rfl
   |some f=>dsimp only;rw[UZ,aO2 l]
def rtS (P:Program) (fn:Func) (c:Rt→γ):γ:=rsS P fn.results.toList fun h=>c fun T S k=>h T S fun v=>a6K v k
theorem bNW (fn:Func) (c:Rt→γ):rtS P fn c=c fun T S k=>EP P fn T S k:=by
 unfold rtS;rw[aO2];simp only[bMC];rfl
inductive FnC where
 |bad (n:Nat)
 |mk (run:Ev→AV→St→K→R)
def aQK (P:Program) (fn:Func) (c:Code):FnC:=match aQ0 c with
 |none=>fN fn.ntmps fun m=>rtS P fn fun rt=>.mk fun ev args S k=>aI0 args 0 pG fun T=>ev (.code c) m T S (fun T S=>rt T S fun v=>k v S) (fun e T S=>Ex.rec (motive:=fun _=>R) (fun _=>.bad 93) (fun _=>.bad 93) (rt T S fun v=>k v S) e)
 |some (r0,ops,x,rest)=>.mk fun ev args S k=>aQM P ev fn r0 ops x rest args S k
def stF (P:Program) (g:Nat):FnC:=match P.funcs[g]? with
 |some fn=>Bool.rec (motive:=fun _=>FnC) (.bad 1) (match fn.body with
   |some c=>aQK P fn c
   |none=>.bad 94) (pV fn)
 |none=>.bad 95
def U1 (P:Program) (ev:Ev) (S:St) (g:Nat) (args:AV) (k:K):R:=FnC.rec (motive:=fun _=>R) (fun n=>.bad n) (fun r=>r ev args S k) (stF P g)
theorem bL0 (fn:Func) (c:Code) (ev:Ev) (args:AV) (S:St) (k:K):FnC.rec (motive:=fun _=>R) (fun n=>.bad n) (fun r=>r ev args S k) (aQK P fn c)=U2 P ev fn c args S k:=by
 unfold aQK U2
 split
 rotate_left
 · rename_i h
   rw[h]
 rename_i h
 rw[h]
 dsimp only
 rw[gQ,bNW]
 dsimp only
 rw[a2G]
 unfold aQL
 refine congrArg (LA args 0 pG) (funext fun T=>congrArg (ev (.code c) fn.ntmps T S (fun T S=>EP P fn T S fun v=>k v S)) ?_)
 funext e T S
 cases e<;>rfl
theorem aEA (ev:Ev) (S:St) (g:Nat) (args:AV) (k:K):U1 P ev S g args k=aIY P jG ev S g args k:=by
 unfold U1 stF
 show _=(match P.funcs[g]? with
  |some fn=>aS (pV fn) (match fn.body with
    |some c=>U2 P ev fn c args S k
    |none=>.bad 94)
  |none=>.bad 95)
 cases P.funcs[g]? with
 |none=>rfl
 |some fn=>
  dsimp only
  cases pV fn with
  |false=>rfl
  |true=>
   dsimp only[aS]
   cases fn.body with
   |none=>rfl
   |some c=>exact bL0 fn c ev args S k
abbrev Sp:=Ev→T→St→KN→R
def stB (P:Program) (op:Op) (put:Pt) (c:Sp→γ):γ:=Kd.rec (motive:=fun _=>γ)
 (fun f=>c fun ev T S k=>f T fun v=>fV v fun v=>put v T fun T=>k T S)
 (fun f=>c fun ev T S k=>St.rec (motive:=fun _=>R) (fun h n=>f T h fun v=>fV v fun v=>put v T fun T=>k T ⟨h,n⟩) S)
 (fun f=>c fun ev T S k=>f T fun b mk=>ZB S b fun i S=>fV (mk i) fun v=>put v T fun T=>k T S)
 (fun f=>c fun ev T S k=>f T S fun v S=>fV v fun v=>put v T fun T=>k T S)
 (fun f=>c fun ev T S k=>f T fun g l=>U1 P ev S g l fun v S=>fV v fun v=>put v T fun T=>k T S)
 (c fun _ _ _ _=>.bad 96) (V5 P op)
theorem a3P (op:Op) (put:Pt) (c:Sp→γ):stB P op put c=c fun ev T S k=>doK P jG ev (kd P op) T S fun v S=>put v T fun T=>k T S:=by
 unfold stB
 rw[aH9]
 cases kd P op with
 |pure f=>simp only[rI];rfl
 |load f=>
  simp only[rI]
  refine congrArg c (funext fun ev=>funext fun T=>funext fun S=>funext fun k=>?_)
  cases S;rfl
 |make f=>simp only[rI,aOL];rfl
 |eff f=>simp only[rI];rfl
 |call f=>simp only[rI,aEA];rfl
 |no=>rfl
abbrev Gd:=T→R→R→R
def gdS (ops:Array Oper) (g:Nat×Bool) (c:Gd→γ):γ:=match ops[g.1]? with
 |some p=>match p.dst with
   |some d=>gT d fun gt=>Bool.rec (motive:=fun _=>γ) (c fun T no yes=>gt T fun v=>bO1 v no yes) (c fun T no yes=>gt T fun v=>bO0 v no yes) g.2
   |none=>c fun _ no _=>no
 |none=>c fun _ no _=>no
theorem a5G (ops:Array Oper) (g:Nat×Bool) (c:Gd→γ):gdS ops g c=c fun T no yes=>UQ ops g T no yes:=by
 unfold gdS UQ
 cases ops[g.1]? with
 |none=>rfl
 |some p=>
  dsimp only
  cases p.dst with
  |none=>rfl
  |some d=>
   dsimp only
   rw[UZ]
   cases g.2<;>(refine congrArg c (funext fun T=>funext fun no=>funext fun yes=>?_);dsimp only;cases dX d T<;>first|rfl|(rename_i b;cases b<;>rfl))
def stS (P:Program) (ops:Array Oper) (m:Nat) (o:Oper) (c:Sp→γ):γ:=pO m o.dst fun put=>Option.rec (motive:=fun _=>γ) (stB P o.op put c)
 (fun g=>gdS ops g fun gd=>stB P o.op put fun s=>c fun ev T S k=>gd T (put (.tup .nl) T fun T=>k T S) (s ev T S k)) o.guard
theorem bNU (ops:Array Oper) (m:Nat) (o:Oper) (c:Sp→γ):stS P ops m o c=c fun ev T S k=>NR P jG ev ops m o T S k:=by
 unfold stS NR I8
 rw[aPU]
 cases o.guard with
 |none=>exact a3P o.op _ c
 |some g=>dsimp only;rw[a5G,a3P]
inductive CR where
 |nil
 |cons (s:Sp) (r:CR)
def CR.run (c:CR):Ev→T→St→KN→R:=CR.rec (motive:=fun _=>Ev→T→St→KN→R) (fun _ T S k=>k T S) (fun s _ ih ev T S k=>s ev T S fun T S=>ih ev T S k) c
def cR (P:Program) (ops:Array Oper) (m:Nat) (l:List Oper):CR:=List.rec (motive:=fun _=>CR) .nil (fun o _ ih=>stS P ops m o fun s=>.cons s ih) l
theorem aQJ (ops:Array Oper) (m:Nat):∀(l:List Oper) (ev:Ev) (T:T) (S:St) (k:KN),(cR P ops m l).run ev T S k=LF P jG ev ops m l T S k
 | [],_,_,_,_=>rfl
 |o::l,ev,T,S,k=>by
   have h:cR P ops m (o::l)=.cons (fun ev T S k=>NR P jG ev ops m o T S k) (cR P ops m l):=bNU ops m o fun s=>CR.cons s (cR P ops m l)
   rw[h]
   show NR P jG ev ops m o T S (fun T S=>(cR P ops m l).run ev T S k)=NR P jG ev ops m o T S (fun T S=>LF P jG ev ops m l T S k)
   rw[show (fun T S=>(cR P ops m l).run ev T S k)=fun T S=>LF P jG ev ops m l T S k from funext fun T=>funext fun S=>aQJ ops m l ev T S k]
def QP (x:AV):AV→Bool:=AV.rec (motive:=fun _=>AV→Bool) (fun _=>false) (fun a=>fun y=>AV.rec (motive:=fun _=>Bool) (false) (fun b=>Bool.rec (motive:=fun _=>Bool) (Bool.rec (motive:=fun _=>Bool) true false b) b a) (fun _ _=>false) (fun _ _=>false) (false) (fun _ _=>false) (false) (fun _ _ _ _=>false) (fun _ _ _ _=>false) (false) (fun _=>false) (fun _ _ _ _ _=>false) (false) (false) (fun _ _ _=>false) (fun _ _=>false) (fun _ _=>false) (fun _=>false) (false) (fun _ _ _ _=>false) y) (fun k a=>fun y=>AV.rec (motive:=fun _=>Bool) (false) (fun _=>false) (fun l b=>Bool.rec (motive:=fun _=>Bool) false (FC a b) (JP k l)) (fun _ _=>false) (false) (fun _ _=>false) (false) (fun _ _ _ _=>false) (fun _ _ _ _=>false) (false) (fun _=>false) (fun _ _ _ _ _=>false) (false) (false) (fun _ _ _=>false) (fun _ _=>false) (fun _ _=>false) (fun _=>false) (false) (fun _ _ _ _=>false) y) (fun n a=>fun y=>AV.rec (motive:=fun _=>Bool) (false) (fun _=>false) (fun _ _=>false) (fun m b=>Bool.rec (motive:=fun _=>Bool) false (Nat.beq a b) (Nat.beq n m)) (false) (fun _ _=>false) (false) (fun _ _ _ _=>false) (fun _ _ _ _=>false) (false) (fun _=>false) (fun _ _ _ _ _=>false) (false) (false) (fun _ _ _=>false) (fun _ _=>false) (fun _ _=>false) (fun _=>false) (false) (fun _ _ _ _=>false) y) (fun y=>AV.rec (motive:=fun _=>Bool) (false) (fun _=>false) (fun _ _=>false) (fun _ _=>false) (true) (fun _ _=>false) (false) (fun _ _ _ _=>false) (fun _ _ _ _=>false) (false) (fun _=>false) (fun _ _ _ _ _=>false) (false) (false) (fun _ _ _=>false) (fun _ _=>false) (fun _ _=>false) (fun _=>false) (false) (fun _ _ _ _=>false) y) (fun b o=>fun y=>AV.rec (motive:=fun _=>Bool) (false) (fun _=>false) (fun _ _=>false) (fun _ _=>false) (false) (fun c p=>Bool.rec (motive:=fun _=>Bool) false (Nat.beq o p) (Nat.beq b c)) (false) (fun _ _ _ _=>false) (fun _ _ _ _=>false) (false) (fun _=>false) (fun _ _ _ _ _=>false) (false) (false) (fun _ _ _=>false) (fun _ _=>false) (fun _ _=>false) (fun _=>false) (false) (fun _ _ _ _=>false) y) (fun y=>AV.rec (motive:=fun _=>Bool) (false) (fun _=>false) (fun _ _=>false) (fun _ _=>false) (false) (fun _ _=>false) (true) (fun _ _ _ _=>false) (fun _ _ _ _=>false) (false) (fun _=>false) (fun _ _ _ _ _=>false) (false) (false) (fun _ _ _=>false) (fun _ _=>false) (fun _ _=>false) (fun _=>false) (false) (fun _ _ _ _=>false) y) (fun b o n c=>fun y=>AV.rec (motive:=fun _=>Bool) (false) (fun _=>false) (fun _ _=>false) (fun _ _=>false) (false) (fun _ _=>false) (false) (fun b' o' n' c'=>Bool.rec (motive:=fun _=>Bool) false (Bool.rec (motive:=fun _=>Bool) false (Bool.rec (motive:=fun _=>Bool) false (Nat.beq c c') (Nat.beq n n')) (Nat.beq o o')) (Nat.beq b b')) (fun _ _ _ _=>false) (false) (fun _=>false) (fun _ _ _ _ _=>false) (false) (false) (fun _ _ _=>false) (fun _ _=>false) (fun _ _=>false) (fun _=>false) (false) (fun _ _ _ _=>false) y) (fun b o n c=>fun y=>AV.rec (motive:=fun _=>Bool) (false) (fun _=>false) (fun _ _=>false) (fun _ _=>false) (false) (fun _ _=>false) (false) (fun _ _ _ _=>false) (fun b' o' n' c'=>Bool.rec (motive:=fun _=>Bool) false (Bool.rec (motive:=fun _=>Bool) false (Bool.rec (motive:=fun _=>Bool) false (Nat.beq c c') (Nat.beq n n')) (Nat.beq o o')) (Nat.beq b b')) (false) (fun _=>false) (fun _ _ _ _ _=>false) (false) (false) (fun _ _ _=>false) (fun _ _=>false) (fun _ _=>false) (fun _=>false) (false) (fun _ _ _ _=>false) y) (fun y=>AV.rec (motive:=fun _=>Bool) (false) (fun _=>false) (fun _ _=>false) (fun _ _=>false) (false) (fun _ _=>false) (false) (fun _ _ _ _=>false) (fun _ _ _ _=>false) (true) (fun _=>false) (fun _ _ _ _ _=>false) (false) (false) (fun _ _ _=>false) (fun _ _=>false) (fun _ _=>false) (fun _=>false) (false) (fun _ _ _ _=>false) y) (fun b=>fun y=>AV.rec (motive:=fun _=>Bool) (false) (fun _=>false) (fun _ _=>false) (fun _ _=>false) (false) (fun _ _=>false) (false) (fun _ _ _ _=>false) (fun _ _ _ _=>false) (false) (fun c=>Nat.beq b c) (fun _ _ _ _ _=>false) (false) (false) (fun _ _ _=>false) (fun _ _=>false) (fun _ _=>false) (fun _=>false) (false) (fun _ _ _ _=>false) y) (fun f _ _ oZ DA=>fun y=>AV.rec (motive:=fun _=>Bool) (false) (fun _=>false) (fun _ _=>false) (fun _ _=>false) (false) (fun _ _=>false) (false) (fun _ _ _ _=>false) (fun _ _ _ _=>false) (false) (fun _=>false) (fun g x' y' _ _=>Bool.rec (motive:=fun _=>Bool) false (Bool.rec (motive:=fun _=>Bool) false (DA y') (oZ x')) (VK f g)) (false) (false) (fun _ _ _=>false) (fun _ _=>false) (fun _ _=>false) (fun _=>false) (false) (fun _ _ _ _=>false) y) (fun y=>AV.rec (motive:=fun _=>Bool) (false) (fun _=>false) (fun _ _=>false) (fun _ _=>false) (false) (fun _ _=>false) (false) (fun _ _ _ _=>false) (fun _ _ _ _=>false) (false) (fun _=>false) (fun _ _ _ _ _=>false) (true) (false) (fun _ _ _=>false) (fun _ _=>false) (fun _ _=>false) (fun _=>false) (false) (fun _ _ _ _=>false) y) (fun y=>AV.rec (motive:=fun _=>Bool) (false) (fun _=>false) (fun _ _=>false) (fun _ _=>false) (false) (fun _ _=>false) (false) (fun _ _ _ _=>false) (fun _ _ _ _=>false) (false) (fun _=>false) (fun _ _ _ _ _=>false) (false) (true) (fun _ _ _=>false) (fun _ _=>false) (fun _ _=>false) (fun _=>false) (false) (fun _ _ _ _=>false) y) (fun t _ ih=>fun y=>AV.rec (motive:=fun _=>Bool) (false) (fun _=>false) (fun _ _=>false) (fun _ _=>false) (false) (fun _ _=>false) (false) (fun _ _ _ _=>false) (fun _ _ _ _=>false) (false) (fun _=>false) (fun _ _ _ _ _=>false) (false) (false) (fun u y' _=>Bool.rec (motive:=fun _=>Bool) false (ih y') (Nat.beq t u)) (fun _ _=>false) (fun _ _=>false) (fun _=>false) (false) (fun _ _ _ _=>false) y) (fun _ ih=>fun y=>AV.rec (motive:=fun _=>Bool) (false) (fun _=>false) (fun _ _=>false) (fun _ _=>false) (false) (fun _ _=>false) (false) (fun _ _ _ _=>false) (fun _ _ _ _=>false) (false) (fun _=>false) (fun _ _ _ _ _=>false) (false) (false) (fun _ _ _=>false) (fun y' _=>ih y') (fun _ _=>false) (fun _=>false) (false) (fun _ _ _ _=>false) y) (fun _ ih=>fun y=>AV.rec (motive:=fun _=>Bool) (false) (fun _=>false) (fun _ _=>false) (fun _ _=>false) (false) (fun _ _=>false) (false) (fun _ _ _ _=>false) (fun _ _ _ _=>false) (false) (fun _=>false) (fun _ _ _ _ _=>false) (false) (false) (fun _ _ _=>false) (fun _ _=>false) (fun y' _=>ih y') (fun _=>false) (false) (fun _ _ _ _=>false) y) (fun a=>fun y=>AV.rec (motive:=fun _=>Bool) (false) (fun _=>false) (fun _ _=>false) (fun _ _=>false) (false) (fun _ _=>false) (false) (fun _ _ _ _=>false) (fun _ _ _ _=>false) (false) (fun _=>false) (fun _ _ _ _ _=>false) (false) (false) (fun _ _ _=>false) (fun _ _=>false) (fun _ _=>false) (fun b=>Nat.beq a b) (false) (fun _ _ _ _=>false) y) (fun y=>AV.rec (motive:=fun _=>Bool) (false) (fun _=>false) (fun _ _=>false) (fun _ _=>false) (false) (fun _ _=>false) (false) (fun _ _ _ _=>false) (fun _ _ _ _=>false) (false) (fun _=>false) (fun _ _ _ _ _=>false) (false) (false) (fun _ _ _=>false) (fun _ _=>false) (fun _ _=>false) (fun _=>false) (true) (fun _ _ _ _=>false) y) (fun _ _ DC oZ=>fun y=>AV.rec (motive:=fun _=>Bool) (false) (fun _=>false) (fun _ _=>false) (fun _ _=>false) (false) (fun _ _=>false) (false) (fun _ _ _ _=>false) (fun _ _ _ _=>false) (false) (fun _=>false) (fun _ _ _ _ _=>false) (false) (false) (fun _ _ _=>false) (fun _ _=>false) (fun _ _=>false) (fun _=>false) (false) (fun b y' _ _=>Bool.rec (motive:=fun _=>Bool) false (oZ y') (DC b)) y) x
theorem bL2:∀a b:AV,QP a b=j9 a b:=by
 have hb:∀(x y:Bool),(Bool.rec (motive:=fun _=>Bool) false y x)=(x&&y):=fun x y=>by cases x<;>rfl
 intro a
 induction a with
 |fn f x y oZ DA=>intro b;cases b<;>first|rfl|(rename_i g x' y';show Bool.rec (motive:=fun _=>Bool) false (Bool.rec (motive:=fun _=>Bool) false (QP y y') (QP x x')) (VK f g)=(VK f g&&(j9 x x'&&j9 y y'));rw[hb,hb,oZ,DA])
 |iface t x ih=>intro b;cases b<;>first|rfl|(rename_i u y;show Bool.rec (motive:=fun _=>Bool) false (QP x y) (Nat.beq t u)=(Nat.beq t u&&j9 x y);rw[hb,ih])
 |agg x ih=>intro b;cases b<;>first|rfl|exact ih _
 |tup x ih=>intro b;cases b<;>first|rfl|exact ih _
 |cons a x DC oZ=>intro b;cases b<;>first|rfl|(rename_i b y;show Bool.rec (motive:=fun _=>Bool) false (QP x y) (QP a b)=(j9 a b&&j9 x y);rw[hb,DC,oZ])
 |bool a=>intro b;cases b<;>first|rfl|(rename_i b;cases a<;>cases b<;>rfl)
 |int k a=>intro b;cases b<;>first|rfl|(rename_i l b;exact hb (JP k l) (FC a b))
 |str n a=>intro b;cases b<;>first|rfl|(rename_i m b;exact hb (Nat.beq n m) (Nat.beq a b))
 |ptr c o=>intro b;cases b<;>first|rfl|(rename_i d p;exact hb (Nat.beq c d) (Nat.beq o p))
 |sl c o n k=>intro b;cases b<;>first|rfl|(rename_i c' o' n' k';show Bool.rec (motive:=fun _=>Bool) false (Bool.rec (motive:=fun _=>Bool) false (Bool.rec (motive:=fun _=>Bool) false (Nat.beq k k') (Nat.beq n n')) (Nat.beq o o')) (Nat.beq c c')=_;rw[hb,hb,hb];rfl)
 |slu c o n k=>intro b;cases b<;>first|rfl|(rename_i c' o' n' k';show Bool.rec (motive:=fun _=>Bool) false (Bool.rec (motive:=fun _=>Bool) false (Bool.rec (motive:=fun _=>Bool) false (Nat.beq k k') (Nat.beq n n')) (Nat.beq o o')) (Nat.beq c c')=_;rw[hb,hb,hb];rfl)
 |_=>intro b;cases b<;>rfl
abbrev Mk:=T→T→T→(T→R)→R
def mkS (l:List (Nat×Bool)):(Mk→γ)→γ:=List.rec (motive:=fun _=>(Mk→γ)→γ) (fun c=>c fun _ _ M k=>k M)
 (fun q _ ih c=>gT q.1 fun g=>pT 256 q.1 fun p=>ih fun h=>Bool.rec (motive:=fun _=>γ) (c fun T0 T M k=>g T0 fun v=>p v M fun M=>h T0 T M k) (c fun T0 T M k=>g T fun v=>p v M fun M=>h T0 T M k) q.2) l
theorem aH6:∀(l:List (Nat×Bool)) (c:Mk→γ),mkS l c=c fun T0 T M k=>JC T0 T l M k
 | [],c=>rfl
 |(t,b)::l,c=>by
   show gT t (fun g=>pT 256 t fun p=>mkS l fun h=>Bool.rec (motive:=fun _=>γ) (c fun T0 T M k=>g T0 fun v=>p v M fun M=>h T0 T M k) (c fun T0 T M k=>g T fun v=>p v M fun M=>h T0 T M k) b)=_
   rw[UZ,a5O,aH6 l]
   cases b<;>rfl
def goS (ops:Array Oper) (g:Option (Nat×Bool)) (c:Gd→γ):γ:=Option.rec (motive:=fun _=>γ) (c fun _ _ yes=>yes) (fun g=>gdS ops g c) g
theorem aPF (ops:Array Oper) (g:Option (Nat×Bool)) (c:Gd→γ):goS ops g c=c fun T no yes=>I8 ops g T no yes:=by
 cases g with
 |none=>rfl
 |some g=>exact a5G ops g c
abbrev Nf:=T→St→(AV→St→Option Nat→R)→R
def nS (P:Program) (op:Op) (c:Nf→γ):γ:=Kd.rec (motive:=fun _=>γ) (fun f=>c fun T S k=>f T fun v=>fV v fun v=>k v S none)
 (fun f=>c fun T S k=>St.rec (motive:=fun _=>R) (fun h n=>f T h fun v=>fV v fun v=>k v ⟨h,n⟩ none) S)
 (fun f=>c fun T S k=>f T fun b mk=>ZB S b fun i S=>fV (mk i) fun v=>k v S (some i))
 (fun _=>c fun _ _ _=>.bad 102) (fun _=>c fun _ _ _=>.bad 102) (c fun _ _ _=>.bad 102) (V5 P op)
theorem bO6 (op:Op) (c:Nf→γ):nS P op c=c fun T S k=>nK (kd P op) T S k:=by
 unfold nS
 rw[aH9]
 cases kd P op with
 |pure f=>simp only[rI];rfl
 |load f=>
  simp only[rI]
  refine congrArg c (funext fun T=>funext fun S=>funext fun k=>?_)
  cases S;rfl
 |make f=>simp only[rI,aOL];rfl
 |eff f=>rfl
 |call f=>rfl
 |no=>rfl
abbrev WY:=T→T→St→Bs→(T→St→Bs→R)→R
def rnS (P:Program) (ops:Array Oper) (m:Nat) (s:bQ) (c:WY→γ):γ:=Option.rec (motive:=fun _=>γ) (c fun _ _ _ _ _=>.bad 101)
 (fun o=>mkS s.ls fun mk=>goS ops o.guard fun gd=>pO m o.dst fun put=>nS P o.op fun nk=>c fun T0 T S bs k=>mk T0 T pG fun M=>gd M (put (.tup .nl) T fun T=>k T S bs) (nk M S fun v S b=>put v T fun T=>Option.rec (motive:=fun _=>R) (k T S bs) (fun b=>k T S ((s.i,b)::bs)) b)) ops[s.i]?
def VO (P:Program) (ops:Array Oper) (m:Nat) (s:bQ):WY:=fun T0 T S bs k=>match ops[s.i]? with
 |some o=>JC T0 T s.ls pG fun M=>I8 ops o.guard M (ER m o.dst (.tup .nl) T fun T=>k T S bs) (nK (kd P o.op) M S fun v S b=>ER m o.dst v T fun T=>k T S (a8M s.i b bs))
 |none=>.bad 101
theorem bNX (ops:Array Oper) (m:Nat) (s:bQ) (c:WY→γ):rnS P ops m s c=c (VO P ops m s):=by
 unfold rnS
 cases h:ops[s.i]? with
 |none=>refine congrArg c (funext fun T0=>funext fun T=>funext fun S=>funext fun bs=>funext fun k=>?_);unfold VO;rw[h]
 |some o=>
  dsimp only
  rw[aH6,aPF,aPU,bO6]
  refine congrArg c (funext fun T0=>funext fun T=>funext fun S=>funext fun bs=>funext fun k=>?_)
  unfold VO;rw[h]
  refine congrArg (JC T0 T s.ls pG) (funext fun M=>congrArg (I8 ops o.guard M _) (congrArg (nK _ M S) (funext fun v=>funext fun S=>funext fun b=>?_)))
  cases b<;>rfl
inductive MQ where
 |nil
 |cons (f:WY) (r:MQ)
def MQ.run (l:MQ):WY:=MQ.rec (motive:=fun _=>WY) (fun _ T S bs k=>k T S bs) (fun f _ ih T0 T S bs k=>f T0 T S bs fun T S bs=>ih T0 T S bs k) l
def C7 (P:Program) (ops:Array Oper) (m:Nat) (l:List bQ):MQ:=List.rec (motive:=fun _=>MQ) .nil (fun s _ ih=>rnS P ops m s fun f=>.cons f ih) l
theorem aO3 (ops:Array Oper) (m:Nat):∀(l:List bQ) (T0 T:T) (S:St) (bs:Bs) (k:Ev.T→St→Bs→R),(C7 P ops m l).run T0 T S bs k=runN P ops m T0 l T S bs k
 | [],_,_,_,_,_=>rfl
 |s::l,T0,T,S,bs,k=>by
   have h:C7 P ops m (s::l)=.cons (VO P ops m s) (C7 P ops m l):=bNX ops m s fun f=>MQ.cons f (C7 P ops m l)
   rw[h]
   show VO P ops m s T0 T S bs (fun T S bs=>(C7 P ops m l).run T0 T S bs k)=_
   rw[show (fun T S bs=>(C7 P ops m l).run T0 T S bs k)=fun T S bs=>runN P ops m T0 l T S bs k from funext fun T=>funext fun S=>funext fun bs=>aO3 ops m l T0 T S bs k]
   unfold VO
   rw[runN]
   all_goals (cases ops[s.i]?<;>rfl)
abbrev Od:=AV→T→R→R
def odS (m:Nat) (d:Option Nat) (c:Od→γ):γ:=Option.rec (motive:=fun _=>γ) (c fun _ _ k=>k) (fun d=>gT d fun g=>c fun v T k=>aS (Nat.ble (Nat.succ d) m) (g T fun u=>aS (QP v u) k)) d
theorem bN1 (m:Nat) (d:Option Nat) (c:Od→γ):odS m d c=c fun v T k=>O6 m d v T k:=by
 cases d with
 |none=>rfl
 |some d=>unfold odS;dsimp only;rw[UZ];simp only[bL2];rfl
abbrev XG:=T→T→St→Bs→R→R
def cqS (P:Program) (op:Op) (i:Nat) (od:Od) (c:(T→St→T→Bs→R→R)→γ):γ:=Kd.rec (motive:=fun _=>γ) (fun f=>c fun M S T bs k=>f M fun v=>fV v fun v=>od v T k)
 (fun f=>c fun M S T bs k=>St.rec (motive:=fun _=>R) (fun h n=>f M h fun v=>fV v fun v=>od v T k) S)
 (fun f=>c fun M S T bs k=>f M fun b mk=>Option.rec (motive:=fun _=>R) (.bad 103) (fun j=>aS (aIH b (bZ j S.h)) (od (mk j) T k)) (U0 i bs))
 (fun _=>c fun _ _ _ _ _=>.bad 104) (fun _=>c fun _ _ _ _ _=>.bad 104) (c fun _ _ _ _ _=>.bad 104) (V5 P op)
theorem bOQ (op:Op) (i m:Nat) (d:Option Nat) (c:(T→St→T→Bs→R→R)→γ):cqS P op i (fun v T k=>O6 m d v T k) c=c fun M S T bs k=>chK (kd P op) M S i m d T bs k:=by
 unfold cqS
 rw[aH9]
 cases kd P op with
 |pure f=>simp only[rI];rfl
 |load f=>
  simp only[rI]
  refine congrArg c (funext fun M=>funext fun S=>funext fun T=>funext fun bs=>funext fun k=>?_)
  cases S;rfl
 |make f=>
  refine congrArg c (funext fun M=>funext fun S=>funext fun T=>funext fun bs=>funext fun k=>?_)
  show (f M fun b mk=>_)=(f M fun b mk=>_)
  refine congrArg (f M) (funext fun b=>funext fun mk=>?_)
  cases U0 i bs<;>rfl
 |eff f=>rfl
 |call f=>rfl
 |no=>rfl
def ckS (P:Program) (ops:Array Oper) (m:Nat) (s:bQ) (c:XG→γ):γ:=Option.rec (motive:=fun _=>γ) (c fun _ _ _ _ _=>.bad 101)
 (fun o=>mkS s.ls fun mk=>goS ops o.guard fun gd=>odS m o.dst fun od=>cqS P o.op s.i od fun cq=>c fun T0 T S bs k=>mk T0 T pG fun M=>gd M (od (.tup .nl) T k) (cq M S T bs k)) ops[s.i]?
def VS (P:Program) (ops:Array Oper) (m:Nat) (s:bQ):XG:=fun T0 T S bs k=>match ops[s.i]? with
 |some o=>JC T0 T s.ls pG fun M=>I8 ops o.guard M (O6 m o.dst (.tup .nl) T k) (chK (kd P o.op) M S s.i m o.dst T bs k)
 |none=>.bad 101
theorem bOR (ops:Array Oper) (m:Nat) (s:bQ) (c:XG→γ):ckS P ops m s c=c (VS P ops m s):=by
 unfold ckS
 cases h:ops[s.i]? with
 |none=>refine congrArg c (funext fun T0=>funext fun T=>funext fun S=>funext fun bs=>funext fun k=>?_);unfold VS;rw[h]
 |some o=>
  dsimp only
  rw[aH6,aPF,bN1,bOQ]
  refine congrArg c (funext fun T0=>funext fun T=>funext fun S=>funext fun bs=>funext fun k=>?_)
  unfold VS;rw[h]
inductive M4 where
 |nil
 |cons (f:XG) (r:M4)
def M4.run (l:M4):XG:=M4.rec (motive:=fun _=>XG) (fun _ _ _ _ k=>k) (fun f _ ih T0 T S bs k=>f T0 T S bs (ih T0 T S bs k)) l
def FH (P:Program) (ops:Array Oper) (m:Nat) (l:List bQ):M4:=List.rec (motive:=fun _=>M4) .nil (fun s _ ih=>ckS P ops m s fun f=>.cons f ih) l
theorem aPK (ops:Array Oper) (m:Nat):∀(l:List bQ) (T0 T:T) (S:St) (bs:Bs) (k:R),(FH P ops m l).run T0 T S bs k=OQ P ops m T0 l T S bs k
 | [],_,_,_,_,_=>rfl
 |s::l,T0,T,S,bs,k=>by
   have h:FH P ops m (s::l)=.cons (VS P ops m s) (FH P ops m l):=bOR ops m s fun f=>M4.cons f (FH P ops m l)
   rw[h]
   show VS P ops m s T0 T S bs ((FH P ops m l).run T0 T S bs k)=_
   rw[aPK ops m l T0 T S bs k]
   unfold VS
   rw[OQ]
   all_goals (cases ops[s.i]?<;>rfl)
abbrev Gf:=Ev→T→T→St→KN→R
def doS (P:Program) (op:Op) (put:Pt) (c:(Ev→T→T→St→KN→R)→γ):γ:=Kd.rec (motive:=fun _=>γ)
 (fun f=>c fun ev M T S k=>f M fun v=>fV v fun v=>put v T fun T=>k T S)
 (fun f=>c fun ev M T S k=>St.rec (motive:=fun _=>R) (fun h n=>f M h fun v=>fV v fun v=>put v T fun T=>k T ⟨h,n⟩) S)
 (fun f=>c fun ev M T S k=>f M fun b mk=>ZB S b fun i S=>fV (mk i) fun v=>put v T fun T=>k T S)
 (fun f=>c fun ev M T S k=>f M S fun v S=>fV v fun v=>put v T fun T=>k T S)
 (fun f=>c fun ev M T S k=>f M fun g l=>U1 P ev S g l fun v S=>fV v fun v=>put v T fun T=>k T S)
 (c fun _ _ _ _ _=>.bad 96) (V5 P op)
theorem bOP (op:Op) (put:Pt) (c:(Ev→T→T→St→KN→R)→γ):doS P op put c=c fun ev M T S k=>doK P jG ev (kd P op) M S fun v S=>put v T fun T=>k T S:=by
 unfold doS
 rw[aH9]
 cases kd P op with
 |pure f=>simp only[rI];rfl
 |load f=>
  simp only[rI]
  refine congrArg c (funext fun ev=>funext fun M=>funext fun T=>funext fun S=>funext fun k=>?_)
  cases S;rfl
 |make f=>simp only[rI,aOL];rfl
 |eff f=>simp only[rI];rfl
 |call f=>simp only[rI,aEA];rfl
 |no=>rfl
def gsS (P:Program) (ops:Array Oper) (m:Nat) (s:bQ) (c:Gf→γ):γ:=Option.rec (motive:=fun _=>γ) (c fun _ _ _ _ _=>.bad 101)
 (fun o=>mkS s.ls fun mk=>goS ops o.guard fun gd=>pO m o.dst fun put=>doS P o.op put fun d=>c fun ev T0 T S k=>mk T0 T pG fun M=>gd M (put (.tup .nl) T fun T=>k T S) (d ev M T S k)) ops[s.i]?
theorem bOJ (ops:Array Oper) (m:Nat) (s:bQ) (c:Gf→γ):gsS P ops m s c=c fun ev T0 T S k=>gS P jG ev ops m T0 s T S k:=by
 unfold gsS
 cases h:ops[s.i]? with
 |none=>refine congrArg c (funext fun ev=>funext fun T0=>funext fun T=>funext fun S=>funext fun k=>?_);unfold gS;rw[h]
 |some o=>
  dsimp only
  rw[aH6,aPF,aPU,bOP]
  refine congrArg c (funext fun ev=>funext fun T0=>funext fun T=>funext fun S=>funext fun k=>?_)
  unfold gS;rw[h]
inductive DX where
 |nil
 |c0 (ns:MQ) (re:M4) (r:DX)
 |c1 (ns:MQ) (re:M4) (g:Gf) (r:DX)
abbrev Phf:=Ev→T→T→St→Bs→KN→R
def DX.run (l:DX):Phf:=DX.rec (motive:=fun _=>Phf) (fun _ _ _ _ _ _=>.bad 105)
 (fun ns re _ _ ev T0 T S bs k=>ns.run T0 T S bs fun T S bs=>re.run T0 T S bs (k T S))
 (fun ns re g _ ih ev T0 T S bs k=>ns.run T0 T S bs fun T S bs=>re.run T0 T S bs (g ev T0 T S fun T S'=>aS (Nat.ble S.n S'.n) (ih ev T0 T S' bs k))) l
def O4 (P:Program) (ops:Array Oper) (m:Nat) (l:List Ph):DX:=List.rec (motive:=fun _=>DX) .nil
 (fun ph _ ih=>Option.rec (motive:=fun _=>DX) (.c0 (C7 P ops m ph.ns) (FH P ops m ph.re) ih) (fun e=>gsS P ops m e fun g=>.c1 (C7 P ops m ph.ns) (FH P ops m ph.re) g ih) ph.e) l
theorem a3V (ops:Array Oper) (m:Nat):∀(l:List Ph) (ev:Ev) (T0 T:T) (S:St) (bs:Bs) (k:KN),(O4 P ops m l).run ev T0 T S bs k=N_ P jG ev ops m T0 l T S bs k
 | [],_,_,_,_,_,_=>rfl
 |ph::l,ev,T0,T,S,bs,k=>by
   have ih:=fun ev T0 T S bs k=>a3V ops m l ev T0 T S bs k
   cases he:ph.e with
   |none=>
    have h:O4 P ops m (ph::l)=.c0 (C7 P ops m ph.ns) (FH P ops m ph.re) (O4 P ops m l):=by
     show (Option.rec (motive:=fun _=>DX) _ _ ph.e:DX)=_
     rw[he];rfl
    rw[h]
    show (C7 P ops m ph.ns).run T0 T S bs (fun T S bs=>(FH P ops m ph.re).run T0 T S bs (k T S))=_
    unfold N_
    simp only[aO3,aPK,he]
   |some e=>
    have h:O4 P ops m (ph::l)=.c1 (C7 P ops m ph.ns) (FH P ops m ph.re) (fun ev T0 T S k=>gS P jG ev ops m T0 e T S k) (O4 P ops m l):=by
     show (Option.rec (motive:=fun _=>DX) _ _ ph.e:DX)=_
     rw[he]
     exact bOJ ops m e fun g=>DX.c1 (C7 P ops m ph.ns) (FH P ops m ph.re) g (O4 P ops m l)
    rw[h]
    show (C7 P ops m ph.ns).run T0 T S bs (fun T S bs=>(FH P ops m ph.re).run T0 T S bs (gS P jG ev ops m T0 e T S fun T S'=>aS (Nat.ble S.n S'.n) ((O4 P ops m l).run ev T0 T S' bs k)))=_
    unfold N_
    simp only[aO3,aPK,he,ih]
def aPI (P:Program) (ev:Ev) (m:Nat) (ops:Array Oper) (T:T) (S:St) (k:KN):R:=aS (P.follows .mixedOrders&&(Nat.ble m 256&&YB ops (U4 P ops))) ((O4 P ops m (U4 P ops).JY).run ev T T S [] k)
theorem bJ6 (ev:Ev) (m:Nat) (ops:Array Oper) (T:T) (S:St) (k:KN):aPI P ev m ops T S k=drawn P jG ev m ops T S k:=by
 unfold aPI drawn
 rw[a3V]
 cases P.follows .mixedOrders<;>cases Nat.ble m 256<;>cases YB ops (U4 P ops)<;>rfl
inductive GtC where
 |mk (g:Gt)
def bP2 (P:Program) (ev:Ev) (m:Nat) (ops:Array Oper) (draw:Bool):T→St→KN→R:=Bool.rec (motive:=fun _=>T→St→KN→R)
 (fun T S k=>(cR P ops m ops.toList).run ev T S k) (fun T S k=>aPI P ev m ops T S k) draw
def aIX (c:Operand) (T:T) (x y:R):R:=GtC.rec (motive:=fun _=>R) (fun g=>g T fun v=>FZ v x y) (gO c .mk)
theorem bLV (c:Operand) (T:T) (x y:R):aIX c T x y=FZ (aY c T) x y:=by unfold aIX;rw[nZ]
def EW (P:Program) (ev:Ev) (m:Nat) (c:Code):Mo:=Code.rec (motive:=fun _=>Mo)
 (fun T S kn kx=>kn T S)
 (fun _ ops draw T S kn kx=>bP2 P ev m ops draw T S kn)
 (fun _ _ DC DB T S kn kx=>DC T S (fun T S=>DB T S kn kx) kx)
 (fun c _ _ DC DB T S kn kx=>aIX c T (DC T S kn kx) (DB T S kn kx))
 (fun id _ ih T S kn kx=>ih T S kn (YW id kn kx))
 (fun b _ T S kn kx=>ev (.loop b) m T S kn kx)
 (fun _ _ _ _ _ _ T S kn kx=>.bad 97)
 (fun id T S kn kx=>kx (.ex id) T S)
 (fun b _ T S kn kx=>ev (.scope b b) m T S kn kx)
 (fun _ T S kn kx=>kn T S)
 (fun l T S kn kx=>kx (.gt l) T S)
 (fun T S kn kx=>kx .rt T S)
 (fun _ T S kn kx=>.bad 98) c
theorem aOU (ev:Ev) (m:Nat) (c:Code):EW P ev m c=nJ P (drawn P) jG ev m c:=by
 induction c with
 |region id ops draw=>
  funext T S kn kx
  cases draw with
  |false=>exact aQJ ops m ops.toList ev T S kn
  |true=>exact bJ6 ev m ops T S kn
 |seq x y oZ DA=>
  funext T S kn kx
  show EW P ev m x T S (fun T S=>EW P ev m y T S kn kx) kx=nJ P (drawn P) jG ev m x T S (fun T S=>nJ P (drawn P) jG ev m y T S kn kx) kx
  rw[oZ,DA]
 |cond c x y oZ DA=>
  funext T S kn kx
  show aIX c T (EW P ev m x T S kn kx) (EW P ev m y T S kn kx)=FZ (aY c T) (nJ P (drawn P) jG ev m x T S kn kx) (nJ P (drawn P) jG ev m y T S kn kx)
  rw[bLV,oZ,DA]
 |block id b ih=>
  funext T S kn kx
  show EW P ev m b T S kn (YW id kn kx)=nJ P (drawn P) jG ev m b T S kn (YW id kn kx)
  rw[ih]
 |_=>rfl
def aSW (P:Program) (ev:Ev):Ev:=fun j=>Job.rec (motive:=fun _=>Nat→T→St→KN→KX→R)
 (fun c m T S kn kx=>EW P ev m c T S kn kx)
 (fun b m T S kn kx=>EW P ev m b T S (fun T S=>ev (.loop b) m T S kn kx) kx)
 (fun cur body m T S kn kx=>EW P ev m cur T S kn (aEK ev m body kn kx))
 (fun l i n m T S kn kx=>aS (Nat.beq ((l.toList.drop i).take n).length n) ((cR P l m ((l.toList.drop i).take n)).run ev T S kn)) j
theorem bM8 (ev:Ev):aSW P ev=evJ P (drawn P) jG ev:=by
 funext j m T S kn kx
 cases j with
 |code c=>show EW P ev m c T S kn kx=nJ P (drawn P) jG ev m c T S kn kx;rw[aOU]
 |loop b=>show EW P ev m b T S _ kx=nJ P (drawn P) jG ev m b T S _ kx;rw[aOU]
 |scope cur body=>show EW P ev m cur T S kn _=nJ P (drawn P) jG ev m cur T S kn _;rw[aOU]
 |ops l i n=>exact congrArg (aS _) (aQJ l m _ ev T S kn)
def aJU (P:Program) (n:Nat):Ev:=Nat.rec (motive:=fun _=>Ev) (fun _ _ _ _ _ _=>.bad 99) (fun _ ev=>aSW P ev) n
theorem aOS:∀n,aJU P n=evN P (drawn P) jG n
 |0=>rfl
 |n+1=>by
   show aSW P (aJU P n)=evJ P (drawn P) jG (evN P (drawn P) jG n)
   rw[bM8,aOS n]
def aQI (P:Program) (n g:Nat):R:=U1 P (aJU P n) ⟨WQ,0⟩ g .nl fun v _=>FZ v (.ok .nl ⟨WQ,0⟩) (.bad 1)
theorem bIB {P:Program} {n g:Nat} (h:aQI P n g=.ok .nl ⟨WQ,0⟩) (w:World):
 Calls P g #[] w fun e w'=>e=.returned (.bool true)∧RowKit.Below w.heap.size w w':=by
 unfold aQI at h
 rw[aEA,aOS] at h
 obtain⟨v,S',hk,hs⟩:=aNQ (M:=jG) (fun _ _ _ _ _ h=>by cases h) (aPG a2C (fun _ _ _ _ _ h=>by cases h) n) h
 rcases aDP hk with⟨rfl,-⟩|⟨-,h⟩
 · refine (hs.2 (ι:=aH.zero) (vs:=[]) rfl HR.empty).mono ?_
   rintro e w' ⟨u,κ,rfl,hu,-,hx⟩
   exact⟨by rw[show u=.bool true from hu],hx.below fun _=>rfl⟩
 exact (R.bA h).elim
end
mutual
def toV:AV→Option Value
 |.bool b=>some (.bool b)
 |.int k n=>some (.int k n)
 |.agg l=>(toVs l).map fun a=>.agg a.toArray
 |_=>none
def toVs:AV→Option (List Value)
 |.nl=>some []
 |.cons h t=>match toV h with
   |none=>none
   |some v=>(toVs t).map fun r=>v::r
 |_=>none
end
mutual
theorem toV_ok {ι:aH}:∀{x:AV} {v u:Value},RV ι x v→toV x=some u→v=u
 |.bool b,v,u,h,e=>by simp only[RV] at h;simp only[toV,Option.some.injEq] at e;rw[h,e]
 |.int k n,v,u,h,e=>by simp only[RV] at h;simp only[toV,Option.some.injEq] at e;rw[h,e]
 |.agg l,v,u,h,e=>by
   simp only[RV] at h
   obtain⟨a,rfl,hl⟩:=h
   simp only[toV] at e
   cases hv:toVs l with
   |none=>rw[hv] at e;cases e
   |some r=>
    rw[hv] at e
    simp only[Option.map_some,Option.some.injEq] at e
    rw[←e,←toVs_ok hl hv]
 |.top,_,_,_,e=>by simp[toV] at e
 |.str _ _,_,_,_,e=>by simp[toV] at e
 |.pnil,_,_,_,e=>by simp[toV] at e
 |.ptr _ _,_,_,_,e=>by simp[toV] at e
 |.snil,_,_,_,e=>by simp[toV] at e
 |.sl _ _ _ _,_,_,_,e=>by simp[toV] at e
 |.slu _ _ _ _,_,_,_,e=>by simp[toV] at e
 |.mnil,_,_,_,e=>by simp[toV] at e
 |.map _,_,_,_,e=>by simp[toV] at e
 |.fn _ _ _,_,_,_,e=>by simp[toV] at e
 |.fnil,_,_,_,e=>by simp[toV] at e
 |.inil,_,_,_,e=>by simp[toV] at e
 |.iface _ _,_,_,_,e=>by simp[toV] at e
 |.tup _,_,_,_,e=>by simp[toV] at e
 |.ge _,_,_,_,e=>by simp[toV] at e
 |.nl,_,_,_,e=>by simp[toV] at e
 |.cons _ _,_,_,_,e=>by simp[toV] at e
theorem toVs_ok {ι:aH}:∀{x:AV} {l r:List Value},RL ι x l→toVs x=some r→l=r
 |.nl,l,r,h,e=>by simp only[RL] at h;simp only[toVs,Option.some.injEq] at e;rw[h,e]
 |.cons a t,l,r,h,e=>by
   simp only[RL] at h
   obtain⟨u,q,rfl,h1,h2⟩:=h
   simp only[toVs] at e
   cases ha:toV a with
   |none=>rw[ha] at e;cases e
   |some v=>
    rw[ha] at e
    cases ht:toVs t with
    |none=>rw[ht] at e;cases e
    |some q'=>
     rw[ht] at e
     simp only[Option.map_some,Option.some.injEq] at e
     rw[←e,toV_ok h1 ha,toVs_ok h2 ht]
 |.top,_,_,_,e=>by simp[toVs] at e
 |.bool _,_,_,_,e=>by simp[toVs] at e
 |.int _ _,_,_,_,e=>by simp[toVs] at e
 |.agg _,_,_,_,e=>by simp[toVs] at e
 |.str _ _,_,_,_,e=>by simp[toVs] at e
 |.pnil,_,_,_,e=>by simp[toVs] at e
 |.ptr _ _,_,_,_,e=>by simp[toVs] at e
 |.snil,_,_,_,e=>by simp[toVs] at e
 |.sl _ _ _ _,_,_,_,e=>by simp[toVs] at e
 |.slu _ _ _ _,_,_,_,e=>by simp[toVs] at e
 |.mnil,_,_,_,e=>by simp[toVs] at e
 |.map _,_,_,_,e=>by simp[toVs] at e
 |.fn _ _ _,_,_,_,e=>by simp[toVs] at e
 |.fnil,_,_,_,e=>by simp[toVs] at e
 |.inil,_,_,_,e=>by simp[toVs] at e
 |.iface _ _,_,_,_,e=>by simp[toVs] at e
 |.tup _,_,_,_,e=>by simp[toVs] at e
 |.ge _,_,_,_,e=>by simp[toVs] at e
end
def toM:List (AV×AV)→Option (List (Value×Value))
 | []=>some []
 |(a,v)::r=>match toV a,toV v,toM r with
   |some x,some y,some q=>some ((x,y)::q)
   |_,_,_=>none
theorem toM_ok {ι:aH}:∀{es:List (AV×AV)} {l:List MapEntry} {M:List (Value×Value)},RM ι es l→toM es=some M→l.map (fun e=>(e.key,e.val))=M
 | [],l,M,h,e=>by
   rw[show l=[] from h]
   simp only[toM,Option.some.injEq] at e
   rw[←e];rfl
 |(a,v)::r,l,M,⟨e0,q,he,h1,h2,h3⟩,e=>by
   subst he
   simp only[toM] at e
   cases ha:toV a with
   |none=>rw[ha] at e;cases e
   |some x=>
    cases hv:toV v with
    |none=>rw[ha,hv] at e;cases e
    |some y=>
     cases hq:toM r with
     |none=>rw[ha,hv,hq] at e;cases e
     |some z=>
      rw[ha,hv,hq] at e
      simp only[Option.some.injEq] at e
      rw[←e,List.map_cons,toV_ok h1 ha,toV_ok h2 hv,toM_ok h3 hq]
noncomputable def R.entries:R→Option (List (Value×Value))
 |.ok (.map b) S=>match bZ b S.h with
   |.map es=>toM es
   |_=>none
 |_=>none
noncomputable def aI7 (P:Program) (n g:Nat):R:=U1 P (aJU P n) ⟨WQ,0⟩ g .nl fun v S=>.ok v S
theorem bKE {P:Program} {n g:Nat} {M:List (Value×Value)} (h:(aI7 P n g).entries=some M) (w:World):
 Calls P g #[] w fun e w'=>∃gm es k,e=.returned (.map (some gm))∧w.heap.size≤gm∧w'.heap[gm]?=some (.map es k)∧es.toList.map (fun e=>(e.key,e.val))=M∧RowKit.Below w.heap.size w w':=by
 cases hr:aI7 P n g with
 |bad k=>rw[hr] at h;simp[R.entries] at h
 |ok v S=>
  rw[hr] at h
  unfold aI7 at hr
  rw[aEA,aOS] at hr
  obtain⟨v',S',hk,hs⟩:=aNQ (M:=jG) (fun _ _ _ _ _ h=>by cases h) (aPG a2C (fun _ _ _ _ _ h=>by cases h) n) hr
  injection hk with e1 e2
  subst e1 e2
  cases v' with
  |map b=>
   simp only[R.entries] at h
   cases ho:bZ b S'.h with
   |map es=>
    rw[ho] at h
    refine (hs.2 (ι:=aH.zero) (vs:=[]) rfl HR.empty).mono ?_
    rintro e w' ⟨u,κ,rfl,hu,hh,hx⟩
    simp only[RV] at hu
    obtain⟨l,hl,rfl⟩:=hu
    have hro:=hh.live b l hl
    rw[ho] at hro
    obtain⟨a,k,hb,hm⟩:=hro
    refine⟨l.b,a,k,rfl,?_,hb,toM_ok hm h,hx.below fun _=>rfl⟩
    rcases hx.new b l hl with⟨b',l',h',-⟩|h'
    · cases h'
    exact h'
   |gone=>rw[ho] at h;cases h
   |cells n c=>rw[ho] at h;cases h
  |_=>simp[R.entries] at h
end
end Go.Ev
namespace Go.Proofs.YtdlndhbkcgmkkaaGreatDoor
open Go.RowKit
theorem dC {k:IntKind} {a b:Int} (h:a=b):Ending.returned (.int k a)=.returned (.int k b):=by rw[h]
theorem aR {a b:Bool} (h:a=b):Ending.returned (.bool a)=.returned (.bool b):=by rw[h]
theorem below_drewN {B:Nat} {a w:World} (h:Below B a w) (n:Nat):Below B a (w.drewN n):=⟨h.os,h.tape,h.output,h.size,h.block⟩
theorem lM {B:Nat} {a w:World} {n:Nat} (h:Below B (a.drewN n) w):Below B a w:=⟨h.os,h.tape,h.output,h.size,h.block⟩
section
variable {P:Program} {f:FuncId} {args:Array Value}
theorem aDM {w:World} {n:Nat} {v:Value} (h:Calls P f args (w.drewN n) fun e w'=>e=.returned v∧∃m,w'=(w.drewN n).drewN m):
 Calls P f args (w.drewN n) fun e w''=>e=.returned v∧∃m,w''=w.drewN m:=
 h.mono fun _ _ ⟨he,m,hm⟩=>⟨he,n+m,by rw[hm,World.drewN_drewN]⟩
end
theorem dH (w:World) (p:Addr) (u:Value):w.grownBy (w.setCell p u) (some p.block):=
 ⟨rfl,rfl,rfl,by simp[World.setCell],fun i _ hne=>Below.heap_setCell w p u i (fun e=>hne (by rw[e]))⟩
theorem f_ (a:Addr) (n:Nat):(a.add n).block=a.block:=by unfold Addr.add;split<;>rfl
theorem aM5 (a:Addr) (i j:Nat):(a.add i).add j=a.add (i+j):=by
 unfold Addr.add
 by_cases hi:i=0<;>by_cases hj:j=0<;>simp[hi,hj,Nat.add_assoc]
def Reads (w:World) (B size:Nat) (A:Option Addr) (n:Nat) (xs:List Value):Prop:=
 xs.length=n*size∧(0<n→∃ad,A=some ad∧ad.block<B∧∀j u,xs[j]?=some u→w.cell? (ad.add j)=some u)
section
variable {w w':World} {B B' size n:Nat} {A:Option Addr} {xs:List Value}
theorem Reads.none_:Reads w B size A 0 []:=⟨by simp,fun h=>absurd h (by omega)⟩
theorem Reads.at_ {k:Nat} (h:Reads w B 1 A n xs) (hk:k<n):∃ad u,A=some ad∧ad.block<B∧xs[k]?=some u∧w.cell? (ad.add k)=some u:=by
 obtain⟨ad,e,hb,hc⟩:=h.2 (by omega)
 have hl:k<xs.length:=by have:=h.1;omega
 exact⟨ad,xs[k],e,hb,List.getElem?_eq_getElem hl,hc k _ (List.getElem?_eq_getElem hl)⟩
theorem Reads.keep (h:Reads w B size A n xs) (hk:∀p:Addr,p.block<B→w'.cell? p=w.cell? p):Reads w' B size A n xs:=
 ⟨h.1,fun hn=>by
  obtain⟨ad,e,hb,hc⟩:=h.2 hn
  exact⟨ad,e,hb,fun j u hu=>(hk _ (by rw[f_];exact hb)).trans (hc j u hu)⟩⟩
theorem Reads.more (h:Reads w B size A n xs) (hB:B≤B'):Reads w B' size A n xs:=
 ⟨h.1,fun hn=>by
  obtain⟨ad,e,hb,hc⟩:=h.2 hn
  exact⟨ad,e,by omega,hc⟩⟩
theorem Reads.below (h:Reads w B size A n xs) (hb:Below B w w'):Reads w' B size A n xs:=h.keep fun _ hp=>hb.cell hp
theorem Reads.a42 {base:Nat} {e:TypeId} {c:Nat} (h:w.ownsRow base e size (.slice A n c) n xs):Reads w w.heap.size size A n xs:=by
 refine⟨h.1,fun hn=>?_⟩
 obtain⟨g,cap,hv,_,hlt⟩:=h.form hn
 have hA:A=some ⟨g,0,none⟩:=by injection hv
 subst hA
 exact⟨_,rfl,hlt,h.cells (g:=g) rfl⟩
end
def aG (w:World) (g:Nat) (t:TypeId) (cs:Array Value):Prop:=w.heap[g]?=some (.cells cs t (0,0))
section
variable {w w':World} {g:Nat} {t:TypeId} {cs:Array Value}
theorem aG.lt (h:aG w g t cs):g<w.heap.size:=by
 rcases Nat.lt_or_ge g w.heap.size with hlt|hge
 · exact hlt
 unfold aG at h;rw[Array.getElem?_eq_none hge] at h;cases h
theorem aG.cell (h:aG w g t cs) (i:Nat):w.cell? ⟨g,i,none⟩=cs[i]?:=cell_of_row w g i cs t (0,0) h
theorem aG.frozen (h:aG w g t cs) (i:Nat):w.frozen? ⟨g,i,none⟩=false:=by
 unfold aG at h
 simp[World.frozen?,h]
theorem aG.new (w:World) (t:TypeId) (cs:Array Value):aG (w.alloc (.cells cs t)) w.heap.size t cs:=heap_alloc_new w _
theorem aG.drew (h:aG w g t cs):aG w.drew g t cs:=h
theorem aG.drewN (h:aG w g t cs) (n:Nat):aG (w.drewN n) g t cs:=h
theorem aG.alloc (h:aG w g t cs) (o:Obj):aG (w.alloc o) g t cs:=(Below.heap_alloc w o g h.lt).trans h
theorem aG.cS (h:aG w g t cs) (i:Nat) (u:Value):aG (w.setCell ⟨g,i,none⟩ u) g t (cs.setIfInBounds i u):=by
 unfold aG at h ⊢
 simp[World.setCell,Array.getElem?_modify,h]
theorem aG.far (h:aG w g t cs) {p:Addr} (hp:g≠p.block) (u:Value):aG (w.setCell p u) g t cs:=(Below.heap_setCell w p u g hp).trans h
theorem aG.below {B:Nat} (h:aG w g t cs) (hb:Below B w w') (hg:g<B):aG w' g t cs:=(hb.block g hg).trans h
theorem aG.grown {row:Option Nat} (h:aG w g t cs) (hb:w.grownBy w' row) (hg:some g≠row):aG w' g t cs:=(hb.block g h.lt hg).trans h
theorem aG.rQ {g':Nat} {t':TypeId} {cs':Array Value} (h:aG w g t cs) (h':aG w g' t' cs') (hne:t≠t'):g≠g':=by
 rintro rfl
 unfold aG at h h'
 rw[h] at h'
 injection h' with h'
 injection h' with _ ht
 exact hne ht
theorem eB {base:Nat} {e:TypeId} {size n:Nat} {v:Value} {xs:List Value} (h:w.ownsRow base e size v n xs) (hg:aG w g t cs) (hne:e≠t):v.ownBlock≠some g:=by
 rcases h.2 with⟨rfl,_⟩|⟨g',cap,cur,rfl,_,hh,_⟩
 · simp[Value.ownBlock]
 intro he
 have:g'=g:=by simpa[Value.ownBlock] using he
 subst this
 exact aG.rQ (t:=e) hh hg hne rfl
end
section
variable {P:Program} (w:World)
theorem bD5 (base:Nat) (t ty e:TypeId) (i:TypeInfo) (size:Nat) (ht:P.underlying t=some (.slice e)) (hi:P.info? e=some i)
 (v:Value) (n:Nat) (xs:List Value) (hown:w.ownsRow base e size v n xs) (c:Nat):(Builtin.append_ #[t,t] ty #[v,.slice none 0 c]).run P w=.ok v w:=by
 rcases hown.2 with⟨rfl,rfl⟩|⟨g,cap,cur,rfl,_,_,lF,_⟩
 · simp[Builtin.append_,run_underlying ht,sizeOf,typeInfo,hi,Builtin.lenOf,Builtin.firstCells]
 simp[Builtin.append_,run_underlying ht,sizeOf,typeInfo,hi,Builtin.lenOf,Builtin.firstCells,lF,storeCells]
theorem aXS (base:Nat) (t ty e:TypeId) (i:TypeInfo) (z:Value) (size bytes:Nat) (ht:P.underlying t=some (.slice e)) (hi:P.info? e=some i) (hz:i.zero=some z)
 (hsize:i.size=size) (hby:i.bytes=bytes) (hzs:z.cells.size=size) (hsz:0<size)
 (v:Value) (n:Nat) (xs:List Value) (hown:w.ownsRow base e size v n xs)
 (B:Nat) (A:Option Addr) (m c:Nat) (news:List Value) (hr:Reads w B size A m news) (h1:∀u∈news,u.oneCell'=true)
 (h63:n+m≤maxLen) (hbytes:(n+m)*bytes≤140737488355328) (hbase:base≤w.heap.size):
 ∃v' w',(Builtin.append_ #[t,t] ty #[v,.slice A m c]).run P w=.ok v' w'∧w'.ownsRow base e size v' (n+m) (xs++news)∧w.grownBy w' v.ownBlock∧
  (v'.ownBlock=v.ownBlock∨v'.ownBlock=some w.heap.size):=by
 rcases A with _|ad
 · have hm:m=0:=by
    rcases Nat.eq_zero_or_pos m with h0|h0
    · exact h0
    obtain⟨ad,h,_⟩:=hr.2 h0
    cases h
   subst hm
   have hn:news=[]:=List.eq_nil_of_length_eq_zero (by simpa using hr.1)
   subst hn
   exact⟨v,w,bD5 w base t ty e i size ht hi v n xs hown c,by simpa using hown,World.grownBy.refl w _,.inl rfl⟩
 have I7:∀j u,news[j]?=some u→w.cell? (ad.add j)=some u:=by
  intro j u hu
  rcases Nat.eq_zero_or_pos m with h0|h0
  · subst h0
    have hn:news=[]:=List.eq_nil_of_length_eq_zero (by simpa using hr.1)
    subst hn
    simp at hu
  obtain⟨ad',h,_,hc⟩:=hr.2 h0
  injection h with h
  subst h
  exact hc j u hu
 obtain⟨v',w',hrun,h2,h3,_,h5⟩:=run_append_own_at (P:=P) w base t ty e i z size bytes ht hi hz hsize hby hzs hsz v n xs hown ad m c news hr.1 I7 h1 h63 hbytes hbase
 exact⟨v',w',hrun,h2,h3,h5⟩
theorem aDI {o:Oper} {a:Act} {K:Act→World→Prop} {Q:Exit→Act→World→Prop} (s x:Operand) (t:TypeId)
 (ho:o.op=.call { callee:=.builtin .append,args:=#[s,x],argTypes:=#[t,t] })
 (base:Nat) (e:TypeId) (i:TypeInfo) (z:Value) (size bytes:Nat) (ht:P.underlying t=some (.slice e)) (hi:P.info? e=some i) (hz:i.zero=some z)
 (hsize:i.size=size) (hby:i.bytes=bytes) (hzs:z.cells.size=size) (hsz:0<size)
 (v:Value) (n:Nat) (xs:List Value) (hs:a.eval s=v) (hown:w.ownsRow base e size v n xs)
 (B:Nat) (A:Option Addr) (m c:Nat) (news:List Value) (hx:a.eval x=.slice A m c) (hr:Reads w B size A m news) (h1:∀u∈news,u.oneCell'=true)
 (h63:n+m≤maxLen) (hbytes:(n+m)*bytes≤140737488355328) (hbase:base≤w.heap.size)
 (h:∀v' w',w'.ownsRow base e size v' (n+m) (xs++news)→w.grownBy w' v.ownBlock→(v'.ownBlock=v.ownBlock∨v'.ownBlock=some w.heap.size)→K (a.put o.dst v') w'):o.wp P a w K Q:=by
 obtain⟨v',w',hrun,h2,h3,h4⟩:=aXS (P:=P) w base t o.type e i z size bytes ht hi hz hsize hby hzs hsz v n xs hown B A m c news hr h1 h63 hbytes hbase
 unfold Oper.wp execOp
 simp only[ho,resolve,invoke,builtin,Sem.run_bind,Sem.run_pure,Result.andThen_ok,List.map_toArray,List.map_cons,List.map_nil,hs,hx,hrun]
 exact h v' w' h2 h3 h4
theorem aXN {ops:Array Oper} {rest:List Oper} {o:Oper} {a:Act} {Q:Exit→Act→World→Prop} (hgd:o.guard=none) (s x:Operand) (t:TypeId)
 (ho:o.op=.call { callee:=.builtin .append,args:=#[s,x],argTypes:=#[t,t] })
 (base:Nat) (e:TypeId) (i:TypeInfo) (z:Value) (size bytes:Nat) (ht:P.underlying t=some (.slice e)) (hi:P.info? e=some i) (hz:i.zero=some z)
 (hsize:i.size=size) (hby:i.bytes=bytes) (hzs:z.cells.size=size) (hsz:0<size)
 (v:Value) (n:Nat) (xs:List Value) (hs:a.eval s=v) (hown:w.ownsRow base e size v n xs)
 (B:Nat) (A:Option Addr) (m c:Nat) (news:List Value) (hx:a.eval x=.slice A m c) (hr:Reads w B size A m news) (h1:∀u∈news,u.oneCell'=true)
 (h63:n+m≤maxLen) (hbytes:(n+m)*bytes≤140737488355328) (hbase:base≤w.heap.size)
 (h:∀v' w',w'.ownsRow base e size v' (n+m) (xs++news)→w.grownBy w' v.ownBlock→(v'.ownBlock=v.ownBlock∨v'.ownBlock=some w.heap.size)→wpList P ops Q rest (a.put o.dst v') w'):wpList P ops Q (o::rest) a w:=
 wpList_plain hgd fun _ hK=>aDI w s x t ho base e i z size bytes ht hi hz hsize hby hzs hsz v n xs hs hown B A m c news hx hr h1 h63 hbytes hbase fun v' w' h2 h3 h4=>hK _ _ (h v' w' h2 h3 h4)
theorem bEB {ops:Array Oper} {o:Oper} {a:Act} {K:Act→World→Prop} {Q:Exit→Act→World→Prop} {E:Prop} (hgd:o.guard=none) (s x:Operand) (t:TypeId)
 (ho:o.op=.call { callee:=.builtin .append,args:=#[s,x],argTypes:=#[t,t] })
 (base:Nat) (e:TypeId) (i:TypeInfo) (z:Value) (size bytes:Nat) (ht:P.underlying t=some (.slice e)) (hi:P.info? e=some i) (hz:i.zero=some z)
 (hsize:i.size=size) (hby:i.bytes=bytes) (hzs:z.cells.size=size) (hsz:0<size)
 (v:Value) (n:Nat) (xs:List Value) (hs:a.eval s=v) (hown:w.ownsRow base e size v n xs)
 (B:Nat) (A:Option Addr) (m c:Nat) (news:List Value) (hx:a.eval x=.slice A m c) (hr:Reads w B size A m news) (h1:∀u∈news,u.oneCell'=true)
 (h63:n+m≤maxLen) (hbytes:(n+m)*bytes≤140737488355328) (hbase:base≤w.heap.size)
 (h:∀v' w',w'.ownsRow base e size v' (n+m) (xs++news)→w.grownBy w' v.ownBlock→(v'.ownBlock=v.ownBlock∨v'.ownBlock=some w.heap.size)→K (a.put o.dst v') w'):
 if Region.wanted o (yielded ops a.tmps)=true then Oper.wp P o a w K Q else E:=by
 have hw:Region.wanted o (yielded ops a.tmps)=true:=by simp[Region.wanted,hgd]
 rw[if_pos hw]
 exact aDI w s x t ho base e i z size bytes ht hi hz hsize hby hzs hsz v n xs hs hown B A m c news hx hr h1 h63 hbytes hbase h
end
end Go.Proofs.YtdlndhbkcgmkkaaGreatDoor
namespace Go.Proofs.YtdlndhbkcgmkkaaGreatDoor
open Go.RowKit
def Ints (w:World) (B:Nat) (v:Value) (xs:List Int):Prop:=
 ∃A c,v=.slice A xs.length c∧xs.length≤c∧xs.length≤17592186043904∧Reads w B 1 A xs.length (xs.map (.int .i64))
section
variable {w w':World} {B B':Nat} {v:Value} {xs:List Int}
theorem Ints.keep (h:Ints w B v xs) (hk:∀p:Addr,p.block<B→w'.cell? p=w.cell? p):Ints w' B v xs:=by
 obtain⟨A,c,e,hn,hm,hr⟩:=h
 exact⟨A,c,e,hn,hm,hr.keep hk⟩
theorem Ints.below (h:Ints w B v xs) (hb:Below B w w'):Ints w' B v xs:=h.keep fun _ hp=>hb.cell hp
theorem Ints.more (h:Ints w B v xs) (hB:B≤B'):Ints w B' v xs:=by
 obtain⟨A,c,e,hn,hm,hr⟩:=h
 exact⟨A,c,e,hn,hm,hr.more hB⟩
theorem ints_at {A:Option Addr} (h:Reads w B 1 A xs.length (xs.map (.int .i64))) {k:Nat} (hk:k<xs.length):
 ∃ad,A=some ad∧ad.block<B∧w.cell? (ad.add k)=some (.int .i64 (xs.getD k 0)):=by
 obtain⟨ad,u,e,hb,hx,hc⟩:=h.at_ hk
 refine⟨ad,e,hb,?_⟩
 rw[hc]
 rw[List.getElem?_map,List.getElem?_eq_getElem hk] at hx
 simp at hx
 rw[←hx,List.getD_eq_getElem?_getD,List.getElem?_eq_getElem hk]
 rfl
end
section
variable {w w':World} {B B':Nat} {v:Value} {xss:List (List Int)}
end
theorem kL {w:World} {base base':Nat} {e e':TypeId} {n n' s s':Nat} {v v':Value} {xs xs':List Value} (h:w.ownsRow base e s v n xs) (h':w.ownsRow base' e' s' v' n' xs') (hne:e≠e') {g:Nat} (hg:v.ownBlock=some g):v'.ownBlock≠some g:=by
 rcases h'.2 with⟨rfl,_⟩|⟨g',cap,cur,rfl,_,hh,_⟩
 · simp[Value.ownBlock]
 intro he
 have e1:g'=g:=by simpa[Value.ownBlock] using he
 subst e1
 exact eB h (g:=g') (t:=e') (cs:=cur) hh hne hg
theorem fA {w w':World} {base:Nat} {e:TypeId} {n s:Nat} {v:Value} {xs:List Value} {row:Option Nat} (h:w.ownsRow base e s v n xs) (hg:w.grownBy w' row) (hr:∀g,row=some g→v.ownBlock≠some g):w'.ownsRow base e s v n xs:=by
 refine⟨h.1,?_⟩
 rcases h.2 with h2|⟨g,cap,cur,rfl,hb,hh,h3⟩
 · exact .inl h2
 refine .inr ⟨g,cap,cur,rfl,hb,?_,h3⟩
 rw[hg.block g (Array.getElem?_eq_some_iff.1 hh).1 (fun e1=>hr g e1.symm (by simp[Value.ownBlock])),hh]
theorem gW {w w':World} {base:Nat} {e:TypeId} {n s:Nat} {v:Value} {xs:List Value} {B:Nat} (h:w.ownsRow base e s v n xs) (hb:Below B w w') (hB:w.heap.size≤B):w'.ownsRow base e s v n xs:=
 fA h (row:=none) ⟨hb.os,hb.tape,hb.output,hb.size,fun i hi _=>hb.block i (by omega)⟩ (fun g e=>by cases e)
theorem uH {w:World} {base base':Nat} {e:TypeId} {n s:Nat} {v:Value} {xs:List Value} (h:w.ownsRow base e s v n xs) (hb:base'≤base):w.ownsRow base' e s v n xs:=by
 refine⟨h.1,?_⟩
 rcases h.2 with h2|⟨g,cap,cur,hv,hg,h3⟩
 · exact .inl h2
 exact .inr ⟨g,cap,cur,hv,by omega,h3⟩
theorem jJ {w:World} {base:Nat} {e:TypeId} {n s:Nat} {v:Value} {xs:List Value} (h:w.ownsRow base e s v n xs):∃A c,v=.slice A n c∧n≤c∧Reads w w.heap.size s A n xs∧(∀ad,A=some ad→base≤ad.block):=by
 rcases h.2 with⟨rfl,rfl⟩|⟨g,cap,cur,rfl,hb,hh,lF,JD⟩
 · have:xs=[]:=List.eq_nil_of_length_eq_zero (by simpa using h.1)
   subst this
   exact⟨none,0,rfl,Nat.le_refl _,Reads.none_,fun ad e=>by cases e⟩
 exact⟨_,cap,rfl,lF,Reads.a42 h,fun ad e=>by cases e;exact hb⟩
def aW (w:World) (base:Nat) (v:Value) (xs:List Int):Prop:=w.ownsRow base 3 1 v xs.length (xs.map (.int .i64))
theorem aW.reads {w:World} {base:Nat} {v:Value} {xs:List Int} (h:aW w base v xs) (hl:xs.length≤17592186043904):Ints w w.heap.size v xs:=by
 unfold aW at h
 rcases h.2 with⟨rfl,h0⟩|⟨g,cap,cur,rfl,hb,hh,lF,JD⟩
 · have:xs=[]:=List.eq_nil_of_length_eq_zero h0
   subst this
   exact⟨none,0,rfl,Nat.le_refl _,Nat.zero_le _,Reads.none_⟩
 exact⟨_,cap,rfl,lF,hl,Reads.a42 h⟩
theorem aJ:type_of% @List.setIfInBounds_toArray:=@List.setIfInBounds_toArray
theorem aO:type_of% @List.set_cons_zero:=@List.set_cons_zero
theorem aN:type_of% @List.set_cons_succ:=@List.set_cons_succ
theorem bX:type_of% @List.getElem?_eq_getElem:=@List.getElem?_eq_getElem
theorem bL:type_of% @List.length_append:=@List.length_append
theorem dR:type_of% @List.getD_eq_getElem?_getD:=@List.getD_eq_getElem?_getD
theorem dZ:type_of% @List.append_assoc:=@List.append_assoc
theorem LM:type_of% @Bool.and_eq_true:=@Bool.and_eq_true
theorem lZ:type_of% @List.getElem?_map:=@List.getElem?_map
theorem cL:type_of% @List.length_map:=@List.length_map
theorem aAA:type_of% @List.getElem?_eq_none:=@List.getElem?_eq_none
theorem aC:type_of% @Nat.le_refl:=@Nat.le_refl
theorem bP:type_of% @decide_eq_false:=@decide_eq_false
theorem bF:type_of% @decide_eq_true:=@decide_eq_true
theorem mK:type_of% @List.getElem?_eq_some_iff:=@List.getElem?_eq_some_iff
theorem kS:type_of% @List.mem_cons_of_mem:=@List.mem_cons_of_mem
theorem iZ:type_of% @List.mem_append_right:=@List.mem_append_right
theorem rN:type_of% @List.mem_append_left:=@List.mem_append_left
theorem Q1:type_of% @List.getElem_mem:=@List.getElem_mem
theorem aP {α:Type} [BEq α] [LawfulBEq α] {a b:α} (h:a≠b):(a==b)=false:=beq_eq_false_iff_ne.2 h
end Go.Proofs.YtdlndhbkcgmkkaaGreatDoor
namespace Go.Proofs.YtdlndhbkcgmkkaaGreatDoor
section
namespace Sl
abbrev aA:=ByteArray
inductive Fo where
 |nil
 |cons (k:Nat) (t:aA) (n:Int) (s:Fo) (ps:List aA) (b e r:Fo)
namespace Fo
def len:Fo→Nat
 |nil=>0
 |cons _ _ _ _ _ _ _ r=>len r+1
def cnt:Fo→Nat
 |nil=>0
 |cons _ _ _ s _ b e r=>1+cnt s+cnt b+cnt e+cnt r
def dep:Fo→Nat
 |nil=>0
 |cons _ _ _ s _ b e r=>max (max (max (dep s) (dep b)) (dep e)+1) (dep r)
def app:Fo→Fo→Fo
 |nil,y=>y
 |cons k t n s ps b e r,y=>cons k t n s ps b e (app r y)
def drop:Nat→Fo→Fo
 |0,x=>x
 |_+1,nil=>nil
 |i+1,cons _ _ _ _ _ _ _ r=>drop i r
def CU (a x y z:Nat):Nat:=if (if a+x<9000 then a+x+y else a+x)<9000 then (if a+x<9000 then a+x+y else a+x)+z else (if a+x<9000 then a+x+y else a+x)
def cut (d w:Nat):Nat:=if 60<d then 9000 else w
def gP:Fo→Nat→Nat→Nat
 |nil,_,acc=>acc
 |cons _ t _ s ps b e r,d,acc=>
  if 9000≤acc then acc else
  gP r d (CU acc (1+t.size / 16+ps.length+cut (d+1) (gP s (d+1) 0)) (cut (d+1) (gP b (d+1) 0)) (cut (d+1) (gP e (d+1) 0)))
def weight (l:Fo) (d:Nat):Nat:=cut d (gP l d 0)
theorem bNP (a x y z:Nat):a+x≤CU a x y z:=by unfold CU;split<;>(try split)<;>omega
theorem a3H {a x y z:Nat} (h:CU a x y z<9000):CU a x y z=a+x+y+z:=by
 unfold CU at h ⊢
 by_cases h1:a+x<9000
 · simp only[if_pos h1] at h ⊢
   by_cases h2:a+x+y<9000
   · rw[if_pos h2]
   rw[if_neg h2] at h;omega
 simp only[if_neg h1] at h;omega
theorem NN (d w:Nat) (h:cut d w<9000):cut d w=w:=by
 unfold cut at h ⊢
 split<;>simp_all
theorem k7:∀l:Fo,l.len≤l.cnt
 |nil=>Nat.le_refl _
 |cons _ _ _ s _ b e r=>by have:=k7 r;simp only[len,cnt];omega
theorem aEH:∀(l:Fo) (d acc:Nat),acc≤gP l d acc
 |nil,_,_=>Nat.le_refl _
 |cons _ t _ s ps b e r,d,acc=>by
   unfold gP
   split
   · exact Nat.le_refl _
   exact Nat.le_trans (Nat.le_trans (Nat.le_add_right _ _) (bNP _ _ _ _)) (aEH r d _)
theorem YD:∀(l:Fo) (d acc:Nat),gP l d acc<9000→acc+l.cnt≤gP l d acc
 |nil,_,_,_=>Nat.le_refl _
 |cons _ t _ s ps b e r,d,acc,h=>by
   unfold gP at h ⊢
   by_cases h0:9000≤acc
   · rw[if_pos h0] at h;omega
   rw[if_neg h0] at h ⊢
   have hr:=YD r d _ h
   refine Nat.le_trans ?_ hr
   have hg:=Nat.lt_of_le_of_lt (aEH r d _) h
   have ha:=a3H hg
   rw[ha] at hg ⊢
   have h1:=NN _ _ (show cut (d+1) (gP s (d+1) 0)<9000 by omega)
   have h2:=NN _ _ (show cut (d+1) (gP b (d+1) 0)<9000 by omega)
   have h3:=NN _ _ (show cut (d+1) (gP e (d+1) 0)<9000 by omega)
   have hs:=YD s (d+1) 0 (by omega)
   have hb:=YD b (d+1) 0 (by omega)
   have he:=YD e (d+1) 0 (by omega)
   simp only[cnt]
   omega
theorem bGU {l:Fo} {d:Nat} (h:weight l d<9000):l.cnt≤weight l d:=by
 unfold weight at h ⊢
 have h1:=NN _ _ h
 have:=YD l d 0 (by omega)
 omega
def small (K:Nat):Fo→Prop
 |nil=>True
 |cons _ t _ s ps b e r=>t.size<K∧ps.length<K∧small K s∧small K b∧small K e∧small K r
theorem bNO (a x y z M:Nat) (h1:a+x≤M) (h2:9000+y≤M) (h3:9000+z≤M):CU a x y z≤M:=by
 unfold CU
 split<;>(try split)<;>(try split)<;>omega
theorem YI (K:Nat):∀(l:Fo) (d acc:Nat),small K l→d≤61→acc≤9000+(61-d+1)*(9000+1+K+K)→gP l d acc≤9000+(61-d+1)*(9000+1+K+K)
 |nil,_,_,_,_,h=>h
 |cons _ t _ s ps b e r,d,acc,⟨ht,hp,hs,hb,he,hr⟩,hd,h=>by
   unfold gP
   split
   · exact h
   refine YI K r d _ hr hd ?_
   have key:∀l,(∀d acc,small K l→d≤61→acc≤9000+(61-d+1)*(9000+1+K+K)→gP l d acc≤9000+(61-d+1)*(9000+1+K+K))→small K l→cut (d+1) (gP l (d+1) 0)≤(61-d+1)*(9000+1+K+K)-1-K-K:=fun l hl hk=>by
    unfold cut
    rcases Nat.lt_or_ge 60 (d+1) with h6|h6
    · rw[if_pos h6,Nat.add_mul];omega
    rw[if_neg (by omega)]
    have:=hl (d+1) 0 hk (by omega) (Nat.zero_le _)
    rw[show 61-d+1=61-(d+1)+1+1 by omega,Nat.add_mul _ 1]
    omega
   have k1:=key s (fun d acc=>YI K s d acc) hs
   have k2:=key b (fun d acc=>YI K b d acc) hb
   have k3:=key e (fun d acc=>YI K e d acc) he
   have hge:9000+1+K+K≤(61-d+1)*(9000+1+K+K):=Nat.le_mul_of_pos_left _ (by omega)
   have:t.size / 16≤t.size:=Nat.div_le_self _ _
   exact bNO _ _ _ _ _ (by omega) (by omega) (by omega)
theorem bIM (K:Nat) {l:Fo} {d:Nat} (h:small K l):weight l d≤9000+62*(9000+1+K+K):=by
 unfold weight cut
 split
 · omega
 refine Nat.le_trans (YI K l d 0 h (by omega) (Nat.zero_le _)) ?_
 exact Nat.add_le_add_left (Nat.mul_le_mul_right _ (by omega)) _
end Fo
end Sl
namespace Sl
structure Fc where
 name:aA
 ps:List aA
 body:Fo
section
variable (nm:aA→Bool) (op un:aA→Bool)
def pS (k:Nat):Bool:=decide (1≤k)&&decide (k≤13)
def k8 (k:Nat):Bool:=decide (14≤k)&&decide (k≤27)
def kindOk (ex:Bool) (k:Nat):Bool:=if ex then pS k else k8 k
def empty (s:aA):Bool:=decide (s.size=0)
def mF (ps:List aA):Bool:=ps.all nm&&decide (ps.length≤8)
def nV (k:Nat):Nat×Nat:=
 if k=1∨k=2∨k=10∨k=11∨k=12∨k=21 then (0,0) else if k=4∨k=8 then (2,2) else if k=5∨k=13 then (0,8) else if k=6 then (1,9) else if k=16 then (3,3) else (1,1)
def named (k:Nat):Bool:=decide (k=2∨k=5∨k=13∨k=14∨k=15∨k=21)
def F3 (k:Nat):Bool:=decide (k=10∨k=17∨k=18∨k=21)
def BL (k:Nat):Bool:=decide (k=17∨k=21)
def EH (k:Nat) (t:aA):Bool:=if named k then nm t else if k=3 then un t else if k=4 then op t else empty t
def kP (k:Nat) (n:Int):Bool:=!(decide (n<0)||(decide (n≠0)&&decide (k≠1)))
def dK (k:Nat) (t:aA) (n:Int) (sl:Nat) (ps:List aA) (bl el:Nat) (ins:Bool):Bool:=
 decide ((nV k).1≤sl)&&decide (sl≤(nV k).2)&&EH nm op un k t&&kP k n&&(if k=10 then !ins&&mF nm ps else ps.isEmpty)&&(F3 k||decide (bl=0))&&(BL k||decide (el=0))
def aEL (k:Nat):Option (Nat×Nat×Nat×Bool×Bool×Bool):=
 match k with
 |1|11|12=>some (0,0,0,false,false,false)
 |2=>some (1,0,0,false,false,false)
 |3=>some (2,1,1,false,false,false)
 |4=>some (3,2,2,false,false,false)
 |5|13=>some (1,0,8,false,false,false)
 |6=>some (0,1,9,false,false,false)
 |8=>some (0,2,2,false,false,false)
 |10=>some (0,0,0,true,false,true)
 |14|15=>some (1,1,1,false,false,false)
 |16=>some (0,3,3,false,false,false)
 |17=>some (0,1,1,true,true,false)
 |18=>some (0,1,1,true,false,false)
 |21=>some (1,0,0,true,true,false)
 |7|9|19|20|22|23|24|25|26|27=>some (0,1,1,false,false,false)
 |_=>none
def JF (x:Nat) (t:aA):Bool:=if x=1 then nm t else if x=2 then un t else if x=3 then op t else empty t
def eJ (k:Nat) (t:aA) (n:Int) (sl:Nat) (ps:List aA) (bl el:Nat) (ins:Bool):Bool:=
 match aEL k with
 |none=>false
 |some (x,least,most,body,other,fn)=>
  JF nm op un x t&&decide (least≤sl)&&decide (sl≤most)&&kP k n&&(fn||ps.isEmpty)&&(body||decide (bl=0))&&(other||decide (el=0))&&!(fn&&(ins||!mF nm ps))
def bE (hd:Nat→aA→Int→Nat→List aA→Nat→Nat→Bool→Bool):Fo→Bool→Bool→Bool
 |.nil,_,_=>true
 |.cons k t n s ps b e r,ex,ins=>kindOk ex k&&hd k t n s.len ps b.len e.len ins&&bE hd s true ins&&bE hd b false (ins||decide (k=10))&&bE hd e false ins&&bE hd r ex ins
theorem head_eq {ex:Bool} {k:Nat} (h:kindOk ex k=true) (t:aA) (n:Int) (sl:Nat) (ps:List aA) (bl el:Nat) (ins:Bool):eJ nm op un k t n sl ps bl el ins=dK nm op un k t n sl ps bl el ins:=by
 have hk:1≤k∧k≤27:=by
  unfold kindOk pS k8 at h
  cases ex<;>simp at h<;>omega
 obtain⟨h1,h2⟩:=hk
 unfold eJ dK
 have:k=1∨k=2∨k=3∨k=4∨k=5∨k=6∨k=7∨k=8∨k=9∨k=10∨k=11∨k=12∨k=13∨k=14∨k=15∨k=16∨k=17∨k=18∨k=19∨k=20∨k=21∨k=22∨k=23∨k=24∨k=25∨k=26∨k=27:=by omega
 rcases this with h|h|h|h|h|h|h|h|h|h|h|h|h|h|h|h|h|h|h|h|h|h|h|h|h|h|h<;>subst h<;>simp[aEL,nV,EH,JF,named,F3,BL,Bool.and_comm,Bool.and_left_comm,Bool.and_assoc]
theorem YH:∀(l:Fo) (ex ins:Bool),bE (eJ nm op un) l ex ins=bE (dK nm op un) l ex ins
 |.nil,_,_=>rfl
 |.cons k t n s ps b e r,ex,ins=>by
   unfold bE
   rw[YH s,YH b,YH e,YH r]
   cases h:kindOk ex k with
   |false=>rfl
   |true=>rw[head_eq nm op un h]
end
end Sl
end
end Go.Proofs.YtdlndhbkcgmkkaaGreatDoor
