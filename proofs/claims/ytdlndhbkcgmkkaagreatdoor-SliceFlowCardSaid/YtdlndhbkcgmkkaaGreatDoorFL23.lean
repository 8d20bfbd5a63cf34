/-
 Part 23 of 35 of a proof about the given program: facts on which the last part stands.
-/
import Derived.Test.YtdlndhbkcgmkkaaGreatDoorFL21
import Derived.Test.YtdlndhbkcgmkkaaGreatDoorFL22
import Derived.Great.BuildSlice
set_option maxHeartbeats 12800000
set_option linter.unusedVariables false
set_option linter.unusedSimpArgs false
set_option maxRecDepth 100000
namespace Go.Proofs.YtdlndhbkcgmkkaaGreatDoor
section
open Go.RowKit
open Sl
open Go.Lib (hid)
theorem aD9:(Tryz.prog.info? 71).map (·.size)=some 18:=by kernel_rfl
theorem aZK:(Tryz.prog.info? 69).map (·.size)=some 7:=by kernel_rfl
theorem a0O:(Tryz.prog.info? 71).map (fun i=>(i.zero.map fun z=>z.cells.size,i.size,i.bytes))=some (some 18,18,264):=by kernel_rfl
theorem aNG (w:World) (base:Nat):aW w base (.slice none 0 0) []:=World.ownsRow_nil _ _ _ _
theorem bF0 {W:World} {B:Nat} {w:World} {base:Nat} {SL:List Value} {x:bO} {y:Int} (h:fU W B w base SL x):fU W B w base (SL.set 10 (.int .i64 y)) ⟨x.nd,x.fn,x.unit,x.parent,y,x.cD,x.body,x.els,x.own,x.reads,x.calls,x.cW⟩:=by
 obtain⟨sv,pv,bv,ev,ov,rv,cv,rfl,h1,h2,h3,h4⟩:=h
 exact⟨sv,pv,bv,ev,ov,rv,cv,rfl,h1,h2,h3,h4⟩
theorem bIV {W:World} {B:Nat} {w:World} {base:Nat} {SL:List Value} {x:bO} {y:Int} (h:fU W B w base SL x):fU W B w base (SL.set 12 (.int .i64 y)) ⟨x.nd,x.fn,x.unit,x.parent,x.follow,x.cD,y,x.els,x.own,x.reads,x.calls,x.cW⟩:=by
 obtain⟨sv,pv,bv,ev,ov,rv,cv,rfl,h1,h2,h3,h4⟩:=h
 exact⟨sv,pv,bv,ev,ov,rv,cv,rfl,h1,h2,h3,h4⟩
theorem bKV {W:World} {B:Nat} {w:World} {base:Nat} {SL:List Value} {x:bO} {y:Int} (h:fU W B w base SL x):fU W B w base (SL.set 13 (.int .i64 y)) ⟨x.nd,x.fn,x.unit,x.parent,x.follow,x.cD,x.body,y,x.own,x.reads,x.calls,x.cW⟩:=by
 obtain⟨sv,pv,bv,ev,ov,rv,cv,rfl,h1,h2,h3,h4⟩:=h
 exact⟨sv,pv,bv,ev,ov,rv,cv,rfl,h1,h2,h3,h4⟩
theorem aYU {W:World} {B:Nat} {w w':World} {base:Nat} {SL:List Value} {x:bO} (h:fU W B w base SL x) (hb:Below w.heap.size w w'):fU W B w' base SL x:=fU.kept h (lO.below hb)
theorem bIU {W:World} {B:Nat} {w:World} {base base':Nat} {SL:List Value} {x:bO} (h:fU W B w base SL x) (hb:base'≤base):fU W B w base' SL x:=by
 obtain⟨sv,pv,bv,ev,ov,rv,cv,h0,h1,h2,h3,h4⟩:=h
 exact⟨sv,pv,bv,ev,ov,rv,cv,h0,h1,aF.more h2 hb,aF.more h3 hb,uH h4.1 hb,h4.2⟩
theorem bNK {cs:List Value} (h:∀u∈cs,u.oneCell'=true):cs.toArray.all (·.oneCell')=true:=by
 rw[Array.all_eq_true_iff_forall_mem]
 intro u hu
 exact h u (by simpa using hu)
theorem lO.bPX {w:World} {b:Nat} {cs:Array Value} (hb:aG w b 71 cs) (j:Nat) (u:Value):lO w (w.setCell ⟨b,j,none⟩ u):=fun _ _ _ _ _ _ h1 _ h3=>fA h3 (dH w _ u) (fun k e=>by cases e;exact eB h3 hb h1)
theorem bF3 {P:Program} {w:World} {oi:Oper} {a:Act} (ty:TypeId) (x:Operand) (ho:oi.op=.load ty x) (ad:Addr) (hx:a.eval x=.pointer (some ad)) (cs:List Value) (d:TypeDesc) (hc:∀j u,cs[j]?=some u→w.cell? (ad.add j)=some u)
 (hu:P.underlying ty=some d) (hd:d.isRow=true) (hi:(P.info? ty).map (·.size)=some cs.length):(execOp a.eval oi).run P w=.ok (.value (.agg cs.toArray)) w:=by
 unfold execOp
 simp only[ho,hx,aXR ad ty cs d hc hu hd hi,Sem.run_bind,Sem.run_pure,Result.andThen_ok]
theorem bL1 {w:World} {b:Nat} {T:TypeId} {cs:List Value} (h:aG w b T cs.toArray):∀j u,cs[j]?=some u→w.cell? ((⟨b,0,none⟩:Addr).add j)=some u:=fun j u hu=>by
 rw[Addr.add_lit,Nat.zero_add,h.cell j,List.getElem?_toArray]
 exact hu
theorem bIL {P:Program} {o:Oper} {a:Act} {w:World} {K:Act→World→Prop} {Q:Exit→Act→World→Prop} {sz bytes:Nat} (t e:TypeId) (x:Operand) (ho:o.op=.buildSlice t 1 #[(0,x)]) (cs:List Value) (hx:a.eval x=.agg cs.toArray) (hu:P.underlying t=some (.slice e))
 (hi:(P.info? e).map (fun i=>(i.zero.map fun z=>z.cells.size,i.size,i.bytes))=some (some sz,sz,bytes)) (hl:cs.length=sz) (h0:0<sz) (hs:sz≤1000)
 (h:K (a.put o.dst (.slice (some ⟨w.heap.size,0,none⟩) 1 1)) (w.alloc (.cells cs.toArray e))):o.wp P a w K Q:=by
 obtain⟨i,z,h1,h2,h3,-,h5⟩:=aDW hi
 have hf:=Great.fill_whole (s:=i.size) (by omega) [.agg cs.toArray] ((Array.range (1*i.size)).map (z.cells[· % z.cells.size]!)) (by simp[Value.cells,hl,h3]) (by simp)
 exact wp_buildSlice t e 1 #[(0,x)] ho cs.toArray i z hu h1 h2 (by rw[h3];omega) (by rw[h3];omega) (by simpa[hx,Value.cells] using hf) h
theorem aNO {K:Nat}:∀(s:Fo),Fo.cO K s→∀x∈bodies (Fo.fns (Fo.own s)),Fo.cO K x∧x.len<K∧x.aX≤s.aX
 |.nil,_,x,hx=>by unfold Fo.own Fo.fns bodies at hx;cases hx
 |.cons k t n s ps b e r,cX,x,hx=>by
   obtain⟨-,-,-,-,-,-,jO,-,oY,tQ,-,okr⟩:=cX
   rw[Fo.aX]
   have key:x∈bodies (Fo.fns (Fo.own s))∨x∈bodies (Fo.fns (Fo.own r))→Fo.cO K x∧x.len<K∧x.aX≤ps.length+s.aX+b.aX+e.aX+r.aX:=fun h=>by
    rcases h with h|h
    · obtain⟨h1,h2,h3⟩:=aNO s oY x h;exact⟨h1,h2,by omega⟩
    obtain⟨h1,h2,h3⟩:=aNO r okr x h;exact⟨h1,h2,by omega⟩
   rw[Fo.own,Fo.fns] at hx
   by_cases h10:k=10
   · rw[if_pos h10,bodies,Fo.KV,XS] at hx
     rcases List.mem_cons.1 hx with rfl|hx
     · exact⟨tQ,jO,by omega⟩
     exact key (List.mem_append.1 hx)
   rw[if_neg h10,Fo.KV,XS] at hx
   exact key (List.mem_append.1 hx)
theorem bG6 (F:Nat) {i:Nat} {l:Fo} {k:Nat} {t:aA} {n:Int} {s:Fo} {ps:List aA} {b e r:Fo} (h:Fo.drop i l=.cons k t n s ps b e r) (num fns:Nat) (p:Pl):sU F (Fo.drop i l) num fns p=recs F b false num (fns+1) 0 ⟨p.fn,F+fns,p.parent,-1,-1,-1,0,Fo.cJ b num⟩++sU F (Fo.drop (i+1) l) (num+Fo.aD b false) (fns+1+Fo.aK b false) p:=by rw[eD h,h,sU]
theorem bG0 {i:Nat} {l:Fo} {k:Nat} {t:aA} {n:Int} {s:Fo} {ps:List aA} {b e r:Fo} (h:Fo.drop i l=.cons k t n s ps b e r):nY (Fo.drop i l)=Fo.aD b false+nY (Fo.drop (i+1) l):=by rw[eD h,h,nY]
theorem bH4 {i:Nat} {l:Fo} {k:Nat} {t:aA} {n:Int} {s:Fo} {ps:List aA} {b e r:Fo} (h:Fo.drop i l=.cons k t n s ps b e r):n_ (Fo.drop i l)=1+Fo.aK b false+n_ (Fo.drop (i+1) l):=by rw[eD h,h,n_]
theorem bIR {i:Nat} {l:Fo} {k:Nat} {t:aA} {n:Int} {s:Fo} {ps:List aA} {b e r:Fo} (h:Fo.drop i l=.cons k t n s ps b e r):yB (Fo.drop i l)=Fo.aL b false++yB (Fo.drop (i+1) l):=by rw[eD h,h,yB]
def BQ:Fo→Nat
 |.nil=>0
 |.cons _ _ _ _ _ b _ r=>1+b.cnt+BQ r
theorem aOE:∀a b:Fo,BQ (Fo.app a b)=BQ a+BQ b
 |.nil,b=>by rw[Fo.app,BQ,Nat.zero_add]
 |.cons _ _ _ _ _ b _ r,y=>by rw[Fo.app,BQ,BQ,aOE r];omega
theorem aOF:∀s:Fo,BQ (Fo.fns (Fo.own s))≤s.cnt
 |.nil=>by unfold Fo.own Fo.fns BQ;exact Nat.zero_le _
 |.cons k t n s ps b e r=>by
   have h1:=aOF s
   have h2:=aOF r
   rw[Fo.own,Fo.fns,Fo.cnt]
   by_cases h10:k=10
   · rw[if_pos h10,BQ,Fo.KV,aOE];omega
   rw[if_neg h10,Fo.KV,aOE];omega
theorem bJ9 {i:Nat} {l:Fo} {k:Nat} {t:aA} {n:Int} {s:Fo} {ps:List aA} {b e r:Fo} (h:Fo.drop i l=.cons k t n s ps b e r):BQ (Fo.drop i l)=1+b.cnt+BQ (Fo.drop (i+1) l):=by rw[eD h,h,BQ]
theorem bG5 (F k:Nat) (t:aA) (n:Int) (s:Fo) (ps:List aA) (b e r:Fo) (num fns i:Nat) (p:Pl) (fo mU el kU inner:Int) (h1:fo=if Fo.isNil r then p.after else ((num+1+Fo.aD s true+Fo.aD b false+Fo.aD e false:Nat):Int)) (h2:kU=if k=18 then ((num:Nat):Int) else fo)
 (h3:mU=if Fo.isNil b then kU else ((num+1+Fo.aD s true:Nat):Int)) (h4:el=if Fo.isNil e then fo else ((num+1+Fo.aD s true+Fo.aD b false:Nat):Int)) (h5:inner=if k=21 then el else p.cD):
 recs F (.cons k t n s ps b e r) false num fns i p=⟨⟨k,t,n,s,ps,b,e⟩,p.fn,p.unit,p.parent,fo,p.cD,mU,el,i,p.owner,p.part,p.eP,Fo.cJ b (num+1+Fo.aD s true),Fo.cJ e (num+1+Fo.aD s true+Fo.aD b false)⟩::
  (recs F s true (num+1) fns 0 ⟨p.fn,p.unit,(num:Nat),-1,-1,-1,0,[]⟩++
  (recs F b false (num+1+Fo.aD s true) (fns+Fo.aK s true) 0 ⟨p.fn,p.unit,(num:Nat),kU,inner,(num:Nat),1,Fo.cJ b (num+1+Fo.aD s true)⟩++
  (recs F e false (num+1+Fo.aD s true+Fo.aD b false) (fns+Fo.aK s true+Fo.aK b false) 0 ⟨p.fn,p.unit,(num:Nat),fo,p.cD,(num:Nat),2,Fo.cJ e (num+1+Fo.aD s true+Fo.aD b false)⟩++
  recs F r false (num+1+Fo.aD s true+Fo.aD b false+Fo.aD e false) (fns+Fo.aK s true+Fo.aK b false+Fo.aK e false) (i+1) p))):=by
 subst h1 h2 h3 h4 h5
 rw[recs]
theorem a2N {α:Type} (l:List α) (x y:α) (r:List α):(l++x::r).set l.length y=l++y::r:=by simp
theorem a0N (l:Fo):Fo.isNil l=decide (¬0<l.len):=by cases l<;>simp[Fo.isNil,Fo.len]
def a5L (W:World) (B g base:Nat) (pv zv xv:Value) (Z:List Int) (w0:World) (gF:Value) (L:List bO) (f:Nat) (e:Ending) (w':World):Prop:=
 e=.returned (.tuple #[])∧∃tv,eT W B g base pv zv xv Z w' tv L f∧dA w0 w' g gF.ownBlock∧(tv.ownBlock=gF.ownBlock∨∀k,tv.ownBlock=some k→w0.heap.size≤k)
structure QE (R:Prop):Prop where
 out:R
def bL3:Prop:=∀(K:Nat) (hK:K≤140737488355328) (hK4:4<K) (W:World) (B g base F cp:Nat) (Ap:Option Addr) (zv xv:Value) (Z:List Int) (cN:B≤g) (hF:F≤100000) (hZ:Z.length≤100000),∀(c:Nat) (l:Fo) (lv:Value) (fM f0 i0:Nat) (p:Pl) (ins:Bool) (gF:Value) (L0:List bO) (w0:World),
 l.cnt≤c→c≤100000→bE (dK nm op un) l false ins=true→cM W B lv l→Fo.cO K l→l.len<K→l.aX≤100000→Below B W w0→eT W B g base (.slice Ap F cp) zv xv Z w0 gF L0 f0→L0.length=fM→EY Z fM l→f0+l.cnt≤100000→
 Calls Tryz.prog 55 #[.pointer (some ⟨g,0,none⟩),lv,.int .i64 (fM:Nat),.int .i64 (p.fn:Nat),.int .i64 (p.unit:Nat),.int .i64 p.parent,.int .i64 p.after,.int .i64 p.cD] w0
  (a5L W B g base (.slice Ap F cp) zv xv Z w0 gF (L0++(recs F l false fM f0 i0 p).map (jL eV)) (f0+Fo.aK l false))
noncomputable def aIM:Σ' (R1:Prop),Σ' (R2:Prop),(QE R1→QE R2→bL3):=by
 refine' ⟨_,_,fun LL Z9=>?main⟩
 case main=>
  intro K hK hK4 W B g base F cp Ap zv xv Z cN hF hZ c
  induction c using Nat.strongRecOn with
  |ind c ih=>
  intro l lv fM f0 i0 p ins gF L0 w0 hc hc2 a6B hl cX tW oP hW eH qT hsz mR
  obtain⟨A,cap,rfl,cB⟩:=hl.form
  have HL:=hid hl
  have HI:=hid ih
  have fQ:=hid hW
  have jD:=hid a6B
  have iL:=hid cX
  have kQ:=eH.low
  have hsize:=eH.size
  have a50:∀j,gF.ownBlock=some j→base≤j∧j<w0.heap.size:=aF.lt eH.tab
  have eA:=hid a50
  obtain⟨cE,punit,dW,fR,dU,fJ,fK,iG⟩:=p
  dsimp only at *
  clear hl ih hW a6B cX a50
  go_enter Tryz.func55,Tryz.ntmps55
  go_wp2
  go_loopg [2,16] l.len (fun q o i wr=>∃(k num f:Nat) (tv:Value) (Lk:List bO),k≤l.len∧q=l.len-k∧o=.int .i64 num∧i=.int .i64 k∧
   Hid (L0++(recs F l false fM f0 i0 ⟨cE,punit,dW,fR,dU,fJ,fK,iG⟩).map (jL eV)=Lk++(recs F (Fo.drop k l) false num f (i0+k) ⟨cE,punit,dW,fR,dU,fJ,fK,iG⟩).map (jL eV))∧
   Hid (f+Fo.aK (Fo.drop k l) false=f0+Fo.aK l false∧f+(Fo.drop k l).cnt≤100000)∧Hid (Lk.length=num)∧Hid (EY Z num (Fo.drop k l))∧Hid (eT W B g base (.slice Ap F cp) zv xv Z wr tv Lk f)∧Hid (dA w0 wr g gF.ownBlock)∧Hid (tv.ownBlock=gF.ownBlock∨∀j,tv.ownBlock=some j→w0.heap.size≤j))
  case atStart=>exact⟨0,fM,f0,gF,L0,Nat.zero_le _,rfl,rfl,rfl,hid (by rw[Fo.drop];rfl),hid (by rw[Fo.drop];exact⟨rfl,mR⟩),hid qT,hid (by rw[Fo.drop];exact hsz),hid eH,hid (dA.refl _ _ _),hid (.inl rfl)⟩
  obtain⟨k,num,f,tv,Lk,hk,hq,rfl,rfl,he,z_,kZ,hsk,aJO,nG,hrow⟩:=hrel
  have Hq:=hid hq
  clear hq eH hsz
  obtain⟨wo,rfl⟩:∃x:World,x=wr:=⟨_,rfl⟩
  have hz:=nG.out.size
  have pD:=hid (fQ.out.trans (nG.out.toBelow cN (fun j hj=>by have:=(eA.out j hj).1;omega) (by omega)))
  by_cases hlt:k<l.len
  rotate_left
  · have bSR:=hid (show L0++(recs F l false fM f0 i0 ⟨cE,punit,dW,fR,dU,fJ,fK,iG⟩).map (jL eV)=Lk by rw[he.out,show k=l.len by omega,gB,recs,List.map_nil,List.append_nil])
    have bQ7:f=f0+Fo.aK l false:=by have:=z_.out.1;rw[show k=l.len by omega,gB,Fo.aK] at this;omega
    have Q_:=hid aJO.out
    clear he z_ hsk aJO
    go_wp2
    go_end0
    exact⟨rfl,tv,by rw[bSR.out,←bQ7];exact Q_.out,nG.out,hrow.out⟩
  obtain⟨a,kk,t,nn,s,ps,b,e,r,sv,pv,bv,ev,rfl,aI,hno⟩:=HL.out.at_ hlt
  have dL:=kN aI
  have nD:=T5 aI
  obtain⟨As,cs,rfl,hcs⟩:=hno.vals.subs.form
  obtain⟨Ab,cb,rfl,hcb⟩:=hno.vals.body.form
  obtain⟨Ae,ce,rfl,hce⟩:=hno.vals.els.form
  have HN:=hid hno.vals
  obtain⟨nT,nL,rfl,rM,-⟩:=hno.vals.aX
  have hab:(a.add (k*7)).block<B:=by rw[f_];exact hno.lt
  obtain⟨NL,WL⟩:∃z:List Value,z=[.int .u8 kk,.string t,.int .i64 nn,.slice As s.len cs,.slice nT ps.length nL,.slice Ab b.len cb,.slice Ae e.len ce]:=⟨_,rfl⟩
  have hcN:∀j u,NL[j]?=some u→wo.cell? ((a.add (k*7)).add j)=some u:=fun j u hu=>by
   rw[pD.out.cell (by rw[f_];exact hab),aM5]
   rw[WL] at hu
   match j,hu with
   |0,hu=>injection hu with hu;subst hu;exact hno.kind
   |1,hu=>injection hu with hu;subst hu;exact hno.text
   |2,hu=>injection hu with hu;subst hu;exact hno.num
   |3,hu=>injection hu with hu;subst hu;exact hno.subs
   |4,hu=>injection hu with hu;subst hu;exact hno.aX
   |5,hu=>injection hu with hu;subst hu;exact hno.body
   |6,hu=>injection hu with hu;subst hu;exact hno.els
   |j+7,hu=>simp at hu
  have aIS:NL.length=7:=by rw[WL];rfl
  have pH:=hid (show (Tryz.prog.info? 69).map (·.size)=some NL.length by rw[aIS];exact aZK)
  have rO:=hid (show (Tryz.prog.info? 69).map (·.size)=some NL.toArray.size by rw[List.size_toArray,aIS];exact aZK)
  have r_:=hid (show 7=NL.toArray.size by rw[List.size_toArray,aIS])
  have sA:=hid (show NL.toArray.all (·.oneCell')=true from bNK (by rw[WL];simp[Value.oneCell']))
  have oM:=hid WL
  have lW:=hid (show NL[0]?=some (.int .u8 kk)∧NL[3]?=some (.slice As s.len cs)∧NL[5]?=some (.slice Ab b.len cb)∧NL[6]?=some (.slice Ae e.len ce) by rw[WL];exact⟨rfl,rfl,rfl,rfl⟩)
  clear aIS WL hno
  have jI:=hid (eD aI)
  have GC:=hsk.out
  rw[aI] at GC
  obtain⟨hzl,hzv,-⟩:=GC.head
  have hsL:FJ Z num (Fo.aL (.cons kk t nn s ps b e r) false):=GC
  rw[Fo.aL,show ∀(x:Nat) (y:List Nat),x::y=[x]++y from fun _ _=>rfl] at hsL
  have hs1:FJ Z (num+1) (Fo.aL s true++Fo.aL b false++Fo.aL e false++Fo.aL r false):=hsL.right
  have AR:=hid hs1.left.left.left
  have hs2:=hs1.left.left.right
  have hs3:=hs1.left.right
  have cU:=hs1.right
  simp only[bL,Fo.oO] at hs2 hs3 cU
  have gI:=hid hs2
  have fG:=hid hs3
  have eY:=hid cU
  have kE:bE (dK nm op un) (.cons kk t nn s ps b e r) false ins=true:=aI▸a03 jD.out
  have hki:Fo.cO K (.cons kk t nn s ps b e r):=aI▸IZ iL.out
  unfold bE at kE
  simp only[LM] at kE
  obtain⟨⟨⟨⟨⟨WA,hhd⟩,nE⟩,fW⟩,hfe⟩,-⟩:=kE
  obtain⟨k1,k2,k3,k4,k5,j_,jO,kV,oY,tQ,C9,-⟩:=hki
  have pY:=hid (show Fo.cO K (.cons kk t nn s ps b e .nil) from⟨k1,k2,k3,k4,k5,j_,jO,kV,oY,tQ,C9,trivial⟩)
  have oL:=hid (aOW (bFR nm op un) F s ins nE)
  have tB:=hid (aNP s ins nE)
  have pI:=hid oY
  have oN:=hid tQ
  have qY:=hid C9
  have rA:=hid fW
  have qZ:=hid hfe
  have aJM:=z_.out
  rw[aI,Fo.aK,Fo.cnt] at aJM
  have oV:=hid aJM
  have rL:=aJM.2
  have HE:=hid (he.out.trans (by rw[aI]))
  have hsc:=Fo.jX s true
  have fY:=Fo.jX b false
  have rX:=Fo.jX e false
  have rU:=nU s true
  have iP:=nU b false
  have rH:num+(1+Fo.aD s true+Fo.aD b false+Fo.aD e false)≤Z.length:=by
   have:=GC.fits (Nat.le_of_lt hzl)
   simp only[Fo.aD] at this
   omega
  have aT:=hid (aJO.out.alloc (.cells NL.toArray 69))
  have cQ:=hid (aG.new wo 69 NL.toArray)
  have D3:=hid (nG.out.alloc (.cells NL.toArray 69))
  have gZ:=hid (pD.out.trans ((Below.refl B wo).alloc (by omega) (.cells NL.toArray 69)))
  have pW:wo.heap.size<(wo.alloc (.cells NL.toArray 69)).heap.size:=by simp
  clear hs1 hs2 hs3 cU hsL GC aI WA hhd nE fW hfe k1 k2 k3 k4 k5 oY tQ C9 aJM z_ he pD
  go_upto_region 4 with (first|(refine aMC rfl 69 _ _ (by rfl) _ NL.toArray (by rfl) (by rfl) rO.out r_.out sA.out ?_)|(refine aMD rfl 69 _ (by rfl) _ (by rfl) NL _ hcN Tryz.underlying69 rfl pH.out ?_))
  generalize wo.alloc (.cells NL.toArray 69)=w1 at *
  clear hcN aJO nG hsk
  obtain⟨Az,cz,bP7,hz1,hz2,hz3⟩:=aW.reads aT.out.aL (by omega)
  subst bP7
  obtain⟨az,rfl,-,FB⟩:=ints_at hz3 hzl
  rw[hzv] at FB
  obtain⟨g0,g1,g2,g3,g4⟩:=pN aT.out.blk
  clear hz3 hzv
  go_upto_region 6 with fail
  clear g0 g1 g2 g3 g4 FB
  have hzb:B≤w1.heap.size:=by omega
  have eN:=hid (fun (X:World) (hX:Below w1.heap.size w1 X)=>a1L s.cnt s (.slice As s.len cs) B W X (aC _) (by omega) HN.out.subs (gZ.out.trans (hX.mono hzb)) (Nat.le_trans hzb hX.size))
  have QD:=hid (show ∀(X:World) (hX:Below w1.heap.size w1 X),Calls Tryz.prog 98 #[.agg NL.toArray] X fun e1 w'=>∃v,e1=.returned v∧aM w' X.heap.size v (eV ⟨kk,t,nn,s,ps,b,e⟩)∧Below X.heap.size X w' from fun X hX=>by
   rw[oM.out]
   exact bHA K hK hK4 ⟨kk,t,nn,s,ps,b,e⟩ (.slice As s.len cs) (.slice nT ps.length nL) (.slice Ab b.len cb) (.slice Ae e.len ce) B X (HN.out.below (gZ.out.trans (hX.mono hzb))) (Nat.le_trans hzb hX.size) pY.out (show 1+s.cnt+b.cnt+e.cnt≤100000 by omega) (show s.aX≤100000 by omega))
  have IC:=hid (fun (X:World) (hX:Below w1.heap.size w1 X)=>(show X.rangeAt wo.heap.size 0 NL from fun j u hu=>by
   rw[Nat.zero_add,(cQ.out.below hX pW).cell j,List.getElem?_toArray]
   exact hu))
  have g_:=hid (fun (X:World) (hX:Below w1.heap.size w1 X)=>show X.cell? ⟨wo.heap.size,3,none⟩=some (.slice As s.len cs) by
   have:=IC.out X hX 3 _ lW.out.2.1
   simpa using this)
  go_cut [19] (fun v19 wx=>∃(bs:Nat) (SL:List Value),v19=.pointer (some ⟨bs,0,none⟩)∧Hid (w1.heap.size≤bs)∧Hid (aG wx bs 71 SL.toArray)∧Hid (fU W B wx w1.heap.size SL ⟨⟨kk,t,nn,s,ps,b,e⟩,(cE:Nat),(punit:Nat),dW,fR,dU,0,0,Fo.own s,eV ⟨kk,t,nn,s,ps,b,e⟩,[],false⟩)∧Hid (Below w1.heap.size w1 wx))
  case first=>
   rename_i a4Z a4Y a4X a4W a4V a4U a4T a4S a4R a4Q a4P a4O
   revert K hK hK4 W B g base F cp Ap xv Z cN hF hZ c l fM f0 i0 ins gF L0 w0 hc hc2 tW oP qT mR cap cB fQ jD iL kQ hsize eA cE punit dW fR dU fJ fK iG gk u19 u20 u21 u22 u23 u24 u25 u30 u31 u46 u47 u48 u49 u50 u51 u52 u53 u54 u55 u56 u57 u58 u59 u60 u61 u62 u63 u64 u65 u66 u67 u68 u69 u70 u71 u72 u73 u74 u75 u76 u77 u78 u79 u80 u81 u82 u83 u84 u85 u86 u87 u88 u89 u90 u91 u92 u93 u94 u95 u96 u97 u98 u99 u100 u101 u102 u103 u104 u105 u106 u107 u108 u109 u110 u111 u112 u113 u114 u115 u116 u117 u118 u119 u120 u121 u122 u123 u124 u125 u126 u127 u128 u129 u130 u131 u132 u133 u134 u135 u136 u137 u138 u139 u140 u141 u142 u143 u144 u145 u146 u147 u148 u149 u150 u151 u152 u153 u154 u155 u156 u157 u158 u159 u160 u161 u162 u163 u164 u165 u166 u167 u168 u169 u170 u171 u172 u173 u174 u175 u176 u177 u178 u179 u180 u181 u182 u183 u184 u185 u186 u187 u188 u189 u190 u191 u192 u193 u194 u195 a4Z a4Y a4X k num f tv Lk hk kZ hrow Hq wo hz hlt a kk t nn s ps b e r HL dL nD As cs hcs Ab cb hcb Ae ce hce nT nL HN rM hab NL pH rO r_ sA oM lW jI hzl AR gI fG eY j_ jO kV pY oL tB pI oN qY rA qZ oV rL HE hsc fY rX rU iP rH a4W w1 cQ D3 gZ pW cz hz1 hz2 az HI a4V a4U aT a4T a4S hzb eN QD IC g_ a4R a4Q a4P a4O
   exact LL.out
  rename_i _ _ _ _ _ _ _ _ _ _ _ _ _ _ _ _ _ _ _ _ _ _ _ _ _ _ _ _ _ _ _ _ _ _ _ _ _ _ _ _ _ _ _ _ _ _ _ _ _ _ _ _ _ _ _ _ _ _ _ _ _ _ _ _ _ _ _ _ _ _ _ _ _ _ _ _ _ _ _ _ _ _ _ _ _ _ _ _ _ _ _ _ _ _ _ _ _ _ _ _ _ _ _ _ _ _ _ _ _ _ _ _ _ _ _ _ _ _ _ _ _ _ _ _ _ _ _ _ _ _ _ _ _ _ _ _ _ _ _ _ _ _ _ _ _ _ _ _ _ _ _ _ _ _ _ _ _ _ _ _ _ _ _ _ _ _ _ _ _ _ _ BJ BI BH BG BF BD a4N a4M
  revert K hK hK4 W B g base F cp Ap xv Z cN hF hZ c l fM f0 i0 ins gF L0 w0 hc hc2 tW oP qT mR cap cB fQ jD iL kQ hsize eA cE punit dW fR dU fJ fK iG gk u20 u21 u22 u23 u24 u25 BJ BI BH k num f tv Lk hk kZ hrow Hq wo hz hlt a kk t nn s ps b e r HL dL nD As cs hcs Ab cb hcb Ae ce hce nT nL HN rM hab NL pH rO r_ sA oM lW jI hzl AR gI fG eY j_ jO kV pY oL tB pI oN qY rA qZ oV rL HE hsc fY rX rU iP rH BG w1 cQ D3 gZ pW cz hz1 hz2 az HI BF BD aT a4N a4M hzb eN QD IC g_ wc u19 u26 u27 u28 u29 u30 u31 u32 u33 u34 u35 u36 u37 u38 u39 u40 u41 u42 u43 u44 u45 u46 u47 u48 u49 u50 u51 u52 u53 u54 u55 u56 u57 u58 u59 u60 u61 u62 u63 u64 u65 u66 u67 u68 u69 u70 u71 u72 u73 u74 u75 u76 u77 u78 u79 u80 u81 u82 u83 u84 u85 u86 u87 u88 u89 u90 u91 u92 u93 u94 u95 u96 u97 u98 u99 u100 u101 u102 u103 u104 u105 u106 u107 u108 u109 u110 u111 u112 u113 u114 u115 u116 u117 u118 u119 u120 u121 u122 u123 u124 u125 u126 u127 u128 u129 u130 u131 u132 u133 u134 u135 u136 u137 u138 u139 u140 u141 u142 u143 u144 u145 u146 u147 u148 u149 u150 u151 u152 u153 u154 u155 u156 u157 u158 u159 u160 u161 u162 u163 u164 u165 u166 u167 u168 u169 u170 u171 u172 u173 u174 u175 u176 u177 u178 u179 u180 u181 u182 u183 u184 u185 u186 u187 u188 u189 u190 u191 u192 u193 u194 u195 hcut
  exact Z9.out
end
end Go.Proofs.YtdlndhbkcgmkkaaGreatDoor
