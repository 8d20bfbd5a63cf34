/-
 Part 16 of 35 of a proof about the given program: facts on which the last part stands.
-/
import Derived.Test.YtdlndhbkcgmkkaaGreatDoorFL13
import Derived.Test.YtdlndhbkcgmkkaaGreatDoorFL14
import Derived.Test.YtdlndhbkcgmkkaaGreatDoorFL15
set_option maxHeartbeats 12800000
set_option linter.unusedVariables false
set_option linter.unusedSimpArgs false
set_option maxRecDepth 100000
namespace Go.Proofs.YtdlndhbkcgmkkaaGreatDoor
section
open Go.RowKit
open Sl
structure j4 (base:Nat) (dv ov iv:Value) (st:Sc) (w:World):Prop where
 d:aM w base dv st.decl
 o:aM w base ov st.outer
 i:aM w base iv st.inner
 ab:fS dv ov
 ac:fS dv iv
 bc:fS ov iv
 size:base≤w.heap.size
 len:st.outer.length+st.inner.length≤st.decl.length∧st.decl.length≤64
 ok:st.fault=0
theorem j4.step {base:Nat} {dv ov iv:Value} {st:Sc} {w w':World} (h:j4 base dv ov iv st w) (hb:Below w.heap.size w w'):j4 base dv ov iv st w' where
 d:=h.d.below hb (aC _)
 o:=h.o.below hb (aC _)
 i:=h.i.below hb (aC _)
 ab:=h.ab
 ac:=h.ac
 bc:=h.bc
 size:=Nat.le_trans h.size hb.size
 len:=h.len
 ok:=h.ok
section
variable {base:Nat} {dv ov iv v1:Value} {st:Sc} {w w1:World} {x:aA}
theorem j4.keep {row u:Value} {l:List aA} (hg:w.grownBy w1 row.ownBlock) (hu:aM w base u l) (ha:fS row u):aM w1 base u l:=hu.kept hg (fun k e=>ha k e)
theorem j4.aQR (h:j4 base dv ov iv st w) (hr:aM w1 base v1 (st.decl++[x])) (hg:w.grownBy w1 dv.ownBlock) (hat:v1.ownBlock=dv.ownBlock∨v1.ownBlock=some w.heap.size) (hl:st.decl.length<64):
 j4 base v1 ov iv { st with decl:=st.decl++[x] } w1 where
 d:=hr
 o:=j4.keep hg h.o h.ab
 i:=j4.keep hg h.i h.ac
 ab:=BB h.ab h.o hat
 ac:=BB h.ac h.i hat
 bc:=h.bc
 size:=Nat.le_trans h.size hg.size
 len:=by have:=h.len;simp only[bL,List.length_singleton];omega
 ok:=h.ok
theorem j4.aQP (h:j4 base dv ov iv st w) (hr:aM w1 base v1 (st.outer++[x])) (hg:w.grownBy w1 ov.ownBlock) (hat:v1.ownBlock=ov.ownBlock∨v1.ownBlock=some w.heap.size) (hl:st.outer.length+st.inner.length<st.decl.length):
 j4 base dv v1 iv { st with outer:=st.outer++[x] } w1 where
 d:=j4.keep hg h.d h.ab.symm
 o:=hr
 i:=j4.keep hg h.i h.bc
 ab:=(BB h.ab.symm h.d hat).symm
 ac:=h.ac
 bc:=BB h.bc h.i hat
 size:=Nat.le_trans h.size hg.size
 len:=by have:=h.len;simp only[bL,List.length_singleton];omega
 ok:=h.ok
theorem j4.aQQ (h:j4 base dv ov iv st w) (hr:aM w1 base v1 (st.inner++[x])) (hg:w.grownBy w1 iv.ownBlock) (hat:v1.ownBlock=iv.ownBlock∨v1.ownBlock=some w.heap.size) (hl:st.outer.length+st.inner.length<st.decl.length):
 j4 base dv ov v1 { st with inner:=st.inner++[x] } w1 where
 d:=j4.keep hg h.d h.ac.symm
 o:=j4.keep hg h.o h.bc.symm
 i:=hr
 ab:=h.ab
 ac:=(BB h.ac.symm h.d hat).symm
 bc:=(BB h.bc.symm h.o hat).symm
 size:=Nat.le_trans h.size hg.size
 len:=by have:=h.len;simp only[bL,List.length_singleton];omega
 ok:=h.ok
end
theorem aD5 {w:World} {base base':Nat} {u v:Value} {l:List aA} {m:List bQ} (h:aM w base u l) (h':Steps w base' v m):∀g,u.ownBlock=some g→v.ownBlock≠some g:=fun g hg=>by
 obtain⟨xs,h1,-⟩:=h
 obtain⟨ys,h2,-⟩:=h'
 exact kL h1 h2 (by decide) hg
theorem a3O:∀{l:List bQ} {xs:List Value} (i:Nat),VN xs l→i<l.length→∃b,xs[i*4]?=some (.int .i64 (iW (l.getD i .opn)))∧xs[i*4+1]?=some (.string (iX (l.getD i .opn)))∧xs[i*4+2]?=some (.int .i64 (iY (l.getD i .opn)))∧xs[i*4+3]?=some (.bool b)
 | [],_,i,_,hi=>absurd hi (Nat.not_lt_zero _)
 |x::l,xs,0,⟨b,ys,h1,h2⟩,_=>by
   subst h1
   exact⟨b,rfl,rfl,rfl,rfl⟩
 |x::l,xs,i+1,⟨b,ys,h1,h2⟩,hi=>by
   subst h1
   obtain⟨b',a1,a2,a3,a4⟩:=a3O i h2 (by simpa using hi)
   refine⟨b',?_,?_,?_,?_⟩
   · rw[show (i+1)*4=i*4+4 by omega];exact a1
   · rw[show (i+1)*4+1=i*4+1+4 by omega];exact a2
   · rw[show (i+1)*4+2=i*4+2+4 by omega];exact a3
   rw[show (i+1)*4+3=i*4+3+4 by omega];exact a4
theorem aNV {w:World} {base:Nat} {v:Value} {l:List bQ} (h:Steps w base v l) {i:Nat} (hi:i<l.length):
 ∃a c b,v=.slice (some a) l.length c∧w.cell? (a.add (i*4))=some (.int .i64 (iW (l.getD i .opn)))∧w.cell? ⟨(a.add (i*4)).block,(a.add (i*4)).off+1,none⟩=some (.string (iX (l.getD i .opn)))∧w.cell? ⟨(a.add (i*4)).block,(a.add (i*4)).off+2,none⟩=some (.int .i64 (iY (l.getD i .opn)))∧w.cell? ⟨(a.add (i*4)).block,(a.add (i*4)).off+3,none⟩=some (.bool b):=by
 obtain⟨A,c,news,h1,h2,h3,h4⟩:=h.src
 obtain⟨b,a1,a2,a3,a4⟩:=a3O i h4 hi
 obtain⟨a,rfl,-,hc⟩:=h3.2 (by omega)
 exact⟨a,c,b,h1,hc _ _ a1,rE (by decide) (hc _ _ a2),rE (by decide) (hc _ _ a3),rE (by decide) (hc _ _ a4)⟩
theorem bIW (w:World):Steps (w.alloc (.cells #[] 224)) w.heap.size (.slice (some ⟨w.heap.size,0,none⟩) 0 0) []:=
 ⟨[],World.ownsRow_made w #[] 0 (aC _) (Nat.zero_le _) rfl,rfl⟩
theorem aMQ {w:World} {base:Nat} {v:Value} {l:List bQ} (h:Steps w base v l):∃A c,v=.slice A l.length c:=by
 obtain⟨A,c,news,h1,-⟩:=h.src
 exact⟨A,c,h1⟩
theorem aYB (p:List Fc) (x:aA):(arity p x=none∧uK p x=-1)∨∃k:Nat,k<p.length∧uK p x=k∧arity p x=some (p.getD k bI).ps.length:=by
 unfold uK arity
 have key:∀(l:List Fc) (i:Nat),(l.find? (fun f=>decide (f.name=x))=none∧dQ (fun f:Fc=>decide (f.name=x)) l i=-1)∨∃k:Nat,k<l.length∧dQ (fun f:Fc=>decide (f.name=x)) l i=((i+k:Nat):Int)∧l.find? (fun f=>decide (f.name=x))=some (l.getD k bI):=fun l=>by
  induction l with
  |nil=>intro i;exact .inl ⟨rfl,rfl⟩
  |cons y l ih=>
   intro i
   rw[List.find?_cons,dQ]
   cases hy:decide (y.name=x) with
   |true=>exact .inr ⟨0,by simp,by simp,by simp⟩
   |false=>
    simp only[Bool.false_eq_true,if_false]
    rcases ih (i+1) with⟨h1,h2⟩|⟨k,h1,h2,h3⟩
    · exact .inl ⟨h1,h2⟩
    exact .inr ⟨k+1,by simpa using h1,by rw[h2];congr 1;omega,by simpa using h3⟩
 rcases key p 0 with⟨h1,h2⟩|⟨k,h1,h2,h3⟩
 · exact .inl ⟨by rw[h1];rfl,h2⟩
 exact .inr ⟨k,h1,by rw[h2,Nat.zero_add],by rw[h3];rfl⟩
end
section
open Go.RowKit
open Sl
open Go.Lib (hid)
theorem a1J {ar:aA→Option Nat} {l:List bQ} {k:Nat} (hk:k<l.length) (st:Sc):fL ar (l.drop k) st=fL ar (l.drop (k+1)) (mH ar st (l.getD k .opn)):=by
 rw[List.drop_eq_getElem_cons hk,dR,bX hk]
 rfl
theorem bI4 {ar:aA→Option Nat} {l:List bQ} {k:Nat} (hk:k<l.length) {st:Sc} (h:(mH ar st (l.getD k .opn)).fault≠0):(fL ar (l.drop k) st).fault=(mH ar st (l.getD k .opn)).fault:=by
 rw[a1J hk,CJ _ h]
theorem bFA (K:Nat) (hK:K≤140737488355328) (p:List Fc) (f:Fc) (fv pv bv:Value) (B:Nat) (w:World) (hv:eO w B fv p) (eF:iF w B pv f.ps) (cZ:cM w B bv f.body) (hB:B≤w.heap.size) (hpl:p.length≤1000000)
 (hpp:f.ps.length≤1000000) (hbl:3*f.body.cnt+f.body.aX≤100000000) (cX:Fo.cO K f.body) (hlen:f.body.len<K) (hpk:∀f∈p,f.ps.length≤140737488355328):
 Calls Tryz.prog 114 #[.agg #[fv],.agg #[.string f.name,pv,bv]] w fun e w'=>e=.returned (.int .i64 (pR p f))∧Below w.heap.size w w':=by
 obtain⟨Af,cf,rfl,DM⟩:=hv.form
 have HV:=hid hv
 have uA:=hid eF
 have iU:=hid cZ
 have iL:=hid cX
 have HPk:=hid hpk
 obtain⟨Ap,cp,rfl,kX,-⟩:=eF
 obtain⟨Ab,cb,rfl,hcb⟩:=cZ.form
 clear hv cZ cX hpk
 have hwl:=I2 f.body
 have SV:=(Below.refl w.heap.size w).alloc (aC _) (.cells #[.slice Af p.length cf] 24)
 have AG:=SV.alloc SV.size (.cells #[.string f.name,.slice Ap f.ps.length cp,.slice Ab f.body.len cb] 112)
 have hA3:=AG.alloc AG.size (.cells #[] 224)
 have mB:=aG.new w 24 #[.slice Af p.length cf]
 have fD:aG ((w.alloc (.cells #[.slice Af p.length cf] 24)).alloc (.cells #[.string f.name,.slice Ap f.ps.length cp,.slice Ab f.body.len cb] 112)) (w.heap.size+1) 112 #[.string f.name,.slice Ap f.ps.length cp,.slice Ab f.body.len cb]:=by
  have:=aG.new (w.alloc (.cells #[.slice Af p.length cf] 24)) 112 #[.string f.name,.slice Ap f.ps.length cp,.slice Ab f.body.len cb]
  simpa using this
 have hst:Steps (((w.alloc (.cells #[.slice Af p.length cf] 24)).alloc (.cells #[.string f.name,.slice Ap f.ps.length cp,.slice Ab f.body.len cb] 112)).alloc (.cells #[] 224)) w.heap.size (.slice (some ⟨w.heap.size+1+1,0,none⟩) 0 0) []:=by
  have:=bIW ((w.alloc (.cells #[.slice Af p.length cf] 24)).alloc (.cells #[.string f.name,.slice Ap f.ps.length cp,.slice Ab f.body.len cb] 112))
  simp only[World.size_alloc] at this
  exact this.more (by omega)
 have P5:=hid hst
 have D9:=hid ((mB.alloc (.cells #[.string f.name,.slice Ap f.ps.length cp,.slice Ab f.body.len cb] 112)).alloc (.cells #[] 224))
 have aT:=hid (fD.alloc (.cells #[] 224))
 have rC:=hid hA3
 clear SV AG hA3 mB fD hst
 go_enter Tryz.func114,Tryz.ntmps114
 go_upto_block 0 with fail
 generalize ((w.alloc (.cells #[.slice Af p.length cf] 24)).alloc (.cells #[.string f.name,.slice Ap f.ps.length cp,.slice Ab f.body.len cb] 112)).alloc (.cells #[] 224)=w3 at *
 obtain⟨a0,a1,a2⟩:=QG aT.out
 go_cut [9] (fun o wx=>Hid (Steps wx w.heap.size o (f.ps.map .decl))∧Hid (aG wx w.heap.size 24 #[.slice Af p.length cf])∧Hid (aG wx (w.heap.size+1) 112 #[.string f.name,.slice Ap f.ps.length cp,.slice Ab f.body.len cb])∧Hid (Below w.heap.size w wx))
 case first=>as_aux_lemma=>
  go_wp2
  go_loopg [9,10] f.ps.length (fun g o i wr=>∃(vo:Value) (q:Nat),vo=o∧q≤f.ps.length∧g=f.ps.length-q∧i=.int .i64 q∧Hid (Steps wr w.heap.size vo ((f.ps.take q).map .decl))∧Hid (aG wr w.heap.size 24 #[.slice Af p.length cf])∧Hid (aG wr (w.heap.size+1) 112 #[.string f.name,.slice Ap f.ps.length cp,.slice Ab f.body.len cb])∧Hid (Below w.heap.size w wr))
  case atStart=>exact⟨_,0,rfl,Nat.zero_le _,rfl,rfl,P5,D9,aT,rC⟩
  obtain⟨vo,q,rfl,hq,hg,rfl,hS,hb0,hb1,hL⟩:=hrel
  have Hg:=hid hg
  clear hg a0 a1 a2
  obtain⟨wx,rfl⟩:∃x:World,x=wr:=⟨_,rfl⟩
  obtain⟨a0,a1,a2⟩:=QG hb1.out
  by_cases LG:q<f.ps.length
  rotate_left
  · rw[List.take_of_length_le (show f.ps.length≤q by omega)] at hS
    go_wp2
    go_meet
    exact⟨hS,hb0,hb1,hL⟩
  obtain⟨ap,hap,-,V8⟩:=FV (show Reads wx B 1 Ap f.ps.length (f.ps.map .string) by
   obtain⟨A',c',e',-,kC⟩:=uA.out
   cases e'
   exact kC.below (hL.out.mono hB)) LG
  subst hap
  have HT:=hid (show (f.ps.take (q+1)).map bQ.decl=(f.ps.take q).map bQ.decl++[.decl (f.ps.getD q ByteArray.empty)] by
   rw[List.take_succ_eq_append_getElem LG,List.map_append,dR,bX LG]
   rfl)
  obtain⟨ac,DN⟩:∃z,z=(f.ps.take q).map bQ.decl:=⟨_,rfl⟩
  rw[←DN] at hS HT
  have bRS:ac.length≤f.ps.length:=by rw[DN];simp;omega
  have Hac:=hid DN
  clear DN
  generalize f.ps.getD q ByteArray.empty=x at *
  have o_:=hL.out.size
  have hP:=hid (CH (w:=wx) (t:=224) (cs:=#[.int .i64 (iW (.decl x)),.string (iX (.decl x)),.int .i64 (iY (.decl x)),.bool false]) (n:=1) (size:=4) rfl)
  have TG:=hid (aF.alloc hS.out (.cells #[.int .i64 (iW (.decl x)),.string (iX (.decl x)),.int .i64 (iY (.decl x)),.bool false] 224))
  go_wp2_with (at_builtin;go_must (refine A_ rfl _ _ rfl w.heap.size _ ac rfl TG.out _ _ 1 _ [.decl x] _ rfl rfl hP.out (I3 (.decl x) false) (by omega) (by simp;omega) ?_))
  intro v5 w5 aZ aU
  have jC:=hid aZ
  have bSZ:=hid ((hb0.out.alloc _).grown aU (fun e=>hS.out.ne hb0.out (by decide) e.symm))
  have aTP:=hid ((hb1.out.alloc _).grown aU (fun e=>hS.out.ne hb1.out (by decide) e.symm))
  have iT:=hid (TG.out.grown (hL.out.alloc o_ _) aU (by simp;omega))
  clear aZ aU TG hP
  go_wp2
  go_roundg (f.ps.length-(q+1))
  case rel=>exact⟨_,q+1,rfl,LG,rfl,by go_num,by rw[HT.out];exact jC,bSZ,aTP,iT⟩
  rw[Hg.out];omega
 obtain⟨hS,hb0,hb1,hL⟩:=hcut
 clear a0 a1 a2 P5 D9 aT rC
 obtain⟨w4,rfl⟩:∃x:World,x=wc:=⟨_,rfl⟩
 obtain⟨a0,a1,a2⟩:=QG hb1.out
 have gY:=hL.out.size
 have HW:=hid (aOH K hK f.body.cnt f.body (.slice Ab f.body.len cb) B w4 (aC _) (iU.out.below (hL.out.mono hB)) (by omega) iL.out hlen hbl)
 go_wp2_with fail
 refine HW.out.mono ?_
 rintro e1 w5 ⟨v4,rfl,cU,hb4⟩
 have eY:=hid (hS.out.below hb4 (aC _))
 have aTR:=hid (hb0.out.below hb4 hb0.out.lt)
 have aTQ:=hid (hb1.out.below hb4 hb1.out.lt)
 have XC:=hid (hL.out.trans (hb4.mono gY))
 have oC:=hb4.size
 obtain⟨A4,c4,n4,rfl,-,hr4,nI⟩:=cU.src
 have H8:=hid hr4
 have nN:=hid nI
 clear cU hb4 hr4 nI HW a0 a1 a2 hS hb0 hb1 hL
 go_wp2_with (at_builtin;go_must (refine A_ rfl _ _ rfl w.heap.size _ (f.ps.map .decl) rfl eY.out _ A4 _ c4 (way f.body) n4 rfl rfl H8.out nN.out (by rw[cL];omega) (by omega) ?_))
 intro v6 w6 iC gG
 have CC:=hid iC
 have bSY:=hid (aTR.out.grown gG (fun e=>eY.out.ne aTR.out (by decide) e.symm))
 have bSX:=hid (aTQ.out.grown gG (fun e=>eY.out.ne aTQ.out (by decide) e.symm))
 have TN:=hid (eY.out.grown XC.out gG (by omega))
 clear iC gG eY aTR aTQ XC H8 nN
 have HNm:=hid (show pR p f=(fL (arity p) (f.ps.map .decl++way f.body) E4).fault from rfl)
 have hwy:(f.ps.map bQ.decl++way f.body).length≤102000000:=by rw[bL,cL];omega
 generalize f.ps.map bQ.decl++way f.body=wy at *
 obtain⟨A6,c6,e6⟩:=aMQ CC.out
 subst e6
 have mN:=TN.out.size
 go_upto_block 2 with fail
 go_wp2
 go_loopg [5,6,7,8,11] wy.length (fun g d o i b j wr=>∃(dv ov iv:Value) (st:Sc) (k:Nat),dv=d∧ov=o∧iv=i∧b=.bool st.dF∧k≤wy.length∧g=wy.length-k∧j=.int .i64 k∧Hid (fL (arity p) wy E4=fL (arity p) (wy.drop k) st)∧Hid (j4 w.heap.size dv ov iv st wr)∧Hid (Steps wr w.heap.size (.slice A6 wy.length c6) wy)∧Hid (aG wr w.heap.size 24 #[.slice Af p.length cf])∧Hid (aG wr (w.heap.size+1) 112 #[.string f.name,.slice Ap f.ps.length cp,.slice Ab f.body.len cb])∧Hid (Below w.heap.size w wr))
 case atStart=>exact⟨_,_,_,E4,0,rfl,rfl,rfl,rfl,Nat.zero_le _,rfl,rfl,hid rfl,hid ⟨aF.nil _ _ rfl rfl,aF.nil _ _ rfl rfl,aF.nil _ _ rfl rfl,fS.nil _,fS.nil _,fS.nil _,mN,by simp[E4],rfl⟩,CC,bSY,bSX,TN⟩
 obtain⟨dv,ov,iv,st,k,rfl,rfl,rfl,rfl,hk,hq,rfl,he,hC,hS,hb0,hb1,hL⟩:=hrel
 have Hq:=hid hq
 clear hq
 obtain⟨wo,rfl⟩:∃x:World,x=wr:=⟨_,rfl⟩
 by_cases hlt:k<wy.length
 rotate_left
 · have hx:k=wy.length:=by omega
   have HX:=hid (show pR p f=st.fault by rw[HNm.out,he.out,hx,List.drop_length];rfl)
   have AP:=hid (HX.out.trans hC.out.ok)
   clear hx he
   go_wp2
   go_ret
   exact⟨dC (by rw[AP.out];rfl),hL.out⟩
 obtain⟨a,c,bb,hva,s0,s1,s2,s3⟩:=aNV hS.out hlt
 injection hva with SS hx6 WI
 subst SS
 clear hx6 WI
 have HE:=hid (he.out.trans (a1J hlt st))
 have HFt:=hid (fun (hne:(mH (arity p) st (wy.getD k .opn)).fault≠0)=>HNm.out.trans ((congrArg Sc.fault he.out).trans (bI4 hlt hne)))
 generalize wy.getD k .opn=jN at *
 have hz:=hC.out.size
 have mR:=hC.out.ok
 have iE:=hid (hC.out.step ((Below.refl _ _).alloc (aC _) (.cells #[.int .i64 (iW jN),.string (iX jN),.int .i64 (iY jN),.bool bb] 224)))
 have WW:=hid (aF.alloc hS.out (.cells #[.int .i64 (iW jN),.string (iX jN),.int .i64 (iY jN),.bool bb] 224))
 have QF:=hid (hb0.out.alloc (.cells #[.int .i64 (iW jN),.string (iX jN),.int .i64 (iY jN),.bool bb] 224))
 have TT:=hid (hb1.out.alloc (.cells #[.int .i64 (iW jN),.string (iX jN),.int .i64 (iY jN),.bool bb] 224))
 have IU:=hid (aG.new wo 224 #[.int .i64 (iW jN),.string (iX jN),.int .i64 (iY jN),.bool bb])
 have FK:=hid (hL.out.alloc hz (.cells #[.int .i64 (iW jN),.string (iX jN),.int .i64 (iY jN),.bool bb] 224))
 have TA:=hid mR
 clear hC hS hb0 hb1 hL mR
 go_upto_region 13 with fail
 generalize wo.alloc (.cells #[.int .i64 (iW jN),.string (iX jN),.int .i64 (iY jN),.bool bb] 224)=w2 at *
 clear s0 s1 s2 s3
 cases jN with
 |decl x=>
  have q0:w2.cell? ⟨wo.heap.size,0,none⟩=some (.int .i64 1):=IU.out.cell 0
  have q1:w2.cell? ⟨wo.heap.size,1,none⟩=some (.string x):=IU.out.cell 1
  have HD:=hid (show mH (arity p) st (.decl x)=declares st x from rfl)
  have Cd:=hid (KY dv st.decl x w2.heap.size w2 iE.out.d.toV (by have:=iE.out.len;omega))
  have hash:=I4 st.decl x
  cases cV:inL st.decl x with
  |true=>as_aux_lemma=>
   have hd:declares st x={ st with fault:=6 }:=by unfold declares;rw[if_neg (by simp[TA.out]),if_pos cV]
   have HX:=hid (show pR p f=6 by rw[HFt.out (by rw[HD.out,hd];simp),HD.out,hd])
   rw[cV] at hash
   have bQY:decide (Lib.idxOfS st.decl x≥0)=true:=hash
   clear cV hash hd
   generalize Lib.idxOfS st.decl x=idx at *
   go_wp2_with fail
   refine Cd.out.mono ?_
   rintro e w' ⟨rfl,rfl⟩
   go_wp2
   go_ret
   exact⟨dC (by rw[HX.out];rfl),FK.out⟩
  |false=>
   rw[cV] at hash
   have bQY:decide (Lib.idxOfS st.decl x≥0)=false:=hash
   clear hash
   generalize Lib.idxOfS st.decl x=idx at *
   obtain⟨Ad,cd,-,ed,tX,-,-⟩:=iE.out.d.src
   subst ed
   have aP_:=iE.out.len
   by_cases SY:64≤st.decl.length
   · have hd:declares st x={ st with fault:=3 }:=by unfold declares;rw[if_neg (by simp[TA.out]),if_neg (by simp[cV]),if_pos SY]
     have HX:=hid (show pR p f=3 by rw[HFt.out (by rw[HD.out,hd];simp),HD.out,hd])
     have b64:decide ((st.decl.length:Int)≥64)=true:=bF (by omega)
     have c64:decide (64≤st.decl.length)=true:=bF (by omega)
     clear cV hd
     go_wp2_with fail
     refine Cd.out.mono ?_
     rintro e w' ⟨rfl,rfl⟩
     go_wp2
     go_ret
     exact⟨dC (by rw[HX.out];rfl),FK.out⟩
   have hd:declares st x=if st.dF then { st with decl:=st.decl++[x],inner:=st.inner++[x] } else { st with decl:=st.decl++[x],outer:=st.outer++[x] }:=by unfold declares;rw[if_neg (by simp[TA.out]),if_neg (by simp[cV]),if_neg SY]
   have sJ:=hid (HD.out.trans hd)
   have b64:decide ((st.decl.length:Int)≥64)=false:=bP (by omega)
   have c64:decide (64≤st.decl.length)=false:=bP (by omega)
   have aRZ:st.decl.length<64:=by omega
   clear cV hd SY HD
   go_wp2_with fail
   refine Cd.out.mono ?_
   rintro e w' ⟨rfl,rfl⟩
   have BG7:=IU
   obtain⟨Ad7,cd7,-,ed7,bRF,-,-⟩:=iE.out.d.src
   have JU:=hid (iE.out.step ((Below.refl _ _).alloc (aC _) (.cells #[.string x] 9)))
   have aS7:=hid (aF.alloc WW.out (.cells #[.string x] 9))
   have aTO:=hid (QF.out.alloc (.cells #[.string x] 9))
   have aTN:=hid (TT.out.alloc (.cells #[.string x] 9))
   have aTL:=hid (BG7.out.alloc (.cells #[.string x] 9))
   have a82:=hid (FK.out.alloc iE.out.size (.cells #[.string x] 9))
   have bQS:st.decl.length+1≤1000000000:=by have:=iE.out.len;omega
   clear ed7 bRF
   go_wp2_with (at_builtin;go_must (refine BA rfl _ _ rfl w.heap.size _ st.decl rfl JU.out.d _ _ 1 _ [x] _ rfl rfl uD rfl bQS JU.out.size ?_))
   intro v7 w7 j2 eM JO
   have XH:=hid (j4.aQR (st:=st) JU.out j2 eM (by simpa using JO) aRZ)
   have ST7:=hid (aS7.out.kept eM (aD5 JU.out.d aS7.out))
   have B07:=hid (aTO.out.grown eM (fun e=>JU.out.d.ne aTO.out (by decide) e.symm))
   have B17:=hid (aTN.out.grown eM (fun e=>JU.out.d.ne aTN.out (by decide) e.symm))
   have BH7:=hid (aTL.out.grown eM (fun e=>JU.out.d.ne aTL.out (by decide) e.symm))
   have LW7:=hid (aF.grown JU.out.d a82.out eM JU.out.size)
   clear j2 eM JO JU aS7 aTO aTN aTL a82
   have q1':w7.cell? ⟨wo.heap.size,1,none⟩=some (.string x):=BH7.out.cell 1
   have hl7:st.outer.length+st.inner.length<(st.decl++[x]).length:=by simp;omega
   have BG8:=BH7
   cases hif:st.dF with
   |true=>as_aux_lemma=>
    have D4:=hid (HE.out.trans (by rw[sJ.out,if_pos hif]))
    clear q0 q1
    obtain⟨Ad8,cd8,-,ed8,aR6,-,-⟩:=XH.out.i.src
    have nA:=hid (XH.out.step ((Below.refl _ _).alloc (aC _) (.cells #[.string x] 9)))
    have Q4:=hid (aF.alloc ST7.out (.cells #[.string x] 9))
    have RG:=hid (B07.out.alloc (.cells #[.string x] 9))
    have RF:=hid (B17.out.alloc (.cells #[.string x] 9))
    have RD:=hid (BG8.out.alloc (.cells #[.string x] 9))
    have aAG:=hid (LW7.out.alloc XH.out.size (.cells #[.string x] 9))
    have aRX:st.inner.length+1≤1000000000:=by have:=iE.out.len;omega
    clear ed8 aR6
    go_wp2_with (at_builtin;go_must (refine BA rfl _ _ rfl w.heap.size _ st.inner rfl nA.out.i _ _ 1 _ [x] _ rfl rfl uD rfl aRX nA.out.size ?_))
    intro v8 w8 ho8 z8 ZY
    have TS:=hid (j4.aQQ (st:={ st with decl:=st.decl++[x] }) nA.out ho8 z8 (by simpa using ZY) hl7)
    have ST8:=hid (Q4.out.kept z8 (aD5 nA.out.i Q4.out))
    have B08:=hid (RG.out.grown z8 (fun e=>nA.out.i.ne RG.out (by decide) e.symm))
    have B18:=hid (RF.out.grown z8 (fun e=>nA.out.i.ne RF.out (by decide) e.symm))
    have BH8:=hid (RD.out.grown z8 (fun e=>nA.out.i.ne RD.out (by decide) e.symm))
    have LW8:=hid (aF.grown nA.out.i aAG.out z8 nA.out.size)
    clear ho8 z8 ZY nA Q4 RG RF RD aAG
    go_wp2
    go_roundg (wy.length-(k+1))
    case rel=>exact⟨_,_,_,{ st with decl:=st.decl++[x],inner:=st.inner++[x] },k+1,rfl,rfl,rfl,congrArg Value.bool hif.symm,hlt,rfl,by go_num,D4,TS,ST8,B08,B18,LW8⟩
    rw[Hq.out];omega
   |false=>as_aux_lemma=>
    have D4:=hid (HE.out.trans (by rw[sJ.out,if_neg (by rw[hif];simp)]))
    clear q0 q1
    obtain⟨Ad8,cd8,-,ed8,aR6,-,-⟩:=XH.out.o.src
    have nA:=hid (XH.out.step ((Below.refl _ _).alloc (aC _) (.cells #[.string x] 9)))
    have Q4:=hid (aF.alloc ST7.out (.cells #[.string x] 9))
    have RG:=hid (B07.out.alloc (.cells #[.string x] 9))
    have RF:=hid (B17.out.alloc (.cells #[.string x] 9))
    have RD:=hid (BG8.out.alloc (.cells #[.string x] 9))
    have aAG:=hid (LW7.out.alloc XH.out.size (.cells #[.string x] 9))
    have aRX:st.outer.length+1≤1000000000:=by have:=iE.out.len;omega
    clear ed8 aR6
    go_wp2_with (at_builtin;go_must (refine BA rfl _ _ rfl w.heap.size _ st.outer rfl nA.out.o _ _ 1 _ [x] _ rfl rfl uD rfl aRX nA.out.size ?_))
    intro v8 w8 ho8 z8 ZY
    have TS:=hid (j4.aQP (st:={ st with decl:=st.decl++[x] }) nA.out ho8 z8 (by simpa using ZY) hl7)
    have ST8:=hid (Q4.out.kept z8 (aD5 nA.out.o Q4.out))
    have B08:=hid (RG.out.grown z8 (fun e=>nA.out.o.ne RG.out (by decide) e.symm))
    have B18:=hid (RF.out.grown z8 (fun e=>nA.out.o.ne RF.out (by decide) e.symm))
    have BH8:=hid (RD.out.grown z8 (fun e=>nA.out.o.ne RD.out (by decide) e.symm))
    have LW8:=hid (aF.grown nA.out.o aAG.out z8 nA.out.size)
    clear ho8 z8 ZY nA Q4 RG RF RD aAG
    go_wp2
    go_roundg (wy.length-(k+1))
    case rel=>exact⟨_,_,_,{ st with decl:=st.decl++[x],outer:=st.outer++[x] },k+1,rfl,rfl,rfl,congrArg Value.bool hif.symm,hlt,rfl,by go_num,D4,TS,ST8,B08,B18,LW8⟩
    rw[Hq.out];omega
 |use x=>
  have q0:w2.cell? ⟨wo.heap.size,0,none⟩=some (.int .i64 2):=IU.out.cell 0
  have q1:w2.cell? ⟨wo.heap.size,1,none⟩=some (.string x):=IU.out.cell 1
  have HD:=hid (show mH (arity p) st (.use x)=uses st x from rfl)
  have Co:=hid (KY ov st.outer x w2.heap.size w2 iE.out.o.toV (by have:=iE.out.len;omega))
  have Ci:=hid (KY iv st.inner x w2.heap.size w2 iE.out.i.toV (by have:=iE.out.len;omega))
  have WB:=I4 st.outer x
  have SB:=I4 st.inner x
  cases cV:inL st.outer x with
  |true=>as_aux_lemma=>
   have D4:=hid (HE.out.trans (congrArg (fL (arity p) (wy.drop (k+1))) (HD.out.trans (show uses st x=st by unfold uses;rw[if_neg (by simp[cV])]))))
   rw[cV] at WB
   have bo:decide (Lib.idxOfS st.outer x<0)=false:=by have:=of_decide_eq_true WB;exact bP (by omega)
   clear cV WB SB Ci
   generalize Lib.idxOfS st.outer x=io at *
   go_wp2_with fail
   refine Co.out.mono ?_
   rintro e w' ⟨rfl,rfl⟩
   go_wp2
   go_roundg (wy.length-(k+1))
   case rel=>exact⟨dv,ov,iv,st,k+1,rfl,rfl,rfl,rfl,hlt,rfl,by go_num,D4,iE,WW,QF,TT,FK⟩
   rw[Hq.out];omega
  |false=>
   rw[cV] at WB
   have bo:decide (Lib.idxOfS st.outer x<0)=true:=by have:=of_decide_eq_false WB;exact bF (by omega)
   clear WB
   generalize Lib.idxOfS st.outer x=io at *
   cases jQ:inL st.inner x with
   |true=>as_aux_lemma=>
    have D4:=hid (HE.out.trans (congrArg (fL (arity p) (wy.drop (k+1))) (HD.out.trans (show uses st x=st by unfold uses;rw[if_neg (by simp[jQ])]))))
    rw[jQ] at SB
    have bi:decide (Lib.idxOfS st.inner x<0)=false:=by have:=of_decide_eq_true SB;exact bP (by omega)
    clear cV jQ SB
    generalize Lib.idxOfS st.inner x=ii at *
    go_wp2_with fail
    refine Co.out.mono ?_
    rintro e w' ⟨rfl,rfl⟩
    go_wp2_with fail
    refine Ci.out.mono ?_
    rintro e w' ⟨rfl,rfl⟩
    go_wp2
    go_roundg (wy.length-(k+1))
    case rel=>exact⟨dv,ov,iv,st,k+1,rfl,rfl,rfl,rfl,hlt,rfl,by go_num,D4,iE,WW,QF,TT,FK⟩
    rw[Hq.out];omega
   |false=>as_aux_lemma=>
    have hu:uses st x={ st with fault:=5 }:=by unfold uses;rw[if_pos ⟨TA.out,cV,jQ⟩]
    have HX:=hid (show pR p f=5 by rw[HFt.out (by rw[HD.out,hu];simp),HD.out,hu])
    rw[jQ] at SB
    have bi:decide (Lib.idxOfS st.inner x<0)=true:=by have:=of_decide_eq_false SB;exact bF (by omega)
    clear cV jQ SB hu
    generalize Lib.idxOfS st.inner x=ii at *
    go_wp2_with fail
    refine Co.out.mono ?_
    rintro e w' ⟨rfl,rfl⟩
    go_wp2_with fail
    refine Ci.out.mono ?_
    rintro e w' ⟨rfl,rfl⟩
    go_wp2
    go_ret
    exact⟨dC (by rw[HX.out];rfl),FK.out⟩
 |opn=>as_aux_lemma=>
  have q0:w2.cell? ⟨wo.heap.size,0,none⟩=some (.int .i64 3):=IU.out.cell 0
  have HD:=hid (show mH (arity p) st .opn={ st with dF:=true } from if_neg (by simp[TA.out]))
  have D4:=hid (HE.out.trans (by rw[HD.out]))
  have TS:=hid (show j4 w.heap.size dv ov iv { st with dF:=true } w2 from⟨iE.out.d,iE.out.o,iE.out.i,iE.out.ab,iE.out.ac,iE.out.bc,iE.out.size,iE.out.len,iE.out.ok⟩)
  go_wp2
  go_roundg (wy.length-(k+1))
  case rel=>exact⟨dv,ov,iv,_,k+1,rfl,rfl,rfl,rfl,hlt,rfl,by go_num,D4,TS,WW,QF,TT,FK⟩
  rw[Hq.out];omega
 |cls=>as_aux_lemma=>
  have q0:w2.cell? ⟨wo.heap.size,0,none⟩=some (.int .i64 4):=IU.out.cell 0
  have HD:=hid (show mH (arity p) st .cls={ st with dF:=false,inner:=[] } from if_neg (by simp[TA.out]))
  have D4:=hid (HE.out.trans (by rw[HD.out]))
  have TS:=hid (show j4 w.heap.size dv ov (.slice none 0 0) { st with dF:=false,inner:=[] } w2 from⟨iE.out.d,iE.out.o,aF.nil _ _ rfl rfl,iE.out.ab,fS.nil _,fS.nil _,iE.out.size,by have:=iE.out.len;simp at this ⊢;omega,iE.out.ok⟩)
  go_wp2
  go_roundg (wy.length-(k+1))
  case rel=>exact⟨dv,ov,_,_,k+1,rfl,rfl,rfl,rfl,hlt,rfl,by go_num,D4,TS,WW,QF,TT,FK⟩
  rw[Hq.out];omega
 |call x m=>
  have q0:w2.cell? ⟨wo.heap.size,0,none⟩=some (.int .i64 5):=IU.out.cell 0
  have q1:w2.cell? ⟨wo.heap.size,1,none⟩=some (.string x):=IU.out.cell 1
  have p0:w2.cell? ⟨w.heap.size,0,none⟩=some (.slice Af p.length cf):=QF.out.cell 0
  have HD:=hid (show mH (arity p) st (.call x m)=(match arity p x with
   |none=>{ st with fault:=5 }
   |some q=>if q≠m then { st with fault:=1 } else st) from if_neg (by simp[TA.out]))
  have HF:=hid (aM_ p (.slice Af p.length cf) x B w2 (HV.out.below (FK.out.mono hB)) (by have:=FK.out.size;omega) (by omega))
  rcases aYB p x with⟨ha,hpl⟩|⟨j,hj,hpl,ha⟩
  · as_aux_lemma=>
    have HX:=hid (show pR p f=5 by rw[HFt.out (by rw[HD.out,ha];simp),HD.out,ha])
    rw[hpl] at HF
    clear ha hpl
    go_wp2_with fail
    refine HF.out.mono ?_
    rintro e w4 ⟨rfl,hb4⟩
    have L4:=hid (FK.out.trans (hb4.mono iE.out.size))
    clear hb4
    go_wp2
    go_ret
    exact⟨dC (by rw[HX.out];rfl),L4.out⟩
  rw[hpl] at HF
  have sJ:=hid (HD.out.trans (by rw[ha]))
  clear hpl ha
  go_wp2_with fail
  refine HF.out.mono ?_
  rintro e w4 ⟨rfl,hb4⟩
  have gY:=hb4.size
  have L4:=hid (FK.out.trans (hb4.mono iE.out.size))
  have CK4:=hid (iE.out.step hb4)
  have ST4:=hid (WW.out.below hb4 (aC _))
  have B04:=hid (QF.out.below hb4 QF.out.lt)
  have B14:=hid (TT.out.below hb4 TT.out.lt)
  have BG4:=hid (IU.out.below hb4 IU.out.lt)
  clear hb4 q0 q1 p0
  have p04:w4.cell? ⟨w.heap.size,0,none⟩=some (.slice Af p.length cf):=B04.out.cell 0
  have q24:w4.cell? ⟨wo.heap.size,2,none⟩=some (.int .i64 m):=BG4.out.cell 2
  obtain⟨aq,pvq,bvq,hAq,bRT,e0,e1,e2,aRO,-⟩:=(HV.out.below (L4.out.mono hB)).at_ hj
  subst hAq
  obtain⟨Aq,cq,rfl,hcq,-⟩:=aRO
  have R_:=HPk.out _ (uI hj)
  generalize (p.getD j bI).ps.length=nq at *
  clear e0 e2
  by_cases rV:nq=m
  · as_aux_lemma=>
    have D4:=hid (HE.out.trans (congrArg (fL (arity p) (wy.drop (k+1))) (sJ.out.trans (if_neg (by simp[rV])))))
    have b1:((nq:Int) != m)=false:=by rw[rV];simp
    clear rV
    go_wp2_with fail
    go_quiet (fail)
    go_wp2
    go_roundg (wy.length-(k+1))
    case rel=>exact⟨dv,ov,iv,st,k+1,rfl,rfl,rfl,rfl,hlt,rfl,by go_num,D4,hid (CK4.out.step (below_drewN (Below.refl _ _) _)),hid (ST4.out.below (below_drewN (Below.refl _ _) _) (aC _)),hid (B04.out.below (below_drewN (Below.refl _ _) _) B04.out.lt),hid (B14.out.below (below_drewN (Below.refl _ _) _) B14.out.lt),hid (below_drewN L4.out _)⟩
    rw[Hq.out];omega
  as_aux_lemma=>
  have HX:=hid (show pR p f=1 by rw[HFt.out (by rw[sJ.out,if_pos rV];simp),sJ.out,if_pos rV])
  have b1:((nq:Int) != m)=true:=bne_iff_ne.2 (by omega)
  clear rV
  go_wp2_with fail
  go_quiet (fail)
  go_wp2
  go_ret
  exact⟨dC (by rw[HX.out];rfl),below_drewN L4.out _⟩
end
section
open Go.RowKit
open Go.Lib (hid)
namespace Sl
theorem X2 {nm op un:aA→Bool}:∀(l:Fo) (ex ins:Bool),bE (dK nm op un) l ex ins=true→l.aX≤8*l.cnt
 |.nil,_,_,_=>Nat.zero_le _
 |.cons k t n s ps b e r,ex,ins,h=>by
   unfold bE at h
   simp only[LM] at h
   obtain⟨⟨⟨⟨⟨-,hh⟩,hs⟩,hb⟩,he⟩,hr⟩:=h
   have a1:=X2 s _ _ hs
   have a2:=X2 b _ _ hb
   have a3:=X2 e _ _ he
   have a4:=X2 r _ _ hr
   have hp:ps.length≤8:=by
    unfold dK at hh
    by_cases h10:k=10
    · simp[h10,mF] at hh
      omega
    simp[h10] at hh
    have:ps=[]:=by simp_all
    simp[this]
   simp only[Fo.aX,Fo.cnt]
   omega
theorem aML {nm op un:aA→Bool} {p:List Fc} (h:nW nm op un p=0) {f:Fc} (hf:f∈p):f.ps.length≤8∧f.body.cnt≤1024∧f.body.aX≤8192:=by
 obtain⟨-,h2,-,h4⟩:=aD6 nm op un h
 have h5:=h4 f hf
 unfold h_ at h5
 simp only[LM] at h5
 have h6:=X2 f.body _ _ h5.2
 have h7:=aYC (g:=fun f=>f.body.cnt) hf
 have h8:f.ps.length≤8:=by
  have:=h5.1.2
  simp[mF] at this
  omega
 have h9:f.body.cnt≤1024:=Nat.le_trans h7 h2
 exact⟨h8,h9,by omega⟩
theorem a01 {f:Fc→Bool}:∀{l:List Fc} (i:Nat) {x:Fc},x∈l→f x=true→∃k,k<l.length∧dQ f l i=((i+k:Nat):Int)∧f (l.getD k bI)=true
 |y::l,i,x,hx,hf=>by
   rw[dQ]
   cases hy:f y with
   |true=>exact⟨0,by simp,by simp,by simpa using hy⟩
   |false=>
    rcases List.mem_cons.1 hx with rfl|hx
    · rw[hf] at hy;cases hy
    obtain⟨k,h1,h2,h3⟩:=a01 (i+1) hx hf
    refine⟨k+1,by simpa using h1,?_,by simpa using h3⟩
    simp only[Bool.false_eq_true,if_false]
    rw[h2]
    congr 1
    omega
theorem bHF {p:List Fc} {k:Nat} (hk:k<p.length):∃j,j<p.length∧uK p (p.getD k bI).name=(j:Int)∧(p.getD j bI).name=(p.getD k bI).name:=by
 obtain⟨j,h1,h2,h3⟩:=a01 (f:=fun f:Fc=>decide (f.name=(p.getD k bI).name)) 0 (uI hk) (by simp)
 exact⟨j,h1,by unfold uK;rw[h2,Nat.zero_add],by simpa using h3⟩
theorem UB {p:List Fc} {k:Nat} (hk:k<(p.map (·.name)).length):(p.map (·.name))[k]=(p.getD k bI).name:=by
 rw[List.getElem_map,dR,bX (by simpa using hk)]
 rfl
theorem bF9 {p:List Fc} {k:Nat} (hk:k<p.length) (h:uK p (p.getD k bI).name≠k):twice p=true:=by
 obtain⟨j,h1,h2,h3⟩:=bHF hk
 have hjk:j≠k:=fun e=>h (by rw[h2,e])
 refine bF fun hn=>?_
 have hl:(p.map (·.name)).length=p.length:=by simp
 have hp:=List.pairwise_iff_getElem.1 hn
 rcases Nat.lt_or_gt_of_ne hjk with h4|h4
 · exact hp j k (by omega) (by omega) h4 (by rw[UB,UB,h3])
 exact hp k j (by omega) (by omega) h4 (by rw[UB,UB,h3])
theorem bHG {p:List Fc} (h:∀k,k<p.length→uK p (p.getD k bI).name=k):twice p=false:=by
 have hl:(p.map (·.name)).length=p.length:=by simp
 refine bP (not_not_intro (List.pairwise_iff_getElem.2 fun i j hi hj SA he=>?_))
 rw[UB,UB] at he
 have h1:=h i (by omega)
 have h2:=h j (by omega)
 rw[he] at h1
 omega
end Sl
open Sl
theorem bHB (K:Nat) (hK:K≤140737488355328) (p:List Fc) (v:Value) (B:Nat) (w:World) (hv:eO w B v p) (hB:B≤w.heap.size) (hs:nodes p≤1000000) (hp:p.length≤1000000) (ho:oU K p):
 Calls Tryz.prog 70 #[.agg #[v]] w fun e w'=>e=.returned (.int .i64 (mY nm op un dJ p))∧Below w.heap.size w w':=by
 obtain⟨A,cap,rfl,cB⟩:=hv.form
 have HV:=hid hv
 have HO:=hid ho
 clear hv ho
 have HA:=hid ((Below.refl w.heap.size w).alloc (aC _) (.cells #[.slice A p.length cap] 24))
 have bN:=hid (aG.new w 24 #[.slice A p.length cap])
 have HR:=hid (show mY nm op un dJ p=if nW nm op un p≠0 then nW nm op un p else if twice p then 6 else
  match arity p dJ with
  |none=>5
  |some n=>if 0<n then 1 else EF (p.map (pR p)) from rfl)
 have sD:=hid (fun (h:nW nm op un p=0) (f:Fc) (hf:f∈p)=>aML h hf)
 have r7:(w.alloc (.cells #[.slice A p.length cap] 24)).cell? ⟨w.heap.size,0,none⟩=some (.slice A p.length cap):=bN.out.cell 0
 go_enter Tryz.func70,Tryz.ntmps70
 go_upto_region 1 with fail
 generalize w.alloc (.cells #[.slice A p.length cap] 24)=w0 at *
 have hz0:w.heap.size<w0.heap.size:=bN.out.lt
 have IB:=hid (aY4 K hK p (.slice A p.length cap) B w0 (HV.out.below (HA.out.mono hB)) (by omega) hs hp HO.out)
 generalize nW nm op un p=sh at *
 go_wp2_with fail
 refine IB.out.mono ?_
 rintro e1 w1 ⟨rfl,hb1⟩
 have aT:=hid (HA.out.trans (hb1.mono (by omega)))
 have jM:=hid (bN.out.below hb1 hz0)
 have hz1:w.heap.size<w1.heap.size:=jM.out.lt
 clear hb1 r7 IB
 by_cases lS:sh=0
 rotate_left
 · have d_:=hid (HR.out.trans (if_pos lS))
   have b1:((sh:Int) != 0)=true:=bne_iff_ne.2 (by omega)
   clear HR lS
   go_wp2
   go_ret
   exact⟨dC (by rw[d_.out]),aT.out⟩
 have d_:=hid (HR.out.trans (if_neg (by simp[lS])))
 have Q3:=hid (sD.out lS)
 subst lS
 clear HR sD
 go_wp2
 go_loopg [4] p.length (fun g i wr=>∃k:Nat,k≤p.length∧g=p.length-k∧i=.int .i64 k∧Hid (∀j,j<k→uK p (p.getD j bI).name=j)∧Hid (Below w1.heap.size w1 wr))
 case atStart=>exact⟨0,Nat.zero_le _,rfl,rfl,hid (fun j hj=>absurd hj (Nat.not_lt_zero _)),hid (Below.refl _ _)⟩
 obtain⟨k,hk,hq,rfl,he,hb⟩:=hrel
 have Hq:=hid hq
 clear hq
 obtain⟨wo,rfl⟩:∃x:World,x=wr:=⟨_,rfl⟩
 have hz:=hb.out.size
 have HB:=hid (aT.out.trans (hb.out.mono (by omega)))
 have iU:=hid (jM.out.below hb.out hz1)
 have jP:w.heap.size<wo.heap.size:=iU.out.lt
 by_cases hlt:k<p.length
 · obtain⟨a,pv,bv,ML,hab,DV,HJ,FE,eF,cZ⟩:=(HV.out.below (HB.out.mono hB)).at_ hlt
   subst ML
   have co':wo.cell? ⟨w.heap.size,0,none⟩=some (.slice (some a) p.length cap):=iU.out.cell 0
   have co:=j6 jP co'
   have d0:=j6 (mX DV) DV
   have C1:=hid (fun q:BW wo=>aM_ p (.slice (some a) p.length cap) (p.getD k bI).name B q.wd (HV.out.below ((HB.out.trans (q.ok.mono (by omega))).mono hB)) (by have:=q.ok.size;omega) (by omega))
   have HT:=hid (fun h=>bF9 (k:=k) hlt h)
   obtain⟨x,hx⟩:∃x,x=(p.getD k bI).name:=⟨_,rfl⟩
   rw[←hx] at d0 C1 HT
   have Hx:=hid hx
   clear hx DV HJ FE eF cZ
   by_cases hpl:uK p x=k
   · as_aux_lemma=>
     rw[hpl] at C1
     have He2:=hid (show ∀j,j<k+1→uK p (p.getD j bI).name=j from fun j hj=>by
      rcases Nat.lt_succ_iff_lt_or_eq.1 hj with h|h
      · exact he.out j h
      subst h
      rw[←Hx.out]
      exact hpl)
     clear HT hpl
     go_upto_region 7 with fail
     refine kK (by kernel_rfl) (by kernel_rfl) ?_
     repeat (go_big_quiet_step (first|((go_at_call 113;with_reducible exact dE (C1.out _)))))
     refine wpQuiet_nil ?_
     intro _ hw'
     obtain⟨p',hw''⟩:=hw'
     subst hw''
     go_wp2
     go_roundg (p.length-(k+1))
     case rel=>exact⟨k+1,hlt,rfl,by go_num,He2,hid (hb.out.trans (p'.ok.mono hz))⟩
     rw[Hq.out];omega
   as_aux_lemma=>
   have cY:=hid (d_.out.trans (if_pos (HT.out hpl)))
   have b1:(uK p x != (k:Int))=true:=bne_iff_ne.2 hpl
   clear HT hpl
   generalize uK p x=pl at *
   go_upto_region 7 with fail
   refine kK (by kernel_rfl) (by kernel_rfl) ?_
   repeat (go_big_quiet_step (first|((go_at_call 113;with_reducible exact dE (C1.out _)))))
   refine wpQuiet_nil ?_
   intro _ hw'
   obtain⟨p',hw''⟩:=hw'
   subst hw''
   go_wp2
   go_ret
   exact⟨dC (by rw[cY.out];rfl),HB.out.trans (p'.ok.mono (by omega))⟩
 have cY:=hid (d_.out.trans (if_neg (by rw[bHG (fun j hj=>he.out j (by omega))];simp)))
 have co:wo.cell? ⟨w.heap.size,0,none⟩=some (.slice A p.length cap):=iU.out.cell 0
 clear he d_
 have HF:=hid (aM_ p (.slice A p.length cap) dJ B wo (HV.out.below (HB.out.mono hB)) (by omega) (by omega))
 rcases aYB p dJ with⟨ha,hpl⟩|⟨j,hj,hpl,ha⟩
 · as_aux_lemma=>
   have iJ:=hid (cY.out.trans (by rw[ha]))
   rw[hpl] at HF
   clear ha hpl cY
   go_wp2_with fail
   refine HF.out.mono ?_
   rintro e w4 ⟨rfl,hb4⟩
   have L4:=hid (HB.out.trans (hb4.mono (by omega)))
   clear hb4
   go_wp2
   go_ret
   exact⟨dC (by rw[iJ.out];rfl),L4.out⟩
 have iJ:=hid (cY.out.trans (by rw[ha]))
 rw[hpl] at HF
 clear ha hpl cY
 go_wp2_with fail
 refine HF.out.mono ?_
 rintro e w4 ⟨rfl,hb4⟩
 have gY:=hb4.size
 have L4:=hid (HB.out.trans (hb4.mono (by omega)))
 have B4:=hid (iU.out.below hb4 jP)
 have bP9:w.heap.size<w4.heap.size:=B4.out.lt
 clear hb4 co HF
 have co4:w4.cell? ⟨w.heap.size,0,none⟩=some (.slice A p.length cap):=B4.out.cell 0
 obtain⟨aq,pvq,bvq,hAq,bRT,e0,e1,e2,aRO,-⟩:=(HV.out.below (L4.out.mono hB)).at_ hj
 obtain⟨Aq,cq,rfl,hcq,-⟩:=aRO
 have R_:=(Q3.out _ (uI hj)).1
 generalize (p.getD j bI).ps.length=nq at *
 clear e0 e2
 subst hAq
 by_cases rV:0<nq
 · as_aux_lemma=>
   have nN:=hid (iJ.out.trans (if_pos rV))
   have b1:decide ((nq:Int) > 0)=true:=bF (by omega)
   have b2:decide (0<nq)=true:=bF rV
   clear rV
   go_wp2
   go_ret
   exact⟨dC (by rw[nN.out];rfl),L4.out⟩
 have nN:=hid (iJ.out.trans (if_neg rV))
 have b1:decide ((nq:Int) > 0)=false:=bP (by omega)
 have b2:decide (0<nq)=false:=bP rV
 clear rV iJ
 have HPk:=hid (show ∀f∈p,f.ps.length≤140737488355328 from fun f hf=>by have:=(Q3.out f hf).1;omega)
 go_wp2
 go_loopg [6] p.length (fun q i wr=>∃k:Nat,k≤p.length∧q=p.length-k∧i=.int .i64 k∧Hid (EF (p.map (pR p))=EF ((p.drop k).map (pR p)))∧Hid (Below w4.heap.size w4 wr))
 case atStart=>exact⟨0,Nat.zero_le _,rfl,rfl,hid rfl,hid (Below.refl _ _)⟩
 clear hb iU hz
 obtain⟨k,hk,hq,rfl,he,hb⟩:=hrel
 have Hq:=hid hq
 clear hq e1 co4
 obtain⟨wx,rfl⟩:∃x:World,x=wr:=⟨_,rfl⟩
 have hz:=hb.out.size
 have bY:=hid (L4.out.trans (hb.out.mono (by omega)))
 have co':wx.cell? ⟨w.heap.size,0,none⟩=some (.slice (some aq) p.length cap):=(B4.out.below hb.out bP9).cell 0
 have o_:w.heap.size<wx.heap.size:=by omega
 by_cases hlt:k<p.length
 rotate_left
 · as_aux_lemma=>
   have jD:=hid (nN.out.trans (he.out.trans (by rw[show k=p.length by omega,List.drop_length])))
   clear he
   go_wp2
   go_ret
   exact⟨dC (by rw[jD.out];rfl),bY.out⟩
 as_aux_lemma=>
 obtain⟨a,pv,bv,ML,hab,DV,HJ,FE,eF,cZ⟩:=(HV.out.below (bY.out.mono hB)).at_ hlt
 injection ML with ML
 subst ML
 obtain⟨o1,o2,o3,o4,o5⟩:=HO.out.2 _ (uI hlt)
 obtain⟨m1,m2,m3⟩:=Q3.out _ (uI hlt)
 have HE:=hid (he.out.trans (aYJ hlt))
 generalize p.getD k bI=f at *
 have co:=j6 o_ co'
 have d0:=j6 (mX DV) DV
 have d1:=j6 (mX HJ) HJ
 have d2:=j6 (mX FE) FE
 have C2:=hid (fun q:BW wx=>bFA K hK p f (.slice (some aq) p.length cap) pv bv B q.wd (HV.out.below ((bY.out.trans (q.ok.mono (by omega))).mono hB)) (eF.below (q.ok.mono (by omega))) (cZ.below (q.ok.mono (by omega))) (by have:=q.ok.size;omega) hp (by omega) (by omega) o5 o4 HPk.out)
 clear eF cZ o1 o2 o3 o4 o5 m1 m2 m3 DV HJ FE he
 generalize pR p f=nf at *
 go_upto_region 17 with fail
 refine kK (by kernel_rfl) (by kernel_rfl) ?_
 repeat (go_big_quiet_step (first|((go_at_call 114;with_reducible exact dE (C2.out _)))))
 refine wpQuiet_nil ?_
 intro _ hw'
 obtain⟨p',hw''⟩:=hw'
 subst hw''
 have b7:=hid (hb.out.trans (p'.ok.mono hz))
 by_cases hnf:nf=0
 · have bM:=hid (HE.out.trans (if_pos hnf))
   subst hnf
   clear HE
   go_wp2
   go_roundg (p.length-(k+1))
   case rel=>exact⟨k+1,hlt,rfl,by go_num,bM,b7⟩
   rw[Hq.out];omega
 have bM:=hid (nN.out.trans (HE.out.trans (if_neg hnf)))
 have b3:((nf:Int) != 0)=true:=bne_iff_ne.2 (by omega)
 clear HE hnf
 go_wp2
 go_ret
 exact⟨dC (by rw[bM.out]),bY.out.trans (p'.ok.mono (by omega))⟩
namespace Sl
def outP (p:List Fc):Bool:=p.any fun f=>outF f.body
def dD (p:List Fc):Nat:=if mY nm op un dJ p≠0 then mY nm op un dJ p else if outP p then 11 else 0
theorem a0C {p:List Fc} {k:Nat} (hk:k<p.length):outP (p.drop k)=(outF (p.getD k bI).body||outP (p.drop (k+1))):=by
 rw[List.drop_eq_getElem_cons hk,outP,List.any_cons,dR,bX hk]
 rfl
theorem aYN {p:List Fc} (h:mY nm op un dJ p=0):nW nm op un p=0:=by
 unfold mY YV at h
 by_cases h1:nW nm op un p=0
 · exact h1
 rw[if_pos h1] at h
 exact h
theorem aX4:∀(p:List Fc) (acc:Nat),pU p acc<9000→acc+nodes p≤pU p acc
 | [],acc,_=>aC _
 |f::l,acc,h=>by
   rw[pU] at h ⊢
   by_cases h0:9000≤acc
   · rw[if_pos h0] at h;omega
   rw[if_neg h0] at h ⊢
   have h1:=aX4 l _ h
   have h2:=aNL l (acc+(f.name.size / 16+f.ps.length+Fo.weight f.body 0))
   have h3:=Fo.bGU (l:=f.body) (d:=0) (by omega)
   have h4:nodes (f::l)=f.body.cnt+nodes l:=by simp[nodes]
   omega
theorem bFT {p:List Fc} (h:F2 p=false):nodes p+p.length≤2200:=by
 have h1:=of_decide_eq_false h
 have h2:=aX4 p p.length (by omega)
 omega
def YS (p:List Fc):Bool:=F2 p||decide (300<nodes p+p.length)
end Sl
open Sl
theorem bG_ (K:Nat) (hK:K≤140737488355328) (p:List Fc) (v:Value) (B:Nat) (w:World) (hv:eO w B v p) (hB:B≤w.heap.size) (hs:nodes p≤1000000) (hp:p.length≤1000000) (ho:oU K p):
 Calls Tryz.prog 25 #[.agg #[v]] w fun e w'=>e=.returned (.int .i64 (dD p))∧Below w.heap.size w w':=by
 obtain⟨A,cap,rfl,cB⟩:=hv.form
 have HV:=hid hv
 have HO:=hid ho
 clear hv ho
 have HA:=hid ((Below.refl w.heap.size w).alloc (aC _) (.cells #[.slice A p.length cap] 24))
 have bN:=hid (aG.new w 24 #[.slice A p.length cap])
 have HR:=hid (show dD p=if mY nm op un dJ p≠0 then mY nm op un dJ p else if outP p then 11 else 0 from rfl)
 have sD:=hid (fun (h:mY nm op un dJ p=0) (f:Fc) (hf:f∈p)=>aML (aYN h) hf)
 have r7:(w.alloc (.cells #[.slice A p.length cap] 24)).cell? ⟨w.heap.size,0,none⟩=some (.slice A p.length cap):=bN.out.cell 0
 go_enter Tryz.func25,Tryz.ntmps25
 go_upto_region 1 with fail
 generalize w.alloc (.cells #[.slice A p.length cap] 24)=w0 at *
 have hz0:w.heap.size<w0.heap.size:=bN.out.lt
 have IB:=hid (bHB K hK p (.slice A p.length cap) B w0 (HV.out.below (HA.out.mono hB)) (by omega) hs hp HO.out)
 generalize mY nm op un dJ p=sh at *
 go_wp2_with fail
 refine IB.out.mono ?_
 rintro e1 w1 ⟨rfl,hb1⟩
 have aT:=hid (HA.out.trans (hb1.mono (by omega)))
 have jM:=hid (bN.out.below hb1 hz0)
 have hz1:w.heap.size<w1.heap.size:=jM.out.lt
 clear hb1 r7 IB
 by_cases lS:sh=0
 rotate_left
 · have d_:=hid (HR.out.trans (if_pos lS))
   have b1:((sh:Int) != 0)=true:=bne_iff_ne.2 (by omega)
   clear HR lS
   go_wp2
   go_ret
   exact⟨dC (by rw[d_.out]),aT.out⟩
 have d_:=hid (HR.out.trans (if_neg (by simp[lS])))
 have Q3:=hid (sD.out lS)
 subst lS
 clear HR sD
 go_wp2
 go_loopg [4] p.length (fun g i wr=>∃k:Nat,k≤p.length∧g=p.length-k∧i=.int .i64 k∧Hid (outP p=outP (p.drop k))∧Hid (Below w1.heap.size w1 wr))
 case atStart=>exact⟨0,Nat.zero_le _,rfl,rfl,hid rfl,hid (Below.refl _ _)⟩
 obtain⟨k,hk,hq,rfl,he,hb⟩:=hrel
 have Hq:=hid hq
 clear hq
 obtain⟨wo,rfl⟩:∃x:World,x=wr:=⟨_,rfl⟩
 have hz:=hb.out.size
 have HB:=hid (aT.out.trans (hb.out.mono (by omega)))
 have iU:=hid (jM.out.below hb.out hz1)
 have jP:w.heap.size<wo.heap.size:=iU.out.lt
 have co:wo.cell? ⟨w.heap.size,0,none⟩=some (.slice A p.length cap):=iU.out.cell 0
 by_cases hlt:k<p.length
 rotate_left
 · have cY:=hid (d_.out.trans (if_neg (by rw[he.out,show k=p.length by omega,List.drop_length];simp[outP])))
   clear he
   go_wp2
   go_ret
   exact⟨dC (by rw[cY.out];rfl),HB.out⟩
 obtain⟨o1,o2,o3,o4,o5⟩:=HO.out.2 _ (uI hlt)
 obtain⟨m1,m2,m3⟩:=Q3.out _ (uI hlt)
 have HE:=hid (he.out.trans (a0C hlt))
 have M3:=hid (fun W (hW:eO W B (.slice A p.length cap) p)=>hW.at_ hlt)
 obtain⟨f,hf⟩:∃f,f=p.getD k bI:=⟨_,rfl⟩
 rw[←hf] at HE M3 o4 m2
 clear hf he o1 o2 o3 o5 m1 m3
 go_wp2
 go_loopg [5] f.body.len (fun g i wr=>∃q:Nat,q≤f.body.len∧g=f.body.len-q∧i=.int .i64 q∧Hid (outF f.body=outF (Fo.drop q f.body))∧Hid (Below wo.heap.size wo wr))
 case atStart=>exact⟨0,Nat.zero_le _,rfl,rfl,hid (by rw[Fo.drop]),hid (Below.refl _ _)⟩
 obtain⟨q,hq,hg,rfl,he,hby⟩:=hrel
 have Hg:=hid hg
 clear hg co
 obtain⟨wy,rfl⟩:∃x:World,x=wr:=⟨_,rfl⟩
 have J0:=hby.out.size
 have HBy:=hid (iU.out.below hby.out jP)
 have sB:=hid (HB.out.trans (hby.out.mono (by omega)))
 have cy:wy.cell? ⟨w.heap.size,0,none⟩=some (.slice A p.length cap):=HBy.out.cell 0
 obtain⟨a,pv,bv,rfl,hab,d0,d1,d2,eF,cZ⟩:=M3.out wy (HV.out.below (sB.out.mono hB))
 obtain⟨Ab,cb,rfl,hcb⟩:=cZ.form
 have E_:=Fo.k7 f.body
 clear d0 d1 eF
 by_cases R_:q<f.body.len
 rotate_left
 · have pK:=hid (he.out.trans (by rw[show q=f.body.len by omega,gB,outF]:_=false))
   have HE4:=hid (show outP p=outP (p.drop (k+1)) by rw[HE.out,pK.out,Bool.false_or])
   clear he cZ
   go_wp2
   go_roundg (p.length-(k+1))
   case rel=>exact⟨k+1,hlt,rfl,by go_num,HE4,hid (hb.out.trans (hby.out.mono hz))⟩
   rw[Hq.out];omega
 obtain⟨a2,kk,tt,nn,s',C8,b',e',r',zT,l7,mD,AH,hA,aI,hno⟩:=cZ.at_ R_
 subst hA
 have dL:=kN aI
 have pK:=hid (he.out.trans (XX aI))
 have HC:=hid (bFG (1+s'.cnt+b'.cnt+e'.cnt) kk tt nn s' C8 b' e' zT l7 mD AH B wy (aC _) (by omega) hno.vals (by omega))
 obtain⟨c0,c1,c2,c3,c4,c5,c6⟩:=hno.cells
 have Hd:=hid aI
 clear aI hno cZ
 generalize sX kk s' b' e'=ob at *
 cases ob with
 |true=>as_aux_lemma=>
  have cY:=hid (d_.out.trans (if_pos (by rw[HE.out,pK.out];simp)))
  go_wp2_with fail
  refine HC.out.mono ?_
  rintro e1 w5 ⟨rfl,aQ⟩
  have a_:=hid (sB.out.trans (aQ.mono (by omega)))
  clear aQ
  go_wp2
  go_ret
  exact⟨dC (by rw[cY.out];rfl),a_.out⟩
 |false=>as_aux_lemma=>
  have bM:=hid (pK.out.trans (Bool.false_or _))
  go_wp2_with fail
  refine HC.out.mono ?_
  rintro e1 w5 ⟨rfl,aQ⟩
  have a_:=hid (hby.out.trans (aQ.mono J0))
  clear aQ
  go_wp2
  go_roundg (f.body.len-(q+1))
  case rel=>exact⟨q+1,R_,rfl,by go_num,hid (by rw[eD Hd.out];exact bM.out),a_⟩
  rw[Hg.out];omega
theorem bH1 (K:Nat) (hK:K≤140737488355328) (p:List Fc) (v:Value) (B:Nat) (w:World) (hv:eO w B v p) (hB:B≤w.heap.size) (ho:oU K p):
 Calls Tryz.prog 11 #[.agg #[v]] w fun e w'=>e=.returned (.bool (YS p))∧Below w.heap.size w w':=by
 obtain⟨A,cap,rfl,cB⟩:=hv.form
 have HV:=hid hv
 have HO:=hid ho
 clear hv ho
 have HA:=hid ((Below.refl w.heap.size w).alloc (aC _) (.cells #[.slice A p.length cap] 24))
 have bN:=hid (aG.new w 24 #[.slice A p.length cap])
 have HR:=hid (show YS p=(F2 p||decide (300<nodes p+p.length)) from rfl)
 have r7:(w.alloc (.cells #[.slice A p.length cap] 24)).cell? ⟨w.heap.size,0,none⟩=some (.slice A p.length cap):=bN.out.cell 0
 go_enter Tryz.func11,Tryz.ntmps11
 go_upto_region 1 with fail
 generalize w.alloc (.cells #[.slice A p.length cap] 24)=w0 at *
 have hz0:w.heap.size<w0.heap.size:=bN.out.lt
 have sD:=hid (fun h:F2 p=false=>bFT h)
 have HG:=hid (bH2 K hK p (.slice A p.length cap) B w0 (HV.out.below (HA.out.mono hB)) (by omega) HO.out)
 generalize F2 p=g1 at *
 go_wp2_with fail
 refine HG.out.mono ?_
 rintro e1 w1 ⟨rfl,hb1⟩
 have aT:=hid (HA.out.trans (hb1.mono (by omega)))
 have jM:=hid (bN.out.below hb1 hz0)
 have hz1:w.heap.size<w1.heap.size:=jM.out.lt
 clear hb1 r7 HG
 have S8:w1.cell? ⟨w.heap.size,0,none⟩=some (.slice A p.length cap):=jM.out.cell 0
 cases g1 with
 |true=>
  have d_:=hid (HR.out.trans (Bool.true_or _))
  clear HR
  go_wp2
  go_ret
  exact⟨aR d_.out.symm,aT.out⟩
 |false=>
  have d_:=hid (HR.out.trans (Bool.false_or _))
  have hsm:=sD.out rfl
  have HN:=hid (aY5 p (.slice A p.length cap) B w1 (HV.out.below (aT.out.mono hB)) (by omega) (by omega) (by omega))
  clear HR
  clear sD
  generalize nodes p=nn at *
  generalize depth p=dd at *
  go_wp2_with fail
  refine HN.out.mono ?_
  rintro e1 w2 ⟨rfl,hb2⟩
  have bY:=hid (aT.out.trans (hb2.mono (by omega)))
  have c02:w2.cell? ⟨w.heap.size,0,none⟩=some (.slice A p.length cap):=(jM.out.below hb2 hz1).cell 0
  clear hb2 S8 HN
  go_wp2
  go_ret
  exact⟨aR (by rw[d_.out];simp;omega),bY.out⟩
end
section
namespace Sl
namespace Fo
def own:Fo→Fo
 |nil=>nil
 |cons k t n s ps b e r=>cons k t n s ps b e (app (own s) (own r))
def fns:Fo→Fo
 |nil=>nil
 |cons k t n s ps b e r=>if k=10 then cons k t n s ps b e (fns r) else fns r
def aL:Fo→Bool→List Nat
 |nil,_=>[]
 |cons _ _ _ s _ b e r,false=>(1+aD s true+aD b false+aD e false)::(aL s true++aL b false++aL e false++aL r false)
 |cons k _ _ s _ b _ r,true=>aL s true++(if k=10 then aL b false else [])++aL r true
theorem aOY:∀l:Fo,app l nil=l
 |nil=>rfl
 |cons k t n s ps b e r=>by rw[app,aOY r]
theorem aD0:∀a b c:Fo,app (app a b) c=app a (app b c)
 |nil,_,_=>rfl
 |cons k t n s ps b e r,y,z=>by rw[app,app,app,aD0 r]
theorem I5:∀a b:Fo,(app a b).len=a.len+b.len
 |nil,b=>by rw[app,len,Nat.zero_add]
 |cons k t n s ps b e r,y=>by rw[app,len,len,I5 r];omega
theorem KU:∀l:Fo,(own l).len≤l.cnt
 |nil=>Nat.le_refl _
 |cons k t n s ps b e r=>by
   have h1:=KU s
   have h2:=KU r
   rw[own,len,cnt,I5]
   omega
theorem KV:∀a b:Fo,fns (app a b)=app (fns a) (fns b)
 |nil,_=>rfl
 |cons k t n s ps b e r,y=>by
   rw[app,fns,fns]
   by_cases h:k=10
   · rw[if_pos h,if_pos h,app,KV r]
   rw[if_neg h,if_neg h,KV r]
theorem a2Y:∀l:Fo,(fns l).len≤l.len
 |nil=>Nat.le_refl _
 |cons k t n s ps b e r=>by
   have:=a2Y r
   rw[fns]
   split<;>simp only[len]<;>omega
theorem oO:∀(l:Fo) (ex:Bool),(aL l ex).length=aD l ex
 |nil,_=>by simp[aL,aD]
 |cons _ _ _ s _ b e r,false=>by
   rw[aL,aD,List.length_cons,List.length_append,List.length_append,List.length_append,oO s,oO b,oO e,oO r];omega
 |cons k _ _ s _ b _ r,true=>by
   rw[aL,aD,List.length_append,List.length_append,oO s,oO r]
   by_cases h:k=10
   · rw[if_pos h,if_pos h,oO b]
   rw[if_neg h,if_neg h];rfl
theorem jX:∀(l:Fo) (ex:Bool),aD l ex≤l.cnt
 |nil,_=>by simp[aD,cnt]
 |cons _ _ _ s _ b e r,false=>by
   have h1:=jX s true
   have h2:=jX b false
   have h3:=jX e false
   have h4:=jX r false
   rw[aD,cnt];omega
 |cons k _ _ s _ b e r,true=>by
   have h1:=jX s true
   have h2:=jX b false
   have h4:=jX r true
   rw[aD,cnt]
   split<;>omega
def heads:Fo→List (Nat×aA)
 |nil=>[]
 |cons k t _ _ _ _ _ r=>(k,t)::heads r
theorem aNJ:∀a b:Fo,heads (app a b)=heads a++heads b
 |nil,_=>rfl
 |cons k t n s ps b e r,y=>by rw[app,heads,heads,aNJ r,List.cons_append]
end Fo
end Sl
end
section
open Go.RowKit
namespace Sl
def Y8 (W:World) (B:Nat) (xs:List Value) (l:Fo):Prop:=Flat W B l xs
theorem a2A {W:World} {B:Nat}:∀{l m:Fo} {xs ys:List Value},Flat W B l xs→Flat W B m ys→Flat W B (Fo.app l m) (xs++ys)
 |.nil,_,xs,ys,h,h'=>by
   unfold Flat at h
   subst h
   rw[Fo.app]
   exact h'
 |.cons k t n s ps b e r,m,xs,ys,h,h'=>by
   obtain⟨sv,pv,bv,ev,zs,rfl,hn,hr⟩:=X1 h
   rw[Fo.app]
   exact UE hn (a2A hr h')
theorem bLR (W:World) (B:Nat):UO 7 (Y8 W B) Fo.len Fo.app where
 F_:=fun {xs l} h=>by
  unfold Y8 at h
  induction l generalizing xs with
  |nil=>unfold Flat at h;subst h;simp
  |cons k t n s ps b e r _ _ _ ih=>
   obtain⟨sv,pv,bv,ev,zs,rfl,hn,hr⟩:=X1 h
   obtain⟨As,cs,rfl,-⟩:=hn.subs.form
   obtain⟨Ab,cb,rfl,-⟩:=hn.body.form
   obtain⟨Ae,ce,rfl,-⟩:=hn.els.form
   obtain⟨Ap,cp,rfl,-⟩:=hn.aX
   intro u hu
   simp only[List.mem_cons] at hu
   rcases hu with rfl|rfl|rfl|rfl|rfl|rfl|rfl|hu
   · rfl
   · rfl
   · rfl
   · rfl
   · rfl
   · rfl
   · rfl
   exact ih hr u hu
 VL:=fun h1 h2=>a2A h1 h2
 len_:=Fo.I5
end Sl
open Sl
def lX (W:World) (B:Nat) (w:World) (base:Nat) (v:Value) (l:Fo):Prop:=aF 69 7 (Y8 W B) Fo.len w base v l
theorem bJY:(Tryz.prog.info? 69).map (fun i=>(i.zero,i.size,i.bytes))=some (some (.agg #[.int .u8 0,.string ByteArray.empty,.int .i64 0,.slice none 0 0,.slice none 0 0,.slice none 0 0,.slice none 0 0]),7,128):=by kernel_rfl
theorem aMH {w:World} {ops:Array Oper} {rest:List Oper} {o:Oper} {a:Act} {Q:Exit→Act→World→Prop} (W:World) (B0:Nat) (hgd:o.guard=none) (s x:Operand)
 (ho:o.op=.call { callee:=.builtin .append,args:=#[s,x],argTypes:=#[66,66] })
 (base:Nat) (v:Value) (l:Fo) (hs:a.eval s=v) (hown:lX W B0 w base v l)
 (B:Nat) (A:Option Addr) (m c:Nat) (src:Fo) (news:List Value) (hx:a.eval x=.slice A m c) (hm:m=src.len) (hr:Reads w B 7 A m news) (hR:Flat W B0 src news)
 (hlen:l.len+m≤1000000000) (hbase:base≤w.heap.size)
 (h:∀v' w',lX W B0 w' base v' (Fo.app l src)→w.grownBy w' v.ownBlock→wpList Tryz.prog ops Q rest (a.put o.dst v') w'):wpList Tryz.prog ops Q (o::rest) a w:=by
 obtain⟨i0,SC,hz0,hz1,hz2⟩:=info_parts bJY
 exact aDN (bLR W B0) hgd s x 66 ho base i0 _ 128 Tryz.underlying66 SC hz0 hz1 hz2 rfl (by decide) v l hs hown B A m c src news hx hm hr hR (by unfold maxLen;omega) (by omega) hbase (fun v' w' h1 h2 _=>h v' w' h1 h2)
def a0_ (W:World) (B:Nat) (w:World) (l:Fo) (e:Ending) (w':World):Prop:=∃v,e=.returned v∧lX W B w' w.heap.size v l∧Below w.heap.size w w'
theorem lX.at_ {W w:World} {B base:Nat} {v:Value} {l:Fo} (h:lX W B w base v l) {i:Nat} (hi:i<l.len):
 ∃a c k t n s ps b e r sv pv bv ev,v=.slice (some a) l.len c∧Fo.drop i l=.cons k t n s ps b e r∧lY W B sv pv bv ev s ps b e∧a.block<w.heap.size∧w.cell? (a.add (i*7))=some (.int .u8 k)∧
  w.cell? ⟨(a.add (i*7)).block,(a.add (i*7)).off+1,none⟩=some (.string t)∧w.cell? ⟨(a.add (i*7)).block,(a.add (i*7)).off+2,none⟩=some (.int .i64 n)∧w.cell? ⟨(a.add (i*7)).block,(a.add (i*7)).off+3,none⟩=some sv∧
  w.cell? ⟨(a.add (i*7)).block,(a.add (i*7)).off+4,none⟩=some pv∧w.cell? ⟨(a.add (i*7)).block,(a.add (i*7)).off+5,none⟩=some bv∧w.cell? ⟨(a.add (i*7)).block,(a.add (i*7)).off+6,none⟩=some ev:=by
 obtain⟨A,c,news,h1,h2,h3,h4⟩:=aF.src h
 obtain⟨k,t,n,s,ps,b,e,r,sv,pv,bv,ev,hd,hn,x0,x1,x2,x3,x4,x5,x6⟩:=Flat.at_ i h4 hi
 obtain⟨a,rfl,hb,hc⟩:=h3.2 (by omega)
 exact⟨a,c,k,t,n,s,ps,b,e,r,sv,pv,bv,ev,h1,hd,hn,hb,hc _ _ x0,rE (by decide) (hc _ _ x1),rE (by decide) (hc _ _ x2),rE (by decide) (hc _ _ x3),rE (by decide) (hc _ _ x4),rE (by decide) (hc _ _ x5),rE (by decide) (hc _ _ x6)⟩
theorem bLQ {i:Nat} {l:Fo} {k:Nat} {t:aA} {n:Int} {s:Fo} {ps:List aA} {b e r:Fo} (h:Fo.drop i l=.cons k t n s ps b e r):Fo.fns (Fo.drop i l)=if k=10 then .cons k t n s ps b e (Fo.fns r) else Fo.fns r:=by rw[h,Fo.fns]
end
end Go.Proofs.YtdlndhbkcgmkkaaGreatDoor
