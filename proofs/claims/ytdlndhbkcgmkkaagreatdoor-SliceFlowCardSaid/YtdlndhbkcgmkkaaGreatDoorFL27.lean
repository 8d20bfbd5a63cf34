/-
 Part 27 of 35 of a proof about the given program: facts on which the last part stands.
-/
import Derived.Test.YtdlndhbkcgmkkaaGreatDoorFL26
import Derived.ProofKit
set_option maxHeartbeats 12800000
set_option linter.unusedVariables false
set_option linter.unusedSimpArgs false
set_option maxRecDepth 100000
namespace Go.Proofs.YtdlndhbkcgmkkaaGreatDoor
section
open Go.RowKit
open Sl
open Go.Lib (hid)
namespace Sl
noncomputable def U3 (L:List bO) (n:Nat) (u:Int) (y:aA) (i:Nat):Bool:=
 match L[i]? with
 |none=>false
 |some z=>decide (z.unit=u)&&(BO z y&&BU (yC L i y) (fB z) (n:Int))
end Sl
theorem bFH (g F0 n:Nat) (y:aA) (x:bO) (L:List bO) (w:World) (h:FT w g F0 L) (hx:L[n]?=some x)
 (hr:∀(i:Nat) (r:bO),L[i]?=some r→∀z∈fB r++lQ r,-1≤z∧z<(L.length:Int)):
 Calls Tryz.prog 22 #[.pointer (some ⟨g,0,none⟩),.int .i64 (n:Nat),.string y] w fun e w'=>∃v,e=.returned v∧aW w' w.heap.size v (ints ((List.range L.length).filter (U3 L n x.unit y)))∧Below w.heap.size w w':=by
 have H:=hid h
 have CE:=hid hr
 have WM:=h.len
 have z7:g<w.heap.size:=h.lt
 have hnN:=(mK.1 hx).1
 obtain⟨⟨W,B,base,Ap,cp,zv,xv,Z,tv,f,hb⟩,-,-⟩:=h
 obtain⟨-,g1,-,-,-⟩:=pN hb.blk
 obtain⟨tb,ct,CL,rfl,-,-,hbl,-,hC,cC,-⟩:=cP.at_ hb.tab uG hx
 have u1:w.cell? ⟨tb,n*18+8,none⟩=some (.int .i64 x.unit):=(cC 8 (by decide)).trans (KR hC).2.2.2.2.1
 have M3:=hid (show ∀m z,L[m]?=some z→w.cell? ⟨tb,m*18+8,none⟩=some (.int .i64 z.unit) from fun m z hz=>by
  obtain⟨tb2,ct2,CL2,hv,-,-,-,-,hC2,JM,-⟩:=cP.at_ hb.tab uG hz
  injection hv with hA;injection hA with hA;injection hA with hA
  subst hA
  exact (JM 8 (by decide)).trans (KR hC2).2.2.2.2.1)
 obtain⟨F,hF⟩:∃F,F=U3 L n x.unit y:=⟨_,rfl⟩
 rw[←hF]
 have HF:=hid hF
 generalize x.unit=un at *
 clear hr hx hb hF hC cC
 have zZ:(0:Int)≤((n:Nat):Int):=Int.natCast_nonneg _
 go_enter Tryz.func22,Tryz.ntmps22
 go_wp2
 go_loopg [7,8] L.length (fun q v i wr=>∃(vv:Value) (k:Nat),vv=v∧k≤L.length∧q=L.length-k∧i=.int .i64 k∧Hid (aW wr w.heap.size v (ints ((List.range k).filter F)))∧Hid (Below w.heap.size w wr))
 case atStart=>exact⟨_,0,rfl,Nat.zero_le _,rfl,rfl,hid (EB w _),hid (Below.refl _ _)⟩
 obtain⟨vv,k,rfl,hk,hq,rfl,ho,hb⟩:=hrel
 have Hq:=hid hq
 clear hq
 obtain⟨wo,rfl⟩:∃z:World,z=wr:=⟨_,rfl⟩
 have hz:w.heap.size≤wo.heap.size:=hb.out.size
 by_cases hlt:k<L.length
 rotate_left
 · have HE:=hid (show k=L.length by omega)
   have d1:=(hb.out.cell (p:=⟨g,1,none⟩) z7).trans g1
   obtain⟨A,c,hv,-⟩:=jJ ho.out
   subst hv
   go_wp2
   go_ret
   exact⟨_,rfl,by rw[←HE.out];exact ho.out,hb.out⟩
 obtain⟨z,GK⟩:∃z,L[k]?=some z:=⟨L[k],bX hlt⟩
 have z2:=M3.out k z GK
 have HZ:=hid GK
 have d1:=(hb.out.cell (p:=⟨g,1,none⟩) z7).trans g1
 have d4:=(hb.out.cell (p:=⟨tb,n*18+8,none⟩) hbl).trans u1
 have d5:=(hb.out.cell (p:=⟨tb,k*18+8,none⟩) hbl).trans z2
 have e1:=j6 (show g<wo.heap.size by omega) d1
 have e4:=j6 (show tb<wo.heap.size by omega) d4
 have e5:=j6 (show tb<wo.heap.size by omega) d5
 have CD:=hid (fun pw:BW wo=>(aYK g F0 k z y L pw.wd (H.out.below (hb.out.trans (pw.ok.mono hz))) GK).mono (R':=fun e w'=>e=.returned (.bool (BO z y))∧Below pw.wd.heap.size pw.wd w') (fun e w' h=>⟨h.1,by rw[←h.2];exact Below.refl _ _⟩))
 have CR:=hid (fun pw:BW wo=>bF7 g F0 k (n:Nat) y z L pw.wd (H.out.below (hb.out.trans (pw.ok.mono hz))) GK zZ CE.out)
 have d_:=hid (show (List.range (k+1)).filter F=(List.range k).filter F++if F k then [k] else [] by
  rw[List.range_succ,List.filter_append]
  congr 1
  by_cases h:F k<;>simp[h])
 have HFk:=hid (show F k=(decide (z.unit=un)&&(BO z y&&BU (yC L k y) (fB z) (n:Int))) by rw[HF.out];unfold U3;rw[HZ.out])
 clear z2 GK
 generalize z.unit=zu at *
 generalize BO z y=df at *
 generalize BU (yC L k y) (fB z) (n:Int)=rc at *
 obtain⟨RL,GZ⟩:∃z,z=(List.range k).filter F:=⟨_,rfl⟩
 have bRW:RL.length≤100000:=by
  rw[GZ]
  have h1:=List.length_filter_le F (List.range k)
  rw[List.length_range] at h1
  omega
 rw[←GZ] at ho d_
 clear GZ
 by_cases hu:zu=un
 rotate_left
 · have b1:(zu==un)=false:=aP (by omega)
   have HX:=hid (show (if F k then [k] else [])=[] by rw[HFk.out,bP hu];rfl)
   clear hu
   go_upto_region 5 with fail
   refine kK (by kernel_rfl) (by kernel_rfl) ?_
   repeat (go_big_quiet_step (first|((go_at_call 65;with_reducible exact dE (CD.out _)))|((go_at_call 66;with_reducible exact dE (CR.out _)))))
   refine wpQuiet_nil ?_
   intro _ hw'
   obtain⟨pw,hw''⟩:=hw'
   subst hw''
   have cK:=hid (gW ho.out pw.ok (aC _))
   have a_:=hid (hb.out.trans (pw.ok.mono hz))
   go_wp2
   go_roundg (L.length-(k+1))
   case rel=>exact⟨_,k+1,rfl,hlt,rfl,by go_num,hid (by rw[d_.out,HX.out,List.append_nil];exact cK.out),a_⟩
   rw[Hq.out];omega
 have b1:(zu==un)=true:=beq_iff_eq.2 (by omega)
 have Q8:=hid (show F k=(df&&rc) by rw[HFk.out,bF hu,Bool.true_and])
 clear hu
 cases df with
 |false=>
  have HX:=hid (show (if F k then [k] else [])=[] by rw[Q8.out];rfl)
  go_upto_region 5 with fail
  refine kK (by kernel_rfl) (by kernel_rfl) ?_
  repeat (go_big_quiet_step (first|((go_at_call 65;with_reducible exact dE (CD.out _)))|((go_at_call 66;with_reducible exact dE (CR.out _)))))
  refine wpQuiet_nil ?_
  intro _ hw'
  obtain⟨pw,hw''⟩:=hw'
  subst hw''
  have cK:=hid (gW ho.out pw.ok (aC _))
  have a_:=hid (hb.out.trans (pw.ok.mono hz))
  go_wp2
  go_roundg (L.length-(k+1))
  case rel=>exact⟨_,k+1,rfl,hlt,rfl,by go_num,hid (by rw[d_.out,HX.out,List.append_nil];exact cK.out),a_⟩
  rw[Hq.out];omega
 |true=>
  cases rc with
  |false=>
   have HX:=hid (show (if F k then [k] else [])=[] by rw[Q8.out];rfl)
   go_upto_region 5 with fail
   refine kK (by kernel_rfl) (by kernel_rfl) ?_
   repeat (go_big_quiet_step (first|((go_at_call 65;with_reducible exact dE (CD.out _)))|((go_at_call 66;with_reducible exact dE (CR.out _)))))
   refine wpQuiet_nil ?_
   intro _ hw'
   obtain⟨pw,hw''⟩:=hw'
   subst hw''
   have cK:=hid (gW ho.out pw.ok (aC _))
   have a_:=hid (hb.out.trans (pw.ok.mono hz))
   go_wp2
   go_roundg (L.length-(k+1))
   case rel=>exact⟨_,k+1,rfl,hlt,rfl,by go_num,hid (by rw[d_.out,HX.out,List.append_nil];exact cK.out),a_⟩
   rw[Hq.out];omega
  |true=>
   have HX:=hid (show (if F k then [k] else [])=[k] by rw[Q8.out];rfl)
   go_upto_region 5 with fail
   refine kK (by kernel_rfl) (by kernel_rfl) ?_
   repeat (go_big_quiet_step (first|((go_at_call 65;with_reducible exact dE (CD.out _)))|((go_at_call 66;with_reducible exact dE (CR.out _)))))
   refine wpQuiet_nil ?_
   intro _ hw'
   obtain⟨pw,hw''⟩:=hw'
   subst hw''
   have cK:=hid (gW ho.out pw.ok (aC _))
   have a_:=hid (hb.out.trans (pw.ok.mono hz))
   obtain⟨w5,hw5⟩:∃z:World,z=pw.wd:=⟨_,rfl⟩
   rw[←hw5] at cK a_ ⊢
   clear hw5
   have dG:=hid ((Below.refl w5.heap.size w5).alloc (aC _) (.cells #[.int .i64 (k:Nat)] 3))
   have gJ:=hid (gW cK.out dG.out (aC _))
   have oC:w.heap.size≤w5.heap.size:=a_.out.size
   have mN:w.heap.size≤(w5.alloc (.cells #[.int .i64 (k:Nat)] 3)).heap.size:=Nat.le_trans oC dG.out.size
   have PT:(ints RL).length≤1000000000:=by unfold ints;rw[cL];omega
   go_wp2_with (at_builtin;go_must (refine aMI rfl _ _ rfl w.heap.size _ (ints RL) (k:Nat) rfl gJ.out _ _ _ rfl XV PT mN ?_))
   intro v7 w7 j2 eM JO
   have KD:=hid (show aW w7 w.heap.size v7 (ints (RL++[k])) by unfold ints at j2 ⊢;rw[List.map_append];exact j2)
   have nP:=hid ((a_.out.trans (dG.out.mono oC)).grown eM mN (fun j hj=>(World.ownsRow.lt gJ.out j hj).1))
   clear j2 eM JO gJ cK a_ dG mN PT
   go_wp2
   go_roundg (L.length-(k+1))
   case rel=>exact⟨_,k+1,rfl,hlt,rfl,by go_num,hid (by rw[d_.out,HX.out];exact KD.out),nP⟩
   rw[Hq.out];omega
theorem bFP (c:Nat) (HI:∀(l:Fo) (v:Value) (B:Nat) (w:World),l.cnt<c→cM w B v l→B≤w.heap.size→
 Calls Tryz.prog 69 #[v] w fun e w'=>e=.returned (.bool (!outF l))∧Below w.heap.size w w')
 (k:Nat) (t:aA) (n:Int) (s:Fo) (ps:List aA) (b e:Fo) (sv pv bv ev:Value) (B:Nat) (w:World) (hc:1+s.cnt+b.cnt+e.cnt≤c) (hv:lY w B sv pv bv ev s ps b e) (hB:B≤w.heap.size):
 Calls Tryz.prog 112 #[.agg #[.int .u8 k,.string t,.int .i64 n,sv,pv,bv,ev]] w fun e1 w'=>e1=.returned (.bool (sX k s b e))∧Below w.heap.size w w':=by
 have rW:=Fo.k7 s
 have E_:=Fo.k7 b
 have hle:=Fo.k7 e
 obtain⟨As,cs,rfl,hcs⟩:=hv.subs.form
 obtain⟨Ab,cb,rfl,hcb⟩:=hv.body.form
 obtain⟨Ae,ce,rfl,hce⟩:=hv.els.form
 have lJ:=hid hv
 obtain⟨Ap,cp,rfl,kX,-⟩:=hv.aX
 have HI:=hid HI
 clear hv
 have OW:=hid ((Below.refl w.heap.size w).alloc (aC _) (.cells #[.int .u8 k,.string t,.int .i64 n,.slice As s.len cs,.slice Ap ps.length cp,.slice Ab b.len cb,.slice Ae e.len ce] 69))
 have OV:=hid (aG.new w 69 #[.int .u8 k,.string t,.int .i64 n,.slice As s.len cs,.slice Ap ps.length cp,.slice Ab b.len cb,.slice Ae e.len ce])
 go_enter Tryz.func112,Tryz.ntmps112
 go_upto_region 1 with fail
 generalize w.alloc (.cells #[.int .u8 k,.string t,.int .i64 n,.slice As s.len cs,.slice Ap ps.length cp,.slice Ab b.len cb,.slice Ae e.len ce] 69)=w1 at *
 obtain⟨a0,a1,a2,a3,a4,a5,a6⟩:=j5 OV.out
 have rR:=OV.out.lt
 by_cases hk:k=13∨k=22∨k=23∨k=24
 · have HR:=hid (show sX k s b e=true by rw[QL,show QU k=true from bF hk];simp)
   rcases hk with rfl|rfl|rfl|rfl<;>
   (go_wp2
    go_ret
    exact⟨aR HR.out.symm,OW.out⟩)
 have HK:=hid (show QU k=false from bP hk)
 have G_:((k:Int)==13)=false:=aP (by omega)
 have e22:((k:Int)==22)=false:=aP (by omega)
 have e23:((k:Int)==23)=false:=aP (by omega)
 have e24:((k:Int)==24)=false:=aP (by omega)
 clear hk
 have HO:=hid (show sX k s b e=(outF s||outF b||outF e) by rw[QL,HK.out,Bool.false_or])
 have fH:=hid (HI.out s (.slice As s.len cs) B w1 (by omega) (lJ.out.subs.below (OW.out.mono hB)) (by omega))
 have iM:=hid (fun W (h:Below w.heap.size w W)=>HI.out b (.slice Ab b.len cb) B W (by omega) (lJ.out.body.below (h.mono hB)) (by have:=h.size;omega))
 have MZ:=hid (fun W (h:Below w.heap.size w W)=>HI.out e (.slice Ae e.len ce) B W (by omega) (lJ.out.els.below (h.mono hB)) (by have:=h.size;omega))
 clear HI lJ
 generalize outF s=os at *
 generalize outF b=ob at *
 generalize outF e=oe at *
 cases os with
 |true=>as_aux_lemma=>
  go_wp2_with fail
  refine fH.out.mono ?_
  rintro e1 w2 ⟨rfl,OO⟩
  have LQ:=hid (OW.out.trans (OO.mono OW.out.size))
  have LO:=hid (OV.out.below OO OV.out.lt)
  obtain⟨a0,a1,a2,a3,a4,a5,a6⟩:=j5 LO.out
  go_wp2
  go_ret
  exact⟨aR (by rw[HO.out];rfl),LQ.out⟩
 |false=>
  cases ob with
  |true=>as_aux_lemma=>
   go_wp2_with fail
   refine fH.out.mono ?_
   rintro e1 w2 ⟨rfl,OO⟩
   have LQ:=hid (OW.out.trans (OO.mono OW.out.size))
   have LO:=hid (OV.out.below OO OV.out.lt)
   obtain⟨a0,a1,a2,a3,a4,a5,a6⟩:=j5 LO.out
   have HC:=hid (iM.out w2 LQ.out)
   go_wp2_with fail
   refine HC.out.mono ?_
   rintro e1 w3 ⟨rfl,ZU⟩
   have RH:=hid (LQ.out.trans (ZU.mono LQ.out.size))
   have Q7:=hid (LO.out.below ZU LO.out.lt)
   obtain⟨a0,a1,a2,a3,a4,a5,a6⟩:=j5 Q7.out
   go_wp2
   go_ret
   exact⟨aR (by rw[HO.out];rfl),RH.out⟩
  |false=>as_aux_lemma=>
   go_wp2_with fail
   refine fH.out.mono ?_
   rintro e1 w2 ⟨rfl,OO⟩
   have LQ:=hid (OW.out.trans (OO.mono OW.out.size))
   have LO:=hid (OV.out.below OO OV.out.lt)
   obtain⟨a0,a1,a2,a3,a4,a5,a6⟩:=j5 LO.out
   have HC:=hid (iM.out w2 LQ.out)
   go_wp2_with fail
   refine HC.out.mono ?_
   rintro e1 w3 ⟨rfl,ZU⟩
   have RH:=hid (LQ.out.trans (ZU.mono LQ.out.size))
   have Q7:=hid (LO.out.below ZU LO.out.lt)
   obtain⟨a0,a1,a2,a3,a4,a5,a6⟩:=j5 Q7.out
   have HD:=hid (MZ.out w3 RH.out)
   cases oe with
   |true=>
    go_wp2_with fail
    refine HD.out.mono ?_
    rintro e1 w4 ⟨rfl,ZT⟩
    have aTS:=hid (RH.out.trans (ZT.mono RH.out.size))
    have aTI:=hid (Q7.out.below ZT Q7.out.lt)
    obtain⟨a0,a1,a2,a3,a4,a5,a6⟩:=j5 aTI.out
    go_wp2
    go_ret
    exact⟨aR (by rw[HO.out];rfl),aTS.out⟩
   |false=>
    go_wp2_with fail
    refine HD.out.mono ?_
    rintro e1 w4 ⟨rfl,ZT⟩
    have aTS:=hid (RH.out.trans (ZT.mono RH.out.size))
    have aTI:=hid (Q7.out.below ZT Q7.out.lt)
    obtain⟨a0,a1,a2,a3,a4,a5,a6⟩:=j5 aTI.out
    go_wp2
    go_ret
    exact⟨aR (by rw[HO.out];rfl),aTS.out⟩
theorem bE8 (c:Nat) (hc2:c≤1073741824) (HI:∀(l:Fo) (v:Value) (B:Nat) (w:World),l.cnt<c→cM w B v l→B≤w.heap.size→
 Calls Tryz.prog 69 #[v] w fun e w'=>e=.returned (.bool (!outF l))∧Below w.heap.size w w')
 (l:Fo) (v:Value) (B:Nat) (w:World) (hc:l.cnt≤c) (hv:cM w B v l) (hB:B≤w.heap.size):
 Calls Tryz.prog 158 #[v,.func (.func 112) #[] #[]] w fun e1 w'=>(∃i:Int,e1=.returned (.int .i64 i)∧decide (0≤i)=outF l)∧Below w.heap.size w w':=by
 obtain⟨A,cl,rfl,cC⟩:=hv.form
 have HV:=hid hv
 have HI:=hid HI
 have qM:=Fo.k7 l
 clear hv
 go_enter Tryz.func158,Tryz.ntmps158
 go_wp2
 go_loopg [8] l.len (fun g i wr=>∃q:Nat,q≤l.len∧g=l.len-q∧i=.int .i64 q∧Hid (outF l=outF (Fo.drop q l))∧Hid (Below w.heap.size w wr))
 case atStart=>exact⟨0,Nat.zero_le _,rfl,rfl,hid (by rw[Fo.drop]),hid (Below.refl _ _)⟩
 obtain⟨q,hq,hg,rfl,he,hby⟩:=hrel
 have Hg:=hid hg
 clear hg
 obtain⟨wy,rfl⟩:∃x:World,x=wr:=⟨_,rfl⟩
 have J0:=hby.out.size
 by_cases R_:q<l.len
 rotate_left
 · have pK:=hid (he.out.trans (by rw[show q=l.len by omega,gB,outF]:_=false))
   clear he
   go_wp2
   go_ret
   exact⟨⟨-1,rfl,by rw[pK.out];rfl⟩,hby.out⟩
 obtain⟨a2,kk,tt,nn,s',C8,b',e',r',zT,l7,mD,AH,hA,aI,hno⟩:=(HV.out.below (hby.out.mono hB)).at_ R_
 subst hA
 have dL:=kN aI
 have pK:=hid (he.out.trans (XX aI))
 have HC:=hid (bFP c HI.out kk tt nn s' C8 b' e' zT l7 mD AH B wy (by omega) hno.vals (by omega))
 obtain⟨c0,c1,c2,c3,c4,c5,c6⟩:=hno.cells
 have Hd:=hid aI
 clear aI hno
 generalize sX kk s' b' e'=ob at *
 cases ob with
 |true=>
  have cY:=hid (show outF l=true by rw[pK.out];simp)
  go_wp2_with fail
  refine HC.out.mono ?_
  rintro e1 w5 ⟨rfl,aQ⟩
  have a_:=hid (hby.out.trans (aQ.mono J0))
  clear aQ
  go_wp2
  go_ret
  exact⟨⟨(q:Int),rfl,by rw[cY.out];exact bF (by omega)⟩,a_.out⟩
 |false=>
  have bM:=hid (pK.out.trans (Bool.false_or _))
  go_wp2_with fail
  refine HC.out.mono ?_
  rintro e1 w5 ⟨rfl,aQ⟩
  have a_:=hid (hby.out.trans (aQ.mono J0))
  clear aQ
  go_wp2
  go_roundg (l.len-(q+1))
  case rel=>exact⟨q+1,R_,rfl,by go_num,hid (by rw[eD Hd.out];exact bM.out),a_⟩
  rw[Hg.out];omega
theorem bD_ (c:Nat) (hc2:c≤1073741824) (HI:∀(l:Fo) (v:Value) (B:Nat) (w:World),l.cnt<c→cM w B v l→B≤w.heap.size→
 Calls Tryz.prog 69 #[v] w fun e w'=>e=.returned (.bool (!outF l))∧Below w.heap.size w w')
 (l:Fo) (v:Value) (B:Nat) (w:World) (hc:l.cnt≤c) (hv:cM w B v l) (hB:B≤w.heap.size):
 Calls Tryz.prog 111 #[v,.func (.func 112) #[] #[]] w fun e1 w'=>e1=.returned (.bool (outF l))∧Below w.heap.size w w':=by
 have HX:=hid (bE8 c hc2 HI l v B w hc hv hB)
 clear hv HI
 go_enter Tryz.func111,Tryz.ntmps111
 go_wp2_with fail
 refine HX.out.mono ?_
 rintro e w' ⟨⟨i,rfl,hi⟩,hb⟩
 have Hi:=hid hi
 have Hb:=hid hb
 clear hi hb
 go_wp2
 go_ret
 exact⟨aR Hi.out,Hb.out⟩
theorem bGI:∀(c:Nat) (l:Fo) (v:Value) (B:Nat) (w:World),l.cnt≤c→c≤1073741824→cM w B v l→B≤w.heap.size→
 Calls Tryz.prog 69 #[v] w fun e w'=>e=.returned (.bool (!outF l))∧Below w.heap.size w w':=fun c=>by
 induction c using Nat.strongRecOn with
 |ind c ih=>
 intro l v B w hc hc2 hv hB
 have HX:=hid (bD_ c hc2 (fun l' v' B' w' h hv' hB'=>ih l'.cnt h l' v' B' w' (aC _) (by omega) hv' hB') l v B w hc hv hB)
 clear hv ih
 generalize outF l=ol at *
 go_enter Tryz.func69,Tryz.ntmps69
 go_wp2_with fail
 refine HX.out.mono ?_
 rintro e w' ⟨rfl,hb⟩
 have Hb:=hid hb
 clear hb
 go_wp2
 go_ret
 exact⟨aR rfl,Hb.out⟩
theorem bI2 (K:Nat) (hK:K≤140737488355328) (p:List Fc) (v:Value) (B:Nat) (w:World) (hv:eO w B v p) (hB:B≤w.heap.size) (hs:nodes p≤1000000) (hp:p.length≤1000000) (ho:oU K p):
 Calls Tryz.prog 24 #[.agg #[v]] w fun e w'=>e=.returned (.int .i64 (dD p))∧Below w.heap.size w w':=by
 obtain⟨A,cap,rfl,cB⟩:=hv.form
 have HV:=hid hv
 have HO:=hid ho
 clear hv ho
 have HA:=hid ((Below.refl w.heap.size w).alloc (aC _) (.cells #[.slice A p.length cap] 24))
 have bN:=hid (aG.new w 24 #[.slice A p.length cap])
 have HR:=hid (show dD p=if NP nm op un dJ p≠0 then NP nm op un dJ p else if outP p then 11 else 0 by rw[a2F];rfl)
 have sD:=hid (fun (h:NP nm op un dJ p=0) (f:Fc) (hf:f∈p)=>aML (aYN (by rw[←a2F];exact h)) hf)
 have r7:(w.alloc (.cells #[.slice A p.length cap] 24)).cell? ⟨w.heap.size,0,none⟩=some (.slice A p.length cap):=bN.out.cell 0
 go_enter Tryz.func24,Tryz.ntmps24
 go_upto_region 1 with fail
 generalize w.alloc (.cells #[.slice A p.length cap] 24)=w0 at *
 have hz0:w.heap.size<w0.heap.size:=bN.out.lt
 have IB:=hid (bKD K hK p (.slice A p.length cap) B w0 (HV.out.below (HA.out.mono hB)) (by omega) hs hp HO.out)
 generalize NP nm op un dJ p=sh at *
 go_wp2_with fail
 refine IB.out.mono ?_
 rintro e1 w1 ⟨rfl,hb1⟩
 have aT:=hid (HA.out.trans (hb1.mono (by omega)))
 have jM:=hid (bN.out.below hb1 hz0)
 have hz1:w.heap.size<w1.heap.size:=jM.out.lt
 clear hb1 r7 IB
 by_cases lS:sh=0
 rotate_left
 · have d_:=hid (HR.out.trans (if_pos lS))
   have b1:((sh:Int) != 0)=true:=bne_iff_ne.2 (by omega)
   clear HR lS
   go_wp2
   go_ret
   exact⟨dC (by rw[d_.out]),aT.out⟩
 have d_:=hid (HR.out.trans (if_neg (by simp[lS])))
 have Q3:=hid (sD.out lS)
 subst lS
 clear HR sD
 have S8:w1.cell? ⟨w.heap.size,0,none⟩=some (.slice A p.length cap):=jM.out.cell 0
 go_wp2
 go_loopg [14] p.length (fun g i wr=>∃k:Nat,k≤p.length∧g=p.length-k∧i=.int .i64 k∧Hid (outP p=outP (p.drop k))∧Hid (Below w1.heap.size w1 wr))
 case atStart=>exact⟨0,Nat.zero_le _,rfl,rfl,hid rfl,hid (Below.refl _ _)⟩
 obtain⟨k,hk,hq,rfl,he,hb⟩:=hrel
 have Hq:=hid hq
 clear hq S8
 obtain⟨wo,rfl⟩:∃x:World,x=wr:=⟨_,rfl⟩
 have hz:=hb.out.size
 have HB:=hid (aT.out.trans (hb.out.mono (by omega)))
 by_cases hlt:k<p.length
 rotate_left
 · have cY:=hid (d_.out.trans (if_neg (by rw[he.out,show k=p.length by omega,List.drop_length];simp[outP])))
   clear he
   go_wp2
   go_ret
   exact⟨dC (by rw[cY.out];rfl),HB.out⟩
 obtain⟨a,pv,bv,rfl,hab,d0,d1,d2,eF,cZ⟩:=(HV.out.below (HB.out.mono hB)).at_ hlt
 obtain⟨m1,m2,m3⟩:=Q3.out _ (uI hlt)
 have HE:=hid (he.out.trans (a0C hlt))
 generalize p.getD k bI=f at *
 obtain⟨Ap,cp,rfl,kX,-⟩:=eF
 obtain⟨Ab,cb,rfl,hcb⟩:=cZ.form
 have rB:=hid (aG.new wo 112 #[.string f.name,.slice Ap f.ps.length cp,.slice Ab f.body.len cb])
 have HAf:=hid ((Below.refl wo.heap.size wo).alloc (aC _) (.cells #[.string f.name,.slice Ap f.ps.length cp,.slice Ab f.body.len cb] 112))
 have iU:=hid (cZ.below (HAf.out.mono (show B≤wo.heap.size by omega)))
 clear cZ he m1 m3
 go_upto_region 7 with fail
 generalize wo.alloc (.cells #[.string f.name,.slice Ap f.ps.length cp,.slice Ab f.body.len cb] 112)=w3 at *
 obtain⟨g0,g1,g2⟩:=QG rB.out
 have hz3:wo.heap.size<w3.heap.size:=rB.out.lt
 have HC:=hid (bGI f.body.cnt f.body (.slice Ab f.body.len cb) B w3 (aC _) (by omega) iU.out (by omega))
 generalize outF f.body=ob at *
 clear iU
 cases ob with
 |true=>as_aux_lemma=>
  have cY:=hid (d_.out.trans (if_pos (by rw[HE.out];simp)))
  go_wp2_with fail
  refine HC.out.mono ?_
  rintro e1 w5 ⟨rfl,aQ⟩
  have a_:=hid (HB.out.trans ((HAf.out.trans (aQ.mono (by omega))).mono (by omega)))
  clear aQ
  go_wp2
  go_ret
  exact⟨dC (by rw[cY.out];rfl),a_.out⟩
 |false=>as_aux_lemma=>
  have bM:=hid (HE.out.trans (Bool.false_or _))
  go_wp2_with fail
  refine HC.out.mono ?_
  rintro e1 w5 ⟨rfl,aQ⟩
  have a_:=hid (hb.out.trans ((HAf.out.trans (aQ.mono (by omega))).mono hz))
  clear aQ
  go_wp2
  go_roundg (p.length-(k+1))
  case rel=>exact⟨k+1,hlt,rfl,by go_num,bM,a_⟩
  rw[Hq.out];omega
end
section
open Go.RowKit Go.ChangeMaps Go.MapKept Go.Maps
open Sl
theorem aO8:Keyed Tryz.prog 3:=Maps.int_keyed Tryz.underlying3
theorem keyOf_int (x:Nat) (hx:x≤1000000):∃l,keyOf Tryz.prog 3 (.int .i64 (x:Nat))=some l:=by
 unfold keyOf mapKey
 simp[Tryz.underlying3]
 simp only[Lit.wf,LM,decide_eq_true_eq]
 have h1:IntKind.i64.min=-9223372036854775808:=by decide
 have h2:IntKind.i64.max=9223372036854775807:=by decide
 omega
def rJ (w:World) (gm:Nat) (S:List Nat):Prop:=eC w Tryz.prog 3 gm (S.map fun n=>(Value.int .i64 ((n:Nat):Int),Value.bool true))
theorem rJ.made (w:World):rJ (w.alloc (.map #[] 0)) w.heap.size []:=eC.made w _ _
theorem rJ.lt {w:World} {gm:Nat} {S:List Nat} (h:rJ w gm S):gm<w.heap.size:=eC.lt h
theorem rJ.same {w w':World} {gm:Nat} {S:List Nat} (h:rJ w gm S) (hk:w'.heap[gm]?=w.heap[gm]?):rJ w' gm S:=eC.same h hk
theorem rJ.yes {w:World} {gm:Nat} {S:List Nat} (h:rJ w gm S) {x:Nat} (hx:x≤1000000) (hs:x∈S):(Instr.lookup 217 (.map (some gm)) (.int .i64 (x:Nat)) false).run Tryz.prog w=.ok (.bool true) w:=by
 obtain⟨l,hl⟩:=keyOf_int x hx
 exact eC.hit (e:=4) h aO8 Tryz.underlying217 hl (fun p hp _=>by obtain⟨n,-,rfl⟩:=List.mem_map.1 hp;rfl) ⟨_,List.mem_map_of_mem hs,rfl⟩ false
theorem rJ.no {w:World} {gm:Nat} {S:List Nat} (h:rJ w gm S) {x:Nat} (hx:x≤1000000) (hs:x∉S):(Instr.lookup 217 (.map (some gm)) (.int .i64 (x:Nat)) false).run Tryz.prog w=.ok (.bool false) w:=by
 obtain⟨l,hl⟩:=keyOf_int x hx
 exact eC.aQ2 (e:=4) h aO8 Tryz.underlying217 (Tryz.zeroValue4 w) hl (fun p hp e=>by
  obtain⟨n,hn,rfl⟩:=List.mem_map.1 hp
  injection e with _ e
  exact hs (by rw[←Int.ofNat.inj e];exact hn)) false
theorem rJ.put {w:World} {gm:Nat} {S:List Nat} (h:rJ w gm S) {x:Nat} (hx:x≤1000000) (hs:x∉S):∃w',(Instr.mapUpdate 217 (.map (some gm)) (.int .i64 (x:Nat)) (.bool true)).run Tryz.prog w=.ok () w'∧rJ w' gm (S++[x])∧w.grownBy w' (some gm):=by
 obtain⟨l,hl⟩:=keyOf_int x hx
 obtain⟨w',h1,h2,h3⟩:=eC.store (e:=4) (v:=.bool true) h aO8 Tryz.underlying217 hl (fun p hp e=>by
  obtain⟨n,hn,rfl⟩:=List.mem_map.1 hp
  injection e with _ e
  exact hs (by rw[←Int.ofNat.inj e];exact hn))
 exact⟨w',h1,by unfold rJ;rw[List.map_append];exact h2,h3⟩
end
section
open Go.RowKit Go.ChangeShapes Go.WideShapes Go.Joins Go.Deep
namespace Sl
def a6H (K:Nat) (f:Fc):Prop:=f.name.size<K∧f.ps.length<K∧(∀x∈f.ps,x.size<K)∧f.body.len<K∧Fo.cO K f.body
section
variable {H:Type} {enc:TypeId×Value→H} {P:Program} {W:World}
theorem aYH {B K:Nat} {a:Addr}:∀(m i0:Nat),(∀i,i0≤i→i<i0+m→∃(f:Fc) (pv bv:Value),W.cell? (a.add (i*3))=some (.string f.name)∧W.cell? (a.add (i*3+1))=some pv∧W.cell? (a.add (i*3+2))=some bv∧iF W B pv f.ps∧cM W B bv f.body∧a6H K f)→
 ∃l zs,l.length=m∧F9 W B l zs∧zs.length=m*3∧(∀f∈l,a6H K f)∧∀j u,zs[j]?=some u→W.cell? (a.add (i0*3+j))=some u
 |0,_,_=>⟨[],[],rfl,rfl,rfl,fun _ h=>(by cases h),fun j u h=>by simp at h⟩
 |m+1,i0,h=>by
   obtain⟨l,zs,h1,h2,h5,h3,h4⟩:=aYH m (i0+1) fun i hi hj=>h i (by omega) (by omega)
   obtain⟨f,pv,bv,c0,c1,c2,hp,hb,hk⟩:=h i0 (aC _) (by omega)
   refine⟨f::l,.string f.name::pv::bv::zs,by rw[List.length_cons,h1],⟨pv,bv,zs,rfl,hp,hb,h2⟩,by simp only[List.length_cons];omega,?_,?_⟩
   · intro g hg
     rcases List.mem_cons.1 hg with rfl|hg
     · exact hk
     exact h3 g hg
   intro j u hj
   match j,hj with
   |0,hj=>simp at hj;subst hj;exact c0
   |1,hj=>simp at hj;subst hj;exact c1
   |2,hj=>simp at hj;subst hj;exact c2
   |j+3,hj=>
    simp only[List.getElem?_cons_succ] at hj
    have:=h4 j u hj
    rwa [show i0*3+(j+3)=(i0+1)*3+j by omega]
structure a5K (P:Program) (tf tn ts LV tl:TypeId):Prop where
 list:P.underlying tf=some (.slice tn)
 func:∃f0 f1 f2:Field,P.underlying tn=some (.struct #[f0,f1,f2])∧oneCellFields P #[f0,f1,f2]=true∧f0.type=ts∧f1.type=LV∧f2.type=tl
 cells:P.cellsOf tn=3
 bytes:1≤P.bytesOf tn
theorem bHL {tf tg tl tn tk ti ts LV:TypeId} (T:aPM P tl tn tk ti ts LV) (G:a5K P tf tg ts LV tl) (fuel:Nat) (cs:List Value) (x:DataW H×List MemPlace) (h:DataW.trod enc P W 0 (fun _=>true) true fuel tf cs=some x) (hs:∀n∈x.1.weights P tf,n≤reachBytes):
 ∃v p,cs=[v]∧eO W W.heap.size v p∧oU (reachBytes+1) p:=by
 rcases open_row G.list G.bytes h hs with rfl|⟨a,len,cap,n,hf,rfl,hl,hr,hi⟩
 · exact⟨_,[],rfl,⟨none,0,[],rfl,aC _,Reads.none_,rfl⟩,Nat.zero_lt_succ _,fun _ h=>by cases h⟩
 rw[G.cells] at hi
 obtain⟨f0,f1,f2,hn,OG,e0,e1,e2⟩:=G.func
 obtain⟨l,zs,h1,h2,h5,h3,h4⟩:=aYH (W:=W) (B:=W.heap.size) (K:=reachBytes+1) (a:=a) len 0 fun i _ him=>by
  obtain⟨cs',y,hc,hd,hw⟩:=hi i (by omega)
  obtain⟨_,cC,hat⟩:=World.cells?_some hc
  obtain⟨ys,n',hn',hy,hlen,hyl,nE⟩:=DataW.trod_struct hn hd
  have I7:P.cellsOf tg=3:=G.cells
  rw[I7] at hlen
  have G9:∀(j:Nat) (f:Field),#[f0,f1,f2][j]?=some f→∃(v:Value) (z:DataW H×List MemPlace),W.cell? (a.add (i*3+j))=some v∧ys[j]?=some z∧DataW.trod enc P W 0 (fun _=>true) true n' f.type [v]=some z∧∀k∈z.1.weights P f.type,k≤reachBytes:=fun j f hj=>by
   obtain⟨ho,hk⟩:=hone_of OG j f hj
   have lG:j<3:=(Array.getElem?_eq_some_iff.1 hj).1
   have hcell:=hat j lG
   have h1:=nE j f hj
   rw[ho,hk] at h1
   have aP7:(cs'.drop j).take 1=[cs'[j]'(by omega)]:=by
    rw[List.drop_eq_getElem_cons (by omega)]
    rfl
   rw[aP7] at h1
   have bP_:ys.length=3:=hyl
   have L8:ys[j]?=some (ys[j]'(by omega)):=bX (by omega)
   refine⟨_,_,?_,L8,h1.trans L8,fun k hk=>hw k ?_⟩
   · have hv:cs'[j]?=some (cs'[j]'(by omega)):=bX (by omega)
     rw[←Go.Deep.add_add,hcell,hv]
   rw[hy]
   simp only[DataW.weights,hn]
   refine DataW.weights_mem_each (j:=j) ?_ ?_ k hk
   · rw[lZ,Array.getElem?_toList,hj];rfl
   rw[lZ,L8];rfl
  obtain⟨v0,z0,c0,-,t0,w0⟩:=G9 0 f0 rfl
  obtain⟨v1,z1,c1,-,t1,w1⟩:=G9 1 f1 rfl
  obtain⟨v2,z2,c2,-,t2,w2⟩:=G9 2 f2 rfl
  rw[e0] at t0 w0;rw[e1] at t1 w1;rw[e2] at t2 w2
  obtain⟨s,es,hs1,-⟩:=DataW.trod_string T.str t0
  obtain⟨v1',p1,ev1,y1,b1,o1⟩:=open_strs T.strs T.str T.aO0 T.aO1 t1 w1
  obtain⟨v2',l2,ev2,y2,o2,b2⟩:=bHK T _ _ _ t2 w2
  obtain rfl:v0=.string s:=by simpa using es
  obtain rfl:v1=v1':=by simpa using ev1
  obtain rfl:v2=v2':=by simpa using ev2
  have hsz:s.size<reachBytes+1:=by
   have:=w0 s.data.toList.length (by rw[hs1];simp[DataW.weights])
   have e:s.size=s.data.toList.length:=Array.length_toList.symm
   omega
  exact⟨⟨s,p1,l2⟩,v1,v2,c0,c1,c2,y1,y2,hsz,b1,o1,b2,o2⟩
 have hlt:0<len→a.block<W.heap.size:=fun h0=>by
  have h6:zs[0]?=some (zs[0]'(by omega)):=bX (by omega)
  have:=mX (h4 0 _ h6)
  rwa [f_] at this
 refine⟨_,l,rfl,⟨some a,cap,zs,by rw[h1],by omega,⟨by rw[h5,h1],fun hn=>⟨a,rfl,hlt (by omega),fun j u hj=>?_⟩⟩,h2⟩,by omega,h3⟩
 have:=h4 j u hj
 rwa [Nat.zero_mul,Nat.zero_add] at this
theorem bJI {t:TypeId} {f0:Field} {v:Value} {d:DataW H} {p:List MemPlace} {r:Reach} {b0:Nat} (hs:P.underlying t=some (.struct #[f0])) (OG:oneCellFields P #[f0]=true) (hC:P.cellsOf t=1)
 (hv:Value.okWide P W r b0 t v) (h:DataW.Trod enc P W 0 (fun _=>true) true t v d p):
 ∃(v0:Value) (y0:DataW H×List MemPlace) (n:Nat),v=.agg #[v0]∧d=.agg [y0.1]∧DataW.trod enc P W 0 (fun _=>true) true n f0.type [v0]=some y0:=by
 obtain⟨cs,rfl,hsz⟩:=okWide_struct hs hv
 obtain⟨l⟩:=cs
 match l,hsz.trans hC with
 | [c0],_=>
  obtain⟨fuel,hf⟩:=h
  obtain⟨xs,n,_,hx,_,hlen,hg⟩:=DataW.trod_struct hs hf
  obtain⟨o0,k0⟩:=hone_of OG 0 f0 rfl
  match xs,hlen with
  | [y0],_=>
   simp only[Prod.mk.injEq] at hx
   exact⟨c0,y0,n,rfl,by simpa using hx.1,by simpa[Value.cells,o0,k0] using hg 0 f0 rfl⟩
end
theorem bN4:aPM Tryz.prog 66 69 65 2 9 67 where
 list:=Tryz.underlying66
 node:=⟨_,_,_,_,_,_,_,Tryz.underlying69,by kernel_rfl,rfl,rfl,rfl,rfl,rfl,rfl,rfl⟩
 cells:=by kernel_rfl
 bytes:=by decide +kernel
 kind:=by kernel_rfl
 int:=by kernel_rfl
 str:=by kernel_rfl
 strs:=by kernel_rfl
 aO0:=by kernel_rfl
 aO1:=by decide +kernel
theorem bOM:a5K Tryz.prog 22 112 9 67 66 where
 list:=Tryz.underlying22
 func:=⟨_,_,_,Tryz.underlying112,by kernel_rfl,rfl,rfl,rfl⟩
 cells:=by kernel_rfl
 bytes:=by decide +kernel
theorem bFK {H:Type} {enc:TypeId×Value→H} {W:World} {r:Reach} {b0:Nat} {v:Value} {d:DataW H} {q:List MemPlace} (hv:Value.okWide Tryz.prog W r b0 24 v) (h:DataW.Trod enc Tryz.prog W 0 (fun _=>true) true 24 v d q) (hs:∀n∈d.weights Tryz.prog 24,n≤reachBytes):
 ∃v0 p,v=.agg #[v0]∧eO W W.heap.size v0 p∧oU (reachBytes+1) p:=by
 obtain⟨v0,y0,n,rfl,rfl,ht⟩:=bJI Tryz.underlying24 (by kernel_rfl) (by kernel_rfl) hv h
 obtain⟨u,p,hu,hf,hk⟩:=bHL bN4 bOM n [v0] y0 ht (fun k hk=>hs k (by
  simp only[DataW.weights,Tryz.underlying24]
  exact DataW.weights_mem_each (j:=0) rfl rfl k hk))
 obtain rfl:v0=u:=by simpa using hu
 exact⟨v0,p,rfl,hf,hk⟩
end Sl
end
section
open Go.RowKit
section
open Go.WideShapes Go.ChangeShapes
variable {H:Type} {enc:TypeId×Value→H} {P:Program}
theorem aXU (hl:laidOutB P=true) {W W':World} {sp:Nat→Bool}:∀{ts:List TypeId} {vs:List Value} {ds:List (DataW H)} {ps:List MemPlace},(∀t∈ts,P.readableRec t=true∧t<P.types.size)→
 DataW.TrodAll enc P W 0 (fun _=>true) true ts vs ds ps→(∀x∈ps,W.sameAt W' x)→(∀x∈ps,sp x.block=true)→DataW.TrodAll enc P W' 0 sp true ts vs ds ps
 | [],[],[],ps,_,h,_,_=>h
 |t::ts,v::vs,d::ds,ps,hr,h,h1,h2=>by
   obtain⟨p,q,ht,JD,rfl⟩:=h
   refine⟨p,q,WideElems.Trod_stays hl (hr t (List.mem_cons_self ..)).1 (hr t (List.mem_cons_self ..)).2 ht (fun x hx=>h1 x (List.mem_append.2 (.inl hx))) (fun x hx=>h2 x (List.mem_append.2 (.inl hx))),?_,rfl⟩
   exact aXU hl (fun t ht=>hr t (kS _ ht)) JD (fun x hx=>h1 x (List.mem_append.2 (.inr hx))) (fun x hx=>h2 x (List.mem_append.2 (.inr hx)))
theorem bLD {f:Func} {s:ChangeSpec} {apart:Bool} {W W':World} {args:Array Value} {ds gs:List (DataW H)} {before:List MemPlace} {tb:TypeId}
 (hl:laidOutB P=true) (hr:∀t∈f.params.toList,P.readableRec t=true∧t<P.types.size)
 (hW:DataW.Whole enc P f.params.toList s.vars apart W args.toList ds gs before) (a5W:s.vars=[]) (hfn:s.fn H ds={ results:=[.lit (.bool true)],args:=ds })
 (htb:P.underlying tb=some .bool) (hres:f.resultTypes=#[tb]) (hb:Below W.heap.size W W'):s.post enc P f apart true false false W args (.bool true) W':=by
 have hlt:∀p∈before,p.block<W.heap.size:=fun p hp=>hW.lt p hp
 have hW0:=hW
 obtain⟨pa,pv,hA,hV,a74,hz,hn⟩:=hW0
 rw[a5W] at hV
 obtain⟨rfl,rfl⟩:=trodVars_none hV
 simp only[List.append_nil] at a74
 subst a74
 have bPH:∀sp:Nat→Bool,(∀p∈before,sp p.block=true)→DataW.TrodAll enc P W' 0 sp true f.params.toList args.toList ds before:=fun sp hsp=>
  aXU hl hr hA (fun x hx=>hb.same (hlt x hx)) hsp
 have hold:∀p∈before,(fun b=>decide (b<W.heap.size)) p.block=true:=fun p hp=>by simpa using hlt p hp
 have hR:∀(b:Nat) (sp:Nat→Bool) (hd:Bool),DataW.TrodAll enc P W' b sp hd f.resultTypes.toList ((Value.bool true).resultList f.resultTypes.size) [.lit (.bool true)] []:=fun b sp hd=>by
  rw[hres]
  exact trodAll_mk1 (shut_bool htb _)
 refine⟨ds,[],before,[],before,[],hW,?_,?_,?_,World.keptBut_mono (fun p hp=>⟨hp,?_⟩) (hb.frame (·∈before)),fun h=>by cases h⟩
 · rw[List.append_nil,hfn];exact hR _ _ _
 · rw[List.append_nil,hfn];exact bPH _ hold
 · rw[a5W,List.append_nil,hfn];exact rfl
 exact .inr (.inl hp)
end
theorem bKW {H:Type} {P:Program} {ts:List TypeId} {ds:List (DataW H)} (h:(DataW.weightsEach P ts ds).all (·≤reachBytes)=true) {j:Nat} {t:TypeId} {d:DataW H} (ht:ts[j]?=some t) (hd:ds[j]?=some d):∀n∈d.weights P t,n≤reachBytes:=fun n hn=>by
 have:=List.all_eq_true.1 h _ (DataW.weights_mem_each ht hd n hn)
 simpa using this
def aQS:Prop:=∀W:World,Calls Tryz.prog 12 #[] W fun e w'=>e=.returned (.bool true)∧Below W.heap.size W w'
end
end Go.Proofs.YtdlndhbkcgmkkaaGreatDoor
