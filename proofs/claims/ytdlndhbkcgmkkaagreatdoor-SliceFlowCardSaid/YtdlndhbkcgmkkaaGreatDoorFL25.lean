/-
 Part 25 of 35 of a proof about the given program: facts on which the last part stands.
-/
import Derived.Test.YtdlndhbkcgmkkaaGreatDoorFL24
set_option maxHeartbeats 12800000
set_option linter.unusedVariables false
set_option linter.unusedSimpArgs false
set_option maxRecDepth 100000
namespace Go.Proofs.YtdlndhbkcgmkkaaGreatDoor
section
open Go.RowKit
open Sl
open Go.Lib (hid)
theorem zqA {P:Program} {ops:Array Oper} {Q:Exit→Act→World→Prop} {md:Region.Mode} {S:World→Prop} {z:Nat} {oi:Oper} {k:Nat} {l:Array Bool} {a:Act} {w:World} (i d:Nat) (v:Value) (hi:ops[i]?=some oi) (hd:oi.dst=some d)
 (hb:(Region.noSelect ops&&Region.free md ops l i&&(Region.ready md ops l).contains i&&aI1 md ops z i&&decide (i≠z))=true)
 (hQ:∀c a w,Q (.panic c) (a.put (some d) v) w→Q (.panic c) a w) (hS:S w) (hw:Region.wanted oi (yielded ops a.tmps)=true) (hy:∀w,S w→(execOp a.eval oi).run P w=.ok (.value v) w)
 (h:AnyZ P md ops Q S z k (l.setIfInBounds i true) (a.put (some d) v) w):AnyZ P md ops Q S z (k+1) l a w:=by
 simp only[Bool.and_eq_true,decide_eq_true_eq] at hb
 exact cG _ hi hd hb.1.1.1.1 hb.1.1.1.2 hb.1.1.2 hQ hb.1.2 hb.2 hS hw hy h
noncomputable def aIL:Σ' (R1:Prop),Σ' (R2:Prop),(QE R1→QE R2→aIM.2.1):=by
 refine' ⟨_,_,fun LL Z9=>?main⟩
 case main=>
  intro K hK hK4 W B g base F cp Ap xv Z cN hF hZ c l fM f0 i0 ins gF L0 w0 hc hc2 tW oP qT mR cap cB fQ jD iL kQ hsize eA cE punit dW fR dU fJ fK iG gk u20 u21 u22 u23 u24 u25 BJ BI BH k num f tv Lk hk kZ hrow Hq wo hz hlt a kk t nn s ps b e r HL dL nD As cs hcs Ab cb hcb Ae ce hce nT nL HN rM hab NL pH rO r_ sA oM lW jI hzl AR gI fG eY j_ jO kV pY oL tB pI oN qY rA qZ oV rL HE hsc fY rX rU iP rH BG w1 cQ D3 gZ pW cz hz1 hz2 az HI BF BD aT a4N a4M hzb eN QD IC g_ wc u19 u26 u27 u28 u29 u30 u31 u32 u33 u34 u35 u36 u37 u38 u39 u40 u41 u42 u43 u44 u45 u46 u47 u48 u49 u50 u51 u52 u53 u54 u55 u56 u57 u58 u59 u60 u61 u62 u63 u64 u65 u66 u67 u68 u69 u70 u71 u72 u73 u74 u75 u76 u77 u78 u79 u80 u81 u82 u83 u84 u85 u86 u87 u88 u89 u90 u91 u92 u93 u94 u95 u96 u97 u98 u99 u100 u101 u102 u103 u104 u105 u106 u107 u108 u109 u110 u111 u112 u113 u114 u115 u116 u117 u118 u119 u120 u121 u122 u123 u124 u125 u126 u127 u128 u129 u130 u131 u132 u133 u134 u135 u136 u137 u138 u139 u140 u141 u142 u143 u144 u145 u146 u147 u148 u149 u150 u151 u152 u153 u154 u155 u156 u157 u158 u159 u160 u161 u162 u163 u164 u165 u166 u167 u168 u169 u170 u171 u172 u173 u174 u175 u176 u177 u178 u179 u180 u181 u182 u183 u184 u185 u186 u187 u188 u189 u190 u191 u192 u193 u194 u195 hcut
  obtain⟨bs,SL,rfl,jR,lU,hSC,hBl⟩:=hcut
  obtain⟨w2,rfl⟩:∃x:World,x=wc:=⟨_,rfl⟩
  have hz2:=hBl.out.size
  have CQ:w0.heap.size≤bs:=by have:=jR.out;omega
  have G2:=hid (show iI W B g base wo.heap.size bs NL.toArray SL.toArray (.slice Ap F cp) (.slice (some az) Z.length cz) xv Z w0 gF.ownBlock w2 tv Lk f from
   { bk:=aT.out.below hBl.out,nb:=cQ.out.below hBl.out pW,st:=lU.out,ne:=fun e=>by have:=(aF.lt aT.out.tab bs e).2;have:=jR.out;omega,fr:=D3.out.below hBl.out,row:=hrow.out })
  have hb1:base≤w1.heap.size:=aT.out.size
  have oW:=hid (fun (w:World) (tv:Value) (L:List bO) (f:Nat) (SX:List Value) (h:iI W B g base wo.heap.size bs NL.toArray SX.toArray (.slice Ap F cp) (.slice (some az) Z.length cz) xv Z w0 gF.ownBlock w tv L f)=>h.old fQ.out cN (fun j hj=>by have:=(eA.out j hj).1;omega) (by omega))
  clear eN QD IC g_ hz1 aT D3 hBl lU hrow cQ gZ
  generalize a65:(num:Int)+(1+(Fo.aD s true:Int)+(Fo.aD b false:Int)+(Fo.aD e false:Int))=rP at *
  have CV:=hid a65
  clear a65
  obtain⟨fo,GS⟩:∃fo:Int,fo=if Fo.isNil r then fR else rP:=⟨_,rfl⟩
  have AL:=hid GS
  clear GS
  have tA:=hid (show Fo.isNil r=decide (l.len≤k+1) by rw[←jI.out];exact aZI (k+1) l (by omega))
  have a7_:=uG _ _ hSC.out
  have f10:=G2.out.st.frozen 10
  have V3:∃u,w2.cell? ⟨bs,10,none⟩=some u:=⟨SL[10]'(by omega),by rw[G2.out.st.cell 10];simp[a7_]⟩
  obtain⟨u10,V3⟩:=V3
  have bRX:=G2.out
  clear a7_ bRX
  go_upto_if 62 with fail
  go_cut [] (fun wx=>∃SM:List Value,Hid (iI W B g base wo.heap.size bs NL.toArray SM.toArray (.slice Ap F cp) (.slice (some az) Z.length cz) xv Z w0 gF.ownBlock wx tv Lk f)∧Hid (fU W B wx w1.heap.size SM ⟨⟨kk,t,nn,s,ps,b,e⟩,(cE:Nat),(punit:Nat),dW,fo,dU,0,0,Fo.own s,eV ⟨kk,t,nn,s,ps,b,e⟩,[],false⟩)∧Hid (w2.heap.size≤wx.heap.size))
  case first=>
   by_cases qN:k+1<l.len
   · have b1:decide ((k:Int)+1<(l.len:Int))=true:=bF (by omega)
     have b2:decide (k+1<l.len)=true:=bF qN
     have b3:(k:Int)+1<(l.len:Int):=by omega
     have aS2:=hid (show fo=rP by rw[AL.out,tA.out,bP (by omega)];rfl)
     clear qN
     go_wp2
     go_meet
     exact⟨SL.set 10 (.int .i64 rP),hid (by rw[←aJ];exact G2.out.bO3 CQ 10 (.int .i64 rP)),hid (by rw[aS2.out];exact fU.kept (bF0 hSC.out) (lO.bPX G2.out.st 10 _)),hid (by simp[World.setCell])⟩
   have b1:decide ((k:Int)+1<(l.len:Int))=false:=bP (by omega)
   have b2:decide (k+1<l.len)=false:=bP qN
   have b3:¬(k:Int)+1<(l.len:Int):=by omega
   have aS2:=hid (show fo=fR by rw[AL.out,tA.out,bF (by omega)];rfl)
   clear qN
   go_wp2
   go_meet
   exact⟨SL,G2,hid (by rw[aS2.out];exact hSC.out),hid (aC _)⟩
  obtain⟨SM,hR3,hC3,OD⟩:=hcut
  obtain⟨w3,rfl⟩:∃x:World,x=wc:=⟨_,rfl⟩
  have hz3:=OD.out
  have AU:=hid (show SM.length=18∧SM[10]?=some (.int .i64 fo) from⟨(KR hC3.out).1,(KR hC3.out).2.2.2.2.2.2.1⟩)
  clear G2 hSC f10 V3 OD
  have m3:w3.cell? ⟨wo.heap.size,3,none⟩=some (.slice As s.len cs):=by rw[hR3.out.nb.cell 3,List.getElem?_toArray];exact lW.out.2.1
  have HC:=hid (bEZ s (.slice As s.len cs) B W w3 (by omega) HN.out.subs (oW.out _ _ _ _ _ hR3.out) (by omega))
  obtain⟨cl,cC⟩:∃z,z=Fo.fns (Fo.own s):=⟨_,rfl⟩
  have ET:cl.len≤s.cnt:=by rw[cC];exact Nat.le_trans (Fo.a2Y _) (Fo.KU s)
  have IQ:=hid (aNO s pI.out)
  have D5:=hid (aOF s)
  rw[←cC] at HC oL tB IQ D5
  clear cC
  go_wp2_with fail
  refine HC.out.mono ?_
  rintro e4 w4 ⟨cv,rfl,hc4,hb4⟩
  have nI:=hid (hR3.out.below hb4)
  have tY:=hid (aYU hC3.out hb4)
  have gY:=hb4.size
  have VJ:=hid hc4
  obtain⟨Ac,cc,nc,rfl,-⟩:=aF.src hc4
  clear hc4 hb4 HC m3 hR3 hC3
  go_upto_region 11 with fail
  obtain⟨x0,hx0⟩:∃x:bO,x=⟨⟨kk,t,nn,s,ps,b,e⟩,(cE:Nat),(punit:Nat),dW,fo,dU,0,0,Fo.own s,eV ⟨kk,t,nn,s,ps,b,e⟩,[],false⟩:=⟨_,rfl⟩
  have AQ:=hid hx0
  clear hx0
  go_cut [] (fun wx=>∃tv1 L1,Hid (L1=Lk++[x0])∧Hid (iI W B g base wo.heap.size bs NL.toArray SM.toArray (.slice Ap F cp) (.slice (some az) Z.length cz) xv Z w0 gF.ownBlock wx tv1 L1 f)∧Hid (lX W B wx w3.heap.size (.slice Ac cl.len cc) cl)∧Hid (w4.heap.size≤wx.heap.size))
  case first=>
   rename_i a4L _ _ _ _ _ _ _ _ _ _ _ _ _ _ _ _ _ _ _ _ _ _ _ _ _ _ _ _ _ _ _ _ _ _ _ _ _ _ _ _ _ _ _ _ _ _ _ _ _ _ _ _ _ _ _ _ _ _ _ _ _ _ _ _ _ _ _ _ _ _ _ _ _ _ _ _ _ _ _ _ _ _ _ _ _ _ _ _ _ _ _ _ _ _ _ _ _ _ _ _ _ _ _ _ _ _ _ _ _ _ _ _ _ _ _ _ _ _ _ _ _ _ _ _ _ _ _ _ _ _ _ _ _ _ _ _ _ _ _ _ _ _ _ _ _ _ _ _ _ _ _ _ _ _ _ _ _ _ _ _ _ _ _ _ _ _ _ _ _ _ a4K a4J a4I a4H a4G a4F
   revert K hK hK4 W B g base F cp Ap xv Z cN hF hZ c l fM f0 i0 ins gF L0 w0 hc hc2 tW oP qT mR cap cB fQ jD iL kQ hsize eA cE punit dW fR dU fJ fK iG gk u22 u23 u24 u25 BJ BI BH k num f tv Lk hk kZ Hq wo hz hlt a kk t nn s ps b e r HL dL nD As cs hcs Ab cb hcb Ae ce hce nT nL HN rM hab NL pH rO r_ sA oM lW jI hzl AR gI fG eY j_ jO kV pY pI oN qY rA qZ oV rL HE hsc fY rX rU iP rH BG w1 pW cz a4L az HI BF BD hzb bs jR w2 hz2 CQ hb1 oW rP CV fo AL tA u26 u27 u28 u29 u30 u31 u32 u33 u34 u35 u36 u37 u38 u39 u40 u41 u42 u43 u44 u45 u46 u47 u48 u49 u50 u51 u52 u53 u54 u55 u56 u57 u58 u59 u60 u61 u62 u63 u64 u70 u71 u72 u73 u74 u75 u76 u77 u78 u79 u80 u81 u82 u83 u84 u85 u86 u87 u88 u89 u90 u91 u92 u93 u94 u95 u96 u97 u98 u99 u100 u101 u102 u103 u104 u105 u106 u107 u108 u109 u110 u111 u112 u113 u114 u115 u116 u117 u118 u119 u120 u121 u122 u123 u124 u125 u126 u127 u128 u129 u130 u131 u132 u133 u134 u135 u136 u137 u138 u139 u140 u141 u142 u143 u144 u145 u146 u147 u148 u149 u150 u151 u152 u153 u154 u155 u156 u157 u158 u159 u160 u161 u162 u163 u164 u165 u166 u167 u168 u169 u170 u171 u172 u173 u174 u175 u176 u177 u178 u179 u180 u181 u182 u183 u184 u185 u186 u187 u188 u189 u190 u191 u192 u193 u194 u195 SM w3 hz3 AU cl tB oL ET IQ D5 w4 nI tY gY Ac cc VJ a4K a4J x0 AQ a4I a4H a4G a4F
   exact LL.out
  rename_i I6 _ _ _ _ _ _ _ _ _ _ _ _ _ _ _ _ _ _ _ _ _ _ _ _ _ _ _ _ _ _ _ _ _ _ _ _ _ _ _ _ _ _ _ _ _ _ _ _ _ _ _ _ _ _ _ _ _ _ _ _ _ _ _ _ _ _ _ _ _ _ _ _ _ _ _ _ _ _ _ _ _ _ _ _ _ _ _ _ _ _ _ _ _ _ _ _ _ _ _ _ _ _ _ _ _ _ _ _ _ _ _ _ _ _ _ _ _ _ _ _ _ _ _ _ _ _ _ _ _ _ _ _ _ _ _ _ _ _ _ _ _ _ _ _ _ _ _ _ _ _ _ _ _ _ _ _ _ _ _ _ _ _ _ _ _ _ _ _ _ _ _ _ _ _ _ _ _ _ _ _ _ _ _ _ _ _ _ _ _ _ _ _ _ _ _ _ _ _ _ _ _ _ _ _ _ _ _ _ _ _ _ _ _ _ _ _ _ _ _ _ _ _ _ _ _ _ _ _ _ _ _ _ _ _ _ _ _ _ _ _ _ _ _ _ _ _ _ _ _ _ _ _ _ _ _ _ _ _ _ _ _ _ _ _ _ _ _ _ _ _ _ _ _ _ _ _ _ _ _ _ _ _ _ _ _ _ _ _ _ _ _ _ _ _ _ _ _ _ _ _ _ _ _ _ _ _ _ _ _ _ _ _ _ _ _ _ _ _ _ _ _ _ _ _ _ _ _ _ _ _ _ _ _ _ _ _ _ _ _ _ a4E a4D
  revert K hK hK4 W B g base F cp Ap xv Z cN hF hZ c l fM f0 i0 ins gF L0 w0 hc hc2 tW oP qT mR cap cB fQ jD iL kQ hsize eA cE punit dW fR dU fJ fK iG gk u22 u23 u24 u25 BJ BI BH k num f tv Lk hk kZ Hq wo hz hlt a kk t nn s ps b e r HL dL nD As cs hcs Ab cb hcb Ae ce hce nT nL HN rM hab NL pH rO r_ sA oM lW jI hzl AR gI fG eY j_ jO kV pY pI oN qY rA qZ oV rL HE hsc fY rX rU iP rH BG w1 pW cz I6 az HI BF BD hzb bs jR w2 hz2 CQ hb1 oW rP CV fo AL tA SM w3 hz3 AU cl tB oL ET IQ D5 w4 nI tY gY Ac cc VJ a4E a4D x0 AQ wc u26 u27 u28 u29 u30 u31 u32 u33 u34 u35 u36 u37 u38 u39 u40 u41 u42 u43 u44 u45 u46 u47 u48 u49 u50 u51 u52 u53 u54 u55 u56 u57 u58 u59 u60 u61 u62 u63 u64 u65 u66 u67 u68 u69 u70 u71 u72 u73 u74 u75 u76 u77 u78 u79 u80 u81 u82 u83 u84 u85 u86 u87 u88 u89 u90 u91 u92 u93 u94 u95 u96 u97 u98 u99 u100 u101 u102 u103 u104 u105 u106 u107 u108 u109 u110 u111 u112 u113 u114 u115 u116 u117 u118 u119 u120 u121 u122 u123 u124 u125 u126 u127 u128 u129 u130 u131 u132 u133 u134 u135 u136 u137 u138 u139 u140 u141 u142 u143 u144 u145 u146 u147 u148 u149 u150 u151 u152 u153 u154 u155 u156 u157 u158 u159 u160 u161 u162 u163 u164 u165 u166 u167 u168 u169 u170 u171 u172 u173 u174 u175 u176 u177 u178 u179 u180 u181 u182 u183 u184 u185 u186 u187 u188 u189 u190 u191 u192 u193 u194 u195 hcut
  exact Z9.out
theorem bOC:aIL.1:=by
 intro K hK hK4 W B g base F cp Ap xv Z cN hF hZ c l fM f0 i0 ins gF L0 w0 hc hc2 tW oP qT mR cap cB fQ jD iL kQ hsize eA cE punit dW fR dU fJ fK iG gk u22 u23 u24 u25 BJ BI BH k num f tv Lk hk kZ Hq wo hz hlt a kk t nn s ps b e r HL dL nD As cs hcs Ab cb hcb Ae ce hce nT nL HN rM hab NL pH rO r_ sA oM lW jI hzl AR gI fG eY j_ jO kV pY pI oN qY rA qZ oV rL HE hsc fY rX rU iP rH BG w1 pW cz a4L az HI BF BD hzb bs jR w2 hz2 CQ hb1 oW rP CV fo AL tA u26 u27 u28 u29 u30 u31 u32 u33 u34 u35 u36 u37 u38 u39 u40 u41 u42 u43 u44 u45 u46 u47 u48 u49 u50 u51 u52 u53 u54 u55 u56 u57 u58 u59 u60 u61 u62 u63 u64 u70 u71 u72 u73 u74 u75 u76 u77 u78 u79 u80 u81 u82 u83 u84 u85 u86 u87 u88 u89 u90 u91 u92 u93 u94 u95 u96 u97 u98 u99 u100 u101 u102 u103 u104 u105 u106 u107 u108 u109 u110 u111 u112 u113 u114 u115 u116 u117 u118 u119 u120 u121 u122 u123 u124 u125 u126 u127 u128 u129 u130 u131 u132 u133 u134 u135 u136 u137 u138 u139 u140 u141 u142 u143 u144 u145 u146 u147 u148 u149 u150 u151 u152 u153 u154 u155 u156 u157 u158 u159 u160 u161 u162 u163 u164 u165 u166 u167 u168 u169 u170 u171 u172 u173 u174 u175 u176 u177 u178 u179 u180 u181 u182 u183 u184 u185 u186 u187 u188 u189 u190 u191 u192 u193 u194 u195 SM w3 hz3 AU cl tB oL ET IQ D5 w4 nI tY gY Ac cc VJ a4K a4J x0 AQ a4I a4H a4G a4F
 obtain⟨At,ct,nt,zX,AE,-⟩:=aF.src nI.out.bk.tab
 subst zX
 have HSM:=hid (uG _ _ tY.out)
 have bSF:=hid (aD4 _ _ tY.out)
 have a83:=hid (show (Tryz.prog.info? 71).map (·.size)=some SM.length by rw[HSM.out];exact aD9)
 have bG:w4.drew.cell? ⟨g,1,none⟩=some (.slice At Lk.length ct)∧aG w4.drew bs 71 SM.toArray:=⟨(pN nI.out.bk.blk).2.1,nI.out.st⟩
 have hLkb:Lk.length≤200000:=by have:=kZ.out;omega
 refine NA (fun w'=>w'.cell? ⟨g,1,none⟩=some (.slice At Lk.length ct)∧aG w' bs 71 SM.toArray) 10 (by kernel_rfl) ?_
 refine zqA 0 70 ?_ rfl rfl (by kernel_rfl) (fun _ _ _ h=>h) bG (by rfl) (by rintro w⟨bR,bB⟩;go_simp;rfl) ?_
 simp only[Act.put,aJ,aO,aN]
 refine zqA 1 71 ?_ rfl rfl (by kernel_rfl) (fun _ _ _ h=>h) bG (by rfl) (by rintro w⟨bR,bB⟩;go_simp;rfl) ?_
 simp only[Act.put,aJ,aO,aN]
 refine zqA 2 72 ?_ rfl rfl (by kernel_rfl) (fun _ _ _ h=>h) bG (by rfl) (by rintro w⟨bR,bB⟩;go_simp;rfl) ?_
 simp only[Act.put,aJ,aO,aN]
 refine zqA 3 73 ?_ rfl rfl (by kernel_rfl) (fun _ _ _ h=>h) bG (by rfl) (by rintro w⟨bR,bB⟩;go_simp;rfl) ?_
 simp only[Act.put,aJ,aO,aN]
 refine zqA 4 74 ?_ rfl rfl (by kernel_rfl) (fun _ _ _ h=>h) bG (by rfl) (by rintro w⟨bR,bB⟩;go_simp;rfl) ?_
 simp only[Act.put,aJ,aO,aN]
 refine cG (i:=5) (d:=some 75) (v:=.agg SM.toArray) rfl rfl (by kernel_rfl) (by kernel_rfl) (by kernel_rfl) (fun _ _ _ h=>h) (by kernel_rfl) (by decide) bG (by rfl) (by intro w hSw;obtain⟨bR,bB⟩:=hSw;exact bF3 71 _ rfl ⟨bs,0,none⟩ rfl SM _ (bL1 bB) Tryz.underlying71 rfl a83.out) ?_
 try simp only[Act.put,aJ]
 refine gM (i:=6) rfl (by kernel_rfl) (by rfl) (fun K hK=>?_)
 refine bIL 43 71 _ rfl SM (by rfl) Tryz.underlying43 a0O HSM.out (by decide) (by decide) ?_
 have qQ:=hid (nI.out.below ((Below.refl w4.heap.size w4).drew.alloc (aC _) (.cells SM.toArray 71)))
 have hS1:(w4.drew.alloc (.cells SM.toArray 71)).cell? ⟨g,1,none⟩=some (.slice At Lk.length ct)∧aG (w4.drew.alloc (.cells SM.toArray 71)) bs 71 SM.toArray:=⟨(pN qQ.out.bk.blk).2.1,qQ.out.st⟩
 refine hK _ _ (fun _=>hS1) ?_
 clear hK K
 try simp only[Act.put,aJ]
 refine gM (i:=7) rfl (by kernel_rfl) (by rfl) (fun K hK=>?_)
 have HNw:=hid (CH (w:=w4.drew) (t:=71) (cs:=SM.toArray) (n:=1) (size:=18) (by rw[List.size_toArray,HSM.out]))
 have aSN:=aF.below VJ.out ((Below.refl w4.heap.size w4).drew.alloc (aC _) (.cells SM.toArray 71)) (aC _)
 have a6E:fU W B (w4.drew.alloc (.cells SM.toArray 71)) base SM x0:=by
  rw[AQ.out]
  exact bIU (aYU tY.out ((Below.refl w4.heap.size w4).drew.alloc (aC _) (.cells SM.toArray 71))) hb1
 refine bL6 aD4 _ _ 43 (by rfl) base Tryz.underlying43 a0O (by decide) _ Lk (by rfl) qQ.out.bk.tab _ _ 1 _ [x0] _ (by rfl) rfl HNw.out (gC.F_ a6E) (by omega) (by decide) qQ.out.bk.size ?_
 intro v6 w6 iC gG EU
 obtain⟨L1,hL1⟩:∃z,z=Lk++[x0]:=⟨_,rfl⟩
 have QX:=hid (show L1.length=num+1 by rw[hL1,bL,kZ.out];rfl)
 rw[←hL1] at iC
 have FP:=hid hL1
 clear hL1 a6E HNw
 have G0:=hid (qQ.out.push iC gG (show v6.ownBlock=_∨v6.ownBlock=some (w4.drew.alloc (.cells SM.toArray 71)).heap.size from EU))
 have hC6:lX W B w6 w3.heap.size (.slice Ac cl.len cc) cl:=aF.kept aSN gG (fun k hk=>aF.apart qQ.out.bk.tab aSN (by decide) k hk)
 have ZW:aG w6 g 45 _:=qQ.out.bk.blk.grown gG (fun e=>aF.ne qQ.out.bk.tab qQ.out.bk.blk (by decide) e.symm)
 have hC7:=hid (show lX W B (w6.setCell ⟨g,1,none⟩ v6) w3.heap.size (.slice Ac cl.len cc) cl from aF.kept hC6 (dH w6 ⟨g,1,none⟩ v6) (fun k e=>by cases e;exact aF.ne hC6 ZW (by decide)))
 have hS6:w6.cell? ⟨g,1,none⟩=some (.slice At Lk.length ct)∧aG w6 bs 71 SM.toArray:=⟨(pN ZW).2.1,qQ.out.st.grown gG (fun e=>qQ.out.ne e.symm)⟩
 have f6:=ZW.frozen 1
 have q6:=(pN ZW).2.1
 have mN:w4.heap.size≤w6.heap.size:=by have:=gG.size;simp at this;omega
 obtain⟨A6,c6,n6,hv6,WI,-⟩:=aF.src iC
 subst hv6
 refine hK _ _ (fun _=>hS6) ?_
 clear hK K iC gG EU aSN hC6 ZW
 try simp only[Act.put,aJ]
 refine gM (i:=8) rfl (by kernel_rfl) (by rfl) (fun K hK=>?_)
 go_simp
 refine hK _ _ (fun _=>hS6) ?_
 clear hK K
 refine gM (i:=9) rfl (by kernel_rfl) (by rfl) (fun K hK=>?_)
 go_simp
 refine hK _ _ (fun _=>hS6) ?_
 clear hK K
 refine gM (i:=10) rfl (by kernel_rfl) (by rfl) (fun K hK=>?_)
 go_simp
 refine hK _ _ (fun h=>absurd rfl h) ?_
 clear hK K
 refine NJ (by kernel_rfl) ?_ _
 obtain⟨w7,hw7⟩:∃z:World,z=w6.setCell ⟨g,1,none⟩ (.slice A6 L1.length c6):=⟨_,rfl⟩
 rw[←hw7] at G0 hC7 ⊢
 have rS:w4.heap.size≤w7.heap.size:=by rw[hw7];simpa[World.setCell] using mN
 have HZ7:=hid rS
 clear rS
 clear hw7 f6 q6 hS6 hS1 bG qQ HSM bSF a83
 go_wp2
 go_meet
 exact⟨_,L1,FP,G0,hC7,HZ7⟩
noncomputable def aIK:Σ' (R1:Prop),Σ' (R2:Prop),(QE R1→QE R2→aIL.2.1):=by
 refine' ⟨_,_,fun LL Z9=>?main⟩
 case main=>
  intro K hK hK4 W B g base F cp Ap xv Z cN hF hZ c l fM f0 i0 ins gF L0 w0 hc hc2 tW oP qT mR cap cB fQ jD iL kQ hsize eA cE punit dW fR dU fJ fK iG gk u22 u23 u24 u25 BJ BI BH k num f tv Lk hk kZ Hq wo hz hlt a kk t nn s ps b e r HL dL nD As cs hcs Ab cb hcb Ae ce hce nT nL HN rM hab NL pH rO r_ sA oM lW jI hzl AR gI fG eY j_ jO kV pY pI oN qY rA qZ oV rL HE hsc fY rX rU iP rH BG w1 pW cz I6 az HI BF BD hzb bs jR w2 hz2 CQ hb1 oW rP CV fo AL tA SM w3 hz3 AU cl tB oL ET IQ D5 w4 nI tY gY Ac cc VJ a4E a4D x0 AQ wc u26 u27 u28 u29 u30 u31 u32 u33 u34 u35 u36 u37 u38 u39 u40 u41 u42 u43 u44 u45 u46 u47 u48 u49 u50 u51 u52 u53 u54 u55 u56 u57 u58 u59 u60 u61 u62 u63 u64 u65 u66 u67 u68 u69 u70 u71 u72 u73 u74 u75 u76 u77 u78 u79 u80 u81 u82 u83 u84 u85 u86 u87 u88 u89 u90 u91 u92 u93 u94 u95 u96 u97 u98 u99 u100 u101 u102 u103 u104 u105 u106 u107 u108 u109 u110 u111 u112 u113 u114 u115 u116 u117 u118 u119 u120 u121 u122 u123 u124 u125 u126 u127 u128 u129 u130 u131 u132 u133 u134 u135 u136 u137 u138 u139 u140 u141 u142 u143 u144 u145 u146 u147 u148 u149 u150 u151 u152 u153 u154 u155 u156 u157 u158 u159 u160 u161 u162 u163 u164 u165 u166 u167 u168 u169 u170 u171 u172 u173 u174 u175 u176 u177 u178 u179 u180 u181 u182 u183 u184 u185 u186 u187 u188 u189 u190 u191 u192 u193 u194 u195 hcut
  obtain⟨tv1,L1,FP,G0,hC7,aRA⟩:=hcut
  obtain⟨w7,rfl⟩:∃x:World,x=wc:=⟨_,rfl⟩
  have rS:=aRA.out
  have QX:=hid (show L1.length=num+1 by rw[FP.out,bL,kZ.out];rfl)
  clear aRA nI tY VJ
  go_wp2
  have HQ:=hid oL.out
  obtain⟨nC,GN,lD,mP⟩:=oL.out
  have AY:=hid nC
  have CB:=hid (show FJ Z (num+1) (yB cl) by rw[←mP];exact AR.out)
  have VC:nY cl=Fo.aD s true:=GN.symm
  have VD:n_ cl=Fo.aK s true:=lD.symm
  have oD:=oV.out.2
  clear nC GN lD mP HQ
  go_loopg [21,22] cl.len (fun q atv jv wr=>∃(j qV fj:Nat) (JX:Value) (Lj:List bO),j≤cl.len∧q=cl.len-j∧atv=.int .i64 qV∧jv=.int .i64 j∧Hid (L1++(sU F cl (num+1) f ⟨cE,punit,(num:Nat),-1,-1,-1,0,[]⟩).map (jL eV)=Lj++(sU F (Fo.drop j cl) qV fj ⟨cE,punit,(num:Nat),-1,-1,-1,0,[]⟩).map (jL eV))∧Hid (Lj.length=qV)∧Hid (fj+n_ (Fo.drop j cl)=f+n_ cl∧qV+nY (Fo.drop j cl)=num+1+nY cl∧fj+BQ (Fo.drop j cl)≤f+s.cnt)∧Hid (FJ Z qV (yB (Fo.drop j cl)))∧Hid (iI W B g base wo.heap.size bs NL.toArray SM.toArray (.slice Ap F cp) (.slice (some az) Z.length cz) xv Z w0 gF.ownBlock wr JX Lj fj)∧Hid (lX W B wr w3.heap.size (.slice Ac cl.len cc) cl)∧Hid (w3.heap.size≤wr.heap.size))
  case atStart=>exact⟨0,num+1,f,tv1,L1,Nat.zero_le _,rfl,by go_num,rfl,hid (by rw[Fo.drop]),QX,hid (by rw[Fo.drop];exact⟨rfl,rfl,Nat.add_le_add_left D5.out f⟩),hid (by rw[Fo.drop];exact CB.out),G0,hC7,hid (by omega)⟩
  obtain⟨j,qV,fj,JX,Lj,hj,hqj,rfl,rfl,PN,PU,PM,RX,mS,MK,zW⟩:=hrel
  have MR:=hid hqj
  clear hqj G0 hC7
  obtain⟨wi,rfl⟩:∃x:World,x=wr:=⟨_,rfl⟩
  by_cases lG:j<cl.len
  · skip
    rename_i a5R _ _ _ _ _ _ _ _ _ _ _ _ _ _ _ _ _ _ _ _ _ _ _ _ _ _ _ _ _ _ _ _ _ _ _ _ _ _ _ _ _ _ _ _ _ a4C a4B a4A a3_ a39 a38
    revert K hK hK4 W B g base F cp Ap xv Z cN hF hZ c l fM f0 i0 ins gF L0 w0 hc hc2 tW oP qT mR cap cB fQ jD iL kQ hsize eA cE punit dW fR dU fJ fK iG a5R u23 u24 u25 BJ BI BH k num f Lk hk kZ Hq wo hz hlt a kk t nn s ps b e r HL dL nD As cs hcs Ab cb hcb Ae ce hce nT nL HN rM hab NL pH rO r_ sA oM lW jI hzl AR gI fG eY j_ jO kV pY pI oN qY rA qZ oV rL HE hsc fY rX rU iP rH BG w1 pW cz I6 az HI BF BD hzb bs jR w2 hz2 CQ hb1 oW rP CV fo AL tA SM w3 hz3 AU cl tB oL ET IQ D5 w4 gY Ac cc x0 AQ u26 u27 u28 u29 u30 u31 u32 u33 u34 u35 u36 u37 u38 u39 u40 u41 u42 u43 u44 u45 u46 u47 u48 u49 u50 u51 u52 u53 u54 u55 u56 u57 u58 u59 u60 u61 u62 u63 u64 u65 u66 u67 u68 u69 u70 u71 u72 u73 u74 u75 u76 u77 u78 u79 u125 u126 u127 u128 u129 u130 u131 u132 u133 u134 u135 u136 u137 u138 u139 u140 u141 u142 u143 u144 u145 u146 u147 u148 u149 u150 u151 u152 u153 u154 u155 u156 u157 u158 u159 u160 u161 u162 u163 u164 u165 u166 u167 u168 u169 u170 u171 u172 u173 u174 u175 u176 u177 u178 u179 u180 u181 u182 u183 u184 u185 u186 u187 u188 u189 u190 u191 u192 u193 u194 u195 L1 FP w7 rS QX a4C a4B AY CB VC VD oD gk u80 u81 u82 u83 u84 u85 u86 u87 u88 u89 u90 u91 u92 u93 u94 u95 u96 u97 u98 u99 u100 u101 u102 u103 u104 u105 u106 u107 u108 u109 u110 u111 u112 u113 u114 u115 u116 u117 u118 u119 u120 u121 u122 u123 u124 a4A a3_ a39 a38 j qV fj JX Lj hj PN PU PM RX MR wi mS MK zW lG
    exact LL.out
  skip
  rename_i UR _ _ _ _ _ _ _ _ _ _ _ _ _ _ _ _ _ _ _ _ _ _ _ _ _ _ _ _ _ _ _ _ _ _ _ _ _ _ _ _ _ _ _ _ _ UK a36 UJ UI UH UG
  revert K hK hK4 W B g base F cp Ap xv Z cN hF hZ c l fM f0 i0 ins gF L0 w0 hc hc2 tW oP qT mR cap cB fQ jD iL kQ hsize eA cE punit dW fR dU fJ fK iG UR u23 u24 u25 BJ BI BH k num f Lk hk kZ Hq wo hz hlt a kk t nn s ps b e r HL dL nD As cs hcs Ab cb hcb Ae ce hce nT nL HN rM hab NL pH rO r_ sA oM lW jI hzl AR gI fG eY j_ jO kV pY pI oN qY rA qZ oV rL HE hsc fY rX rU iP rH BG w1 pW cz I6 az HI BF BD hzb bs jR w2 hz2 CQ hb1 oW rP CV fo AL tA SM w3 hz3 AU cl tB oL ET IQ D5 w4 gY Ac cc x0 AQ u26 u27 u28 u29 u30 u31 u32 u33 u34 u35 u36 u37 u38 u39 u40 u41 u42 u43 u44 u45 u46 u47 u48 u49 u50 u51 u52 u53 u54 u55 u56 u57 u58 u59 u60 u61 u62 u63 u64 u65 u66 u67 u68 u69 u70 u71 u72 u73 u74 u75 u76 u77 u78 u79 u125 u126 u127 u128 u129 u130 u131 u132 u133 u134 u135 u136 u137 u138 u139 u140 u141 u142 u143 u144 u145 u146 u147 u148 u149 u150 u151 u152 u153 u154 u155 u156 u157 u158 u159 u160 u161 u162 u163 u164 u165 u166 u167 u168 u169 u170 u171 u172 u173 u174 u175 u176 u177 u178 u179 u180 u181 u182 u183 u184 u185 u186 u187 u188 u189 u190 u191 u192 u193 u194 u195 L1 FP w7 rS QX UK a36 AY CB VC VD oD gk u80 u81 u82 u83 u84 u85 u86 u87 u88 u89 u90 u91 u92 u93 u94 u95 u96 u97 u98 u99 u100 u101 u102 u103 u104 u105 u106 u107 u108 u109 u110 u111 u112 u113 u114 u115 u116 u117 u118 u119 u120 u121 u122 u123 u124 UJ UI UH UG j qV fj JX Lj hj PN PU PM RX MR wi mS MK zW lG
  exact Z9.out
theorem bOA:aIK.1:=by
 intro K hK hK4 W B g base F cp Ap xv Z cN hF hZ c l fM f0 i0 ins gF L0 w0 hc hc2 tW oP qT mR cap cB fQ jD iL kQ hsize eA cE punit dW fR dU fJ fK iG a5R u23 u24 u25 BJ BI BH k num f Lk hk kZ Hq wo hz hlt a kk t nn s ps b e r HL dL nD As cs hcs Ab cb hcb Ae ce hce nT nL HN rM hab NL pH rO r_ sA oM lW jI hzl AR gI fG eY j_ jO kV pY pI oN qY rA qZ oV rL HE hsc fY rX rU iP rH BG w1 pW cz I6 az HI BF BD hzb bs jR w2 hz2 CQ hb1 oW rP CV fo AL tA SM w3 hz3 AU cl tB oL ET IQ D5 w4 gY Ac cc x0 AQ u26 u27 u28 u29 u30 u31 u32 u33 u34 u35 u36 u37 u38 u39 u40 u41 u42 u43 u44 u45 u46 u47 u48 u49 u50 u51 u52 u53 u54 u55 u56 u57 u58 u59 u60 u61 u62 u63 u64 u65 u66 u67 u68 u69 u70 u71 u72 u73 u74 u75 u76 u77 u78 u79 u125 u126 u127 u128 u129 u130 u131 u132 u133 u134 u135 u136 u137 u138 u139 u140 u141 u142 u143 u144 u145 u146 u147 u148 u149 u150 u151 u152 u153 u154 u155 u156 u157 u158 u159 u160 u161 u162 u163 u164 u165 u166 u167 u168 u169 u170 u171 u172 u173 u174 u175 u176 u177 u178 u179 u180 u181 u182 u183 u184 u185 u186 u187 u188 u189 u190 u191 u192 u193 u194 u195 L1 FP w7 rS QX a4C a4B AY CB VC VD oD gk u80 u81 u82 u83 u84 u85 u86 u87 u88 u89 u90 u91 u92 u93 u94 u95 u96 u97 u98 u99 u100 u101 u102 u103 u104 u105 u106 u107 u108 u109 u110 u111 u112 u113 u114 u115 u116 u117 u118 u119 u120 u121 u122 u123 u124 a4A a3_ a39 a38 j qV fj JX Lj hj PN PU PM RX MR wi mS MK zW lG
 obtain⟨a9,c9,k9,t9,n9,s9,ps9,b9,e9,r9,sv9,pv9,bv9,ev9,R6,QM,aRQ,hal9,-,-,-,-,-,x5,-⟩:=lX.at_ MK.out lG
 injection R6 with hA9 PA aRE
 subst hA9
 clear PA aRE
 obtain⟨Ab9,cb9,rfl,-⟩:=aRQ.body.form
 have HBy:=hid aRQ.body
 have ZM:=aYO QM
 obtain⟨bQ4,hcn9⟩:=tB.out b9 ZM
 obtain⟨bQN,bQV,hpa9⟩:=IQ.out b9 ZM
 have tX:=bG0 QM
 have hfd:=bH4 QM
 have HE9:=hid (PN.out.trans (by rw[bG6 F QM,List.map_append,←dZ]))
 have hz9:=RX.out
 rw[bIR QM] at hz9
 have HZb:=hid hz9.left
 have aQ9:=hz9.right
 rw[Fo.oO] at aQ9
 have HZr:=hid aQ9
 obtain⟨bQ3,bQ2,bQ1⟩:=PM.out
 have a7T:=bJ9 QM
 rw[a7T] at bQ1
 clear a7T
 rw[hfd] at bQ3
 rw[tX] at bQ2
 have hbsc:=Fo.jX b9 false
 have hbfc:=nU b9 false
 have P3:=hid x5
 clear QM aRQ ZM tX hfd hz9 aQ9 PN RX x5 PM
 obtain⟨-,-,-,-,g4⟩:=pN mS.out.bk.blk
 have f4:=mS.out.bk.blk.frozen 4
 go_upto_region 16 with fail
 have oK:=hid (show iI W B g base wo.heap.size bs NL.toArray SM.toArray (.slice Ap F cp) (.slice (some az) Z.length cz) xv Z w0 gF.ownBlock (wi.setCell ⟨g,4,none⟩ (.int .i64 ((fj:Int)+1))) JX Lj (fj+1) from mS.out.count (fj+1))
 have HCc:=hid (show lX W B (wi.setCell ⟨g,4,none⟩ (.int .i64 ((fj:Int)+1))) w3.heap.size _ cl from mS.out.bK7 MK.out 4 _)
 have a6_:g≠a9.block:=fun e=>aF.ne MK.out mS.out.bk.blk (by decide) (by rw[e];rfl)
 have hx5:(wi.setCell ⟨g,4,none⟩ (.int .i64 ((fj:Int)+1))).cell? ⟨(a9.add (j*7)).block,(a9.add (j*7)).off+5,none⟩=some (.slice Ab9 b9.len cb9):=(World.cell?_setCell_far wi ⟨g,4,none⟩ ⟨(a9.add (j*7)).block,(a9.add (j*7)).off+5,none⟩ _ (by rw[f_];exact a6_)).trans P3.out
 have hw8:(wi.setCell ⟨g,4,none⟩ (.int .i64 ((fj:Int)+1))).heap.size=wi.heap.size:=by simp[World.setCell]
 generalize wi.setCell ⟨g,4,none⟩ (.int .i64 ((fj:Int)+1))=w8 at *
 clear g4 f4 MK mS P3
 obtain⟨g0,-,-,-,g4⟩:=pN oK.out.bk.blk
 have g4':w8.cell? ⟨g,4,none⟩=some (.int .i64 ((fj:Int)+1)):=g4
 have HX8:=hid hx5
 clear g4
 have AW:=hid (oK.out.below ((Below.refl w8.heap.size w8).drew))
 have sK:=hid (aF.below HCc.out ((Below.refl w8.heap.size w8).drew) (aC _))
 have hhw:=zW.out
 have QB:=hid (HI.out b9.cnt (by omega) b9 (.slice Ab9 b9.len cb9) qV (fj+1) 0 ⟨cE,F+fj,(num:Nat),-1,-1,-1,0,Fo.cJ b9 qV⟩ true JX Lj w8.drew (aC _) (by omega) bQ4 HBy.out bQN bQV (by omega) (oW.out _ _ _ _ _ AW.out) AW.out.bk PU.out HZb.out (by omega))
 go_still_tail 21,(by kernel_rfl)
 change wpList _ _ _ _ _ w8.drew
 go_wp2_with fail
 rw[show ((F:Int)+((fj:Int)+1)-1)=((F+fj:Nat):Int) by omega]
 refine QB.out.mono ?_
 rintro e9' w9 ⟨rfl,tv9,a71,ZO,a5Y⟩
 have HR9:=hid (AW.out.call a71 ZO a5Y)
 have HC9:=hid (AW.out.nodes sK.out ZO)
 have PA:w9.cell? ⟨(a9.add (j*7)).block,(a9.add (j*7)).off+5,none⟩=some (.slice Ab9 b9.len cb9):=(World.cell?_of_block (w:=w8.drew) (by rw[f_];exact ZO.block a9.block (aF.lt sK.out a9.block rfl).2 (Ne.symm a6_) (fun e=>aF.apart AW.out.bk.tab sK.out (by decide) a9.block e.symm rfl))).trans HX8.out
 have hz9':w8.heap.size≤w9.heap.size:=ZO.size
 have HTo:=hid (aM6 g _ _ _ xv _ Z b9 (.slice Ab9 b9.len cb9) qV w9.heap.size w9 HR9.out.bk.blk (aW.reads HR9.out.bk.aL (by omega)) ((HBy.out.below (oW.out _ _ _ _ _ HR9.out)).more (by omega)) (by omega) (by omega) (by omega) HZb.out)
 clear a71 ZO a5Y QB AW sK oK HCc hx5 g0 g4' HX8
 go_wp2_with fail
 refine HTo.out.mono ?_
 rintro B9 tC ⟨rfl,rfl⟩
 obtain⟨L9,hL9⟩:∃z,z=Lj++(recs F b9 false qV (fj+1) 0 ⟨cE,F+fj,(num:Nat),-1,-1,-1,0,Fo.cJ b9 qV⟩).map (jL eV):=⟨_,rfl⟩
 have HL9:=hid (show L9.length=qV+Fo.aD b9 false by rw[hL9,bL,cL,eU,PU.out])
 have bSU:=hid (HE9.out.trans (by rw[←hL9]))
 rw[←hL9] at HR9
 clear hL9 HE9 HTo PA
 go_wp2
 go_roundg (cl.len-(j+1))
 case rel=>exact⟨j+1,qV+Fo.aD b9 false,fj+1+Fo.aK b9 false,tv9,L9,lG,rfl,by go_num,by go_num,bSU,HL9,hid ⟨by omega,by omega,by omega⟩,HZr,HR9,HC9,hid (by omega)⟩
 rw[MR.out];omega
noncomputable def aPZ:Σ' (R1:Prop),(QE R1→aIK.2.1):=by
 refine' ⟨_,fun LL=>?main⟩
 case main=>
  intro K hK hK4 W B g base F cp Ap xv Z cN hF hZ c l fM f0 i0 ins gF L0 w0 hc hc2 tW oP qT mR cap cB fQ jD iL kQ hsize eA cE punit dW fR dU fJ fK iG UR u23 u24 u25 BJ BI BH k num f Lk hk kZ Hq wo hz hlt a kk t nn s ps b e r HL dL nD As cs hcs Ab cb hcb Ae ce hce nT nL HN rM hab NL pH rO r_ sA oM lW jI hzl AR gI fG eY j_ jO kV pY pI oN qY rA qZ oV rL HE hsc fY rX rU iP rH BG w1 pW cz I6 az HI BF BD hzb bs jR w2 hz2 CQ hb1 oW rP CV fo AL tA SM w3 hz3 AU cl tB oL ET IQ D5 w4 gY Ac cc x0 AQ u26 u27 u28 u29 u30 u31 u32 u33 u34 u35 u36 u37 u38 u39 u40 u41 u42 u43 u44 u45 u46 u47 u48 u49 u50 u51 u52 u53 u54 u55 u56 u57 u58 u59 u60 u61 u62 u63 u64 u65 u66 u67 u68 u69 u70 u71 u72 u73 u74 u75 u76 u77 u78 u79 u125 u126 u127 u128 u129 u130 u131 u132 u133 u134 u135 u136 u137 u138 u139 u140 u141 u142 u143 u144 u145 u146 u147 u148 u149 u150 u151 u152 u153 u154 u155 u156 u157 u158 u159 u160 u161 u162 u163 u164 u165 u166 u167 u168 u169 u170 u171 u172 u173 u174 u175 u176 u177 u178 u179 u180 u181 u182 u183 u184 u185 u186 u187 u188 u189 u190 u191 u192 u193 u194 u195 L1 FP w7 rS QX UK a36 AY CB VC VD oD gk u80 u81 u82 u83 u84 u85 u86 u87 u88 u89 u90 u91 u92 u93 u94 u95 u96 u97 u98 u99 u100 u101 u102 u103 u104 u105 u106 u107 u108 u109 u110 u111 u112 u113 u114 u115 u116 u117 u118 u119 u120 u121 u122 u123 u124 UJ UI UH UG j qV fj JX Lj hj PN PU PM RX MR wi mS MK zW lG
  have hje:j=cl.len:=by omega
  have hfe:=PM.out
  rw[hje,gB,n_,nY,VD,VC] at hfe
  obtain⟨bQ6,bQ5,-⟩:=hfe
  obtain rfl:fj=f+Fo.aK s true:=by omega
  obtain rfl:qV=num+1+Fo.aD s true:=by omega
  have VH:Lj=Lk++x0::(recs F s true (num+1) f 0 ⟨cE,punit,(num:Nat),-1,-1,-1,0,[]⟩).map (jL eV):=by
   have h1:=PN.out
   rw[hje,gB,sU,List.map_nil,List.append_nil,FP.out,dZ] at h1
   rw[←h1,AY.out]
   rfl
  have Z5:=hid PU.out
  clear PN bQ6 bQ5 hje PM RX oL tB IQ D5 CB AR pI VD VC AY PU FP QX MK
  obtain⟨RS,hRS⟩:∃z,z=(recs F s true (num+1) f 0 ⟨cE,punit,(num:Nat),-1,-1,-1,0,[]⟩).map (jL eV):=⟨_,rfl⟩
  rw[←hRS] at VH
  have HRS:=hid hRS.symm
  clear hRS
  obtain⟨kU,a6X⟩:∃z:Int,z=if kk=18 then ((num:Nat):Int) else fo:=⟨_,rfl⟩
  have Q2:=hid a6X
  clear a6X
  have DK:wi.cell? ⟨wo.heap.size,0,none⟩=some (.int .u8 kk):=by rw[mS.out.nb.cell 0,List.getElem?_toArray];exact lW.out.1
  have ZF:wi.cell? ⟨bs,10,none⟩=some (.int .i64 fo):=by rw[mS.out.st.cell 10,List.getElem?_toArray];exact AU.out.2
  go_upto_if 129 with fail
  go_cut [23] (fun v23 wx=>v23=.int .i64 kU∧wi=wx)
  case first=>
   by_cases aJI:kk=18
   · have r6:((kk:Int)==18)=true:=beq_iff_eq.2 (by omega)
     have aS6:=hid (show kU=(num:Int) by rw[Q2.out,if_pos aJI])
     clear aJI
     go_wp2
     go_meet
     exact⟨by rw[aS6.out],rfl⟩
   have r6:((kk:Int)==18)=false:=aP (by omega)
   have aS6:=hid (show kU=fo by rw[Q2.out,if_neg aJI])
   clear aJI
   go_wp2
   go_meet
   exact⟨by rw[aS6.out],rfl⟩
  rename_i aIJ aH4 aH3 aH2 aH1 aH0 aHZ aHY aHX aHW aHV aHU aHT aHS aHR aHQ aHP aHO aHN aHM aHL aHK aHJ aHI aHH aHG aHF aHE aHD aHC aHB aHA aG_ aG9 aG8 aG7 aG6 aG5 aG4 aG3 aG2 aG1 aG0 aGZ aGY aGX aGW aGV aGU aGT aGS aGR aGQ aGP aGO aGN aGM aGL aGK aGJ aGI aGH aGG aGF aGE aGD aGC aGB aGA aF_ aF9 aF8 aF7 aF6 aF5 aF4 aF3 aF2 aF1 aF0 aFZ aFY aFX aFW aFV aFU aFT aFS aFR aFQ aFP aFO aFN aFM aFL aFK aFJ aFI aFH aFG aFF aFE aFD aFC aFB aFA aE_ aE9 aE8 aE7 aE6 aE5 aE4 aE3 aE2 aE1 aE0 aEZ aEY aEX aEW aEV aEU aET aES aER _ _ _ _ _ _ _ _ _ _ _ _ _ _ _ _ _ _ _ _ _ _ _ _ _ _ _ _ _ _ _ _ _ _ _ _ _ _ _ _ _ _ _ _ _ aEQ aEP a35 a34
  revert K hK hK4 W B g base F cp Ap xv Z cN hF hZ c l fM f0 i0 ins gF L0 w0 hc hc2 tW oP qT mR cap cB fQ jD iL kQ hsize eA cE punit dW fR dU fJ fK iG UR aIJ u24 u25 BJ BI BH k num f Lk hk kZ Hq wo hz hlt a kk t nn s ps b e r HL dL nD As cs hcs Ab cb hcb Ae ce hce nT nL HN rM hab NL pH rO r_ sA oM lW jI hzl gI fG eY j_ jO kV pY oN qY rA qZ oV rL HE hsc fY rX rU iP rH BG w1 pW cz I6 az HI BF BD hzb bs jR w2 hz2 CQ hb1 oW rP CV fo AL tA SM w3 hz3 AU cl ET w4 gY Ac cc x0 AQ aH4 aH3 aH2 aH1 aH0 aHZ aHY aHX aHW aHV aHU aHT aHS aHR aHQ aHP aHO aHN aHM aHL aHK aHJ aHI aHH aHG aHF aHE aHD aHC aHB aHA aG_ aG9 aG8 aG7 aG6 aG5 aG4 aG3 aG2 aG1 aG0 aGZ aGY aGX aGW aGV aGU aGT aGS aGR aGQ aGP aGO aGN aGM aGL aGK aGJ aGI aGH aGG aGF aGE aGD aGC aGB aGA aF_ aF9 aF8 aF7 aF6 aF5 aF4 aF3 aF2 aF1 aF0 aFZ aFY aFX aFW aFV aFU aFT aFS aFR aFQ aFP aFO aFN aFM aFL aFK aFJ aFI aFH aFG aFF aFE aFD aFC aFB aFA aE_ aE9 aE8 aE7 aE6 aE5 aE4 aE3 aE2 aE1 aE0 aEZ aEY aEX aEW aEV aEU aET aES aER L1 w7 rS UK oD gk UJ UI UH UG j JX Lj hj MR wi zW lG mS Z5 RS VH HRS kU Q2 DK ZF aEQ aEP a35 a34 wc u23 u26 u27 u28 u29 u30 u31 u32 u33 u34 u35 u36 u37 u38 u39 u40 u41 u42 u43 u44 u45 u46 u47 u48 u49 u50 u51 u52 u53 u54 u55 u56 u57 u58 u59 u60 u61 u62 u63 u64 u65 u66 u67 u68 u69 u70 u71 u72 u73 u74 u75 u76 u77 u78 u79 u80 u81 u82 u83 u84 u85 u86 u87 u88 u89 u90 u91 u92 u93 u94 u95 u96 u97 u98 u99 u100 u101 u102 u103 u104 u105 u106 u107 u108 u109 u110 u111 u112 u113 u114 u115 u116 u117 u118 u119 u120 u121 u122 u123 u124 u125 u126 u127 u128 u129 u130 u131 u132 u133 u134 u135 u136 u137 u138 u139 u140 u141 u142 u143 u144 u145 u146 u147 u148 u149 u150 u151 u152 u153 u154 u155 u156 u157 u158 u159 u160 u161 u162 u163 u164 u165 u166 u167 u168 u169 u170 u171 u172 u173 u174 u175 u176 u177 u178 u179 u180 u181 u182 u183 u184 u185 u186 u187 u188 u189 u190 u191 u192 u193 u194 u195 hcut
  exact LL.out
noncomputable def a5V:Σ' (R1:Prop),(QE R1→aPZ.1):=by
 refine' ⟨_,fun LL=>?main⟩
 case main=>
  intro K hK hK4 W B g base F cp Ap xv Z cN hF hZ c l fM f0 i0 ins gF L0 w0 hc hc2 tW oP qT mR cap cB fQ jD iL kQ hsize eA cE punit dW fR dU fJ fK iG UR aIJ u24 u25 BJ BI BH k num f Lk hk kZ Hq wo hz hlt a kk t nn s ps b e r HL dL nD As cs hcs Ab cb hcb Ae ce hce nT nL HN rM hab NL pH rO r_ sA oM lW jI hzl gI fG eY j_ jO kV pY oN qY rA qZ oV rL HE hsc fY rX rU iP rH BG w1 pW cz I6 az HI BF BD hzb bs jR w2 hz2 CQ hb1 oW rP CV fo AL tA SM w3 hz3 AU cl ET w4 gY Ac cc x0 AQ aH4 aH3 aH2 aH1 aH0 aHZ aHY aHX aHW aHV aHU aHT aHS aHR aHQ aHP aHO aHN aHM aHL aHK aHJ aHI aHH aHG aHF aHE aHD aHC aHB aHA aG_ aG9 aG8 aG7 aG6 aG5 aG4 aG3 aG2 aG1 aG0 aGZ aGY aGX aGW aGV aGU aGT aGS aGR aGQ aGP aGO aGN aGM aGL aGK aGJ aGI aGH aGG aGF aGE aGD aGC aGB aGA aF_ aF9 aF8 aF7 aF6 aF5 aF4 aF3 aF2 aF1 aF0 aFZ aFY aFX aFW aFV aFU aFT aFS aFR aFQ aFP aFO aFN aFM aFL aFK aFJ aFI aFH aFG aFF aFE aFD aFC aFB aFA aE_ aE9 aE8 aE7 aE6 aE5 aE4 aE3 aE2 aE1 aE0 aEZ aEY aEX aEW aEV aEU aET aES aER L1 w7 rS UK oD gk UJ UI UH UG j JX Lj hj MR wi zW lG mS Z5 RS VH HRS kU Q2 DK ZF aEQ aEP a35 a34 wc u23 u26 u27 u28 u29 u30 u31 u32 u33 u34 u35 u36 u37 u38 u39 u40 u41 u42 u43 u44 u45 u46 u47 u48 u49 u50 u51 u52 u53 u54 u55 u56 u57 u58 u59 u60 u61 u62 u63 u64 u65 u66 u67 u68 u69 u70 u71 u72 u73 u74 u75 u76 u77 u78 u79 u80 u81 u82 u83 u84 u85 u86 u87 u88 u89 u90 u91 u92 u93 u94 u95 u96 u97 u98 u99 u100 u101 u102 u103 u104 u105 u106 u107 u108 u109 u110 u111 u112 u113 u114 u115 u116 u117 u118 u119 u120 u121 u122 u123 u124 u125 u126 u127 u128 u129 u130 u131 u132 u133 u134 u135 u136 u137 u138 u139 u140 u141 u142 u143 u144 u145 u146 u147 u148 u149 u150 u151 u152 u153 u154 u155 u156 u157 u158 u159 u160 u161 u162 u163 u164 u165 u166 u167 u168 u169 u170 u171 u172 u173 u174 u175 u176 u177 u178 u179 u180 u181 u182 u183 u184 u185 u186 u187 u188 u189 u190 u191 u192 u193 u194 u195 hcut
  obtain⟨rfl,rfl⟩:=hcut
  have kW:=aW.reads mS.out.bk.aL (by omega)
  have PE:=oW.out _ _ _ _ _ mS.out
  have V6:B≤wi.heap.size:=by have:=zW.out;omega
  have hk5:wi.cell? ⟨wo.heap.size,5,none⟩=some (.slice Ab b.len cb):=by rw[mS.out.nb.cell 5,List.getElem?_toArray];exact lW.out.2.2.1
  have HTb:=hid (aM6 g _ _ _ xv _ Z b (.slice Ab b.len cb) (num+1+Fo.aD s true) wi.heap.size wi mS.out.bk.blk kW ((HN.out.body.below PE).more V6) (by omega) (by omega) (by omega) gI.out)
  clear kW lG DK
  go_wp2_with fail
  refine HTb.out.mono ?_
  rintro e11 RI ⟨rfl,rfl⟩
  clear HTb
  go_upto_region 22 with fail
  have a8G:=kZ.out
  have aJK:Lj[num]?=some x0:=by rw[VH,List.getElem?_append_right (by omega),a8G,Nat.sub_self];rfl
  have qL:num<Lj.length:=(mK.1 aJK).1
  obtain⟨tb,ct,CS,zX,AE,hbt,PB,-,hCS,cC,oG⟩:=cP.at_ mS.out.bk.tab uG aJK
  subst zX
  have aQE:=uG _ _ hCS
  have HL:=hid VH
  have aTK:=hid (a0Y b (.slice Ab b.len cb) ((num+1+Fo.aD s true:Nat):Int) kU wi.heap.size wi.drew ((HN.out.body.below PE.drew).more V6))
  obtain⟨mU,aR9⟩:∃z:Int,z=if Fo.isNil b then kU else ((num+1+Fo.aD s true:Nat):Int):=⟨_,rfl⟩
  rw[show (if 0<b.len then ((num+1+Fo.aD s true:Nat):Int) else kU)=mU by rw[aR9,a0N];by_cases h:0<b.len<;>simp[h]] at aTK
  have aS3:=hid aR9
  have bG:wi.drew.cell? ⟨g,1,none⟩=some (.slice (some ⟨tb,0,none⟩) Lj.length ct)∧wi.drew.cell? ⟨wo.heap.size,5,none⟩=some (.slice Ab b.len cb):=⟨(pN mS.out.bk.blk).2.1,hk5⟩
  have f12:wi.drew.frozen? ⟨tb,num*18+12,none⟩=false:=oG _
  obtain⟨u12,RN⟩:∃u,wi.drew.cell? ⟨tb,num*18+12,none⟩=some u:=⟨CS[12]'(by omega),(cC 12 (by decide)).trans (bX (by omega))⟩
  have a8D:=(mS.out.below ((Below.refl wi.heap.size wi).drew)).put (u:=.int .i64 mU) aJK (show 12<18 by decide) (fun cs hc=>bIV hc)
  have a8Y:=hid a8D
  clear aR9 VH a8D cC oG hCS aQE aJK hk5 PE a8G
  refine NA (fun w'=>w'.cell? ⟨g,1,none⟩=some (.slice (some ⟨tb,0,none⟩) Lj.length ct)∧w'.cell? ⟨wo.heap.size,5,none⟩=some (.slice Ab b.len cb)) 12 (by kernel_rfl) ?_
  refine zqA 0 138 ?_ rfl rfl (by kernel_rfl) (fun _ _ _ h=>h) bG (by rfl) (by rintro w⟨bR,bB⟩;go_simp;rfl) ?_
  simp only[Act.put,aJ,aO,aN]
  refine zqA 1 139 ?_ rfl rfl (by kernel_rfl) (fun _ _ _ h=>h) bG (by rfl) (by rintro w⟨bR,bB⟩;go_simp;rfl) ?_
  simp only[Act.put,aJ,aO,aN]
  refine zqA 2 140 ?_ rfl rfl (by kernel_rfl) (fun _ _ _ h=>h) bG (by rfl) (by rintro w⟨bR,bB⟩;go_simp;rfl) ?_
  simp only[Act.put,aJ,aO,aN]
  refine zqA 3 141 ?_ rfl rfl (by kernel_rfl) (fun _ _ _ h=>h) bG (by rfl) (by rintro w⟨bR,bB⟩;go_simp;rfl) ?_
  simp only[Act.put,aJ,aO,aN]
  refine zqA 4 142 ?_ rfl rfl (by kernel_rfl) (fun _ _ _ h=>h) bG (by rfl) (by rintro w⟨bR,bB⟩;go_simp;rfl) ?_
  simp only[Act.put,aJ,aO,aN]
  refine zqA 5 143 ?_ rfl rfl (by kernel_rfl) (fun _ _ _ h=>h) bG (by rfl) (by rintro w⟨bR,bB⟩;go_simp;rfl) ?_
  simp only[Act.put,aJ,aO,aN]
  refine zqA 6 144 ?_ rfl rfl (by kernel_rfl) (fun _ _ _ h=>h) bG (by rfl) (by rintro w⟨bR,bB⟩;go_simp;rfl) ?_
  simp only[Act.put,aJ,aO,aN]
  refine zqA 7 145 ?_ rfl rfl (by kernel_rfl) (fun _ _ _ h=>h) bG (by rfl) (by rintro w⟨bR,bB⟩;go_simp;rfl) ?_
  simp only[Act.put,aJ,aO,aN]
  refine zqA 8 146 ?_ rfl rfl (by kernel_rfl) (fun _ _ _ h=>h) bG (by rfl) (by rintro w⟨bR,bB⟩;go_simp;rfl) ?_
  simp only[Act.put,aJ,aO,aN]
  refine gM (i:=9) rfl (by kernel_rfl) (by rfl) (fun K hK=>?_)
  go_simp
  refine aTK.out.mono ?_
  rintro MP JV ⟨rfl,rfl⟩
  refine hK _ _ (fun _=>bG) ?_
  clear hK K
  try simp only[Act.put,aJ]
  refine gM (i:=10) rfl (by kernel_rfl) (by rfl) (fun K hK=>?_)
  go_simp
  refine hK _ _ (fun _=>bG) ?_
  clear hK K
  refine gM (i:=11) rfl (by kernel_rfl) (by rfl) (fun K hK=>?_)
  go_simp
  refine hK _ _ (fun _=>bG) ?_
  clear hK K
  refine gM (i:=12) rfl (by kernel_rfl) (by rfl) (fun K hK=>?_)
  go_simp
  refine hK _ _ (fun h=>absurd rfl h) ?_
  clear hK K
  refine NJ (by kernel_rfl) ?_ _
  obtain⟨x1,hx1⟩:∃z:bO,z=⟨x0.nd,x0.fn,x0.unit,x0.parent,x0.follow,x0.cD,mU,x0.els,x0.own,x0.reads,x0.calls,x0.cW⟩:=⟨_,rfl⟩
  obtain⟨L2,hL2⟩:∃z:List bO,z=Lk++x1::RS:=⟨_,rfl⟩
  have aP6:Lj.set num x1=L2:=by rw[HL.out,hL2,←kZ.out,a2N]
  have Q5:=hid (show iI W B g base wo.heap.size bs NL.toArray SM.toArray (.slice Ap F cp) (.slice (some az) Z.length cz) xv Z w0 gF.ownBlock (wi.setCell ⟨tb,num*18+12,none⟩ (.int .i64 mU)).drew (.slice (some ⟨tb,0,none⟩) Lj.length ct) L2 (f+Fo.aK s true) by
   have:=a8Y.out
   rw[←hx1,aP6] at this
   exact this)
  have a7A:L2.length=Lj.length:=by rw[←aP6,List.length_set]
  have TC:=hid hx1
  have KH:=hid hL2
  have aAI:=hid a7A
  have aJB:wi.heap.size≤((wi.setCell ⟨tb,num*18+12,none⟩ (.int .i64 mU)).drew).heap.size:=by simp[World.setCell]
  clear aP6 a8Y hx1 hL2 a7A bG f12 RN aTK mS ZF
  generalize (wi.setCell ⟨tb,num*18+12,none⟩ (.int .i64 mU)).drew=mL at *
  go_upto_region 23 with fail
  have a62:=oW.out _ _ _ _ _ Q5.out
  have aR0:L2[num]?=some x1:=by rw[KH.out,List.getElem?_append_right (by have:=kZ.out;omega),show num-Lk.length=0 by have:=kZ.out;omega];rfl
  obtain⟨tb',ct',CS,zX,bRA,a7Z,a6W,-,hCS,cC,oG⟩:=cP.at_ Q5.out.bk.tab uG aR0
  injection zX with GA aRG aRF
  injection GA with GA
  injection GA with GA
  subst GA aRF
  clear aRG bRA
  have aQE:=uG _ _ hCS
  have aQ8:B≤mL.heap.size:=by omega
  have aTJ:=hid (a0Y e (.slice Ae e.len ce) ((num+1+Fo.aD s true+Fo.aD b false:Nat):Int) fo mL.heap.size mL.drew ((HN.out.els.below a62.drew).more aQ8))
  obtain⟨el,AB⟩:∃z:Int,z=if Fo.isNil e then fo else ((num+1+Fo.aD s true+Fo.aD b false:Nat):Int):=⟨_,rfl⟩
  rw[show (if 0<e.len then ((num+1+Fo.aD s true+Fo.aD b false:Nat):Int) else fo)=el by rw[AB,a0N];by_cases h:0<e.len<;>simp[h]] at aTJ
  have Hel:=hid AB
  have nH:mL.drew.cell? ⟨g,1,none⟩=some (.slice (some ⟨tb,0,none⟩) Lj.length ct)∧mL.drew.cell? ⟨wo.heap.size,6,none⟩=some (.slice Ae e.len ce)∧mL.drew.cell? ⟨bs,10,none⟩=some (.int .i64 fo):=⟨(pN Q5.out.bk.blk).2.1,(Q5.out.nb.cell 6).trans (by rw[List.getElem?_toArray];exact lW.out.2.2.2),(Q5.out.st.cell 10).trans (by rw[List.getElem?_toArray];exact AU.out.2)⟩
  have f13:mL.drew.frozen? ⟨tb,num*18+13,none⟩=false:=oG _
  obtain⟨u13,q13⟩:∃u,mL.drew.cell? ⟨tb,num*18+13,none⟩=some u:=⟨CS[13]'(by omega),(cC 13 (by decide)).trans (bX (by omega))⟩
  have a8C:=(show iI W B g base wo.heap.size bs NL.toArray SM.toArray (.slice Ap F cp) (.slice (some az) Z.length cz) xv Z w0 gF.ownBlock mL.drew (.slice (some ⟨tb,0,none⟩) L2.length ct) L2 (f+Fo.aK s true) by rw[aAI.out];exact Q5.out.below ((Below.refl mL.heap.size mL).drew)).put (u:=.int .i64 el) aR0 (show 13<18 by decide) (fun cs hc=>bKV hc)
  have a8X:=hid a8C
  clear AB a8C cC oG hCS aQE aR0 a62 Q5
  refine NA (fun w'=>w'.cell? ⟨g,1,none⟩=some (.slice (some ⟨tb,0,none⟩) Lj.length ct)∧w'.cell? ⟨wo.heap.size,6,none⟩=some (.slice Ae e.len ce)∧w'.cell? ⟨bs,10,none⟩=some (.int .i64 fo)) 13 (by kernel_rfl) ?_
  refine cG (i:=0) (d:=some 150) (v:=?_) rfl rfl (by kernel_rfl) (by kernel_rfl) (by kernel_rfl) (fun _ _ _ h=>h) (by kernel_rfl) (by decide) nH (by rfl) (by rintro w⟨bR,bB,MJ⟩;go_simp;rfl) ?_
  simp only[Act.put,aJ,aO,aN]
  refine cG (i:=1) (d:=some 151) (v:=?_) rfl rfl (by kernel_rfl) (by kernel_rfl) (by kernel_rfl) (fun _ _ _ h=>h) (by kernel_rfl) (by decide) nH (by rfl) (by rintro w⟨bR,bB,MJ⟩;go_simp;rfl) ?_
  simp only[Act.put,aJ,aO,aN]
  refine cG (i:=2) (d:=some 152) (v:=?_) rfl rfl (by kernel_rfl) (by kernel_rfl) (by kernel_rfl) (fun _ _ _ h=>h) (by kernel_rfl) (by decide) nH (by rfl) (by rintro w⟨bR,bB,MJ⟩;go_simp;rfl) ?_
  simp only[Act.put,aJ,aO,aN]
  refine cG (i:=3) (d:=some 153) (v:=?_) rfl rfl (by kernel_rfl) (by kernel_rfl) (by kernel_rfl) (fun _ _ _ h=>h) (by kernel_rfl) (by decide) nH (by rfl) (by rintro w⟨bR,bB,MJ⟩;go_simp;rfl) ?_
  simp only[Act.put,aJ,aO,aN]
  refine cG (i:=4) (d:=some 154) (v:=?_) rfl rfl (by kernel_rfl) (by kernel_rfl) (by kernel_rfl) (fun _ _ _ h=>h) (by kernel_rfl) (by decide) nH (by rfl) (by rintro w⟨bR,bB,MJ⟩;go_simp;rfl) ?_
  simp only[Act.put,aJ,aO,aN]
  refine cG (i:=5) (d:=some 155) (v:=?_) rfl rfl (by kernel_rfl) (by kernel_rfl) (by kernel_rfl) (fun _ _ _ h=>h) (by kernel_rfl) (by decide) nH (by rfl) (by rintro w⟨bR,bB,MJ⟩;go_simp;rfl) ?_
  simp only[Act.put,aJ,aO,aN]
  refine cG (i:=6) (d:=some 156) (v:=?_) rfl rfl (by kernel_rfl) (by kernel_rfl) (by kernel_rfl) (fun _ _ _ h=>h) (by kernel_rfl) (by decide) nH (by rfl) (by rintro w⟨bR,bB,MJ⟩;go_simp;rfl) ?_
  simp only[Act.put,aJ,aO,aN]
  refine cG (i:=7) (d:=some 157) (v:=?_) rfl rfl (by kernel_rfl) (by kernel_rfl) (by kernel_rfl) (fun _ _ _ h=>h) (by kernel_rfl) (by decide) nH (by rfl) (by rintro w⟨bR,bB,MJ⟩;go_simp;rfl) ?_
  simp only[Act.put,aJ,aO,aN]
  refine cG (i:=8) (d:=some 158) (v:=?_) rfl rfl (by kernel_rfl) (by kernel_rfl) (by kernel_rfl) (fun _ _ _ h=>h) (by kernel_rfl) (by decide) nH (by rfl) (by rintro w⟨bR,bB,MJ⟩;go_simp;rfl) ?_
  simp only[Act.put,aJ,aO,aN]
  refine cG (i:=9) (d:=some 159) (v:=?_) rfl rfl (by kernel_rfl) (by kernel_rfl) (by kernel_rfl) (fun _ _ _ h=>h) (by kernel_rfl) (by decide) nH (by rfl) (by rintro w⟨bR,bB,MJ⟩;go_simp;rfl) ?_
  simp only[Act.put,aJ,aO,aN]
  refine gM (i:=10) rfl (by kernel_rfl) (by rfl) (fun K hK=>?_)
  go_simp
  refine aTJ.out.mono ?_
  rintro MO O0 ⟨rfl,rfl⟩
  refine hK _ _ (fun _=>nH) ?_
  clear hK K
  try simp only[Act.put,aJ]
  refine gM (i:=11) rfl (by kernel_rfl) (by rfl) (fun K hK=>?_)
  go_simp
  refine hK _ _ (fun _=>nH) ?_
  clear hK K
  refine gM (i:=12) rfl (by kernel_rfl) (by rfl) (fun K hK=>?_)
  go_simp
  refine hK _ _ (fun _=>nH) ?_
  clear hK K
  refine gM (i:=13) rfl (by kernel_rfl) (by rfl) (fun K hK=>?_)
  go_simp
  refine hK _ _ (fun h=>absurd rfl h) ?_
  clear hK K
  refine NJ (by kernel_rfl) ?_ _
  obtain⟨x2,hx2⟩:∃z:bO,z=⟨x1.nd,x1.fn,x1.unit,x1.parent,x1.follow,x1.cD,x1.body,el,x1.own,x1.reads,x1.calls,x1.cW⟩:=⟨_,rfl⟩
  obtain⟨L3,hL3⟩:∃z:List bO,z=Lk++x2::RS:=⟨_,rfl⟩
  have aP5:L2.set num x2=L3:=by rw[KH.out,hL3,←kZ.out,a2N]
  have JS:=hid (show iI W B g base wo.heap.size bs NL.toArray SM.toArray (.slice Ap F cp) (.slice (some az) Z.length cz) xv Z w0 gF.ownBlock (mL.setCell ⟨tb,num*18+13,none⟩ (.int .i64 el)).drew (.slice (some ⟨tb,0,none⟩) Lj.length ct) L3 (f+Fo.aK s true) by
   have:=a8X.out
   rw[←hx2,aP5,aAI.out] at this
   exact this)
  have aAH:=hid (show L3.length=num+1+Fo.aD s true by rw[←aP5,List.length_set,aAI.out,Z5.out])
  have AP:=hid hx2
  have lK:=hid hL3
  have aRD:mL.heap.size≤((mL.setCell ⟨tb,num*18+13,none⟩ (.int .i64 el)).drew).heap.size:=by simp[World.setCell]
  have XD:=hid (show x2.els=el by rw[hx2])
  clear aP5 a8X hx2 hL3 nH f13 q13 aTJ
  generalize (mL.setCell ⟨tb,num*18+13,none⟩ (.int .i64 el)).drew=O0 at *
  obtain⟨inner,cV⟩:∃z:Int,z=if kk=21 then el else dU:=⟨_,rfl⟩
  have W7:=hid cV
  clear cV
  have a7F:L3[num]?=some x2:=by rw[lK.out,List.getElem?_append_right (by have:=kZ.out;omega),show num-Lk.length=0 by have:=kZ.out;omega];rfl
  obtain⟨tb',ct',sv2,pv2,bv2,ev2,ov2,rv2,cv2,zX,-,-,-,-,-,-,-,cC,-⟩:=aAB.at_ JS.out.bk.tab a7F
  injection zX with GA aRG aRF
  injection GA with GA
  injection GA with GA
  subst GA
  have aRM:O0.cell? ⟨tb,num*18+13,none⟩=some (.int .i64 el):=by rw[cC 13 (by decide),←XD.out];rfl
  have DK:O0.cell? ⟨wo.heap.size,0,none⟩=some (.int .u8 kk):=by rw[JS.out.nb.cell 0,List.getElem?_toArray];exact lW.out.1
  have hg1:=(pN JS.out.bk.blk).2.1
  clear aRG aRF cC a7F
  go_upto_if 166 with fail
  go_cut [25] (fun v25 wx=>v25=.int .i64 inner∧O0=wx)
  case first=>
   by_cases ZN:kk=21
   · have S7:((kk:Int)==21)=true:=beq_iff_eq.2 (by omega)
     have aS5:=hid (show inner=el by rw[W7.out,if_pos ZN])
     clear ZN
     go_wp2
     go_meet
     exact⟨by rw[aS5.out],rfl⟩
   have S7:((kk:Int)==21)=false:=aP (by omega)
   have aS5:=hid (show inner=dU by rw[W7.out,if_neg ZN])
   clear ZN
   go_wp2
   go_meet
   exact⟨by rw[aS5.out],rfl⟩
  rename_i a5Q a5P _ _ _ _ _ _ _ _ _ _ _ _ _ _ _ _ _ _ _ _ _ _ _ _ _ _ _ _ _ _ _ _ _ _ _ _ _ _ _ _ _ _ _ _ _ _ _ _ _ _ _ _ _ _ _ _ _ _ _ _ _ _ _ _ _ _ _ _ _ _ _ _ _ _ _ _ _ _ _ _ _ _ _ _ _ _ _ _ _ _ _ _ _ _ _ _ _ _ _ _ _ _ _ _ _ _ _ _ _ _ _ _ _ _ _ _ _ _ _ _ _ _ _ _ _ _ _ _ _ _ _ _ _ _ _ _ _ _ _ _ _ _ _ _ _ _ _ _ _ _ _ _ _ _ _ _ _ _ _ _ _ _ _ _ _ _ _ _ _ _ _ a32 a30 a3Z a3Y a3X a3W
  revert K hK hK4 W B g base F cp Ap xv Z cN hF hZ c l fM f0 i0 ins gF L0 w0 hc hc2 tW oP qT mR cap cB fQ jD iL kQ hsize eA cE punit dW fR dU fJ fK iG UR aIJ u24 a5Q BJ BI BH k num f Lk hk kZ Hq wo hz hlt a kk t nn s ps b e r a5P dL nD As cs hcs Ab cb hcb Ae ce hce nT nL HN rM hab NL pH rO r_ sA oM lW jI hzl gI fG eY j_ jO kV pY oN qY rA qZ oV rL HE hsc fY rX rU iP rH BG w1 pW cz I6 az HI BF BD hzb bs jR w2 hz2 CQ hb1 oW rP CV fo AL tA SM w3 hz3 AU cl ET w4 gY Ac cc x0 AQ aH4 aH3 aH2 aH1 aH0 aHZ aHY aHX aHW aHV aHU aHT aHS aHR aHQ aHP aHO aHN aHM aHL aHK aHJ aHI aHH aHG aHF aHE aHD aHC aHB aHA aG_ aG9 aG8 aG7 aG6 aG5 aG4 aG3 aG2 aG1 aG0 aGZ aGY aGX aGW aGV aGU aGT aGS aGR aGQ aGP aGO aGN aGM aGL aGK aGJ aGI aGH aGG aGF aGE aGD aGC aGB aGA aF_ aF9 aF8 aF7 aF6 aF5 aF4 aF3 aF2 aF1 aF0 aFZ aFY aFX aFW aFV aFU aFT aFS aFR aFQ aFP aFO aFN aFM aFL aFK aFJ aFI aFH aFG aFF aFE aFD aFC aFB aFA aE_ aE9 aE8 aE7 aE6 aE5 aE4 aE3 aE2 aE1 aE0 aEZ aEY aEX aEW aEV aEU aET aES aER L1 w7 rS UK oD gk UJ UI UH UG j Lj hj MR wi zW Z5 RS HRS kU Q2 aEQ aEP V6 qL tb ct AE hbt PB HL mU aS3 x1 L2 TC KH aAI mL aJB a32 a30 a7Z a6W aQ8 el Hel x2 L3 aAH AP lK XD O0 JS aRD inner W7 a3Z a3Y aRM DK hg1 a3X a3W wc u25 u26 u27 u28 u29 u30 u31 u32 u33 u34 u35 u36 u37 u38 u39 u40 u41 u42 u43 u44 u45 u46 u47 u48 u49 u50 u51 u52 u53 u54 u55 u56 u57 u58 u59 u60 u61 u62 u63 u64 u65 u66 u67 u68 u69 u70 u71 u72 u73 u74 u75 u76 u77 u78 u79 u80 u81 u82 u83 u84 u85 u86 u87 u88 u89 u90 u91 u92 u93 u94 u95 u96 u97 u98 u99 u100 u101 u102 u103 u104 u105 u106 u107 u108 u109 u110 u111 u112 u113 u114 u115 u116 u117 u118 u119 u120 u121 u122 u123 u124 u125 u126 u127 u128 u129 u130 u131 u132 u133 u134 u135 u136 u137 u138 u139 u140 u141 u142 u143 u144 u145 u146 u147 u148 u149 u150 u151 u152 u153 u154 u155 u156 u157 u158 u159 u160 u161 u162 u163 u164 u165 u166 u167 u168 u169 u170 u171 u172 u173 u174 u175 u176 u177 u178 u179 u180 u181 u182 u183 u184 u185 u186 u187 u188 u189 u190 u191 u192 u193 u194 u195 hcut
  exact LL.out
theorem bN8:a5V.1:=by
 intro K hK hK4 W B g base F cp Ap xv Z cN hF hZ c l fM f0 i0 ins gF L0 w0 hc hc2 tW oP qT mR cap cB fQ jD iL kQ hsize eA cE punit dW fR dU fJ fK iG UR aIJ u24 a5Q BJ BI BH k num f Lk hk kZ Hq wo hz hlt a kk t nn s ps b e r a5P dL nD As cs hcs Ab cb hcb Ae ce hce nT nL HN rM hab NL pH rO r_ sA oM lW jI hzl gI fG eY j_ jO kV pY oN qY rA qZ oV rL HE hsc fY rX rU iP rH BG w1 pW cz I6 az HI BF BD hzb bs jR w2 hz2 CQ hb1 oW rP CV fo AL tA SM w3 hz3 AU cl ET w4 gY Ac cc x0 AQ aH4 aH3 aH2 aH1 aH0 aHZ aHY aHX aHW aHV aHU aHT aHS aHR aHQ aHP aHO aHN aHM aHL aHK aHJ aHI aHH aHG aHF aHE aHD aHC aHB aHA aG_ aG9 aG8 aG7 aG6 aG5 aG4 aG3 aG2 aG1 aG0 aGZ aGY aGX aGW aGV aGU aGT aGS aGR aGQ aGP aGO aGN aGM aGL aGK aGJ aGI aGH aGG aGF aGE aGD aGC aGB aGA aF_ aF9 aF8 aF7 aF6 aF5 aF4 aF3 aF2 aF1 aF0 aFZ aFY aFX aFW aFV aFU aFT aFS aFR aFQ aFP aFO aFN aFM aFL aFK aFJ aFI aFH aFG aFF aFE aFD aFC aFB aFA aE_ aE9 aE8 aE7 aE6 aE5 aE4 aE3 aE2 aE1 aE0 aEZ aEY aEX aEW aEV aEU aET aES aER L1 w7 rS UK oD gk UJ UI UH UG j Lj hj MR wi zW Z5 RS HRS kU Q2 aEQ aEP V6 qL tb ct AE hbt PB HL mU aS3 x1 L2 TC KH aAI mL aJB a32 a30 a7Z a6W aQ8 el Hel x2 L3 aAH AP lK XD O0 JS aRD inner W7 a3Z a3Y aRM DK hg1 a3X a3W wc u25 u26 u27 u28 u29 u30 u31 u32 u33 u34 u35 u36 u37 u38 u39 u40 u41 u42 u43 u44 u45 u46 u47 u48 u49 u50 u51 u52 u53 u54 u55 u56 u57 u58 u59 u60 u61 u62 u63 u64 u65 u66 u67 u68 u69 u70 u71 u72 u73 u74 u75 u76 u77 u78 u79 u80 u81 u82 u83 u84 u85 u86 u87 u88 u89 u90 u91 u92 u93 u94 u95 u96 u97 u98 u99 u100 u101 u102 u103 u104 u105 u106 u107 u108 u109 u110 u111 u112 u113 u114 u115 u116 u117 u118 u119 u120 u121 u122 u123 u124 u125 u126 u127 u128 u129 u130 u131 u132 u133 u134 u135 u136 u137 u138 u139 u140 u141 u142 u143 u144 u145 u146 u147 u148 u149 u150 u151 u152 u153 u154 u155 u156 u157 u158 u159 u160 u161 u162 u163 u164 u165 u166 u167 u168 u169 u170 u171 u172 u173 u174 u175 u176 u177 u178 u179 u180 u181 u182 u183 u184 u185 u186 u187 u188 u189 u190 u191 u192 u193 u194 u195 hcut
 obtain⟨rfl,rfl⟩:=hcut
 clear DK hg1 aRM
 have hk5:O0.cell? ⟨wo.heap.size,5,none⟩=some (.slice Ab b.len cb):=by rw[JS.out.nb.cell 5,List.getElem?_toArray];exact lW.out.2.2.1
 have HIb:=hid (HI.out b.cnt (by omega) b (.slice Ab b.len cb) (num+1+Fo.aD s true) (f+Fo.aK s true) 0 ⟨cE,punit,(num:Nat),kU,inner,(num:Nat),1,Fo.cJ b (num+1+Fo.aD s true)⟩ _ (.slice (some ⟨tb,0,none⟩) Lj.length ct) L3 O0 (aC _) (by omega) rA.out HN.out.body oN.out jO (by omega) (oW.out _ _ _ _ _ JS.out) JS.out.bk aAH.out gI.out (by omega))
 go_wp2_with fail
 rw[show ((num:Int)+1+((Fo.aD s true:Nat):Int))=((num+1+Fo.aD s true:Nat):Int) by omega]
 refine HIb.out.mono ?_
 rintro e15 w15 ⟨rfl,bPV,a6D,a5_,a4_⟩
 have Q6:=hid (JS.out.call a6D a5_ a4_)
 have E_:(recs F b false (num+1+Fo.aD s true) (f+Fo.aK s true) 0 ⟨cE,punit,(num:Nat),kU,inner,(num:Nat),1,Fo.cJ b (num+1+Fo.aD s true)⟩).length=Fo.aD b false:=eU _ _ _ _ _ _ _
 obtain⟨RB,hRB⟩:∃z,z=(recs F b false (num+1+Fo.aD s true) (f+Fo.aK s true) 0 ⟨cE,punit,(num:Nat),kU,inner,(num:Nat),1,Fo.cJ b (num+1+Fo.aD s true)⟩).map (jL eV):=⟨_,rfl⟩
 have a8B:RB.length=Fo.aD b false:=by rw[hRB,cL,E_]
 rw[←hRB] at Q6
 have HRB:=hid hRB
 have a8W:=hid a8B
 clear a6D a5_ a4_ HIb JS hk5 E_ hRB a8B
 have B3:w15.cell? ⟨wo.heap.size,6,none⟩=some (.slice Ae e.len ce):=by rw[Q6.out.nb.cell 6,List.getElem?_toArray];exact lW.out.2.2.2
 have ZF:w15.cell? ⟨bs,10,none⟩=some (.int .i64 fo):=by rw[Q6.out.st.cell 10,List.getElem?_toArray];exact AU.out.2
 have HIe:=hid (HI.out e.cnt (by omega) e (.slice Ae e.len ce) (num+1+Fo.aD s true+Fo.aD b false) (f+Fo.aK s true+Fo.aK b false) 0 ⟨cE,punit,(num:Nat),fo,dU,(num:Nat),2,Fo.cJ e (num+1+Fo.aD s true+Fo.aD b false)⟩ _ bPV (L3++RB) w15 (aC _) (by omega) qZ.out HN.out.els qY.out kV (by omega) (oW.out _ _ _ _ _ Q6.out) Q6.out.bk (by rw[bL,aAH.out,a8W.out]) (by have h3:=fG.out;rw[←Nat.add_assoc] at h3;exact h3) (by omega))
 go_wp2_with fail
 rw[show ((num:Int)+1+((Fo.aD s true:Nat):Int)+((Fo.aD b false:Nat):Int))=((num+1+Fo.aD s true+Fo.aD b false:Nat):Int) by omega]
 refine HIe.out.mono ?_
 rintro AJ w16 ⟨rfl,bPU,a6C,a58,a48⟩
 have Z3:=Q6.out.call a6C a58 a48
 have hle:(recs F e false (num+1+Fo.aD s true+Fo.aD b false) (f+Fo.aK s true+Fo.aK b false) 0 ⟨cE,punit,(num:Nat),fo,dU,(num:Nat),2,Fo.cJ e (num+1+Fo.aD s true+Fo.aD b false)⟩).length=Fo.aD e false:=eU _ _ _ _ _ _ _
 have a8Q:=hid (show rP=((num+1+Fo.aD s true+Fo.aD b false+Fo.aD e false:Nat):Int) by rw[←CV.out];omega)
 have HEq:=hid (show L0++(recs F l false fM f0 i0 ⟨cE,punit,dW,fR,dU,fJ,fK,iG⟩).map (jL eV)=((L3++RB)++(recs F e false (num+1+Fo.aD s true+Fo.aD b false) (f+Fo.aK s true+Fo.aK b false) 0 ⟨cE,punit,(num:Nat),fo,dU,(num:Nat),2,Fo.cJ e (num+1+Fo.aD s true+Fo.aD b false)⟩).map (jL eV))++(recs F (Fo.drop (k+1) l) false (num+1+Fo.aD s true+Fo.aD b false+Fo.aD e false) (f+Fo.aK s true+Fo.aK b false+Fo.aK e false) (i0+(k+1)) ⟨cE,punit,dW,fR,dU,fJ,fK,iG⟩).map (jL eV) by
  rw[HE.out,bG5 F kk t nn s ps b e r num f (i0+k) ⟨cE,punit,dW,fR,dU,fJ,fK,iG⟩ fo mU el kU inner (by rw[AL.out,a8Q.out]) Q2.out aS3.out Hel.out W7.out,jI.out]
  simp only[List.map_cons,List.map_append]
  rw[HRS.out,←HRB.out,lK.out,AP.out,TC.out,AQ.out,show i0+(k+1)=i0+k+1 by omega]
  simp only[dZ,List.cons_append,jL])
 obtain⟨RE,hRE⟩:∃z,z=(recs F e false (num+1+Fo.aD s true+Fo.aD b false) (f+Fo.aK s true+Fo.aK b false) 0 ⟨cE,punit,(num:Nat),fo,dU,(num:Nat),2,Fo.cJ e (num+1+Fo.aD s true+Fo.aD b false)⟩).map (jL eV):=⟨_,rfl⟩
 have a8A:RE.length=Fo.aD e false:=by rw[hRE,cL,hle]
 rw[←hRE] at Z3 HEq
 have HLL:=hid (show ((L3++RB)++RE).length=num+1+Fo.aD s true+Fo.aD b false+Fo.aD e false by rw[bL,bL,aAH.out,a8W.out,a8A])
 have MU:=hid (show EY Z (num+1+Fo.aD s true+Fo.aD b false+Fo.aD e false) (Fo.drop (k+1) l) by
  have h4:=eY.out
  rw[show num+1+(Fo.aD s true+Fo.aD b false+Fo.aD e false)=num+1+Fo.aD s true+Fo.aD b false+Fo.aD e false by omega] at h4
  rw[jI.out]
  exact h4)
 have HFf:=hid (show f+Fo.aK s true+Fo.aK b false+Fo.aK e false+Fo.aK (Fo.drop (k+1) l) false=f0+Fo.aK l false∧f+Fo.aK s true+Fo.aK b false+Fo.aK e false+(Fo.drop (k+1) l).cnt≤100000 by
  obtain⟨h5,h6⟩:=oV.out
  have h7:=nU s true
  have h8:=nU b false
  have h9:=nU e false
  rw[jI.out]
  exact⟨by omega,by omega⟩)
 have BR:=hid Z3.bk
 have bSP:=hid Z3.fr
 have bSH:=hid Z3.row
 clear a6C a58 a48 HIe Q6 B3 ZF hle hRE a8A Z3 HE HRB lK AP TC AQ
 go_wp2
 go_roundg (l.len-(k+1))
 case rel=>exact⟨k+1,num+1+Fo.aD s true+Fo.aD b false+Fo.aD e false,f+Fo.aK s true+Fo.aK b false+Fo.aK e false,bPU,(L3++RB)++RE,hlt,rfl,by rw[a8Q.out],by go_num,HEq,HFf,HLL,MU,BR,bSP,bSH⟩
 rw[Hq.out];omega
end
section
open Go.RowKit
open Sl
theorem bN9:aPZ.1:=a5V.2 ⟨bN8⟩
theorem bN_:aIK.2.1:=aPZ.2 ⟨bN9⟩
theorem bOB:aIL.2.1:=aIK.2.2 ⟨bOA⟩ ⟨bN_⟩
theorem bOD:aIM.2.1:=aIL.2.2 ⟨bOC⟩ ⟨bOB⟩
theorem bLC (K:Nat) (hK:K≤140737488355328) (hK4:4<K) (W:World) (B g base F cp:Nat) (Ap:Option Addr) (zv xv:Value) (Z:List Int) (cN:B≤g) (hF:F≤100000) (hZ:Z.length≤100000):∀(c:Nat) (l:Fo) (lv:Value) (fM f0 i0:Nat) (p:Pl) (ins:Bool) (gF:Value) (L0:List bO) (w0:World),
 l.cnt≤c→c≤100000→bE (dK nm op un) l false ins=true→cM W B lv l→Fo.cO K l→l.len<K→l.aX≤100000→Below B W w0→eT W B g base (.slice Ap F cp) zv xv Z w0 gF L0 f0→L0.length=fM→EY Z fM l→f0+l.cnt≤100000→
 Calls Tryz.prog 55 #[.pointer (some ⟨g,0,none⟩),lv,.int .i64 (fM:Nat),.int .i64 (p.fn:Nat),.int .i64 (p.unit:Nat),.int .i64 p.parent,.int .i64 p.after,.int .i64 p.cD] w0
  (a5L W B g base (.slice Ap F cp) zv xv Z w0 gF (L0++(recs F l false fM f0 i0 p).map (jL eV)) (f0+Fo.aK l false)):=aIM.2.2 ⟨bOE⟩ ⟨bOD⟩ K hK hK4 W B g base F cp Ap zv xv Z cN hF hZ
end
end Go.Proofs.YtdlndhbkcgmkkaaGreatDoor
