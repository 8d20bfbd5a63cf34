/-
 Part 24 of 35 of a proof about the given program: facts on which the last part stands.
-/
import Derived.Test.YtdlndhbkcgmkkaaGreatDoorFL23
set_option maxHeartbeats 12800000
set_option linter.unusedVariables false
set_option linter.unusedSimpArgs false
set_option maxRecDepth 100000
namespace Go.Proofs.YtdlndhbkcgmkkaaGreatDoor
section
open Go.RowKit
open Sl
open Go.Lib (hid)
theorem bOE:aIM.1:=by
 intro K hK hK4 W B g base F cp Ap xv Z cN hF hZ c l fM f0 i0 ins gF L0 w0 hc hc2 tW oP qT mR cap cB fQ jD iL kQ hsize eA cE punit dW fR dU fJ fK iG gk u19 u20 u21 u22 u23 u24 u25 u30 u31 u46 u47 u48 u49 u50 u51 u52 u53 u54 u55 u56 u57 u58 u59 u60 u61 u62 u63 u64 u65 u66 u67 u68 u69 u70 u71 u72 u73 u74 u75 u76 u77 u78 u79 u80 u81 u82 u83 u84 u85 u86 u87 u88 u89 u90 u91 u92 u93 u94 u95 u96 u97 u98 u99 u100 u101 u102 u103 u104 u105 u106 u107 u108 u109 u110 u111 u112 u113 u114 u115 u116 u117 u118 u119 u120 u121 u122 u123 u124 u125 u126 u127 u128 u129 u130 u131 u132 u133 u134 u135 u136 u137 u138 u139 u140 u141 u142 u143 u144 u145 u146 u147 u148 u149 u150 u151 u152 u153 u154 u155 u156 u157 u158 u159 u160 u161 u162 u163 u164 u165 u166 u167 u168 u169 u170 u171 u172 u173 u174 u175 u176 u177 u178 u179 u180 u181 u182 u183 u184 u185 u186 u187 u188 u189 u190 u191 u192 u193 u194 u195 a4Z a4Y a4X k num f tv Lk hk kZ hrow Hq wo hz hlt a kk t nn s ps b e r HL dL nD As cs hcs Ab cb hcb Ae ce hce nT nL HN rM hab NL pH rO r_ sA oM lW jI hzl AR gI fG eY j_ jO kV pY oL tB pI oN qY rA qZ oV rL HE hsc fY rX rU iP rH a4W w1 cQ D3 gZ pW cz hz1 hz2 az HI a4V a4U aT a4T a4S hzb eN QD IC g_ a4R a4Q a4P a4O
 clear HL HI fQ jD iL eA hrow Hq jI AR oL tB D3 hz1 hz2 pY gZ oV rU iP hsc fY rX rH hcs hcb hce rM oP hF hZ mR qT kQ hsize hK hK4 nD dL HE aT gI fG eY pI oN qY rA qZ rL
 refine wp_region_held_drew (S:=fun w'=>Below w1.heap.size w1 w') (by kernel_rfl) (Below.refl _ _).drew (fun kH=>?_)
 refine D_ (i:=0) (d:=some 46) (v:=.agg NL.toArray) rfl rfl (by kernel_rfl) (by kernel_rfl) (by kernel_rfl) (fun _ _ _ h=>h) (by exact yieldsIf_load_mid (by rfl) 69 _ (by rfl) wo.heap.size 0 (by rfl) NL _ (fun w hSw=>IC.out w hSw) Tryz.underlying69 rfl pH.out) kH ?_
 simp only[Act.put,aJ,aO,aN]
 refine D_ (i:=1) (d:=some 47) (v:=?_) rfl rfl (by kernel_rfl) (by kernel_rfl) (by kernel_rfl) (fun _ _ _ h=>h) (Or.inl ⟨by rfl,by intro w hSw;(try dsimp only at hSw);have z3:=g_.out w hSw;go_simp;rfl⟩) kH ?_
 simp only[Act.put,aJ,aO,aN]
 refine D_ (i:=2) (d:=some 48) (v:=?_) rfl rfl (by kernel_rfl) (by kernel_rfl) (by kernel_rfl) (fun _ _ _ h=>h) (Or.inl ⟨by rfl,by intro w hSw;(try dsimp only at hSw);have z3:=g_.out w hSw;go_simp;rfl⟩) kH ?_
 simp only[Act.put,aJ,aO,aN]
 refine D_ (i:=3) (d:=some 49) (v:=?_) rfl rfl (by kernel_rfl) (by kernel_rfl) (by kernel_rfl) (fun _ _ _ h=>h) (Or.inl ⟨by rfl,by intro w hSw;(try dsimp only at hSw);have z3:=g_.out w hSw;go_simp;rfl⟩) kH ?_
 simp only[Act.put,aJ,aO,aN]
 refine D_ (i:=4) (d:=some 50) (v:=?_) rfl rfl (by kernel_rfl) (by kernel_rfl) (by kernel_rfl) (fun _ _ _ h=>h) (Or.inl ⟨by rfl,by intro w hSw;(try dsimp only at hSw);have z3:=g_.out w hSw;go_simp;rfl⟩) kH ?_
 simp only[Act.put,aJ,aO,aN]
 refine D_ (i:=5) (d:=some 51) (v:=?_) rfl rfl (by kernel_rfl) (by kernel_rfl) (by kernel_rfl) (fun _ _ _ h=>h) (Or.inl ⟨by rfl,by intro w hSw;(try dsimp only at hSw);have z3:=g_.out w hSw;go_simp;rfl⟩) kH ?_
 simp only[Act.put,aJ,aO,aN]
 refine D_ (i:=6) (d:=some 52) (v:=?_) rfl rfl (by kernel_rfl) (by kernel_rfl) (by kernel_rfl) (fun _ _ _ h=>h) (Or.inl ⟨by rfl,by intro w hSw;(try dsimp only at hSw);have z3:=g_.out w hSw;go_simp;rfl⟩) kH ?_
 simp only[Act.put,aJ,aO,aN]
 refine D_ (i:=7) (d:=some 53) (v:=?_) rfl rfl (by kernel_rfl) (by kernel_rfl) (by kernel_rfl) (fun _ _ _ h=>h) (Or.inl ⟨by rfl,by intro w hSw;(try dsimp only at hSw);have z3:=g_.out w hSw;go_simp;rfl⟩) kH ?_
 simp only[Act.put,aJ,aO,aN]
 refine D_ (i:=9) (d:=some 55) (v:=.agg NL.toArray) rfl rfl (by kernel_rfl) (by kernel_rfl) (by kernel_rfl) (fun _ _ _ h=>h) (by exact yieldsIf_load_mid (by rfl) 69 _ (by rfl) wo.heap.size 0 (by rfl) NL _ (fun w hSw=>IC.out w hSw) Tryz.underlying69 rfl pH.out) kH ?_
 simp only[Act.put,aJ,aO,aN]
 refine wpAnyH_ready (rs:=[8,12]) (by kernel_rfl) (by simp) ?_
 refine AllReadyH.cons rfl (fun K hK=>?_) (AllReadyH.cons rfl (fun K hK=>?_) AllReadyH.nil)
 · skip
   go_simp
   refine (eN.out _ (Below.refl w1.heap.size w1).drew).mono ?_
   rintro e5 w5 ⟨v5,rfl,hs5,aQ⟩
   obtain⟨A5,c5,n5,rfl,-⟩:=aF.src hs5
   have dM:Below w1.heap.size w1 w5:=Below.trans (Below.refl w1.heap.size w1).drew (aQ.mono ((Below.refl w1.heap.size w1).drew:Below w1.heap.size w1 _).size)
   refine hK.out _ _ dM (fun SK=>?_)
   clear hK K
   try simp only[Act.put,aJ,aO,aN]
   refine wpAnyH_ready (rs:=[10,12]) (by kernel_rfl) (by simp) ?_
   refine AllReadyH.cons rfl (fun K hK=>?_) (AllReadyH.cons rfl (fun K hK=>?_) AllReadyH.nil)
   · skip
     go_simp
     refine (QD.out _ dM).mono ?_
     rintro e6 w6 ⟨v6,rfl,eX,b_⟩
     obtain⟨A6,c6,n6,rfl,-⟩:=aF.src eX
     have cT:Below w1.heap.size w1 w6:=Below.trans dM (b_.mono (dM:Below w1.heap.size w1 _).size)
     refine hK.out _ _ cT (fun DT=>?_)
     clear hK K
     obtain⟨SL,OP⟩:∃z:List Value,z=[.int .u8 kk,.string t,.int .i64 nn,.slice As s.len cs,.slice nT ps.length nL,.slice Ab b.len cb,.slice Ae e.len ce,.int .i64 (cE:Nat),.int .i64 (punit:Nat),.int .i64 dW,.int .i64 fR,.int .i64 dU,.int .i64 0,.int .i64 0,.slice A5 (Fo.own s).len c5,.slice A6 (eV ⟨kk,t,nn,s,ps,b,e⟩).length c6,.slice none 0 0,.bool false]:=⟨_,rfl⟩
     have B7:=hid OP
     clear OP
     try simp only[Act.put,aJ,aO,aN]
     refine D_ (i:=11) (d:=some 57) (v:=.agg SL.toArray) rfl rfl (by kernel_rfl) (by kernel_rfl) (by kernel_rfl) (fun _ _ _ h=>h) (Or.inl ⟨by rfl,by intro w hSw;have h9:=oM.out;rw[h9,B7.out];go_simp⟩) DT ?_
     try simp only[Act.put,aJ,aO,aN]
     refine wpAnyH_ready (rs:=[12]) (by kernel_rfl) (by simp) ?_
     refine AllReadyH.cons rfl (fun K hK=>?_) AllReadyH.nil
     go_simp
     refine hK.out _ _ (cT.alloc (cT:Below w1.heap.size w1 _).size _) (fun hH3=>?_)
     clear hK K
     try simp only[Act.put,aJ,aO,aN]
     refine wpAnyH_ready (rs:=[13]) (by kernel_rfl) (by simp) ?_
     refine AllReadyH.cons rfl (fun K hK=>?_) AllReadyH.nil
     have lU:=aG.new w6 71 #[.int .u8 0,.string ByteArray.empty,.int .i64 0,.slice none 0 0,.slice none 0 0,.slice none 0 0,.slice none 0 0,.int .i64 0,.int .i64 0,.int .i64 0,.int .i64 0,.int .i64 0,.int .i64 0,.int .i64 0,.slice none 0 0,.slice none 0 0,.slice none 0 0,.bool false]
     have G3:=aF.alloc (aF.below hs5 b_ (aC _)) (.cells #[.int .u8 0,.string ByteArray.empty,.int .i64 0,.slice none 0 0,.slice none 0 0,.slice none 0 0,.slice none 0 0,.int .i64 0,.int .i64 0,.int .i64 0,.int .i64 0,.int .i64 0,.int .i64 0,.int .i64 0,.slice none 0 0,.slice none 0 0,.slice none 0 0,.bool false] 71)
     have G1:=aF.alloc eX (.cells #[.int .u8 0,.string ByteArray.empty,.int .i64 0,.slice none 0 0,.slice none 0 0,.slice none 0 0,.slice none 0 0,.int .i64 0,.int .i64 0,.int .i64 0,.int .i64 0,.int .i64 0,.int .i64 0,.int .i64 0,.slice none 0 0,.slice none 0 0,.slice none 0 0,.bool false] 71)
     have GD:=hid (show SL.length=18 by rw[B7.out];rfl)
     refine aME (cs:=SL.toArray) rfl _ _ 71 (by rfl) (by rfl) (by rfl) lU (by rw[List.size_toArray,GD.out];rfl) (by rw[List.size_toArray,GD.out];exact aD9) (by rw[B7.out];simp[Value.oneCell']) ?_
     intro w7 dI eM
     have hge:w1.heap.size≤w6.heap.size:=by first|exact aC _|exact dM.size|exact cT.size
     have iQ:Below w1.heap.size w1 w7:=(cT.alloc cT.size _:Below w1.heap.size w1 _).grown eM (cT.alloc cT.size _:Below w1.heap.size w1 _).size (fun j hj=>by injection hj with hj;subst hj;exact hge)
     refine hK.out _ _ iQ (fun hH9=>?_)
     clear hK K
     have hO7:=aF.kept G3 eM (fun k e=>by injection e with e;subst e;exact aF.ne G3 lU (by decide))
     have G0:=aF.kept G1 eM (fun k e=>by injection e with e;subst e;exact aF.ne G1 lU (by decide))
     refine wpAnyH_done (by kernel_rfl) ?_ _
     clear GD
     try simp only[Act.put,aJ,aO,aN]
     go_wp2
     go_meet
     exact⟨_,SL,rfl,hid hge,hid dI,hid (by rw[B7.out];exact⟨_,_,_,_,_,_,_,rfl,HN.out,aF.more hO7 (by first|exact aC _|exact dM.size|simp),aF.more G0 (by first|exact dM.size|simp;have:=dM.size;omega),aNG _ _,fun _=>rfl⟩),hid iQ⟩
   skip
   go_simp
   refine hK.out _ _ (dM.alloc (dM:Below w1.heap.size w1 _).size _) (fun DT=>?_)
   clear hK K
   try simp only[Act.put,aJ,aO,aN]
   refine wpAnyH_ready (rs:=[10]) (by kernel_rfl) (by simp) ?_
   refine AllReadyH.cons rfl (fun K hK=>?_) AllReadyH.nil
   go_simp
   refine (QD.out _ (dM.alloc dM.size _)).mono ?_
   rintro e6 w6 ⟨v6,rfl,eX,b_⟩
   obtain⟨A6,c6,n6,rfl,-⟩:=aF.src eX
   have cT:Below w1.heap.size w1 w6:=Below.trans (dM.alloc dM.size _) (b_.mono ((dM.alloc dM.size _):Below w1.heap.size w1 _).size)
   refine hK.out _ _ cT (fun DT=>?_)
   clear hK K
   obtain⟨SL,OP⟩:∃z:List Value,z=[.int .u8 kk,.string t,.int .i64 nn,.slice As s.len cs,.slice nT ps.length nL,.slice Ab b.len cb,.slice Ae e.len ce,.int .i64 (cE:Nat),.int .i64 (punit:Nat),.int .i64 dW,.int .i64 fR,.int .i64 dU,.int .i64 0,.int .i64 0,.slice A5 (Fo.own s).len c5,.slice A6 (eV ⟨kk,t,nn,s,ps,b,e⟩).length c6,.slice none 0 0,.bool false]:=⟨_,rfl⟩
   have B7:=hid OP
   clear OP
   try simp only[Act.put,aJ,aO,aN]
   refine D_ (i:=11) (d:=some 57) (v:=.agg SL.toArray) rfl rfl (by kernel_rfl) (by kernel_rfl) (by kernel_rfl) (fun _ _ _ h=>h) (Or.inl ⟨by rfl,by intro w hSw;have h9:=oM.out;rw[h9,B7.out];go_simp⟩) DT ?_
   try simp only[Act.put,aJ,aO,aN]
   refine wpAnyH_ready (rs:=[13]) (by kernel_rfl) (by simp) ?_
   refine AllReadyH.cons rfl (fun K hK=>?_) AllReadyH.nil
   have lU:=(aG.new w5 71 #[.int .u8 0,.string ByteArray.empty,.int .i64 0,.slice none 0 0,.slice none 0 0,.slice none 0 0,.slice none 0 0,.int .i64 0,.int .i64 0,.int .i64 0,.int .i64 0,.int .i64 0,.int .i64 0,.int .i64 0,.slice none 0 0,.slice none 0 0,.slice none 0 0,.bool false]).below b_ (by simp)
   have G3:=aF.below (aF.alloc hs5 (.cells #[.int .u8 0,.string ByteArray.empty,.int .i64 0,.slice none 0 0,.slice none 0 0,.slice none 0 0,.slice none 0 0,.int .i64 0,.int .i64 0,.int .i64 0,.int .i64 0,.int .i64 0,.int .i64 0,.int .i64 0,.slice none 0 0,.slice none 0 0,.slice none 0 0,.bool false] 71)) b_ (aC _)
   have G1:=eX
   have GD:=hid (show SL.length=18 by rw[B7.out];rfl)
   refine aME (cs:=SL.toArray) rfl _ _ 71 (by rfl) (by rfl) (by rfl) lU (by rw[List.size_toArray,GD.out];rfl) (by rw[List.size_toArray,GD.out];exact aD9) (by rw[B7.out];simp[Value.oneCell']) ?_
   intro w7 dI eM
   have hge:w1.heap.size≤w5.heap.size:=by first|exact aC _|exact dM.size|exact cT.size
   have iQ:Below w1.heap.size w1 w7:=(cT:Below w1.heap.size w1 _).grown eM (cT:Below w1.heap.size w1 _).size (fun j hj=>by injection hj with hj;subst hj;exact hge)
   refine hK.out _ _ iQ (fun hH9=>?_)
   clear hK K
   have hO7:=aF.kept G3 eM (fun k e=>by injection e with e;subst e;exact aF.ne G3 lU (by decide))
   have G0:=aF.kept G1 eM (fun k e=>by injection e with e;subst e;exact aF.ne G1 lU (by decide))
   refine wpAnyH_done (by kernel_rfl) ?_ _
   clear GD
   try simp only[Act.put,aJ,aO,aN]
   go_wp2
   go_meet
   exact⟨_,SL,rfl,hid hge,hid dI,hid (by rw[B7.out];exact⟨_,_,_,_,_,_,_,rfl,HN.out,aF.more hO7 (by first|exact aC _|exact dM.size|simp),aF.more G0 (by first|exact dM.size|simp;have:=dM.size;omega),aNG _ _,fun _=>rfl⟩),hid iQ⟩
 skip
 go_simp
 refine hK.out _ _ ((Below.refl w1.heap.size w1).drew.alloc ((Below.refl w1.heap.size w1).drew:Below w1.heap.size w1 _).size _) (fun SK=>?_)
 clear hK K
 try simp only[Act.put,aJ,aO,aN]
 refine wpAnyH_ready (rs:=[8]) (by kernel_rfl) (by simp) ?_
 refine AllReadyH.cons rfl (fun K hK=>?_) AllReadyH.nil
 go_simp
 refine (eN.out _ ((Below.refl w1.heap.size w1).drew.alloc (aC _) _)).mono ?_
 rintro e5 w5 ⟨v5,rfl,hs5,aQ⟩
 obtain⟨A5,c5,n5,rfl,-⟩:=aF.src hs5
 have dM:Below w1.heap.size w1 w5:=Below.trans ((Below.refl w1.heap.size w1).drew.alloc (aC _) _) (aQ.mono (((Below.refl w1.heap.size w1).drew.alloc (aC _) _):Below w1.heap.size w1 _).size)
 refine hK.out _ _ dM (fun SK=>?_)
 clear hK K
 try simp only[Act.put,aJ,aO,aN]
 refine wpAnyH_ready (rs:=[10]) (by kernel_rfl) (by simp) ?_
 refine AllReadyH.cons rfl (fun K hK=>?_) AllReadyH.nil
 go_simp
 refine (QD.out _ dM).mono ?_
 rintro e6 w6 ⟨v6,rfl,eX,b_⟩
 obtain⟨A6,c6,n6,rfl,-⟩:=aF.src eX
 have cT:Below w1.heap.size w1 w6:=Below.trans dM (b_.mono (dM:Below w1.heap.size w1 _).size)
 refine hK.out _ _ cT (fun DT=>?_)
 clear hK K
 obtain⟨SL,OP⟩:∃z:List Value,z=[.int .u8 kk,.string t,.int .i64 nn,.slice As s.len cs,.slice nT ps.length nL,.slice Ab b.len cb,.slice Ae e.len ce,.int .i64 (cE:Nat),.int .i64 (punit:Nat),.int .i64 dW,.int .i64 fR,.int .i64 dU,.int .i64 0,.int .i64 0,.slice A5 (Fo.own s).len c5,.slice A6 (eV ⟨kk,t,nn,s,ps,b,e⟩).length c6,.slice none 0 0,.bool false]:=⟨_,rfl⟩
 have B7:=hid OP
 clear OP
 try simp only[Act.put,aJ,aO,aN]
 refine D_ (i:=11) (d:=some 57) (v:=.agg SL.toArray) rfl rfl (by kernel_rfl) (by kernel_rfl) (by kernel_rfl) (fun _ _ _ h=>h) (Or.inl ⟨by rfl,by intro w hSw;have h9:=oM.out;rw[h9,B7.out];go_simp⟩) DT ?_
 try simp only[Act.put,aJ,aO,aN]
 refine wpAnyH_ready (rs:=[13]) (by kernel_rfl) (by simp) ?_
 refine AllReadyH.cons rfl (fun K hK=>?_) AllReadyH.nil
 have lU:=((aG.new w1.drew 71 #[.int .u8 0,.string ByteArray.empty,.int .i64 0,.slice none 0 0,.slice none 0 0,.slice none 0 0,.slice none 0 0,.int .i64 0,.int .i64 0,.int .i64 0,.int .i64 0,.int .i64 0,.int .i64 0,.int .i64 0,.slice none 0 0,.slice none 0 0,.slice none 0 0,.bool false]).below aQ (by simp)).below b_ (by first|exact aQ.size|(have:=aQ.size;simp at this ⊢;omega))
 have G3:=aF.below hs5 b_ (aC _)
 have G1:=eX
 have GD:=hid (show SL.length=18 by rw[B7.out];rfl)
 refine aME (cs:=SL.toArray) rfl _ _ 71 (by rfl) (by rfl) (by rfl) lU (by rw[List.size_toArray,GD.out];rfl) (by rw[List.size_toArray,GD.out];exact aD9) (by rw[B7.out];simp[Value.oneCell']) ?_
 intro w7 dI eM
 have hge:w1.heap.size≤w1.heap.size:=by first|exact aC _|exact dM.size|exact cT.size
 have iQ:Below w1.heap.size w1 w7:=(cT:Below w1.heap.size w1 _).grown eM (cT:Below w1.heap.size w1 _).size (fun j hj=>by injection hj with hj;subst hj;exact hge)
 refine hK.out _ _ iQ (fun hH9=>?_)
 clear hK K
 have hO7:=aF.kept G3 eM (fun k e=>by injection e with e;subst e;exact aF.ne G3 lU (by decide))
 have G0:=aF.kept G1 eM (fun k e=>by injection e with e;subst e;exact aF.ne G1 lU (by decide))
 refine wpAnyH_done (by kernel_rfl) ?_ _
 clear GD
 try simp only[Act.put,aJ,aO,aN]
 go_wp2
 go_meet
 exact⟨_,SL,rfl,hid hge,hid dI,hid (by rw[B7.out];exact⟨_,_,_,_,_,_,_,rfl,HN.out,aF.more hO7 (by first|exact aC _|exact dM.size|simp),aF.more G0 (by first|exact dM.size|simp;have:=dM.size;omega),aNG _ _,fun _=>rfl⟩),hid iQ⟩
end
end Go.Proofs.YtdlndhbkcgmkkaaGreatDoor
