/-
 Part 34 of 35 of a proof about the given program: facts on which the last part stands.
-/
import Derived.Test.YtdlndhbkcgmkkaaGreatDoorFL32
import Derived.Test.YtdlndhbkcgmkkaaGreatDoorFL33
import Derived.Handy
set_option maxHeartbeats 12800000
set_option linter.unusedVariables false
set_option linter.unusedSimpArgs false
set_option maxRecDepth 100000
namespace Go.Proofs.YtdlndhbkcgmkkaaGreatDoor
section
open Go.RowKit
open Sl
open Go.Lib (hid)
namespace Sl
def WZ (p:List Fc) (n E:Int) (xs ys:List Int):Prop:=
 (dD p≠0∧E=((dD p:Nat):Int)∧xs=[]∧ys=[])∨
 (dD p=0∧((¬(0≤n∧n<((Sl.all p).length:Int))∧E=1∧xs=[]∧ys=[])∨
  (0≤n∧n<((Sl.all p).length:Int))∧E=0∧∃r,(Sl.all p)[n.toNat]?=some r∧xs=Gr.ordinary r∧ys=if (WR p r).cW then [r.cD] else []))
end Sl
theorem bHE (K:Nat) (hK:K≤140737488355328) (hK4:4<K) (p:List Fc) (v:Value) (B:Nat) (w:World) (hv:eO w B v p) (hB:B≤w.heap.size) (hs:nodes p≤90000) (hp:p.length≤90000) (oT:∀f∈p,f.body.aX≤100000) (ho:oU K p) (hpl:dD p=0→S9 p) (n:Int):
 Calls Tryz.prog 19 #[.agg #[v],.int .i64 n] w fun e w'=>∃x y E xs ys,e=.returned (.tuple #[x,y,.int .i64 E])∧aW w' w.heap.size x xs∧aW w' w.heap.size y ys∧Below w.heap.size w w'∧WZ p n E xs ys:=by
 obtain⟨A,cap,rfl,cB⟩:=hv.form
 have HC:=hid (fun (X:World) (hX:Below w.heap.size w X)=>a08 K hK hK4 p (.slice A p.length cap) B X (hv.below (hX.mono hB)) (by have:=hX.size;omega) hs hp oT ho n)
 have AZ:=hid hpl
 clear hv ho oT hpl
 obtain⟨w1,mO⟩:∃z:World,z=w.alloc (.cells #[.slice A p.length cap] 24):=⟨_,rfl⟩
 have aT:=hid (show Below w.heap.size w w1 by rw[mO];exact (Below.refl w.heap.size w).alloc (aC _) _)
 have cQ:=hid (show aG w1 w.heap.size 24 #[.slice A p.length cap] by rw[mO];exact aG.new w _ _)
 go_enter Tryz.func19,Tryz.ntmps19
 go_upto_region 1 with fail
 rw[←mO]
 clear mO
 have DI:=cQ.out.cell 0
 have hz1:=aT.out.size
 have bY:=hid (aT.out.alloc hz1 (.cells #[.int .i64 n] 3))
 have uB:=hid (aG.new w1 3 #[.int .i64 n])
 have hl2:w1.heap.size<(w1.alloc (.cells #[.int .i64 n] 3)).heap.size:=by simp
 have b7:=hid (bY.out.alloc bY.out.size (.cells #[.slice (some ⟨w1.heap.size,0,none⟩) 1 1] 39))
 have jU:=hid (uB.out.below ((Below.refl (w1.alloc (.cells #[.int .i64 n] 3)).heap.size _).alloc (aC _) (.cells #[.slice (some ⟨w1.heap.size,0,none⟩) 1 1] 39)) hl2)
 have hK4:=aG.new (w1.alloc (.cells #[.int .i64 n] 3)) 39 #[.slice (some ⟨w1.heap.size,0,none⟩) 1 1]
 rw[show (w1.alloc (.cells #[.int .i64 n] 3)).heap.size=w1.heap.size+1 by simp] at hK4
 have iM:=hid (HC.out _ b7.out w1.heap.size (w1.heap.size+1) 1 1 (hK4.cell 0) (jU.out.cell 0))
 clear hK4
 clear hl2 HC
 go_wp2_with fail
 refine iM.out.mono ?_
 rintro e1 w4 ⟨hb4,hres⟩
 have bC:=hid (b7.out.trans (hb4.mono b7.out.size))
 have gY:w.heap.size≤w4.heap.size:=bC.out.size
 clear hb4 iM b7 bY aT cQ uB jU DI
 rcases hres with⟨h0,rfl⟩|⟨h0,⟨hn,rfl⟩|⟨hn,g,N,rfl,tT⟩⟩
 · have HL:=hid (show WZ p n ((dD p:Nat):Int) [] [] from .inl ⟨h0,rfl,rfl,rfl⟩)
   generalize dD p=sc at *
   have b0:((sc:Int) != 0)=true:=bne_iff_ne.2 (by omega)
   clear h0 AZ
   go_wp2
   go_ret3
   exact⟨_,_,_,[],[],rfl,EB _ _,EB _ _,bC.out,HL.out⟩
 · have HL:=hid (show WZ p n 1 [] [] from .inr ⟨h0,.inl ⟨hn,rfl,rfl,rfl⟩⟩)
   clear h0 hn AZ
   go_wp2
   go_ret3
   exact⟨_,_,_,[],[],rfl,EB _ _,EB _ _,bC.out,HL.out⟩
 have HPf:=hid (AZ.out h0)
 obtain⟨m,rfl⟩:∃m:Nat,n=(m:Int):=⟨n.toNat,by omega⟩
 obtain⟨r,hr⟩:∃r,(Sl.all p)[m]?=some r:=⟨(Sl.all p)[m]'(by omega),bX (by omega)⟩
 obtain⟨x,hx,j0⟩:=tT.at_ hr
 have J5:=tT.ef x (List.mem_of_getElem? hx)
 have HL:=hid (show WZ p (m:Int) 0 (Gr.ordinary r) (if x.ef.cW then [x.sm.cD] else []) from .inr ⟨h0,.inr ⟨hn,rfl,r,by rw[Int.toNat_natCast];exact hr,rfl,by rw[J5,j0]⟩⟩)
 have HO:=hid (aMK g p N HPf.out m r hr w4 tT)
 have FO:=hid (fun (X:World) (hX:Below w4.heap.size w4 X)=>aYQ g p N HPf.out m x hx X (tT.below hX))
 clear h0 hn hr hx j0 J5 tT AZ
 go_wp2_with fail
 refine HO.out.mono ?_
 rintro e5 w5 ⟨v5,rfl,aZ,aQ⟩
 have a_:=hid aQ
 have cK:=hid aZ
 clear aZ aQ HO
 go_wp2_with fail
 refine (FO.out _ a_.out).mono ?_
 rintro e6 w6 ⟨v6,rfl,iC,b_⟩
 have gJ:=hid (uH iC (show w.heap.size≤w5.heap.size from Nat.le_trans gY a_.out.size))
 have bSK:=hid (uH (gW cK.out b_ (aC _)) gY)
 have fZ:=hid (bC.out.trans ((a_.out.trans (b_.mono a_.out.size)).mono gY))
 clear iC b_ FO cK a_
 go_wp2
 go_ret3
 exact⟨_,_,_,_,_,rfl,bSK.out,gJ.out,fZ.out,HL.out⟩
namespace Sl
def BP (nd:Nd) (y:aA):Bool:=(decide (nd.k=14)||decide (nd.k=15))&&decide (nd.t=y)
theorem add_succ (a:Addr) (o:Nat):a.add (o+1)=⟨(a.add o).block,(a.add o).off+1,none⟩:=by
 rw[add_pos a (Nat.succ_pos o)]
 by_cases h:o=0
 · subst h;rfl
 rw[add_pos a (by omega)];rfl
theorem cF.text {W:World} {B:Nat} {w:World} {base:Nat} {x:Px} (h:cF W B w base none x) (hW:Below B W w):w.cell? ⟨x.ad.block,x.ad.off+1,none⟩=some (.string x.sm.nd.t):=by
 obtain⟨a,o,sv,pv,bv2,ev,had,hn⟩:=h.nd
 rw[had,←add_succ]
 exact (hW.cell (p:=a.add (o+1)) (by rw[f_];exact hn.lt)).trans hn.text
end Sl
theorem aX2 (g:Nat) (p:List Fc) (N:List Px) (n:Nat) (x:Px) (hx:N[n]?=some x) (y:aA) (w:World) (h:k6 w g p N):
 Calls Tryz.prog 107 #[.pointer (some ⟨x.b,0,none⟩),.string y] w fun e w'=>e=.returned (.bool (BP x.sm.nd y))∧w=w':=by
 obtain⟨W,B,base,Aa,ca,hW,-,hat⟩:=h.cells
 obtain⟨hst,-⟩:=hat n x hx
 obtain⟨s12,-,-,-,sk,-⟩:=hst.cells hW
 have st:=hst.text hW
 clear hat hst hW h hx
 obtain⟨q,hq⟩:∃q,q=BP x.sm.nd y:=⟨_,rfl⟩
 rw[←hq]
 have HQ:=hid (hq.trans (by unfold BP;rfl))
 clear hq
 have MT:=hid (fun (h:x.sm.nd.t=y)=>(show (x.sm.nd.t.toList==y.toList)=true by rw[h];exact beq_self_eq_true _))
 have mV:=hid (fun (h:¬x.sm.nd.t=y)=>((Lib.bytes_beq_false_iff _ _).2 h:(x.sm.nd.t.toList==y.toList)=false))
 generalize x.sm.nd.t=t at *
 generalize x.sm.nd.k=kk at *
 by_cases gV:kk=14
 · have b1:((kk:Int)==14)=true:=beq_iff_eq.2 (by omega)
   by_cases ht:t=y
   · have b2:=MT.out ht
     have HF:=hid (show q=true by rw[HQ.out];simp[gV,ht])
     clear gV ht
     go_enter Tryz.func107,Tryz.ntmps107
     go_wp2
     go_ret
     exact⟨aR HF.out.symm,rfl⟩
   have b2:=mV.out ht
   have HF:=hid (show q=false by rw[HQ.out];simp[ht])
   clear gV ht
   go_enter Tryz.func107,Tryz.ntmps107
   go_wp2
   go_ret
   exact⟨aR HF.out.symm,rfl⟩
 have b1:((kk:Int)==14)=false:=aP (by omega)
 by_cases j3:kk=15
 rotate_left
 · have b3:((kk:Int)==15)=false:=aP (by omega)
   have HF:=hid (show q=false by rw[HQ.out];simp[gV,j3])
   clear gV j3
   go_enter Tryz.func107,Tryz.ntmps107
   go_wp2
   go_ret
   exact⟨aR HF.out.symm,rfl⟩
 have b3:((kk:Int)==15)=true:=beq_iff_eq.2 (by omega)
 by_cases ht:t=y
 · have b2:=MT.out ht
   have HF:=hid (show q=true by rw[HQ.out];simp[j3,ht])
   clear gV j3 ht
   go_enter Tryz.func107,Tryz.ntmps107
   go_wp2
   go_ret
   exact⟨aR HF.out.symm,rfl⟩
 have b2:=mV.out ht
 have HF:=hid (show q=false by rw[HQ.out];simp[ht])
 clear gV j3 ht
 go_enter Tryz.func107,Tryz.ntmps107
 go_wp2
 go_ret
 exact⟨aR HF.out.symm,rfl⟩
namespace Sl
def EO (x:Px):List Int:=if x.ef.cW then [x.sm.cD] else []
def yD (N:List Px) (d:Nat) (y:aA) (i:Int):List Int:=
 if i<0 then [] else match N[i.toNat]? with
 |none=>[]
 |some r=>(if i=(d:Int)∨BP r.sm.nd y=false then Gr.ordinary r.sm else [])++EO r
def EI (S:List Nat) (x:Int):Bool:=decide (0≤x)&&S.contains x.toNat
def unseen (n:Nat) (S:List Nat):Nat:=(List.range n).countP fun k=>!S.contains k
theorem bGX {n x:Nat} {S:List Nat} (hx:x<n) (hs:x∉S):unseen n (S++[x])+1≤unseen n S:=by
 unfold unseen
 refine aM4 (x:=x) (fun k _ hk=>?_) (List.mem_range.2 hx) (by simpa using hs) (by simp)
 simp at hk ⊢
 exact hk.1
theorem bI0 (S:List Nat) (x:Nat) (y:Int):EI (S++[x]) y=true↔y=(x:Int)∨EI S y=true:=by
 unfold EI
 by_cases hy:y<0
 · simp only[show decide (0≤y)=false from bP (by omega),Bool.false_and,Bool.false_eq_true,or_false,false_iff]
   omega
 rw[show decide (0≤y)=true from bF (by omega),Bool.true_and,Bool.true_and]
 simp only[List.contains_iff_mem,List.mem_append,List.mem_singleton]
 constructor
 · rintro (h|h)
   · exact .inr h
   exact .inl (by omega)
 rintro (h|h)
 · exact .inr (by omega)
 exact .inl h
theorem a1S (x:Sm):(Gr.ordinary x).length≤2:=by
 unfold Gr.ordinary Gr.mJ
 repeat' split
 all_goals simp
theorem bKS (x:Px):(EO x).length≤1:=by
 unfold EO
 split<;>simp
end Sl
theorem aMZ:(Tryz.prog.info? 3).map (fun i=>(i.zero,i.size,i.bytes))=some (some (.int .i64 0),1,8):=by kernel_rfl
theorem bFI (g:Nat) (p:List Fc) (N:List Px) (hp:S9 p) (d:Nat) (s:Int) (y:aA) (x:Px) (w:World) (h:k6 w g p N) (hd:N[d]?=some x) (hs:0≤s) (G5:N.length≤100000)
 (hr:∀(i:Nat) (r:Px),N[i]?=some r→∀z∈Gr.ordinary r.sm++EO r,-1≤z∧z<(N.length:Int)):
 Calls Tryz.prog 108 #[.pointer (some ⟨g,0,none⟩),.int .i64 (d:Nat),.int .i64 s,.string y] w fun e w'=>e=.returned (.bool (BU (yD N d y) (Gr.ordinary x.sm) s))∧Below w.heap.size w w':=by
 have H:=hid h
 have AZ:=hid hp
 have CE:=hid hr
 have HD:=hid hd
 have sD:=hid (show ∀(m:Nat) (y:Px),N[m]?=some y→(Sl.all p)[m]?=some y.sm from fun m y hy=>by rw[←h.sm,lZ,hy];rfl)
 have D9:=hid ((Below.refl w.heap.size w).alloc (aC _) (.map #[] 0))
 have IC:=hid (rJ.made w)
 have bQQ:w.heap.size<(w.alloc (.map #[] 0)).heap.size:=by simp
 clear h hp hr hd
 obtain⟨q,hq⟩:∃q,q=BU (yD N d y) (Gr.ordinary x.sm) s:=⟨_,rfl⟩
 rw[←hq]
 have HQ:=hid hq
 clear hq
 have hmm:∀(t:TypeId) (w:World),(Instr.makeMap t none).run Tryz.prog w=.ok (.map (some w.heap.size)) (w.alloc (.map #[] 0)):=fun _ _=>rfl
 go_enter Tryz.func108,Tryz.ntmps108
 go_upto_region 2 with fail
 clear hmm
 generalize w.alloc (.map #[] 0)=w1 at *
 have HC:=hid (aMK g p N AZ.out d x.sm (sD.out d x HD.out) w1 (H.out.below D9.out))
 go_wp2_with fail
 refine HC.out.mono ?_
 rintro e2 w2 ⟨v1,rfl,kD,hb2⟩
 have FQ:=hid (kT.of kD)
 have bY:=hid (D9.out.trans (hb2.mono (by omega)))
 have gI:=hid (IC.out.same (hb2.block _ bQQ))
 have hz2:=hb2.size
 clear kD hb2 HC IC D9
 have l_:(s:Int)≠-1:=by omega
 go_wp2
 go_loopg [10] ((Gr.ordinary x.sm).length+4*unseen N.length []) (fun m o wr=>∃(v:Value) (xs:List Int) (S:List Nat),v=o∧m=xs.length+4*unseen N.length S∧xs.length+4*unseen N.length S≤1000000∧(∀z∈xs,-1≤z∧z<(N.length:Int))∧
  Hid (mW (yD N d y) (Gr.ordinary x.sm) s xs (EI S))∧Hid (kT wr w1.heap.size v xs)∧Hid (rJ wr w.heap.size S)∧Hid (Below w.heap.size w wr)∧w1.heap.size≤wr.heap.size)
 case atStart=>
  have gR:=a1S x.sm
  have qK:unseen N.length []≤N.length:=by unfold unseen;have:=List.countP_le_length (p:=fun k=>!([]:List Nat).contains k) (l:=List.range N.length);rw[List.length_range] at this;exact this
  refine⟨_,Gr.ordinary x.sm,[],rfl,rfl,by omega,fun z hz=>CE.out d x HD.out z (rN _ hz),hid ?_,FQ,gI,bY,hz2⟩
  rw[show EI []=fun _=>false from funext fun z=>by unfold EI;simp]
  exact mW.start _ _ _
 obtain⟨v,xs,S,rfl,hm,J8,hrg,iP,hq,tS,hb,L6⟩:=hrel
 have Hm:=hid hm
 have HRx:=hid hrg
 clear hm hrg
 obtain⟨wo,rfl⟩:∃z:World,z=wr:=⟨_,rfl⟩
 have hz:=hb.out.size
 cases xs with
 |nil=>
  have HX:=hid (show q=false by
   rw[HQ.out]
   cases hc:BU (yD N d y) (Gr.ordinary x.sm) s with
   |false=>rfl
   |true=>exact absurd (aEB.1 hc) (iP.out.done (by unfold yD;rw[if_pos (by omega)]) l_))
  obtain⟨Aq,cq,hv,-⟩:=hq.out.form
  subst hv
  go_wp2
  go_ret
  exact⟨aR HX.out.symm,hb.out⟩
 |cons x0 xs=>
  have lL:=hid (show xs.length+1+4*unseen N.length S≤1000000 from J8)
  have jT:=hid (Hm.out.trans (show (x0::xs).length+4*unseen N.length S=xs.length+1+4*unseen N.length S from rfl))
  clear J8 Hm
  obtain⟨gq,off,cap,hv,cB,hgq,hcell⟩:=hq.out.at_ (i:=0) (by simp)
  subst hv
  simp only[Nat.add_zero,List.getD_cons_zero] at hcell
  have AX:=hid (hq.out.cut)
  obtain⟨n,hn⟩:∃n,n=xs.length:=⟨_,rfl⟩
  have hlc:(x0::xs).length=n+1:=by rw[hn];rfl
  rw[hlc] at *
  have Hn:=hid hn
  clear hn hlc
  go_upto_region 6 with fail
  rw[←Hn.out] at AX
  obtain⟨v3,hv3⟩:∃z,z=Value.slice (if cap=1 then some { block:=gq,off:=off } else some { block:=gq,off:=off+1 }) n (cap-1):=⟨_,rfl⟩
  rw[←hv3] at AX ⊢
  clear hv3 hq hcell
  have IE:=hid (fun z (hz:z∈xs)=>HRx.out z (kS _ hz))
  obtain⟨hx1,hx2⟩:=HRx.out x0 (by simp)
  by_cases j0:x0=s
  · have b1:(x0==s)=true:=beq_iff_eq.2 j0
    have HX:=hid (show q=true by rw[HQ.out];subst j0;exact aEB.2 iP.out.found)
    clear j0
    go_wp2
    go_ret
    exact⟨aR HX.out.symm,hb.out⟩
  have b1:(x0==s)=false:=aP j0
  by_cases hx0:x0=-1
  · have b2:(x0==-1)=true:=beq_iff_eq.2 hx0
    have MU:=hid (iP.out.skip (.inl hx0))
    clear j0 hx0
    go_wp2
    go_roundg (n+4*unseen N.length S)
    case rel=>exact⟨v3,xs,S,rfl,by rw[Hn.out],by have:=lL.out;omega,IE.out,MU,AX,tS,hb,L6⟩
    rw[jT.out,Hn.out];omega
  have b2:(x0==-1)=false:=aP hx0
  obtain⟨xn,rfl⟩:∃k:Nat,x0=(k:Int):=⟨x0.toNat,by omega⟩
  have O9:xn<N.length:=by omega
  by_cases cV:xn∈S
  · have hlk:=tS.out.yes (x:=xn) (by omega) cV
    have MU:=hid (iP.out.skip (.inr (show EI S (xn:Int)=true by unfold EI;simpa using cV)))
    clear j0 hx0 cV
    go_wp2
    go_roundg (n+4*unseen N.length S)
    case rel=>exact⟨v3,xs,S,rfl,by rw[Hn.out],by have:=lL.out;omega,IE.out,MU,AX,tS,hb,L6⟩
    rw[jT.out,Hn.out];omega
  have hlk:=tS.out.no (x:=xn) (by omega) cV
  obtain⟨w3,hst,hs3,hg3⟩:=tS.out.put (x:=xn) (by omega) cV
  have ZR:=bGX O9 cV
  have TK:=hid (fun more hm=>iP.out.mark (more:=more) (seen':=EI (S++[xn])) j0 hm (fun z=>bI0 S xn z))
  obtain⟨r0,hr0⟩:∃r,N[xn]?=some r:=⟨N[xn],bX O9⟩
  have eA:=hid hr0
  have fG:=hid hs3
  have HLq:=hid (fun k hk=>(AX.out.lt k hk:w1.heap.size≤k∧k<wo.heap.size))
  have b7:=hid (hb.out.grown hg3 hz (fun j e=>by cases e;exact aC _))
  have II:=hid (AX.out.kept hg3 (fun k e=>by cases e;exact fun e2=>by have h1:=(HLq.out _ e2).1;omega))
  have hz3:w1.heap.size≤w3.heap.size:=Nat.le_trans L6 hg3.size
  clear j0 hx0 cV hs3 hg3 hr0 tS hb iP AX L6
  go_upto_region 10 with fail
  generalize S++[xn]=S2 at *
  have gR:=a1S r0.sm
  have PB:=bKS r0
  have KF:=hid (show yD N d y (xn:Int)=(if (xn:Int)=(d:Int)∨BP r0.sm.nd y=false then Gr.ordinary r0.sm else [])++EO r0 by unfold yD;rw[if_neg (by omega)];simp only[Int.toNat_natCast];rw[eA.out])
  have KC:=hid (CE.out xn r0 eA.out)
  have HC:=hid (aYQ g p N AZ.out xn r0 eA.out w3 (H.out.below b7.out))
  go_wp2_with fail
  refine HC.out.mono ?_
  rintro e4 w4 ⟨vt,rfl,ht,hb4⟩
  have gY:=hb4.size
  have bC:=hid (b7.out.trans (hb4.mono (by omega)))
  have CF:=hid (II.out.below hb4 (aC _))
  have eY:=hid (fG.out.same (hb4.block _ fG.out.lt))
  have LN:=hid (fun k hk=>(II.out.lt k hk:w1.heap.size≤k∧k<w3.heap.size))
  have IG:=hid (aW.reads (show aW w4 w3.heap.size vt (EO r0) from ht) (by omega))
  obtain⟨At,ct,S0,-,-,hrt⟩:=IG.out
  subst S0
  have H6:=hid hrt
  obtain⟨q4,mP⟩:∃z,z=EO r0:=⟨_,rfl⟩
  rw[←mP] at H6 PB KF KC ⊢
  have W6:=hid mP
  clear mP ht hb4 HC b7 II fG hrt IG hlk hst
  go_wp2_with (at_builtin;go_must (refine M5 _ rfl _ _ 39 rfl w1.heap.size Tryz.underlying39 aMZ _ xs rfl CF.out _ _ q4 _ rfl H6.out (by have:=lL.out;have:=Hn.out;omega) (by omega) ?_))
  intro v5 w5 aZ aU kR
  obtain⟨eK,oQ⟩:∃z,z=xs++q4:=⟨_,rfl⟩
  have hl5:eK.length≤n+1:=by rw[oQ,bL,←Hn.out];omega
  rw[←oQ] at aZ
  have yF:=hid oQ
  have t_:=hid aZ
  have jC:=hid (eY.out.same (aU.block _ eY.out.lt (fun e=>by have h1:=(LN.out _ e.symm).1;omega)))
  have a_:=hid (bC.out.grown aU bC.out.size (fun k hk=>by have h1:=(LN.out k hk).1;omega))
  have oC:=aU.size
  have CW:=hid (fun k hk=>(t_.out.lt k hk:w1.heap.size≤k∧k<w5.heap.size))
  obtain⟨W5,B5,Y7,Aa5,ca5,-,g1,hat⟩:=(H.out.below a_.out).cells
  obtain⟨-,gb,rfl,c1⟩:=hat xn r0 eA.out
  have sK:=hid (aX2 g p N xn r0 eA.out y w5 (H.out.below a_.out))
  have eN:=hid (aMK g p N AZ.out xn r0.sm (sD.out xn r0 eA.out) w5 (H.out.below a_.out))
  clear aZ aU kR oQ CF eY bC hat
  by_cases O_:xn=d
  · have b3:((xn:Int)==(d:Int))=true:=beq_iff_eq.2 (by omega)
    have GH:=hid (show (xn:Int)=(d:Int)∨BP r0.sm.nd y=false from .inl (by omega))
    clear O_
    go_wp2_with fail
    refine eN.out.mono ?_
    rintro e6 w6 ⟨va,rfl,ha,b_⟩
    have mN:=b_.size
    have fZ:=hid (a_.out.trans (b_.mono (by omega)))
    have DZ:=hid (t_.out.below b_ (aC _))
    have CC:=hid (jC.out.same (b_.block _ jC.out.lt))
    have IH:=hid (aW.reads ha (by omega))
    obtain⟨Aa,ca,S5,-,-,j1⟩:=IH.out
    subst S5
    have H7:=hid j1
    obtain⟨q6,hq6⟩:∃z,z=Gr.ordinary r0.sm:=⟨_,rfl⟩
    rw[←hq6] at H7 gR KF KC ⊢
    clear hq6 ha b_ eN a_ t_ jC j1 IH sK g1 c1
    go_wp2_with (at_builtin;go_must (refine M5 _ rfl _ _ 39 rfl w1.heap.size Tryz.underlying39 aMZ _ eK rfl DZ.out _ _ q6 _ rfl H7.out (by have:=lL.out;have:=Hn.out;omega) (by omega) ?_))
    intro v7 w7 j2 eM JO
    have hl7:(eK++q6).length≤n+3:=by rw[bL];omega
    have P7:=hid j2
    have TH:=hid (CC.out.same (eM.block _ CC.out.lt (fun e=>by have h1:=(CW.out _ e.symm).1;omega)))
    have nP:=hid (fZ.out.grown eM fZ.out.size (fun k hk=>by have h1:=(CW.out k hk).1;omega))
    have rS:=eM.size
    have rB:=hid (show mW (yD N d y) (Gr.ordinary x.sm) s (eK++q6) (EI S2) by
     rw[yF.out,dZ]
     exact TK.out _ (fun z=>by rw[KF.out,if_pos GH.out,List.mem_append,List.mem_append];exact Or.comm))
    have ID:=hid (show ∀z∈eK++q6,-1≤z∧z<(N.length:Int) from fun z hz=>by
     rw[yF.out,dZ] at hz
     rcases List.mem_append.1 hz with hz|hz
     · exact IE.out z hz
     exact KC.out z (by rcases List.mem_append.1 hz with hz|hz;exact iZ _ hz;exact rN _ hz))
    clear j2 eM JO
    go_wp2
    go_roundg ((eK++q6).length+4*unseen N.length S2)
    case rel=>exact⟨v7,eK++q6,S2,rfl,rfl,by have:=lL.out;have:=Hn.out;omega,ID.out,rB,P7,TH,nP,by omega⟩
    rw[jT.out];have:=Hn.out;omega
  have b3:((xn:Int)==(d:Int))=false:=aP (by omega)
  cases qP:BP r0.sm.nd y with
  |false=>
   have GH:=hid (show (xn:Int)=(d:Int)∨BP r0.sm.nd y=false from .inr qP)
   rw[qP] at sK
   clear O_ qP
   go_wp2_with fail
   refine sK.out.mono ?_
   rintro e5 w5' ⟨rfl,rfl⟩
   go_wp2_with fail
   refine eN.out.mono ?_
   rintro e6 w6 ⟨va,rfl,ha,b_⟩
   have mN:=b_.size
   have fZ:=hid (a_.out.trans (b_.mono (by omega)))
   have DZ:=hid (t_.out.below b_ (aC _))
   have CC:=hid (jC.out.same (b_.block _ jC.out.lt))
   have IH:=hid (aW.reads ha (by omega))
   obtain⟨Aa,ca,S5,-,-,j1⟩:=IH.out
   subst S5
   have H7:=hid j1
   obtain⟨q6,hq6⟩:∃z,z=Gr.ordinary r0.sm:=⟨_,rfl⟩
   rw[←hq6] at H7 gR KF KC ⊢
   clear hq6 ha b_ eN a_ t_ jC j1 IH sK g1 c1
   go_wp2_with (at_builtin;go_must (refine M5 _ rfl _ _ 39 rfl w1.heap.size Tryz.underlying39 aMZ _ eK rfl DZ.out _ _ q6 _ rfl H7.out (by have:=lL.out;have:=Hn.out;omega) (by omega) ?_))
   intro v7 w7 j2 eM JO
   have hl7:(eK++q6).length≤n+3:=by rw[bL];omega
   have P7:=hid j2
   have TH:=hid (CC.out.same (eM.block _ CC.out.lt (fun e=>by have h1:=(CW.out _ e.symm).1;omega)))
   have nP:=hid (fZ.out.grown eM fZ.out.size (fun k hk=>by have h1:=(CW.out k hk).1;omega))
   have rS:=eM.size
   have rB:=hid (show mW (yD N d y) (Gr.ordinary x.sm) s (eK++q6) (EI S2) by
    rw[yF.out,dZ]
    exact TK.out _ (fun z=>by rw[KF.out,if_pos GH.out,List.mem_append,List.mem_append];exact Or.comm))
   have ID:=hid (show ∀z∈eK++q6,-1≤z∧z<(N.length:Int) from fun z hz=>by
    rw[yF.out,dZ] at hz
    rcases List.mem_append.1 hz with hz|hz
    · exact IE.out z hz
    exact KC.out z (by rcases List.mem_append.1 hz with hz|hz;exact iZ _ hz;exact rN _ hz))
   clear j2 eM JO
   go_wp2
   go_roundg ((eK++q6).length+4*unseen N.length S2)
   case rel=>exact⟨v7,eK++q6,S2,rfl,rfl,by have:=lL.out;have:=Hn.out;omega,ID.out,rB,P7,TH,nP,by omega⟩
   rw[jT.out];have:=Hn.out;omega
  |true=>
   have GH:=hid (show ¬((xn:Int)=(d:Int)∨BP r0.sm.nd y=false) from fun h=>by rcases h with h|h;exact O_ (by omega);rw[qP] at h;cases h)
   rw[qP] at sK
   clear O_ qP
   go_wp2_with fail
   refine sK.out.mono ?_
   rintro e5 w5' ⟨rfl,rfl⟩
   have rB:=hid (show mW (yD N d y) (Gr.ordinary x.sm) s eK (EI S2) by
    rw[yF.out]
    exact TK.out _ (fun z=>by rw[KF.out,if_neg GH.out,List.nil_append]))
   have ID:=hid (show ∀z∈eK,-1≤z∧z<(N.length:Int) from fun z hz=>by
    rw[yF.out] at hz
    rcases List.mem_append.1 hz with hz|hz
    · exact IE.out z hz
    exact KC.out z (iZ _ hz))
   clear eN sK g1 c1
   go_wp2
   go_roundg (eK.length+4*unseen N.length S2)
   case rel=>exact⟨v5,eK,S2,rfl,rfl,by have:=lL.out;have:=Hn.out;omega,ID.out,rB,t_,jC,a_,by omega⟩
   rw[jT.out];have:=Hn.out;omega
namespace Sl
noncomputable def QT (N:List Px) (n u:Nat) (y:aA) (i:Nat):Bool:=
 match N[i]? with
 |none=>false
 |some z=>decide (z.sm.unit=u)&&(BP z.sm.nd y&&BU (yD N i y) (Gr.ordinary z.sm) (n:Int))
end Sl
theorem bE2 (g:Nat) (p:List Fc) (N:List Px) (hp:S9 p) (n:Nat) (y:aA) (x:Px) (w:World) (h:k6 w g p N) (hx:N[n]?=some x) (G5:N.length≤100000)
 (hr:∀(i:Nat) (r:Px),N[i]?=some r→∀z∈Gr.ordinary r.sm++EO r,-1≤z∧z<(N.length:Int)):
 Calls Tryz.prog 63 #[.pointer (some ⟨g,0,none⟩),.int .i64 (n:Nat),.string y] w fun e w'=>∃v,e=.returned v∧aW w' w.heap.size v (ints ((List.range N.length).filter (QT N n x.sm.unit y)))∧Below w.heap.size w w':=by
 have H:=hid h
 have AZ:=hid hp
 have CE:=hid hr
 have z7:g<w.heap.size:=by
  obtain⟨⟨W,B,base,pv,aV,av,fv,h1,-⟩,-,-⟩:=h
  exact h1.gr.blk.lt
 have hnN:=(mK.1 hx).1
 obtain⟨W,B,base,Aa,ca,hW,g1,hat⟩:=h.cells
 obtain⟨hst,gb,rfl,c1⟩:=hat n x hx
 have a7L:gb<w.heap.size:=mX c1
 obtain⟨rv,cv,lv,bv,ov,hb,-⟩:=hst.ex
 have u1:w.cell? ⟨x.b,0,none⟩=some (.int .i64 (x.sm.unit:Nat)):=hb.cell 0
 have J1:=hst.lt
 have M3:=hid (show ∀m z,N[m]?=some z→w.cell? ⟨gb,m,none⟩=some (.pointer (some ⟨z.b,0,none⟩))∧w.cell? ⟨z.b,0,none⟩=some (.int .i64 (z.sm.unit:Nat))∧z.b<w.heap.size from fun m z hz=>by
  obtain⟨a1,gb',e,a2⟩:=hat m z hz
  injection e with e;injection e with e
  subst e
  obtain⟨rv,cv,lv,bv,ov,hb,-⟩:=a1.ex
  exact⟨a2,hb.cell 0,a1.lt⟩)
 obtain⟨F,hF⟩:∃F,F=QT N n x.sm.unit y:=⟨_,rfl⟩
 rw[←hF]
 have HF:=hid hF
 generalize x.sm.unit=un at *
 clear h hp hr hx hat hst hb hW hF
 have zZ:(0:Int)≤((n:Nat):Int):=Int.natCast_nonneg _
 go_enter Tryz.func63,Tryz.ntmps63
 go_wp2
 go_loopg [7,15] N.length (fun q v i wr=>∃(vv:Value) (k:Nat),vv=v∧k≤N.length∧q=N.length-k∧i=.int .i64 k∧Hid (aW wr w.heap.size v (ints ((List.range k).filter F)))∧Hid (Below w.heap.size w wr))
 case atStart=>exact⟨_,0,rfl,Nat.zero_le _,rfl,rfl,hid (EB w _),hid (Below.refl _ _)⟩
 obtain⟨vv,k,rfl,hk,hq,rfl,ho,hb⟩:=hrel
 have Hq:=hid hq
 clear hq
 obtain⟨wo,rfl⟩:∃z:World,z=wr:=⟨_,rfl⟩
 have hz:w.heap.size≤wo.heap.size:=hb.out.size
 by_cases hlt:k<N.length
 rotate_left
 · have HE:=hid (show k=N.length by omega)
   obtain⟨A,c,hv,-⟩:=jJ ho.out
   subst hv
   go_wp2
   go_ret
   exact⟨_,rfl,by rw[←HE.out];exact ho.out,hb.out⟩
 obtain⟨z,GK⟩:∃z,N[k]?=some z:=⟨N[k],bX hlt⟩
 obtain⟨z1,z2,z3⟩:=M3.out k z GK
 have HZ:=hid GK
 have d1:=(hb.out.cell (p:=⟨g,1,none⟩) z7).trans g1
 have d2:=(hb.out.cell (p:=⟨gb,n,none⟩) a7L).trans c1
 have d3:=(hb.out.cell (p:=⟨gb,k,none⟩) a7L).trans z1
 have d4:=(hb.out.cell (p:=⟨x.b,0,none⟩) J1).trans u1
 have d5:=(hb.out.cell (p:=⟨z.b,0,none⟩) z3).trans z2
 have e1:=j6 (show g<wo.heap.size by omega) d1
 have e2:=j6 (show gb<wo.heap.size by omega) d2
 have e3:=j6 (show gb<wo.heap.size by omega) d3
 have e4:=j6 (show x.b<wo.heap.size by omega) d4
 have e5:=j6 (show z.b<wo.heap.size by omega) d5
 have CD:=hid (fun pw:BW wo=>(aX2 g p N k z GK y pw.wd (H.out.below (hb.out.trans (pw.ok.mono hz)))).mono (R':=fun e w'=>e=.returned (.bool (BP z.sm.nd y))∧Below pw.wd.heap.size pw.wd w') (fun e w' h=>⟨h.1,by rw[←h.2];exact Below.refl _ _⟩))
 have CR:=hid (fun pw:BW wo=>bFI g p N AZ.out k (n:Nat) y z pw.wd (H.out.below (hb.out.trans (pw.ok.mono hz))) GK zZ G5 CE.out)
 have d_:=hid (show (List.range (k+1)).filter F=(List.range k).filter F++if F k then [k] else [] by
  rw[List.range_succ,List.filter_append]
  congr 1
  by_cases h:F k<;>simp[h])
 have HFk:=hid (show F k=(decide (z.sm.unit=un)&&(BP z.sm.nd y&&BU (yD N k y) (Gr.ordinary z.sm) (n:Int))) by rw[HF.out];unfold QT;rw[HZ.out])
 clear z1 z2 z3 GK
 generalize z.sm.unit=zu at *
 generalize BP z.sm.nd y=df at *
 generalize BU (yD N k y) (Gr.ordinary z.sm) (n:Int)=rc at *
 obtain⟨RL,GZ⟩:∃z,z=(List.range k).filter F:=⟨_,rfl⟩
 have bRW:RL.length≤100000:=by
  rw[GZ]
  have h1:=List.length_filter_le F (List.range k)
  rw[List.length_range] at h1
  omega
 rw[←GZ] at ho d_
 clear GZ
 by_cases hu:zu=un
 rotate_left
 · have b1:((zu:Int)==(un:Int))=false:=aP (by omega)
   have HX:=hid (show (if F k then [k] else [])=[] by rw[HFk.out,bP hu];rfl)
   clear hu
   go_upto_region 5 with fail
   refine kK (by kernel_rfl) (by kernel_rfl) ?_
   repeat (go_big_quiet_step (first|((go_at_call 107;with_reducible exact dE (CD.out _)))|((go_at_call 108;with_reducible exact dE (CR.out _)))))
   refine wpQuiet_nil ?_
   intro _ hw'
   obtain⟨pw,hw''⟩:=hw'
   subst hw''
   have cK:=hid (gW ho.out pw.ok (aC _))
   have a_:=hid (hb.out.trans (pw.ok.mono hz))
   go_wp2
   go_roundg (N.length-(k+1))
   case rel=>exact⟨_,k+1,rfl,hlt,rfl,by go_num,hid (by rw[d_.out,HX.out,List.append_nil];exact cK.out),a_⟩
   rw[Hq.out];omega
 have b1:((zu:Int)==(un:Int))=true:=beq_iff_eq.2 (by omega)
 have Q8:=hid (show F k=(df&&rc) by rw[HFk.out,bF hu,Bool.true_and])
 clear hu
 cases df with
 |false=>
  have HX:=hid (show (if F k then [k] else [])=[] by rw[Q8.out];rfl)
  go_upto_region 5 with fail
  refine kK (by kernel_rfl) (by kernel_rfl) ?_
  repeat (go_big_quiet_step (first|((go_at_call 107;with_reducible exact dE (CD.out _)))|((go_at_call 108;with_reducible exact dE (CR.out _)))))
  refine wpQuiet_nil ?_
  intro _ hw'
  obtain⟨pw,hw''⟩:=hw'
  subst hw''
  have cK:=hid (gW ho.out pw.ok (aC _))
  have a_:=hid (hb.out.trans (pw.ok.mono hz))
  go_wp2
  go_roundg (N.length-(k+1))
  case rel=>exact⟨_,k+1,rfl,hlt,rfl,by go_num,hid (by rw[d_.out,HX.out,List.append_nil];exact cK.out),a_⟩
  rw[Hq.out];omega
 |true=>
  cases rc with
  |false=>
   have HX:=hid (show (if F k then [k] else [])=[] by rw[Q8.out];rfl)
   go_upto_region 5 with fail
   refine kK (by kernel_rfl) (by kernel_rfl) ?_
   repeat (go_big_quiet_step (first|((go_at_call 107;with_reducible exact dE (CD.out _)))|((go_at_call 108;with_reducible exact dE (CR.out _)))))
   refine wpQuiet_nil ?_
   intro _ hw'
   obtain⟨pw,hw''⟩:=hw'
   subst hw''
   have cK:=hid (gW ho.out pw.ok (aC _))
   have a_:=hid (hb.out.trans (pw.ok.mono hz))
   go_wp2
   go_roundg (N.length-(k+1))
   case rel=>exact⟨_,k+1,rfl,hlt,rfl,by go_num,hid (by rw[d_.out,HX.out,List.append_nil];exact cK.out),a_⟩
   rw[Hq.out];omega
  |true=>
   have HX:=hid (show (if F k then [k] else [])=[k] by rw[Q8.out];rfl)
   go_upto_region 5 with fail
   refine kK (by kernel_rfl) (by kernel_rfl) ?_
   repeat (go_big_quiet_step (first|((go_at_call 107;with_reducible exact dE (CD.out _)))|((go_at_call 108;with_reducible exact dE (CR.out _)))))
   refine wpQuiet_nil ?_
   intro _ hw'
   obtain⟨pw,hw''⟩:=hw'
   subst hw''
   have cK:=hid (gW ho.out pw.ok (aC _))
   have a_:=hid (hb.out.trans (pw.ok.mono hz))
   obtain⟨w5,hw5⟩:∃z:World,z=pw.wd:=⟨_,rfl⟩
   rw[←hw5] at cK a_ ⊢
   clear hw5
   have dG:=hid ((Below.refl w5.heap.size w5).alloc (aC _) (.cells #[.int .i64 (k:Nat)] 3))
   have gJ:=hid (gW cK.out dG.out (aC _))
   have oC:w.heap.size≤w5.heap.size:=a_.out.size
   have mN:w.heap.size≤(w5.alloc (.cells #[.int .i64 (k:Nat)] 3)).heap.size:=Nat.le_trans oC dG.out.size
   have PT:(ints RL).length≤1000000000:=by unfold ints;rw[cL];omega
   go_wp2_with (at_builtin;go_must (refine aMI rfl _ _ rfl w.heap.size _ (ints RL) (k:Nat) rfl gJ.out _ _ _ rfl XV PT mN ?_))
   intro v7 w7 j2 eM JO
   have KD:=hid (show aW w7 w.heap.size v7 (ints (RL++[k])) by unfold ints at j2 ⊢;rw[List.map_append];exact j2)
   have nP:=hid ((a_.out.trans (dG.out.mono oC)).grown eM mN (fun j hj=>(World.ownsRow.lt gJ.out j hj).1))
   clear j2 eM JO gJ cK a_ dG mN PT
   go_wp2
   go_roundg (N.length-(k+1))
   case rel=>exact⟨_,k+1,rfl,hlt,rfl,by go_num,hid (by rw[d_.out,HX.out];exact KD.out),nP⟩
   rw[Hq.out];omega
namespace Sl
def WX (p:List Fc) (n:Int) (y:aA) (E:Int) (xs:List Int):Prop:=
 (dD p≠0∧E=((dD p:Nat):Int)∧xs=[])∨
 (dD p=0∧((¬(0≤n∧n<((Sl.all p).length:Int))∧E=1∧xs=[])∨
  (0≤n∧n<((Sl.all p).length:Int))∧E=0∧∃w g N x,k6 w g p N∧N[n.toNat]?=some x∧xs=ints ((List.range N.length).filter (QT N n.toNat x.sm.unit y))))
end Sl
theorem bHD (K:Nat) (hK:K≤140737488355328) (hK4:4<K) (p:List Fc) (v:Value) (B:Nat) (w:World) (hv:eO w B v p) (hB:B≤w.heap.size) (hs:nodes p≤90000) (hp:p.length≤90000) (oT:∀f∈p,f.body.aX≤100000) (ho:oU K p) (hpl:dD p=0→S9 p) (n:Int) (y:aA) (hrg:dD p=0→∀(w:World) (g:Nat) (N:List Px),k6 w g p N→N.length≤100000∧∀(i:Nat) (r:Px),N[i]?=some r→∀z∈Gr.ordinary r.sm++EO r,-1≤z∧z<(N.length:Int)):
 Calls Tryz.prog 20 #[.agg #[v],.int .i64 n,.string y] w fun e w'=>∃x E xs,e=.returned (.tuple #[x,.int .i64 E])∧aW w' w.heap.size x xs∧Below w.heap.size w w'∧WX p n y E xs:=by
 obtain⟨A,cap,rfl,cB⟩:=hv.form
 have HC:=hid (fun (X:World) (hX:Below w.heap.size w X)=>a08 K hK hK4 p (.slice A p.length cap) B X (hv.below (hX.mono hB)) (by have:=hX.size;omega) hs hp oT ho n)
 have AZ:=hid hpl
 have CE:=hid hrg
 clear hv ho oT hpl hrg
 obtain⟨w1,mO⟩:∃z:World,z=w.alloc (.cells #[.slice A p.length cap] 24):=⟨_,rfl⟩
 have aT:=hid (show Below w.heap.size w w1 by rw[mO];exact (Below.refl w.heap.size w).alloc (aC _) _)
 have cQ:=hid (show aG w1 w.heap.size 24 #[.slice A p.length cap] by rw[mO];exact aG.new w _ _)
 go_enter Tryz.func20,Tryz.ntmps20
 go_upto_region 1 with fail
 rw[←mO]
 clear mO
 have DI:=cQ.out.cell 0
 have hz1:=aT.out.size
 have bY:=hid (aT.out.alloc hz1 (.cells #[.int .i64 n] 3))
 have uB:=hid (aG.new w1 3 #[.int .i64 n])
 have hl2:w1.heap.size<(w1.alloc (.cells #[.int .i64 n] 3)).heap.size:=by simp
 have b7:=hid (bY.out.alloc bY.out.size (.cells #[.slice (some ⟨w1.heap.size,0,none⟩) 1 1] 39))
 have jU:=hid (uB.out.below ((Below.refl (w1.alloc (.cells #[.int .i64 n] 3)).heap.size _).alloc (aC _) (.cells #[.slice (some ⟨w1.heap.size,0,none⟩) 1 1] 39)) hl2)
 have hK4:=aG.new (w1.alloc (.cells #[.int .i64 n] 3)) 39 #[.slice (some ⟨w1.heap.size,0,none⟩) 1 1]
 rw[show (w1.alloc (.cells #[.int .i64 n] 3)).heap.size=w1.heap.size+1 by simp] at hK4
 have iM:=hid (HC.out _ b7.out w1.heap.size (w1.heap.size+1) 1 1 (hK4.cell 0) (jU.out.cell 0))
 clear hK4
 clear hl2 HC
 go_wp2_with fail
 refine iM.out.mono ?_
 rintro e1 w4 ⟨hb4,hres⟩
 have bC:=hid (b7.out.trans (hb4.mono b7.out.size))
 have gY:w.heap.size≤w4.heap.size:=bC.out.size
 clear hb4 iM b7 bY aT cQ uB jU DI
 rcases hres with⟨h0,rfl⟩|⟨h0,⟨hn,rfl⟩|⟨hn,g,N,rfl,tT⟩⟩
 · have HL:=hid (show WX p n y ((dD p:Nat):Int) [] from .inl ⟨h0,rfl,rfl⟩)
   generalize dD p=sc at *
   have b0:((sc:Int) != 0)=true:=bne_iff_ne.2 (by omega)
   clear h0 AZ CE
   go_wp2
   go_ret2
   exact⟨_,_,[],rfl,EB _ _,bC.out,HL.out⟩
 · have HL:=hid (show WX p n y 1 [] from .inr ⟨h0,.inl ⟨hn,rfl,rfl⟩⟩)
   clear h0 hn AZ CE
   go_wp2
   go_ret2
   exact⟨_,_,[],rfl,EB _ _,bC.out,HL.out⟩
 have HPf:=hid (AZ.out h0)
 obtain⟨m,rfl⟩:∃m:Nat,n=(m:Int):=⟨n.toNat,by omega⟩
 obtain⟨r,hr⟩:∃r,(Sl.all p)[m]?=some r:=⟨(Sl.all p)[m]'(by omega),bX (by omega)⟩
 obtain⟨x,hx,j0⟩:=tT.at_ hr
 obtain⟨G5,hrr⟩:=CE.out h0 w4 g N tT
 have HL:=hid (show WX p (m:Int) y 0 (ints ((List.range N.length).filter (QT N m x.sm.unit y))) from .inr ⟨h0,.inr ⟨hn,rfl,w4,g,N,x,tT,by rw[Int.toNat_natCast];exact hx,by rw[Int.toNat_natCast]⟩⟩)
 have HO:=hid (bE2 g p N HPf.out m y x w4 tT hx G5 hrr)
 clear h0 hn hr hx j0 tT AZ CE G5 hrr
 go_wp2_with fail
 refine HO.out.mono ?_
 rintro e5 w5 ⟨v5,rfl,aZ,aQ⟩
 have cK:=hid (uH aZ gY)
 have a_:=hid (bC.out.trans (aQ.mono gY))
 clear aZ aQ HO
 go_wp2
 go_ret2
 exact⟨_,_,_,rfl,cK.out,a_.out,HL.out⟩
end
section
open Go.RowKit
open Sl
namespace Sl
namespace Fo
theorem M8 {M:Nat} (F:Nat):∀(l:Fo) (ex:Bool) (num fns i:Nat) (p:Pl),l.cnt≤M→p.eP.length≤M→∀r∈recs F l ex num fns i p,r.eP.length≤M∧r.bl.length≤M∧r.ol.length≤M
 |.nil,_,_,_,_,_,_,_,r,h=>by simp[recs] at h
 |.cons k t n s ps b e r,false,num,fns,i,p,hM,hp,y,h=>by
   have lb:=Fo.k7 b
   have le:=Fo.k7 e
   rw[cnt] at hM
   unfold recs at h
   simp only[List.mem_cons,List.mem_append] at h
   rcases h with rfl|h|h|h|h
   · exact⟨hp,by rw[QJ];omega,by rw[QJ];omega⟩
   · exact M8 F s _ _ _ _ _ (by omega) (by simp) y h
   · exact M8 F b _ _ _ _ _ (by omega) (by rw[QJ];omega) y h
   · exact M8 F e _ _ _ _ _ (by omega) (by rw[QJ];omega) y h
   exact M8 F r _ _ _ _ _ (by omega) hp y h
 |.cons k t n s ps b e r,true,num,fns,i,p,hM,hp,y,h=>by
   have lb:=Fo.k7 b
   rw[cnt] at hM
   unfold recs at h
   simp only[List.mem_append] at h
   rcases h with h|h|h
   · exact M8 F s _ _ _ _ _ (by omega) hp y h
   · by_cases hk:k=10
     · rw[if_pos hk] at h
       exact M8 F b _ _ _ _ _ (by omega) (by rw[QJ];omega) y h
     rw[if_neg hk] at h;cases h
   exact M8 F r _ _ _ _ _ (by omega) hp y h
theorem aY3 {M:Nat} (F:Nat):∀(p:List Fc) (i num fns:Nat),(∀f∈p,f.body.cnt≤M)→∀r∈lN F p i num fns,r.eP.length≤M∧r.bl.length≤M∧r.ol.length≤M
 | [],_,_,_,_,r,h=>by simp[lN] at h
 |f::l,i,num,fns,hM,r,h=>by
   unfold lN at h
   rcases List.mem_append.1 h with h|h
   · have h1:=hM f (List.mem_cons_self ..)
     have h2:=Fo.k7 f.body
     exact M8 F f.body _ _ _ _ _ h1 (by rw[QJ];omega) r h
   exact aY3 F l _ _ _ (fun g hg=>hM g (kS _ hg)) r h
end Fo
theorem aEO {p:List Fc} (h:dD p=0) (hs:nodes p≤90000):S9 p:=by
 have hc0:mY nm op un dJ p=0:=by
  unfold dD at h
  by_cases h2:mY nm op un dJ p=0
  · exact h2
  rw[if_pos h2] at h;exact absurd h h2
 have hf:∀f∈p,bE (dK nm op un) f.body false false=true:=fun f hf=>by
  have h1:=(aD6 nm op un (aD_ hc0).1).2.2.2 f hf
  unfold h_ at h1
  simp only[LM] at h1
  exact h1.2
 have hl:∀(n:Nat) (r:Sm),(Sl.all p)[n]?=some r→r.eP.length≤100000∧r.bl.length≤100000∧r.ol.length≤100000:=fun n r hr=>
  Fo.aY3 p.length p 0 0 0 (fun f hf=>Nat.le_trans (aZB hf) (by omega)) r (List.mem_of_getElem? hr)
 exact⟨fun n r hr=>bNL (bGK nm op un) p hf hr,fun n r hr=>(hl n r hr).1,fun n r hr=>(hl n r hr).2.1,fun n r hr=>(hl n r hr).2.2⟩
theorem bMQ {C:List Sm} (hloc:∀(n:Nat) (r:Sm),C[n]?=some r→Sl.Loc C n r):∀(n:Nat) (r:Sm),C[n]?=some r→(-1≤r.follow∧r.follow<(C.length:Int))∧(-1≤r.cD∧r.cD<(C.length:Int))∧(-1≤r.body∧r.body<(C.length:Int))∧(-1≤r.els∧r.els<(C.length:Int)):=fun n=>by
 induction n using Nat.strongRecOn with
 |ind n ih=>
 intro r hr
 have hL:=hloc n r hr
 have hn:=(mK.1 hr).1
 obtain⟨l1,l2,l3⟩:=hL.bP6
 have hown:=hL.own
 have ho:0≤r.owner→∃o,C[r.owner.toNat]?=some o∧r.owner.toNat<n:=fun h0=>⟨C[r.owner.toNat]'(by omega),bX (by omega),by omega⟩
 have hf:-1≤r.follow∧r.follow<(C.length:Int):=by
  cases hx:r.eP[r.index+1]? with
  |some m=>
   have h1:=hL.next m hx
   have h2:=l3 m (List.mem_of_getElem? hx)
   omega
  |none=>
   by_cases h0:r.owner<0
   · have:=(hL.last hx).1 h0;omega
   obtain⟨o,h1,h2⟩:=ho (by omega)
   have h3:=(hL.last hx).2 o (by omega) h1
   have h4:=(ih _ h2 o h1).1
   rw[h3]
   split<;>omega
 have hc:-1≤r.cD∧r.cD<(C.length:Int):=by
  by_cases h0:r.owner<0
  · have:=hL.top h0;omega
  obtain⟨o,h1,h2⟩:=ho (by omega)
  have h3:=hL.up o (by omega) h1
  obtain⟨-,h4,-,h5⟩:=ih _ h2 o h1
  rw[h3]
  split<;>omega
 refine⟨hf,hc,?_,?_⟩
 · rw[hL.mU]
   cases hb:r.bl with
   |nil=>dsimp only;split<;>omega
   |cons m l=>have:=l1 m (by rw[hb];exact List.mem_cons_self ..);dsimp only;omega
 rw[hL.els]
 cases hb:r.ol with
 |nil=>exact hf
 |cons m l=>have:=l2 m (by rw[hb];exact List.mem_cons_self ..);dsimp only;omega
theorem a2Q {C:List Sm} (hloc:∀(n:Nat) (r:Sm),C[n]?=some r→Sl.Loc C n r) {n:Nat} {r:Sm} (hr:C[n]?=some r) (t:Bool):∀z∈Gr.ordinary r++(if t then [r.cD] else []),-1≤z∧z<(C.length:Int):=fun z hz=>by
 obtain⟨hf,hc,hb,he⟩:=bMQ hloc n r hr
 have hn:=(mK.1 hr).1
 rcases List.mem_append.1 hz with h|h
 rotate_left
 · cases t
   · cases h
   simp at h;omega
 unfold Gr.ordinary Gr.mJ at h
 split at h
 · split at h
   · simp at h;omega
   simp at h;omega
 split at h
 · split at h
   · simp at h;omega
   simp at h;omega
 split at h
 · simp at h;omega
 split at h
 · simp at h;omega
 split at h
 · cases h
 simp at h;omega
end Sl
namespace Sl
namespace Fo
theorem YJ:∀(l:Fo) (d acc:Nat),gP l d acc<9000→acc+l.cnt+l.aX≤gP l d acc
 |nil,_,_,_=>aC _
 |cons _ t _ s ps b e r,d,acc,h=>by
   unfold gP at h ⊢
   by_cases h0:9000≤acc
   · rw[if_pos h0] at h;omega
   rw[if_neg h0] at h ⊢
   have hr:=YJ r d _ h
   refine Nat.le_trans ?_ hr
   have hg:=Nat.lt_of_le_of_lt (aEH r d _) h
   have ha:=a3H hg
   rw[ha] at hg ⊢
   have h1:=NN _ _ (show cut (d+1) (gP s (d+1) 0)<9000 by omega)
   have h2:=NN _ _ (show cut (d+1) (gP b (d+1) 0)<9000 by omega)
   have h3:=NN _ _ (show cut (d+1) (gP e (d+1) 0)<9000 by omega)
   have hs:=YJ s (d+1) 0 (by omega)
   have hb:=YJ b (d+1) 0 (by omega)
   have he:=YJ e (d+1) 0 (by omega)
   simp only[cnt,aX]
   omega
end Fo
theorem aZN:∀(p:List Fc) (acc:Nat),pU p acc<9000→∀f∈p,f.body.aX<9000
 | [],_,_,f,hf=>by cases hf
 |f::l,acc,h,g,hg=>by
   rw[pU] at h
   by_cases h0:9000≤acc
   · rw[if_pos h0] at h;omega
   rw[if_neg h0] at h
   rcases List.mem_cons.1 hg with rfl|hg
   · have h2:=Nat.lt_of_le_of_lt (aNL l _) h
     have h3:Fo.weight g.body 0<9000:=by omega
     have h4:Fo.gP g.body 0 0<9000:=by have:=Fo.NN 0 _ h3;unfold Fo.weight at h3;omega
     have:=Fo.YJ g.body 0 0 h4
     omega
   exact aZN l _ h g hg
theorem bFS {p:List Fc} (h:YS p=false):nodes p≤300∧p.length≤300∧∀f∈p,f.body.aX≤100000:=by
 unfold YS at h
 rw[Bool.or_eq_false_iff] at h
 have h1:¬300<nodes p+p.length:=of_decide_eq_false h.2
 refine⟨by omega,by omega,fun f hf=>?_⟩
 have h2:=h.1
 unfold F2 at h2
 have h3:¬2200<pU p p.length:=of_decide_eq_false h2
 have:=aZN p p.length (by omega) f hf
 omega
noncomputable def GJ (p:List Fc) (r:Sm):bO:=⟨r.nd,(r.fn:Nat),(r.unit:Nat),r.parent,r.follow,r.cD,r.body,r.els,Fo.own r.nd.s,eV r.nd,sR p (Fo.heads (Fo.own r.nd.s)),fC p.length (oX p.length ((all p).map (E0 p))) (E0 p r)⟩
theorem a1G (p:List Fc):rK p=(all p).map (GJ p):=rfl
theorem aNS (p:List Fc):(rK p).length=(all p).length:=by rw[a1G,cL]
theorem aD3 (p:List Fc) (n:Nat):(rK p)[n]?=((all p)[n]?).map (GJ p):=by rw[a1G,lZ]
theorem aOK (p:List Fc) (r:Sm):fB (GJ p r)=Gr.ordinary r:=rfl
theorem a2L (p:List Fc) (r:Sm):lQ (GJ p r)=if (WR p r).cW then [r.cD] else []:=rfl
theorem a29 (p:List Fc) (r:Sm) (y:aA):BO (GJ p r) y=BP r.nd y:=rfl
theorem aEN {p:List Fc} {N:List Px} (h:N.map (·.sm)=all p) (i:Nat):(all p)[i]?=(N[i]?).map (·.sm):=by rw[←h,lZ]
theorem a3S {p:List Fc} {N:List Px} (h:N.map (·.sm)=all p):N.length=(all p).length:=by rw[←h,cL]
theorem bN3 {p:List Fc} {N:List Px} (h:N.map (·.sm)=all p) (he:∀x∈N,x.ef=WR p x.sm) (d:Nat) (y:aA):yC (rK p) d y=yD N d y:=by
 funext i
 unfold yC yD
 by_cases hi:i<0
 · rw[if_pos hi,if_pos hi]
 rw[if_neg hi,if_neg hi,aD3,aEN h]
 cases hx:N[i.toNat]? with
 |none=>rfl
 |some z=>
  have e:=he z (List.mem_of_getElem? hx)
  simp only[Option.map_some]
  rw[aOK,a29,a2L]
  unfold EO
  rw[e]
theorem bNY {p:List Fc} {N:List Px} (h:N.map (·.sm)=all p) (he:∀x∈N,x.ef=WR p x.sm) (n u:Nat) (y:aA):U3 (rK p) n (u:Int) y=QT N n u y:=by
 funext i
 unfold U3 QT
 rw[bN3 h he,aD3,aEN h]
 cases hx:N[i]? with
 |none=>rfl
 |some z=>
  simp only[Option.map_some]
  rw[aOK,a29]
  congr 1
  show decide (((z.sm.unit:Nat):Int)=(u:Int))=_
  by_cases hu:z.sm.unit=u
  · rw[bF hu,bF (by omega)]
  rw[bP hu,bP (by omega)]
theorem aYT {f g:Fc→Nat} (h:∀x,f x≤g x):∀p:List Fc,(p.map f).sum≤(p.map g).sum
 | []=>aC _
 |x::l=>by
   have h1:=h x
   have h2:=aYT h l
   rw[List.map_cons,List.map_cons,List.sum_cons,List.sum_cons]
   omega
theorem aZW (p:List Fc):(all p).length≤nodes p:=by
 unfold all nodes
 rw[aM8]
 exact aYT (fun f=>Fo.jX f.body false) p
theorem bKU {p:List Fc} (h:dD p=0) (hs:nodes p≤90000):∀(i:Nat) (r:bO),(rK p)[i]?=some r→∀z∈fB r++lQ r,-1≤z∧z<((rK p).length:Int):=fun i r hr z hz=>by
 rw[aD3] at hr
 obtain⟨s,hs1,rfl⟩:=Option.map_eq_some_iff.1 hr
 rw[aOK,a2L] at hz
 rw[aNS]
 exact a2Q (aEO h hs).loc hs1 _ z hz
theorem bNZ {p:List Fc} (h:dD p=0) (hs:nodes p≤90000):∀(w:World) (g:Nat) (N:List Px),k6 w g p N→N.length≤100000∧∀(i:Nat) (r:Px),N[i]?=some r→∀z∈Gr.ordinary r.sm++EO r,-1≤z∧z<(N.length:Int):=fun w g N hN=>by
 have hl:=a3S hN.sm
 have ha:=aZW p
 refine⟨by omega,fun i r hr z hz=>?_⟩
 have h1:(all p)[i]?=some r.sm:=by rw[aEN hN.sm,hr];rfl
 have e:=hN.ef r (List.mem_of_getElem? hr)
 unfold EO at hz
 rw[e] at hz
 rw[hl]
 exact a2Q (aEO h hs).loc h1 _ z hz
theorem bME {p:List Fc} {n:Nat} {y:aA} {E:Int} {xs:List Int} (h:WX p (n:Int) y E xs) (h0:dD p=0) {r:Sm} (hr:(all p)[n]?=some r):E=0∧xs=ints ((List.range (rK p).length).filter (U3 (rK p) n ((r.unit:Nat):Int) y)):=by
 have hn:=(mK.1 hr).1
 rcases h with⟨h1,-⟩|⟨-,⟨h1,-⟩|⟨-,hE,w,g,N,x,hN,hx,rfl⟩⟩
 · exact absurd h0 h1
 · exact absurd ⟨by omega,by omega⟩ h1
 rw[Int.toNat_natCast] at hx ⊢
 have h2:(all p)[n]?=some x.sm:=by rw[aEN hN.sm,hx];rfl
 rw[hr] at h2
 injection h2 with h2
 subst h2
 exact⟨hE,by rw[bNY hN.sm hN.ef,aNS,a3S hN.sm]⟩
theorem bMR {p:List Fc} {n:Nat} {E:Int} {xs ys:List Int} (h:WZ p (n:Int) E xs ys) (h0:dD p=0) {r:Sm} (hr:(all p)[n]?=some r):E=0∧xs=fB (GJ p r)∧ys=lQ (GJ p r):=by
 have hn:=(mK.1 hr).1
 rcases h with⟨h1,-⟩|⟨-,⟨h1,-⟩|⟨-,hE,q,hq,rfl,rfl⟩⟩
 · exact absurd h0 h1
 · exact absurd ⟨by omega,by omega⟩ h1
 rw[Int.toNat_natCast] at hq
 rw[hr] at hq
 injection hq with hq
 subst hq
 exact⟨hE,rfl,rfl⟩
theorem aO7 {p:List Fc} {n E:Int} {xs ys:List Int} (h:WZ p n E xs ys) (he:¬(dD p=0∧0≤n∧n<((all p).length:Int))):E=(if dD p=0 then 1 else ((dD p:Nat):Int))∧xs=[]∧ys=[]:=by
 rcases h with⟨h1,h2,h3,h4⟩|⟨h1,⟨h2,h3,h4,h5⟩|⟨h2,-⟩⟩
 · exact⟨by rw[if_neg h1];exact h2,h3,h4⟩
 · exact⟨by rw[if_pos h1];exact h3,h4,h5⟩
 exact absurd ⟨h1,h2⟩ he
theorem aO4 {p:List Fc} {n:Int} {y:aA} {E:Int} {xs:List Int} (h:WX p n y E xs) (he:¬(dD p=0∧0≤n∧n<((all p).length:Int))):E=(if dD p=0 then 1 else ((dD p:Nat):Int))∧xs=[]:=by
 rcases h with⟨h1,h2,h3⟩|⟨h1,⟨h2,h3,h4⟩|⟨h2,-⟩⟩
 · exact⟨by rw[if_neg h1];exact h2,h3⟩
 · exact⟨by rw[if_pos h1];exact h3,h4⟩
 exact absurd ⟨h1,h2⟩ he
end Sl
end
section
open Go.RowKit
open Sl
open Go.Lib (hid)
theorem T9 {w:World} {base:Nat} {v:Value} {xs:List Int} (h:aW w base v xs) (hl:xs.length≤100000):Ints w w.heap.size v xs:=h.reads (by omega)
theorem aY8 (x:bO):(fB x).length≤100000:=Nat.le_trans (aN3 x) (by decide)
theorem aYS (x:bO):(lQ x).length≤100000:=Nat.le_trans (a1C x) (by decide)
theorem aZJ {N:Nat} {F:Nat→Bool} (h:N≤100000):(ints ((List.range N).filter F)).length≤100000:=by
 unfold ints
 rw[cL]
 have:=List.length_filter_le F (List.range N)
 rw[List.length_range] at this
 omega
theorem bEW (hlv:aQS) (K:Nat) (hK:K≤140737488355328) (hK4:4<K) (p:List Fc) (v:Value) (B:Nat) (w:World) (hv:eO w B v p) (hB:B≤w.heap.size) (ho:oU K p) (n:Int) (y:aA):
 Calls Tryz.prog 4 #[.agg #[v],.int .i64 n,.string y] w fun e w'=>e=.returned (.bool true)∧Below w.heap.size w w':=by
 have XB:=hid hlv
 have HV:=hid hv
 have HO:=hid ho
 obtain⟨A,cap,rfl,cB⟩:=hv.form
 obtain⟨w1,mO⟩:∃z:World,z=w.alloc (.cells #[.slice A p.length cap] 24):=⟨_,rfl⟩
 have aT:=hid (show Below w.heap.size w w1 by rw[mO];exact (Below.refl w.heap.size w).alloc (aC _) _)
 have cQ:=hid (show aG w1 w.heap.size 24 #[.slice A p.length cap] by rw[mO];exact aG.new w _ _)
 have HG:=hid (bH1 K hK p (.slice A p.length cap) B w1 (HV.out.below (aT.out.mono hB)) (by have:=aT.out.size;omega) HO.out)
 clear hlv hv ho
 go_enter Tryz.func4,Tryz.ntmps4
 go_upto_region 1 with fail
 rw[←mO]
 clear mO
 have nC:=cQ.out.cell 0
 go_wp2_with fail
 refine HG.out.mono ?_
 rintro e2 w2 ⟨rfl,hb2⟩
 have bY:=hid (aT.out.trans (hb2.mono aT.out.size))
 have uB:=hid (cQ.out.below (hb2) cQ.out.lt)
 clear hb2 HG nC aT cQ
 obtain⟨gr,hgr⟩:∃z,z=YS p:=⟨_,rfl⟩
 rw[←hgr]
 have HGr:=hid hgr
 clear hgr
 cases gr with
 |true=>
  go_wp2_with fail
  refine (XB.out _).mono ?_
  rintro eL wL ⟨rfl,rY⟩
  have HL:=hid (bY.out.trans (rY.mono bY.out.size))
  clear rY
  go_wp2_with fail
  go_ret
  exact⟨rfl,HL.out⟩
 |false=>
  obtain⟨hs,hp,oT⟩:=bFS HGr.out.symm
  have aTC:=hid oT
  clear HGr oT
  by_cases hy:100<y.size
  · have b1:decide ((y.size:Int) > 100)=true:=bF (by omega)
    clear hy
    go_wp2_with fail
    refine (XB.out _).mono ?_
    rintro eL wL ⟨rfl,rY⟩
    have HL:=hid (bY.out.trans (rY.mono bY.out.size))
    clear rY
    go_wp2_with fail
    go_ret
    exact⟨rfl,HL.out⟩
  have b1:decide ((y.size:Int) > 100)=false:=bP (by omega)
  clear hy
  have hz2:=bY.out.size
  have HOp:=hid (bJH K hK hK4 p (.slice A p.length cap) w2.heap.size w2 ((HV.out.below (bY.out.mono hB)).more (by omega)) (aC _) rfl (by omega) (by omega) aTC.out HO.out)
  have QA:=hid (fun (X:World) (hX:Below w.heap.size w X)=>bHE K hK hK4 p (.slice A p.length cap) B X (HV.out.below (hX.mono hB)) (by have:=hX.size;omega) (by omega) (by omega) aTC.out HO.out (fun h=>aEO h (by omega)) n)
  have oK:=hid (fun (X:World) (hX:Below w.heap.size w X)=>bHD K hK hK4 p (.slice A p.length cap) B X (HV.out.below (hX.mono hB)) (by have:=hX.size;omega) (by omega) (by omega) aTC.out HO.out (fun h=>aEO h (by omega)) n y (fun h=>bNZ h (by omega)))
  have GN:=uB.out.cell 0
  go_wp2_with fail
  refine HOp.out.mono ?_
  rintro e3 w3 ⟨hb3,hres⟩
  have b7:=hid (bY.out.trans (hb3.mono bY.out.size))
  have jU:=hid (uB.out.below (hb3) uB.out.lt)
  clear hb3 HOp GN bY uB hz2 b1
  rcases hres with⟨h0,rfl⟩|⟨h0,g,rfl,eH⟩
  · have IM:=hid (show ¬(dD p=0∧0≤n∧n<((all p).length:Int)) from fun h=>h0 h.1)
    have W4:=hid (show (if dD p=0 then (1:Int) else ((dD p:Nat):Int))=((dD p:Nat):Int) from if_neg h0)
    obtain⟨sc,hsc⟩:∃z,z=dD p:=⟨_,rfl⟩
    rw[←hsc] at h0 ⊢
    have a8O:=hid (show (if dD p=0 then (1:Int) else ((dD p:Nat):Int))=((sc:Nat):Int) by rw[W4.out,hsc])
    have b2:((sc:Int)==0)=false:=aP (by omega)
    have b3:((sc:Int) != 0)=true:=bne_iff_ne.2 (by omega)
    clear hsc h0
    have lD:=jU.out.cell 0
    go_wp2_with fail
    refine (QA.out _ b7.out).mono ?_
    rintro e4 w4 ⟨x1,x2,E1,xs1,xs2,rfl,hx1,hx2,hb4,GR⟩
    obtain⟨PW,rfl,rfl⟩:=aO7 GR IM.out
    rw[a8O.out] at PW
    subst PW
    obtain⟨A1,c1,rfl,-⟩:=jJ hx1
    obtain⟨A2,c2,rfl,-⟩:=jJ hx2
    have bC:=hid (b7.out.trans (hb4.mono b7.out.size))
    have pJ:=hid (jU.out.below (hb4) jU.out.lt)
    clear hb4 GR hx1 hx2 lD b7 jU
    have mP:=pJ.out.cell 0
    go_wp2_with fail
    refine (oK.out _ bC.out).mono ?_
    rintro e5 w5 ⟨x3,E2,xs3,rfl,hx3,aQ,nB⟩
    obtain⟨DU,rfl⟩:=aO4 nB IM.out
    rw[a8O.out] at DU
    subst DU
    obtain⟨A3,c3,rfl,-⟩:=jJ hx3
    have a_:=hid (bC.out.trans (aQ.mono bC.out.size))
    have MX:=hid (pJ.out.below (aQ) pJ.out.lt)
    clear aQ nB hx3 mP bC pJ QA oK IM
    go_wp2_with fail
    refine (XB.out _).mono ?_
    rintro eL wL ⟨rfl,rY⟩
    have HL:=hid (a_.out.trans (rY.mono a_.out.size))
    clear rY
    go_wp2_with fail
    go_ret
    exact⟨rfl,HL.out⟩
  have kW:=aNS p
  have oB:=hid (show (rK p).length≤100000 by have:=aZW p;omega)
  have bN:=hid eH
  obtain⟨⟨W,B',base,Ap,cp,zv,xv,Z,tv,f,hbr⟩,-,-⟩:=eH
  obtain⟨-,g1,-,-,-⟩:=pN hbr.blk
  obtain⟨At,ct,nt,zX,-⟩:=aF.src hbr.tab
  rw[zX,kW] at g1
  clear zX hbr
  have W4:=hid (show (if dD p=0 then (1:Int) else ((dD p:Nat):Int))=1 from if_pos h0)
  have H0:=hid h0
  obtain⟨N,hN⟩:∃z,z=(all p).length:=⟨_,rfl⟩
  rw[←hN] at g1
  have HN:=hid hN
  clear hN kW h0
  by_cases zZ:n<0
  · have IM:=hid (show ¬(dD p=0∧0≤n∧n<((all p).length:Int)) from fun h=>by omega)
    have b4:decide (n<0)=true:=bF zZ
    clear zZ
    have lD:=jU.out.cell 0
    go_wp2_with fail
    refine (QA.out _ b7.out).mono ?_
    rintro e4 w4 ⟨x1,x2,E1,xs1,xs2,rfl,hx1,hx2,hb4,GR⟩
    obtain⟨PW,rfl,rfl⟩:=aO7 GR IM.out
    rw[W4.out] at PW
    subst PW
    obtain⟨A1,c1,rfl,-⟩:=jJ hx1
    obtain⟨A2,c2,rfl,-⟩:=jJ hx2
    have bC:=hid (b7.out.trans (hb4.mono b7.out.size))
    have pJ:=hid (jU.out.below (hb4) jU.out.lt)
    clear hb4 GR hx1 hx2 lD b7 jU
    have mP:=pJ.out.cell 0
    go_wp2_with fail
    refine (oK.out _ bC.out).mono ?_
    rintro e5 w5 ⟨x3,E2,xs3,rfl,hx3,aQ,nB⟩
    obtain⟨DU,rfl⟩:=aO4 nB IM.out
    rw[W4.out] at DU
    subst DU
    obtain⟨A3,c3,rfl,-⟩:=jJ hx3
    have a_:=hid (bC.out.trans (aQ.mono bC.out.size))
    have MX:=hid (pJ.out.below (aQ) pJ.out.lt)
    clear aQ nB hx3 mP bC pJ QA oK IM
    go_wp2_with fail
    refine (XB.out _).mono ?_
    rintro eL wL ⟨rfl,rY⟩
    have HL:=hid (a_.out.trans (rY.mono a_.out.size))
    clear rY
    go_wp2_with fail
    go_ret
    exact⟨rfl,HL.out⟩
  have b4:decide (n<0)=false:=bP zZ
  by_cases E9:(N:Int)≤n
  · have IM:=hid (show ¬(dD p=0∧0≤n∧n<((all p).length:Int)) from fun h=>by have:=HN.out;omega)
    have b5:decide (n≥(N:Int))=true:=bF E9
    clear zZ E9
    have lD:=jU.out.cell 0
    go_wp2_with fail
    refine (QA.out _ b7.out).mono ?_
    rintro e4 w4 ⟨x1,x2,E1,xs1,xs2,rfl,hx1,hx2,hb4,GR⟩
    obtain⟨PW,rfl,rfl⟩:=aO7 GR IM.out
    rw[W4.out] at PW
    subst PW
    obtain⟨A1,c1,rfl,-⟩:=jJ hx1
    obtain⟨A2,c2,rfl,-⟩:=jJ hx2
    have bC:=hid (b7.out.trans (hb4.mono b7.out.size))
    have pJ:=hid (jU.out.below (hb4) jU.out.lt)
    clear hb4 GR hx1 hx2 lD b7 jU
    have mP:=pJ.out.cell 0
    go_wp2_with fail
    refine (oK.out _ bC.out).mono ?_
    rintro e5 w5 ⟨x3,E2,xs3,rfl,hx3,aQ,nB⟩
    obtain⟨DU,rfl⟩:=aO4 nB IM.out
    rw[W4.out] at DU
    subst DU
    obtain⟨A3,c3,rfl,-⟩:=jJ hx3
    have a_:=hid (bC.out.trans (aQ.mono bC.out.size))
    have MX:=hid (pJ.out.below (aQ) pJ.out.lt)
    clear aQ nB hx3 mP bC pJ QA oK IM
    go_wp2_with fail
    refine (XB.out _).mono ?_
    rintro eL wL ⟨rfl,rY⟩
    have HL:=hid (a_.out.trans (rY.mono a_.out.size))
    clear rY
    go_wp2_with fail
    go_ret
    exact⟨rfl,HL.out⟩
  have b5:decide (n≥(N:Int))=false:=bP E9
  obtain⟨m,rfl⟩:∃m:Nat,n=m:=⟨n.toNat,by omega⟩
  obtain⟨r,hr⟩:∃r,(all p)[m]?=some r:=⟨(all p)[m]'(by have:=HN.out;omega),bX _⟩
  have HR:=hid hr
  have HX:=hid (show (rK p)[m]?=some (GJ p r) by rw[aD3,hr];rfl)
  have hmN:m<N:=by omega
  have b6:decide (N≤m)=false:=bP (by omega)
  clear hr zZ E9
  have lD:=jU.out.cell 0
  go_wp2_with fail
  refine (QA.out _ b7.out).mono ?_
  rintro e4 w4 ⟨x1,x2,E1,xs1,xs2,rfl,hx1,hx2,hb4,GR⟩
  obtain⟨rfl,rfl,rfl⟩:=bMR GR H0.out HR.out
  have HI1:=hid (T9 hx1 (aY8 _))
  have FQ:=hid (T9 hx2 (aYS _))
  have bC:=hid (b7.out.trans (hb4.mono b7.out.size))
  have pJ:=hid (jU.out.below (hb4) jU.out.lt)
  have aAN:=hid (bN.out.below hb4)
  clear hb4 GR hx1 hx2 lD b7 jU g1 b4 b5 bN
  have mP:=pJ.out.cell 0
  go_wp2_with fail
  refine (oK.out _ bC.out).mono ?_
  rintro e5 w5 ⟨x3,E2,xs3,rfl,hx3,aQ,nB⟩
  obtain⟨rfl,rfl⟩:=bME nB H0.out HR.out
  have HI3:=hid (T9 hx3 (aZJ oB.out))
  have a_:=hid (bC.out.trans (aQ.mono bC.out.size))
  have MX:=hid (pJ.out.below (aQ) pJ.out.lt)
  have HJ1:=hid (HI1.out.below aQ)
  have HJ2:=hid (FQ.out.below aQ)
  have JT:=hid (aAN.out.below aQ)
  have a6Q:=aQ.size
  clear aQ nB hx3 mP bC pJ QA oK HI1 FQ aAN MX
  have AY:=hid (aNF g p.length m (GJ p r) (rK p) w5 JT.out HX.out)
  go_wp2_with fail
  refine AY.out.mono ?_
  rintro e6 w6 ⟨y1,y2,rfl,hy1,hy2,b_⟩
  have HY1:=hid (T9 hy1 (aY8 _))
  have HY2:=hid (T9 hy2 (aYS _))
  have fZ:=hid (a_.out.trans (b_.mono a_.out.size))
  have HI1:=hid ((HJ1.out.more a6Q).below b_)
  have FQ:=hid ((HJ2.out.more a6Q).below b_)
  have HI4:=hid (HI3.out.below b_)
  have Q9:=hid (JT.out.below b_)
  have aRB:=b_.size
  clear b_ hy1 hy2 AY HJ1 HJ2 HI3 JT a_
  have sF:=hid (aMJ x1 y1 _ _ w6.heap.size w6 (HI1.out.more aRB) HY1.out)
  rw[bF rfl] at sF
  go_wp2_with fail
  refine sF.out.mono ?_
  rintro e7 w7 ⟨rfl,q7,rfl⟩
  clear sF HI1 HY1
  have gI:=hid (aMJ x2 y2 _ _ w6.heap.size (w6.drewN q7) ((FQ.out.more aRB).below (below_drewN (Below.refl _ _) q7)) (HY2.out.below (below_drewN (Below.refl _ _) q7)))
  rw[bF rfl] at gI
  go_wp2_with fail
  refine gI.out.mono ?_
  rintro e8 w8 ⟨rfl,q8,rfl⟩
  clear gI FQ HY2
  obtain⟨w9,hw9⟩:∃z:World,z=(w6.drewN q7).drewN q8:=⟨_,rfl⟩
  have pC:Below w6.heap.size w6 w9:=by rw[hw9];exact below_drewN (below_drewN (Below.refl _ _) q7) q8
  rw[←hw9]
  have HI5:=hid ((HI4.out.more aRB).below pC)
  have a9A:=hid (Q9.out.below pC)
  have CG:=hid (fZ.out.trans (pC.mono fZ.out.size))
  have bP8:=pC.size
  clear hw9 pC HI4 Q9 fZ
  have P8:=hid (bFH g p.length m y (GJ p r) (rK p) w9 a9A.out HX.out (bKU H0.out (by omega)))
  go_wp2_with fail
  refine P8.out.mono ?_
  rintro B9 tC ⟨y3,rfl,hy3,aJP⟩
  have HY3:=hid (T9 hy3 (aZJ oB.out))
  have HI6:=hid ((HI5.out.more bP8).below aJP)
  have VQ:=hid (CG.out.trans (aJP.mono CG.out.size))
  have bO_:=aJP.size
  clear aJP hy3 P8 HI5 a9A CG
  have fG:=hid (aMJ x3 y3 _ _ tC.heap.size tC (HI6.out.more bO_) HY3.out)
  rw[show (GJ p r).unit=((r.unit:Nat):Int) from rfl,bF rfl] at fG
  go_wp2_with fail
  refine fG.out.mono ?_
  rintro e11 RI ⟨rfl,O3,rfl⟩
  clear fG HI6 HY3
  have aAO:=hid (show Below w.heap.size w (tC.drewN O3) from below_drewN VQ.out O3)
  go_wp2_with fail
  refine (XB.out _).mono ?_
  rintro eL wL ⟨rfl,rY⟩
  have HL:=hid (aAO.out.trans (rY.mono aAO.out.size))
  clear rY
  go_wp2_with fail
  go_ret
  exact⟨rfl,HL.out⟩
end
end Go.Proofs.YtdlndhbkcgmkkaaGreatDoor
