/-
 Part 20 of 35 of a proof about the given program: facts on which the last part stands.
-/
import Derived.Test.YtdlndhbkcgmkkaaGreatDoorFL19
import Derived.Lib.SlicesCompact
set_option maxHeartbeats 12800000
set_option linter.unusedVariables false
set_option linter.unusedSimpArgs false
set_option maxRecDepth 100000
namespace Go.Proofs.YtdlndhbkcgmkkaaGreatDoor
section
open Go.RowKit
open Sl
open Go.Lib (hid)
theorem bH5 (c:Nat) (ih:∀c',c'<c→N6 210 true c') (ihh:∀c',c'<c→aPN c'):N6 210 true c:=by
 intro l lv nv names base g w hc jB hl BZ hl2 jS
 obtain⟨A,cap,rfl,cB⟩:=hl.form
 have HL:=hid hl
 have HI:=hid ih
 have HH:=hid ihh
 have HO:=hid jB
 have qO:=jB.size
 have z7:=jB.low
 have qM:=Fo.k7 l
 clear hl ih ihh jB
 go_enter Tryz.func210,Tryz.ntmps210
 go_wp2
 go_loopg [8] l.len (fun q i wr=>∃(k:Nat) (nu:Value) (acc:List aA),k≤l.len∧q=l.len-k∧i=.int .i64 k∧Hid (bJ l true names=bJ (Fo.drop k l) true acc)∧Hid (acc.length+(Fo.drop k l).cnt≤400000000)∧Hid (sM base g wr nu acc)∧Hid (Below g w wr))
 case atStart=>exact⟨0,nv,names,Nat.zero_le _,rfl,rfl,hid (by rw[Fo.drop]),hid (by rw[Fo.drop];exact jS),HO,hid (Below.refl _ _)⟩
 obtain⟨k,nu,acc,hk,hq,rfl,he,lT,hrow,hb⟩:=hrel
 have Hq:=hid hq
 clear hq
 obtain⟨wo,rfl⟩:∃x:World,x=wr:=⟨_,rfl⟩
 have hz:=hb.out.size
 have jP:=hrow.out.size
 by_cases hlt:k<l.len
 rotate_left
 · have HE:=hid (show bJ l true names=acc by rw[he.out,show k=l.len by omega,gB,aOD])
   clear he
   go_wp2
   go_end0
   exact⟨rfl,nu,by rw[HE.out];exact hrow.out,hb.out⟩
 obtain⟨a,kk,t,nn,s,ps,b,e,r,sv,pv,bv,ev,rfl,aI,hno⟩:=(HL.out.below hb.out).at_ hlt
 have dL:=kN aI
 have nD:=T5 aI
 have HE:=hid (he.out.trans (bH9 aI acc))
 have aSB:acc.length+(1+s.cnt+b.cnt+e.cnt+r.cnt)≤400000000:=by
  have:=lT.out
  rw[aI,Fo.cnt] at this
  exact this
 have hdr:=hid (eD aI)
 obtain⟨As,cs,rfl,hcs⟩:=hno.vals.subs.form
 have HN:=hid hno.vals
 obtain⟨c0,c1,-,c3,c4,c5,-⟩:=hno.cells
 have hab:(a.add (k*7)).block<g:=by rw[f_];exact hno.lt
 clear aI hno he lT
 by_cases h2:kk=2
 · have HA:=hid (show bJ l true names=bJ (Fo.drop (k+1) l) true (dP acc t) by rw[HE.out,if_pos h2])
   have hpl:=X8 acc t
   have HP:=hid (aOJ base wo.heap.size g nu _ acc [t] _ (hrow.out.below ((Below.refl wo.heap.size wo).alloc (aC _) (.cells #[.string t] 9))) (TY wo wo.heap.size t (aC _)) (T6 hrow.out.row (TY wo wo.heap.size t (aC _)) (aC _)) (show acc.length+1≤900000000 by omega))
   have pL:=hid ((Below.refl g wo).alloc (show g≤wo.heap.size by omega) (.cells #[.string t] 9))
   subst h2
   have qR:=hid (show (dP acc t).length+(Fo.drop (k+1) l).cnt≤400000000 by rw[hdr.out];omega)
   clear HE c3 c4 c5 hpl
   go_wp2_with fail
   refine HP.out.mono ?_
   rintro e1 w1 ⟨rfl,V4,LH,hb1⟩
   have kJ:=hid LH
   have iV:=hid (hb.out.trans (pL.out.trans hb1))
   clear LH hb1 HP pL
   go_wp2
   go_roundg (l.len-(k+1))
   case rel=>exact⟨k+1,V4,_,hlt,rfl,by go_num,HA,qR,kJ,iV⟩
   rw[Hq.out];omega
 by_cases h10:kk=10
 rotate_left
 · have HA:=hid (show bJ l true names=bJ (Fo.drop (k+1) l) true (bJ s true acc) by rw[HE.out,if_neg h2,if_neg h10])
   have b1:((kk:Int)==2)=false:=aP (by omega)
   have b2:((kk:Int)==10)=false:=aP (by omega)
   have hpl:=uJ s true acc
   have HC:=hid (HI.out s.cnt (by omega) s (.slice As s.len cs) nu acc base g wo (aC _) hrow.out HN.out.subs (by omega) (by omega) (by omega))
   have qR:=hid (show (bJ s true acc).length+(Fo.drop (k+1) l).cnt≤400000000 by rw[hdr.out];omega)
   clear HE c1 c4 c5 hpl h2 h10
   go_wp2_with fail
   refine HC.out.mono ?_
   rintro e1 w1 ⟨rfl,V4,LH,hb1⟩
   have kJ:=hid LH
   have iV:=hid (hb.out.trans hb1)
   clear LH hb1 HC
   go_wp2
   go_roundg (l.len-(k+1))
   case rel=>exact⟨k+1,V4,_,hlt,rfl,by go_num,HA,qR,kJ,iV⟩
   rw[Hq.out];omega
 have HA:=hid (show bJ l true names=bJ (Fo.drop (k+1) l) true ((K8 ps b).foldl dP acc) by rw[HE.out,if_neg h2,if_pos h10])
 have HHe:=hid (HH.out b.cnt (by omega) (a.add (k*7)) pv bv ps b g wo (aC _) hab (by omega) c4 c5 HN.out.aX HN.out.body (by omega) (by omega))
 have hpl:=aMG (K8 ps b) acc
 have hph:(K8 ps b).length≤b.cnt:=by
  have h3:=uJ b false []
  have h4:=List.length_filter_le (fun x=>!inL (letters b ps) x) (bJ b false [])
  rw[List.length_nil] at h3
  show ((bJ b false []).filter fun x=>!inL (letters b ps) x).length≤b.cnt
  omega
 subst h10
 have qR:=hid (show ((K8 ps b).foldl dP acc).length+(Fo.drop (k+1) l).cnt≤400000000 by rw[hdr.out];omega)
 obtain⟨hp,hhp⟩:∃z,z=K8 ps b:=⟨_,rfl⟩
 rw[←hhp] at HA HHe qR hph
 clear HE c1 c3 c4 c5 hpl hhp h2
 go_wp2_with fail
 refine HHe.out.mono ?_
 rintro e1 w1 ⟨v1,rfl,hs1,hb1⟩
 have HP:=hid (aOJ base wo.heap.size g nu v1 acc hp w1 (hrow.out.below hb1) hs1 (T6 hrow.out.row hs1 (aC _)) (by omega))
 obtain⟨A1,c1',n1,rfl,-⟩:=aF.src hs1
 have aT:=hid (hb.out.trans (hb1.mono (show g≤wo.heap.size by omega)))
 clear hs1 hb1 HHe
 go_wp2_with fail
 refine HP.out.mono ?_
 rintro e2 w2 ⟨rfl,nu2,a7W,hb2⟩
 have kJ:=hid a7W
 have iV:=hid (aT.out.trans hb2)
 clear a7W hb2 HP aT
 go_wp2
 go_roundg (l.len-(k+1))
 case rel=>exact⟨k+1,nu2,_,hlt,rfl,by go_num,HA,qR,kJ,iV⟩
 rw[Hq.out];omega
theorem bKG (c:Nat) (ih:∀c',c'<c→N6 210 true c') (DB:∀c',c'<c→N6 271 false c'):N6 271 false c:=by
 intro l lv nv names base g w hc jB hl BZ hl2 jS
 obtain⟨A,cap,rfl,cB⟩:=hl.form
 have HL:=hid hl
 have HI:=hid ih
 have HB:=hid DB
 have HO:=hid jB
 have qO:=jB.size
 have z7:=jB.low
 have qM:=Fo.k7 l
 clear hl ih DB jB
 go_enter Tryz.func271,Tryz.ntmps271
 go_wp2
 go_loopg [8] l.len (fun q i wr=>∃(k:Nat) (nu:Value) (acc:List aA),k≤l.len∧q=l.len-k∧i=.int .i64 k∧Hid (bJ l false names=bJ (Fo.drop k l) false acc)∧Hid (acc.length+(Fo.drop k l).cnt≤400000000)∧Hid (sM base g wr nu acc)∧Hid (Below g w wr))
 case atStart=>exact⟨0,nv,names,Nat.zero_le _,rfl,rfl,hid (by rw[Fo.drop]),hid (by rw[Fo.drop];exact jS),HO,hid (Below.refl _ _)⟩
 obtain⟨k,nu,acc,hk,hq,rfl,he,lT,hrow,hb⟩:=hrel
 have Hq:=hid hq
 clear hq
 obtain⟨wo,rfl⟩:∃x:World,x=wr:=⟨_,rfl⟩
 have hz:=hb.out.size
 have jP:=hrow.out.size
 by_cases hlt:k<l.len
 rotate_left
 · have HE:=hid (show bJ l false names=acc by rw[he.out,show k=l.len by omega,gB,aOD])
   clear he
   go_wp2
   go_end0
   exact⟨rfl,nu,by rw[HE.out];exact hrow.out,hb.out⟩
 obtain⟨a,kk,t,nn,s,ps,b,e,r,sv,pv,bv,ev,rfl,aI,hno⟩:=(HL.out.below hb.out).at_ hlt
 have dL:=kN aI
 have nD:=T5 aI
 have HE:=hid (he.out.trans (bH_ aI acc))
 have aSB:acc.length+(1+s.cnt+b.cnt+e.cnt+r.cnt)≤400000000:=by
  have:=lT.out
  rw[aI,Fo.cnt] at this
  exact this
 have hdr:=hid (eD aI)
 obtain⟨As,cs,rfl,hcs⟩:=hno.vals.subs.form
 obtain⟨Ab,cb,rfl,hcb⟩:=hno.vals.body.form
 obtain⟨Ae,ce,rfl,hce⟩:=hno.vals.els.form
 have HN:=hid hno.vals
 obtain⟨c0,c1,-,c3,-,c5,c6⟩:=hno.cells
 have hab:(a.add (k*7)).block<g:=by rw[f_];exact hno.lt
 clear aI hno he lT
 have fH:=hid (HI.out s.cnt (by omega) s (.slice As s.len cs) nu acc base g wo (aC _) hrow.out HN.out.subs (by omega) (by omega) (by omega))
 have hpl:=uJ s true acc
 obtain⟨gD,ha1⟩:∃z,z=bJ s true acc:=⟨_,rfl⟩
 rw[←ha1] at HE fH hpl
 clear ha1
 have D:=fun (wz:World) (lH:Below g wo wz) (j:Nat)=>lH.cell (p:=⟨(a.add (k*7)).block,(a.add (k*7)).off+j,none⟩) hab
 have HD:=hid (fun (wz:World) (lH:Below g wo wz)=>show wz.cell? ⟨(a.add (k*7)).block,(a.add (k*7)).off+5,none⟩=some (.slice Ab b.len cb)∧wz.cell? ⟨(a.add (k*7)).block,(a.add (k*7)).off+6,none⟩=some (.slice Ae e.len ce) from⟨(D wz lH 5).trans c5,(D wz lH 6).trans c6⟩)
 have HD0:=hid (fun (wz:World) (lH:Below g wo wz)=>show wz.cell? (a.add (k*7))=some (.int .u8 kk)∧wz.cell? ⟨(a.add (k*7)).block,(a.add (k*7)).off+1,none⟩=some (.string t) from⟨(lH.cell hab).trans c0,(D wz lH 1).trans c1⟩)
 clear D c0 c1 c5 c6
 go_wp2_with fail
 refine fH.out.mono ?_
 rintro e1 w1 ⟨rfl,V4,LH,hb1⟩
 obtain⟨d0,d1⟩:=HD0.out w1 hb1
 have aJ1:=hid LH
 have aT:=hid hb1
 have hz1:=hb1.size
 have hzz:=LH.size
 clear LH hb1 fH c3 HD0
 by_cases j3:kk=15
 · subst j3
   have HP:=hid (aOJ base w1.heap.size g V4 _ gD [t] _ (aJ1.out.below ((Below.refl w1.heap.size w1).alloc (aC _) (.cells #[.string t] 9))) (TY w1 w1.heap.size t (aC _)) (T6 aJ1.out.row (TY w1 w1.heap.size t (aC _)) (aC _)) (show gD.length+1≤900000000 by omega))
   have pL:=hid ((Below.refl g w1).alloc (show g≤w1.heap.size by omega) (.cells #[.string t] 9))
   have bM:=hid (HE.out.trans (by rw[if_pos rfl]))
   clear HE
   have hpu:=X8 gD t
   change Hid (Calls _ _ _ _ (aPP base g _ (dP gD t))) at HP
   obtain⟨jE,ha2⟩:∃z,z=dP gD t:=⟨_,rfl⟩
   rw[←ha2] at bM HP hpu
   clear ha2
   have DJ:=uJ b false jE
   have hl4:=uJ e false (bJ b false jE)
   have qR:=hid (show (bJ e false (bJ b false jE)).length+(Fo.drop (k+1) l).cnt≤400000000 by rw[hdr.out];omega)
   have D7:=hid (fun (nz:Value) (wz:World) (FB:sM base g wz nz jE) (lH:Below g wo wz)=>HB.out b.cnt (by omega) b (.slice Ab b.len cb) nz jE base g wz (aC _) FB (HN.out.body.below lH) (by omega) (by omega) (by omega))
   have FR:=hid (fun (nz:Value) (wz:World) (FB:sM base g wz nz (bJ b false jE)) (lH:Below g wo wz)=>HB.out e.cnt (by omega) e (.slice Ae e.len ce) nz (bJ b false jE) base g wz (aC _) FB (HN.out.els.below lH) (by omega) (by omega) (by omega))
   go_wp2_with fail
   refine HP.out.mono ?_
   rintro e3 wX ⟨rfl,nuX,aR5,hb3⟩
   have SQ:Below g wo wX:=aT.out.trans (pL.out.trans hb3)
   have f5:=(HD.out wX SQ).1
   clear hb3 HP pL d0 d1
   go_wp2_with fail
   refine (D7.out nuX wX aR5 SQ).mono ?_
   rintro e4 w4 ⟨rfl,nu4,ZQ,hb4⟩
   have pE:Below g wo w4:=SQ.trans hb4
   have f6:=(HD.out w4 pE).2
   have aAL:=hid (FR.out nu4 w4 ZQ pE)
   clear ZQ hb4 D7 FR f5
   go_wp2_with fail
   refine aAL.out.mono ?_
   rintro e5 w5 ⟨rfl,nu5,ZP,aQ⟩
   have kJ:=hid ZP
   have iV:=hid (hb.out.trans (pE.trans aQ))
   have G8:=hid (show bJ l false names=bJ (Fo.drop (k+1) l) false (bJ e false (bJ b false jE)) from bM.out)
   clear ZP aQ aAL f6 DJ hl4 pE
   obtain⟨aSY,ha8⟩:∃z,z=bJ e false (bJ b false jE):=⟨_,rfl⟩
   rw[←ha8] at kJ G8 qR
   clear ha8
   go_wp2
   go_roundg (l.len-(k+1))
   case rel=>exact⟨k+1,nu5,aSY,hlt,rfl,by go_num,G8,qR,kJ,iV⟩
   rw[Hq.out];omega
 have b1:((kk:Int)==15)=false:=aP (by omega)
 have bM:=hid (HE.out.trans (by rw[if_neg j3]))
 clear HE
 obtain⟨jE,ha2⟩:∃z,z=gD:=⟨_,rfl⟩
 rw[←ha2] at bM aJ1 hpl
 clear ha2
 have DJ:=uJ b false jE
 have hl4:=uJ e false (bJ b false jE)
 have qR:=hid (show (bJ e false (bJ b false jE)).length+(Fo.drop (k+1) l).cnt≤400000000 by rw[hdr.out];omega)
 have D7:=hid (fun (nz:Value) (wz:World) (FB:sM base g wz nz jE) (lH:Below g wo wz)=>HB.out b.cnt (by omega) b (.slice Ab b.len cb) nz jE base g wz (aC _) FB (HN.out.body.below lH) (by omega) (by omega) (by omega))
 have FR:=hid (fun (nz:Value) (wz:World) (FB:sM base g wz nz (bJ b false jE)) (lH:Below g wo wz)=>HB.out e.cnt (by omega) e (.slice Ae e.len ce) nz (bJ b false jE) base g wz (aC _) FB (HN.out.els.below lH) (by omega) (by omega) (by omega))
 obtain⟨nuX,rfl⟩:∃z,z=V4:=⟨_,rfl⟩
 obtain⟨wX,rfl⟩:∃z,z=w1:=⟨_,rfl⟩
 have aR5:=aJ1.out
 have SQ:=aT.out
 have f5:=(HD.out wX SQ).1
 go_wp2_with fail
 refine (D7.out nuX wX aR5 SQ).mono ?_
 rintro e4 w4 ⟨rfl,nu4,ZQ,hb4⟩
 have pE:Below g wo w4:=SQ.trans hb4
 have f6:=(HD.out w4 pE).2
 have aAL:=hid (FR.out nu4 w4 ZQ pE)
 clear ZQ hb4 D7 FR f5
 go_wp2_with fail
 refine aAL.out.mono ?_
 rintro e5 w5 ⟨rfl,nu5,ZP,aQ⟩
 have kJ:=hid ZP
 have iV:=hid (hb.out.trans (pE.trans aQ))
 have G8:=hid (show bJ l false names=bJ (Fo.drop (k+1) l) false (bJ e false (bJ b false jE)) from bM.out)
 clear ZP aQ aAL f6 DJ hl4 pE
 obtain⟨aSY,ha8⟩:∃z,z=bJ e false (bJ b false jE):=⟨_,rfl⟩
 rw[←ha8] at kJ G8 qR
 clear ha8
 go_wp2
 go_roundg (l.len-(k+1))
 case rel=>exact⟨k+1,nu5,aSY,hlt,rfl,by go_num,G8,qR,kJ,iV⟩
 rw[Hq.out];omega
theorem a0S (gx:Nat) (x:aA) (ow:List aA) (ov:Value) (B:Nat) (w:World) (hb:aG w gx 67 #[ov]) (ho:iF w B ov ow) (hN:ow.length≤140737488355328):
 Calls Tryz.prog 274 #[.string x,.pointer (some ⟨gx,0,none⟩)] w fun e w'=>e=.returned (.bool (inL ow x))∧w=w':=by
 have HC:=hid (TV ov ow x B w ho hN)
 have c0:=hb.cell 0
 simp at c0
 obtain⟨A,c,rfl,hc,-⟩:=ho
 generalize inL ow x=q at *
 go_enter Tryz.func274,Tryz.ntmps274
 go_wp2_with fail
 refine HC.out.mono ?_
 rintro e1 w1 ⟨rfl,rfl⟩
 go_wp2
 go_ret
 exact⟨rfl,rfl⟩
theorem bGJ (gx:Nat) (ow l:List aA) (ov v:Value) (B:Nat) (w:World) (hb:aG w gx 67 #[ov]) (ho:iF w B ov ow) (hv:iF w B v l) (hN:ow.length≤140737488355328) (G6:l.length≤1000000000):
 Calls Tryz.prog 214 #[v,.func (.func 274) #[] #[.pointer (some ⟨gx,0,none⟩)]] w fun e w'=>e=.returned (.int .i64 (dQ (fun x=>inL ow x) l 0))∧w=w':=by
 have HB:=hid hb
 have HO:=hid ho
 obtain⟨A,c,rfl,hc,hr⟩:=hv
 have HR:=hid hr
 obtain⟨fi,kE⟩:∃z,z=dQ (fun x=>inL ow x) l 0:=⟨_,rfl⟩
 rw[←kE]
 have HF:=hid kE
 clear hb ho hr kE
 go_enter Tryz.func214,Tryz.ntmps214
 go_wp2
 go_loopg [8] l.length (fun q i wr=>∃(k:Nat),k≤l.length∧q=l.length-k∧i=.int .i64 k∧Hid (fi=dQ (fun x=>inL ow x) (l.drop k) k)∧w=wr)
 case atStart=>exact⟨0,Nat.zero_le _,rfl,rfl,hid (by rw[List.drop_zero];exact HF.out),rfl⟩
 obtain⟨k,hk,hq,rfl,he,rfl⟩:=hrel
 have Hq:=hid hq
 clear hq
 by_cases hlt:k<l.length
 rotate_left
 · have HX:=hid (show fi=-1 by rw[he.out,List.drop_of_length_le (by omega)];rfl)
   clear he
   go_wp2
   go_ret
   exact⟨dC HX.out.symm,rfl⟩
 obtain⟨ap,rfl,-,V8⟩:=FV HR.out hlt
 have HE:=hid (show fi=(if inL ow (l.getD k ByteArray.empty) then (k:Int) else dQ (fun x=>inL ow x) (l.drop (k+1)) (k+1)) by
  rw[he.out,List.drop_eq_getElem_cons hlt,dQ,dR,bX hlt];rfl)
 generalize l.getD k ByteArray.empty=x at *
 have HC:=hid (a0S gx x ow ov B w HB.out HO.out hN)
 cases hx:inL ow x with
 |true=>
  have HX:=hid (show fi=(k:Int) by rw[HE.out,hx];rfl)
  rw[hx] at HC
  clear hx he HE
  go_wp2_with fail
  refine HC.out.mono ?_
  rintro e1 w1 ⟨rfl,rfl⟩
  go_wp2
  go_ret
  exact⟨dC HX.out.symm,rfl⟩
 |false=>
  have HX:=hid (show fi=dQ (fun x=>inL ow x) (l.drop (k+1)) (k+1) by rw[HE.out,hx];rfl)
  rw[hx] at HC
  clear hx he HE
  go_wp2_with fail
  refine HC.out.mono ?_
  rintro e1 w1 ⟨rfl,rfl⟩
  go_wp2
  go_roundg (l.length-(k+1))
  case rel=>exact⟨k+1,hlt,rfl,by go_num,HX,rfl⟩
  rw[Hq.out];omega
end
section
open Go.RowKit
open Go.Lib (hid)
namespace Sl
theorem aDY {α:Type} {f:α→Bool}:∀(l:List α) (i:Nat),(dQ f l i=-1∧∀x∈l,f x=false)∨∃(k:Nat) (h:k<l.length),dQ f l i=((i+k:Nat):Int)∧f l[k]=true∧∀x∈l.take k,f x=false
 | [],_=>.inl ⟨rfl,by simp⟩
 |x::l,i=>by
   cases h:f x with
   |true=>exact .inr ⟨0,by simp,by rw[dQ,if_pos h];rfl,by simpa using h,by simp⟩
   |false=>
    rcases aDY (f:=f) l (i+1) with⟨h1,h2⟩|⟨k,hk,h1,h2,h3⟩
    · refine .inl ⟨by rw[dQ,if_neg (by simp[h]),h1],fun y hy=>?_⟩
      rcases List.mem_cons.1 hy with rfl|hy
      · exact h
      exact h2 y hy
    refine .inr ⟨k+1,by simpa using hk,by rw[dQ,if_neg (by simp[h]),h1];congr 1;omega,by simpa using h2,fun y hy=>?_⟩
    rw[List.take_succ_cons] at hy
    rcases List.mem_cons.1 hy with rfl|hy
    · exact h
    exact h3 y hy
theorem a00 {α:Type} {f:α→Bool} {l:List α} (h:∀x∈l,f x=false):l.filter (fun x=>!f x)=l:=List.filter_eq_self.2 fun x hx=>by rw[h x hx];rfl
end Sl
open Sl
theorem aM.put {w:World} {base g c:Nat} {l:List aA} (h:aM w base (.slice (some ⟨g,0,none⟩) l.length c) l) (i:Nat) (x:aA):aM (w.setCell ⟨g,i,none⟩ (.string x)) base (.slice (some ⟨g,0,none⟩) l.length c) (l.set i x):=by
 obtain⟨xs,h1,h2⟩:=h
 refine⟨xs.set i (.string x),by rw[List.length_set];exact (World.ownsRow.stored h1 i _).1,?_⟩
 rw[show xs=l.map Value.string from h2]
 show (l.map Value.string).set i (.string x)=(l.set i x).map Value.string
 rw[List.map_set]
theorem aM.cut {w:World} {base g c:Nat} {l:List aA} (h:aM w base (.slice (some ⟨g,0,none⟩) l.length c) l) {i:Nat} (hi:i≤l.length):aM w base (.slice (some ⟨g,0,none⟩) i c) (l.take i):=by
 obtain⟨xs,h1,h2⟩:=h
 have hx:xs=l.map Value.string:=h2
 rcases h1.2 with⟨h3,-⟩|⟨g',cap,cur,h3,hb,hg,hc,hm,hs,ht⟩
 · simp at h3
 simp only[Value.slice.injEq,Option.some.injEq,Addr.mk.injEq,and_true,true_and] at h3
 obtain⟨rfl,rfl⟩:=h3
 refine⟨(l.take i).map Value.string,⟨by simp,.inr ⟨g,c,cur,?_,hb,hg,?_,hm,hs,?_⟩⟩,rfl⟩
 · rw[List.length_take,Nat.min_eq_left hi]
 · rw[List.length_take,Nat.min_eq_left hi];omega
 rw[List.length_take,Nat.min_eq_left hi,List.map_take,←hx,←ht,List.take_take,Nat.min_eq_left (by omega)]
 first|rfl|simp[Nat.mul_one]
theorem aM.a6I {base g c:Nat}:∀(n o:Nat) (w:World) (l:List aA),aM w base (.slice (some ⟨g,0,none⟩) l.length c) l→∃l',l'.length=l.length∧(∀i,i≤o→l'.take i=l.take i)∧aM (w.setCells g o (List.replicate n (.string ByteArray.empty))) base (.slice (some ⟨g,0,none⟩) l'.length c) l'∧w.grownBy (w.setCells g o (List.replicate n (.string ByteArray.empty))) (some g)
 |0,o,w,l,h=>⟨l,rfl,fun _ _=>rfl,h,rfl,rfl,rfl,aC _,fun _ _ _=>rfl⟩
 |n+1,o,w,l,h=>by
   have h1:=h.put o ByteArray.empty
   obtain⟨l',q1,q2,q3,q4⟩:=aM.a6I n (o+1) _ (l.set o ByteArray.empty) (by rw[List.length_set];exact h1)
   rw[List.length_set] at q1
   exact⟨l',q1,fun i hi=>by rw[q2 i (by omega),List.take_set_of_le hi],q3,(dH w ⟨g,o,none⟩ (.string ByteArray.empty)).trans q4⟩
theorem aM.cellAt {w:World} {base g c:Nat} {l:List aA} (h:aM w base (.slice (some ⟨g,0,none⟩) l.length c) l) {i:Nat} (hi:i<l.length):w.cell? ⟨g,i,none⟩=some (.string (l.getD i ByteArray.empty))∧w.frozen? ⟨g,i,none⟩=false:=by
 obtain⟨xs,h1,h2⟩:=h
 refine⟨?_,World.ownsRow.frozenAt h1 i⟩
 have h3:=World.ownsRow.cells h1 (g:=g) rfl i (.string (l.getD i ByteArray.empty)) (by rw[show xs=l.map Value.string from h2,lZ,dR,bX hi];rfl)
 rw[Addr.add_lit,Nat.zero_add] at h3
 exact h3
theorem bGP (gx:Nat) (ow l:List aA) (ov v:Value) (base NZ:Nat) (w:World) (hb:aG w gx 67 #[ov]) (ho:aM w NZ ov ow) (hv:aM w base v l) (hap:fS v ov) (hN:ow.length≤1000000000) (G6:l.length≤1000000000):
 Calls Tryz.prog 273 #[v,.func (.func 274) #[] #[.pointer (some ⟨gx,0,none⟩)]] w fun e w'=>∃v',e=.returned v'∧aM w' base v' (l.filter fun x=>!inL ow x)∧Below base w w':=by
 have HC:=hid (bGJ gx ow l ov v w.heap.size w hb ho.toV hv.toV (by omega) G6)
 have HB:=hid hb
 have HO:=hid ho
 have HV:=hid hv
 have HA:=hid hap
 have HS:=aDY (f:=fun x=>inL ow x) l 0
 obtain⟨fi,kE⟩:∃z,z=dQ (fun x=>inL ow x) l 0:=⟨_,rfl⟩
 rw[←kE] at HC HS
 clear hb ho hap kE
 rcases HS with⟨h1,h2⟩|⟨k0,DK,h1,h2,h3⟩
 · have HR:=hid (a00 h2)
   subst h1
   clear h2
   obtain⟨A,c,n1,rfl,hc,-⟩:=aF.src hv
   clear hv
   go_enter Tryz.func273,Tryz.ntmps273
   go_wp2_with fail
   refine HC.out.mono ?_
   rintro e1 w1 ⟨rfl,rfl⟩
   go_wp2
   go_ret
   exact⟨_,rfl,by rw[HR.out];exact HV.out,Below.refl _ _⟩
 rw[Nat.zero_add] at h1
 subst h1
 obtain⟨A,c,n1,rfl,hc,-⟩:=aF.src hv
 obtain⟨g,rfl⟩:∃g,A=some ⟨g,0,none⟩:=by
  obtain⟨xs,hx,-⟩:=hv
  rcases hx.2 with⟨h4,-⟩|⟨g,cap,cur,h4,-⟩
  · injection h4 with _ h5 _;omega
  injection h4 with h5 _ _;exact⟨g,h5⟩
 have mR:(((k0:Nat):Int)==-1)=false:=aP (by omega)
 have P5:=hid (show l.take k0=(l.take (k0+1)).filter fun x=>!inL ow x by
  rw[List.take_succ_eq_append_getElem DK,List.filter_append,a00 h3]
  simp[h2])
 clear hv h2 h3 n1
 go_enter Tryz.func273,Tryz.ntmps273
 go_wp2_with fail
 refine HC.out.mono ?_
 rintro e1 w1 ⟨rfl,rfl⟩
 go_wp2
 go_loopg [5,6] (l.length-(k0+1)) (fun q iv jv wr=>∃(i j:Nat) (cur:List aA),i<j∧j≤l.length∧q=l.length-j∧iv=.int .i64 i∧jv=.int .i64 j∧Hid (cur.length=l.length)∧Hid (cur.take i=(l.take j).filter fun x=>!inL ow x)∧Hid (cur.drop j=l.drop j)∧
  Hid (aM wr base (.slice (some ⟨g,0,none⟩) l.length c) cur)∧Hid (aM wr NZ ov ow)∧Hid (aG wr gx 67 #[ov])∧Hid (Below base w wr))
 case atStart=>exact⟨k0,k0+1,l,by omega,by omega,rfl,rfl,by go_num,hid rfl,hid P5.out,hid rfl,HV,HO,HB,hid (Below.refl _ _)⟩
 obtain⟨i,j,cur,SA,hj,hq,rfl,rfl,cC,AE,tX,hrow,eG,cH,hbl⟩:=hrel
 have Hq:=hid hq
 clear hq HC HV HO HB
 obtain⟨wo,rfl⟩:∃z:World,z=wr:=⟨_,rfl⟩
 have hgb:base≤g:=(aF.lt hrow.out g rfl).1
 have hrow':aM wo base (.slice (some ⟨g,0,none⟩) cur.length c) cur:=by rw[cC.out];exact hrow.out
 by_cases hlt:j<l.length
 rotate_left
 · have lG:j=l.length:=by omega
   subst lG
   have hzs:∀w:World,(zeroValue 9).run Tryz.prog w=.ok (.string ByteArray.empty) w:=fun w=>by kernel_rfl
   have bRB:∀ty,(Builtin.clear_ #[67] ty #[.slice (some ⟨g,i,none⟩) (l.length-i) (c-i)]).run Tryz.prog wo=.ok (.tuple #[]) (wo.setCells g i (List.replicate (l.length-i) (.string ByteArray.empty))):=
    fun ty=>Lib.run_clear_slice wo 67 9 ty (.string ByteArray.empty) Tryz.underlying67 hzs rfl rfl g i (l.length-i) (c-i) (by omega)
     (fun j hj=>by rw[(hrow'.cellAt (i:=i+j) (by rw[cC.out];omega)).1];rfl) (fun j hj=>(hrow'.cellAt (i:=i+j) (by rw[cC.out];omega)).2)
   obtain⟨l',q1,q2,q3,q4⟩:=aM.a6I (l.length-i) i wo cur hrow'
   have HE:=hid (show ∃v',Ending.returned (.slice (some ⟨g,0,none⟩) i c)=Ending.returned v'∧aM (wo.setCells g i (List.replicate (l.length-i) (.string ByteArray.empty))) base v' (l.filter fun x=>!inL ow x)∧Below base w (wo.setCells g i (List.replicate (l.length-i) (.string ByteArray.empty))) from
    ⟨_,rfl,by
     have:=q3.cut (i:=i) (by rw[q1,cC.out];omega)
     rw[q2 i (aC _),AE.out,List.take_length] at this
     exact this,hbl.out.grown q4 (by have:=(aF.lt hrow.out g rfl).2;omega) (fun k e=>by cases e;exact hgb)⟩)
   clear q1 q2 q3 q4 hrow' cC AE tX hrow eG cH hbl Hq
   generalize wo.setCells g i (List.replicate (l.length-i) (.string ByteArray.empty))=wz at *
   go_wp2_with (simp only[bRB])
   go_ret
   exact HE.out
 have hjc:j<cur.length:=by rw[cC.out];exact hlt
 obtain⟨q1,q2⟩:=hrow'.cellAt hjc
 have WC:i<cur.length:=by rw[cC.out];omega
 obtain⟨r1,r2⟩:=hrow'.cellAt WC
 have HX:=hid (show (l.take (j+1)).filter (fun x=>!inL ow x)=(l.take j).filter (fun x=>!inL ow x)++if inL ow (cur.getD j ByteArray.empty) then [] else [cur.getD j ByteArray.empty] by
  have he:cur.getD j ByteArray.empty=l[j]:=by
   rw[dR]
   have:=congrArg (fun z=>z[0]?) tX.out
   simp only[List.getElem?_drop,Nat.add_zero] at this
   rw[this,bX hlt];rfl
  rw[he,List.take_succ_eq_append_getElem hlt,List.filter_append]
  cases h:inL ow l[j]<;>simp[h])
 have HD:=hid (show cur.drop (j+1)=l.drop (j+1) by
  rw[←List.drop_drop,tX.out,List.drop_drop])
 generalize hx:cur.getD j ByteArray.empty=x at *
 have IP:=hid (a0S gx x ow ov wo.heap.size wo cH.out eG.out.toV (by omega))
 cases cV:inL ow x with
 |true=>
  have HT:=hid (show cur.take i=(l.take (j+1)).filter fun x=>!inL ow x by rw[HX.out,cV,AE.out];simp)
  rw[cV] at IP
  clear hx cV hrow' hjc WC r1 r2
  go_wp2_with fail
  refine IP.out.mono ?_
  rintro e2 w2 ⟨rfl,rfl⟩
  go_wp2
  go_roundg (l.length-(j+1))
  case rel=>exact⟨i,j+1,cur,by omega,hlt,rfl,rfl,by go_num,cC,HT,HD,hrow,eG,cH,hbl⟩
  rw[Hq.out];omega
 |false=>
  have HT:=hid (show (cur.set i x).take (i+1)=(l.take (j+1)).filter fun x=>!inL ow x by
   rw[HX.out,cV,←AE.out,List.take_succ_eq_append_getElem (by rw[List.length_set];exact WC),List.getElem_set_self,List.take_set_of_le (aC _)];rfl)
  have sJ:=hid (show (cur.set i x).drop (j+1)=l.drop (j+1) by rw[List.drop_set_of_lt (by omega)];exact HD.out)
  have KH:=hid (show (cur.set i x).length=l.length by rw[List.length_set];exact cC.out)
  have cY:=hid (show aM (wo.setCell ⟨g,i,none⟩ (.string x)) base (.slice (some ⟨g,0,none⟩) l.length c) (cur.set i x) by rw[←cC.out];exact hrow'.put i x)
  have KE:=hid (aF.kept eG.out (dH wo ⟨g,i,none⟩ (.string x)) (fun k e=>by cases e;exact HA.out g rfl))
  have bY:=hid (cH.out.far (p:=⟨g,i,none⟩) (fun e=>aF.ne hrow.out cH.out (by decide) (by rw[show gx=g from e];rfl)) (.string x))
  have lK:=hid (hbl.out.setCell (p:=⟨g,i,none⟩) hgb (.string x))
  rw[cV] at IP
  clear hx cV hrow' hjc WC
  go_wp2_with fail
  refine IP.out.mono ?_
  rintro e2 w2 ⟨rfl,rfl⟩
  go_wp2
  go_roundg (l.length-(j+1))
  case rel=>exact⟨i+1,j+1,_,by omega,hlt,rfl,by go_num,by go_num,KH,HT,sJ,cY,KE,bY,lK⟩
  rw[Hq.out];omega
end
section
open Go.RowKit
open Sl
open Go.Lib (hid)
theorem bF6 {w:World} {B s n:Nat} {A:Option Addr} {xs:List Value} (h:Reads w B s A n xs) (o:Obj):Reads (w.alloc o) B s A n xs:=
 ⟨h.1,fun hn=>let ⟨ad,e,hb,hc⟩:=h.2 hn;⟨ad,e,hb,fun j u hj=>Lib.cell?_alloc_some o (hc j u hj)⟩⟩
theorem bGZ (w:World) (base:Nat) (hb:base≤w.heap.size):aM (w.alloc (.cells #[] 9)) base (.slice (some ⟨w.heap.size,0,none⟩) 0 0) []:=
 ⟨[],⟨by simp,.inr ⟨w.heap.size,0,#[],rfl,hb,heap_alloc_new w _,aC _,by unfold maxLen;omega,rfl,by simp⟩⟩,rfl⟩
theorem bJ_ (l:List aA) (v:Value) (B base:Nat) (w:World) (hv:iF w B v l) (hb:base≤w.heap.size) (hN:l.length≤900000000):
 Calls Tryz.prog 200 #[v] w fun e w'=>∃v',e=.returned v'∧aM w' base v' l∧Below base w w':=by
 have hq:∀(w:World) (a:Option Addr) (n c n' c':Nat),(binOp .eql 67 (.slice a n c) (.slice none n' c')).run Tryz.prog w=.ok (.bool a.isNone) w:=fun w a n c n' c'=>Lib.run_eql_slice_nil w _ _ a n c n' c' Tryz.underlying67
 obtain⟨A,c,rfl,hc,hr⟩:=hv
 cases A with
 |none=>
  have HR:=hid hr
  clear hr
  go_enter Tryz.func200,Tryz.ntmps200
  go_wp2
  go_ret
  refine⟨_,rfl,?_,Below.refl _ _⟩
  have hz:l=[]:=by
   cases l with
   |nil=>rfl
   |cons x l=>obtain⟨ad,e,-⟩:=HR.out.2 (by simp);exact nomatch e
  subst hz
  exact aF.nil w base rfl rfl
 |some p=>
  have HR:=hid (bF6 hr (.cells #[] 9))
  clear hr
  go_enter Tryz.func200,Tryz.ntmps200
  go_wp2_with (at_builtin;go_must (refine BA rfl _ _ rfl base _ [] rfl (bGZ w base hb) _ _ l.length _ l _ rfl rfl HR.out rfl (by simp;omega) (by simp;omega) ?_))
  intro v' w1 hown hgrow hat
  go_wp2
  go_ret
  exact⟨v',rfl,hown,((Below.refl base w).alloc hb _).grown hgrow (by simp;omega) (by intro k hk;simp[Value.ownBlock] at hk;omega)⟩
theorem bJZ (c:Nat) (DB:∀c',c'≤c→N6 271 false c'):aPN c:=by
 intro p pv bv ps b B w hc hp hB c4 c5 eF jS hb1 hb2
 have hCo:sM (w.heap.size+1) w.heap.size (w.alloc (.cells #[.slice none 0 0] 272)) (.slice none 0 0) []:=⟨aG.new w _ _,aF.nil _ _ rfl rfl,Nat.lt_succ_self _,by simp⟩
 have mB:Below w.heap.size w (w.alloc (.cells #[.slice none 0 0] 272)):=(Below.refl _ _).alloc (aC _) _
 have HC:=hid (DB b.cnt hc b bv (.slice none 0 0) [] (w.heap.size+1) w.heap.size _ (aC _) hCo ((jS.more hB).below mB) hb1 (by omega) (by simp;omega))
 have D9:=hid mB
 have d5:=(mB.cell (p:=⟨p.block,p.off+5,none⟩) (show p.block<w.heap.size by omega)).trans c5
 have d4:=(mB.cell (p:=⟨p.block,p.off+4,none⟩) (show p.block<w.heap.size by omega)).trans c4
 have uA:=hid eF
 have iU:=hid jS
 obtain⟨Ap,cp,rfl,kX⟩:∃A c,pv=.slice A ps.length c∧ps.length≤c:=by obtain⟨A,c,h1,h2,-⟩:=eF;exact⟨A,c,h1,h2⟩
 obtain⟨Ab,cb,rfl,hcb⟩:=jS.form
 clear DB hCo mB eF jS c4 c5
 go_enter Tryz.func255,Tryz.ntmps255
 go_wp2_with fail
 refine HC.out.mono ?_
 rintro e2 w2 ⟨rfl,nu,jB,hb⟩
 have eN:=hid jB
 have bY:=hid (D9.out.trans hb)
 have e4:=(bY.out.cell (p:=⟨p.block,p.off+4,none⟩) (show p.block<w.heap.size by omega))
 have e5:=(bY.out.cell (p:=⟨p.block,p.off+5,none⟩) (show p.block<w.heap.size by omega))
 have hz2:=bY.out.size
 have g_:=hid (fun (X:World) (hX:Below w2.heap.size w2 X)=>show X.cell? ⟨p.block,p.off+4,none⟩=some (.slice Ap ps.length cp)∧X.cell? ⟨p.block,p.off+5,none⟩=some (.slice Ab b.len cb) from
  ⟨(hX.cell (p:=⟨p.block,p.off+4,none⟩) (show p.block<w2.heap.size by omega)).trans ((hb.cell (p:=⟨p.block,p.off+4,none⟩) (show p.block<w.heap.size by omega)).trans d4),(hX.cell (p:=⟨p.block,p.off+5,none⟩) (show p.block<w2.heap.size by omega)).trans ((hb.cell (p:=⟨p.block,p.off+5,none⟩) (show p.block<w.heap.size by omega)).trans d5)⟩)
 have D6:=hid (fun (X:World) (hX:Below w2.heap.size w2 X)=>bJ_ ps (.slice Ap ps.length cp) B X.heap.size X ((uA.out.below (bY.out.mono hB)).below (hX.mono (by omega))) (aC _) (by omega))
 have HLe:=hid (fun (X:World) (v5:Value) (Y7:Nat) (hX:Below w2.heap.size w2 X) (h1:w2.heap.size≤Y7) (h2:Y7≤X.heap.size) (ho:aM X Y7 v5 ps)=>bFM b.cnt b (.slice Ab b.len cb) ps v5 Y7 B X (aC _) ((iU.out.below (bY.out.mono hB)).below (hX.mono (by omega))) (by omega) h2 ho hb1 (by omega))
 clear jB hb e4 e5 d4 d5 HC
 go_upto_region 3 with fail
 go_cut [4] (fun v4 wx=>∃(bs:Nat) (v6:Value),v4=.pointer (some ⟨bs,0,none⟩)∧Hid (w2.heap.size≤bs)∧Hid (aG wx bs 67 #[v6])∧Hid (aM wx w2.heap.size v6 (letters b ps))∧Hid (Below w2.heap.size w2 wx))
 case first=>
  refine wp_region_held_drew (S:=fun w'=>Below w2.heap.size w2 w') (by kernel_rfl) (Below.refl _ _).drew (fun kH=>?_)
  refine wpAnyH_take (i:=0) (v:=?_) rfl (by kernel_rfl) (by kernel_rfl) (by kernel_rfl) (fun _ _ _ h=>h) (Or.inl ⟨by rfl,by intro w hSw;(try dsimp only at hSw);obtain⟨z4,z5⟩:=g_.out w hSw;go_simp;rfl⟩) kH ?_
  refine wpAnyH_take (i:=1) (v:=?_) rfl (by kernel_rfl) (by kernel_rfl) (by kernel_rfl) (fun _ _ _ h=>h) (Or.inl ⟨by rfl,by intro w hSw;(try dsimp only at hSw);obtain⟨z4,z5⟩:=g_.out w hSw;go_simp;rfl⟩) kH ?_
  refine wpAnyH_take (i:=2) (v:=?_) rfl (by kernel_rfl) (by kernel_rfl) (by kernel_rfl) (fun _ _ _ h=>h) (Or.inl ⟨by rfl,by intro w hSw;(try dsimp only at hSw);obtain⟨z4,z5⟩:=g_.out w hSw;go_simp;rfl⟩) kH ?_
  refine wpAnyH_take (i:=3) (v:=?_) rfl (by kernel_rfl) (by kernel_rfl) (by kernel_rfl) (fun _ _ _ h=>h) (Or.inl ⟨by rfl,by intro w hSw;(try dsimp only at hSw);obtain⟨z4,z5⟩:=g_.out w hSw;go_simp;rfl⟩) kH ?_
  refine wpAnyH_take (i:=4) (v:=?_) rfl (by kernel_rfl) (by kernel_rfl) (by kernel_rfl) (fun _ _ _ h=>h) (Or.inl ⟨by rfl,by intro w hSw;(try dsimp only at hSw);obtain⟨z4,z5⟩:=g_.out w hSw;go_simp;rfl⟩) kH ?_
  refine wpAnyH_take (i:=5) (v:=?_) rfl (by kernel_rfl) (by kernel_rfl) (by kernel_rfl) (fun _ _ _ h=>h) (Or.inl ⟨by rfl,by intro w hSw;(try dsimp only at hSw);obtain⟨z4,z5⟩:=g_.out w hSw;go_simp;rfl⟩) kH ?_
  refine wpAnyH_take (i:=6) (v:=?_) rfl (by kernel_rfl) (by kernel_rfl) (by kernel_rfl) (fun _ _ _ h=>h) (Or.inl ⟨by rfl,by intro w hSw;(try dsimp only at hSw);obtain⟨z4,z5⟩:=g_.out w hSw;go_simp;rfl⟩) kH ?_
  refine wpAnyH_take (i:=7) (v:=?_) rfl (by kernel_rfl) (by kernel_rfl) (by kernel_rfl) (fun _ _ _ h=>h) (Or.inl ⟨by rfl,by intro w hSw;(try dsimp only at hSw);obtain⟨z4,z5⟩:=g_.out w hSw;go_simp;rfl⟩) kH ?_
  simp only[Act.put,aJ]
  refine wpAnyH_ready (rs:=[8,10]) (by kernel_rfl) (by simp) ?_
  refine AllReadyH.cons rfl (fun K hK=>?_) (AllReadyH.cons rfl (fun K hK=>?_) AllReadyH.nil)
  · skip
    go_simp
    refine (D6.out _ (Below.refl w2.heap.size w2).drew).mono ?_
    rintro e5 w5 ⟨v5,rfl,hs5,aQ⟩
    obtain⟨A5,c5,n5,rfl,-⟩:=aF.src hs5
    have dM:Below w2.heap.size w2 w5:=Below.trans (Below.refl w2.heap.size w2).drew (aQ.mono ((Below.refl w2.heap.size w2).drew:Below w2.heap.size w2 _).size)
    refine hK.out _ _ dM (fun SK=>?_)
    clear hK K
    try simp only[Act.put,aJ,aO,aN]
    refine wpAnyH_ready (rs:=[9,10]) (by kernel_rfl) (by simp) ?_
    refine AllReadyH.cons rfl (fun K hK=>?_) (AllReadyH.cons rfl (fun K hK=>?_) AllReadyH.nil)
    · skip
      go_simp
      refine (HLe.out _ _ _ dM (aC _) dM.size hs5).mono ?_
      rintro e6 w6 ⟨v6,rfl,eX,b_,B3⟩
      obtain⟨A6,c6,n6,rfl,-⟩:=aF.src eX
      have cT:Below w2.heap.size w2 w6:=Below.trans dM (b_.mono (aC _))
      refine hK.out _ _ cT (fun DT=>?_)
      clear hK K
      try simp only[Act.put,aJ,aO,aN]
      refine wpAnyH_ready (rs:=[10]) (by kernel_rfl) (by simp) ?_
      refine AllReadyH.cons rfl (fun K hK=>?_) AllReadyH.nil
      go_simp
      refine hK.out _ _ (cT.alloc (cT:Below w2.heap.size w2 _).size _) (fun hH3=>?_)
      clear hK K
      try simp only[Act.put,aJ,aO,aN]
      refine wpAnyH_ready (rs:=[11]) (by kernel_rfl) (by simp) ?_
      refine AllReadyH.cons rfl (fun K hK=>?_) AllReadyH.nil
      have hge:w2.heap.size≤w6.heap.size:=cT.size
      have hS7:=aF.alloc eX (.cells #[.slice A6 (letters b ps).length c6] 67)
      have dI:=aG.new w6 67 #[.slice A6 (letters b ps).length c6]
      have iQ:=cT.alloc cT.size (.cells #[.slice A6 (letters b ps).length c6] 67)
      go_simp
      refine hK.out _ _ iQ (fun hH9=>?_)
      clear hK K
      try simp only[Act.put,aJ,aO,aN]
      refine wpAnyH_done (by kernel_rfl) ?_ _
      go_wp2
      go_meet
      exact⟨_,_,rfl,hid hge,hid dI,hid (aF.more hS7 (aC _)),hid iQ⟩
    skip
    go_simp
    refine hK.out _ _ (dM.alloc (dM:Below w2.heap.size w2 _).size _) (fun hH3=>?_)
    clear hK K
    try simp only[Act.put,aJ,aO,aN]
    refine wpAnyH_ready (rs:=[9]) (by kernel_rfl) (by simp) ?_
    refine AllReadyH.cons rfl (fun K hK=>?_) AllReadyH.nil
    go_simp
    refine (HLe.out _ _ _ (dM.alloc dM.size _) (aC _) (by simp;have:=dM.size;omega) (aF.alloc hs5 (.cells #[.slice none 0 0] 67))).mono ?_
    rintro e6 w6 ⟨v6,rfl,eX,b_,B3⟩
    obtain⟨A6,c6,n6,rfl,-⟩:=aF.src eX
    have cT:Below w2.heap.size w2 w6:=Below.trans (dM.alloc dM.size _) (b_.mono (aC _))
    refine hK.out _ _ cT (fun DT=>?_)
    clear hK K
    try simp only[Act.put,aJ,aO,aN]
    refine wpAnyH_ready (rs:=[11]) (by kernel_rfl) (by simp) ?_
    refine AllReadyH.cons rfl (fun K hK=>?_) AllReadyH.nil
    have lU:aG _ (w5.heap.size) 67 #[.slice none 0 0]:=B3 w5.heap.size _ _ (aG.new w5 67 #[.slice none 0 0]) (fun e=>by have:=(aF.lt hs5 _ e).2;omega)
    have f0:=lU.frozen 0
    have q0:=lU.cell 0
    simp at q0
    have WN:Below w2.heap.size w2 _:=cT
    have hge:w2.heap.size≤w5.heap.size:=dM.size
    have hS7:=aF.kept eX (dH _ ⟨w5.heap.size,0,none⟩ (.slice A6 (letters b ps).length c6)) (fun k e=>by injection e with e;subst e;exact aF.ne eX lU (by decide))
    have dI:=lU.cS 0 (.slice A6 (letters b ps).length c6)
    have iQ:=WN.setCell (p:=⟨w5.heap.size,0,none⟩) hge (.slice A6 (letters b ps).length c6)
    go_simp
    refine hK.out _ _ iQ (fun hH9=>?_)
    clear hK K
    try simp only[Act.put,aJ,aO,aN]
    refine wpAnyH_done (by kernel_rfl) ?_ _
    go_wp2
    go_meet
    exact⟨_,_,rfl,hid hge,hid dI,hid (aF.more hS7 (aC _)),hid iQ⟩
  skip
  go_simp
  refine hK.out _ _ ((Below.refl w2.heap.size w2).drew.alloc ((Below.refl w2.heap.size w2).drew:Below w2.heap.size w2 _).size _) (fun hH3=>?_)
  clear hK K
  try simp only[Act.put,aJ,aO,aN]
  refine wpAnyH_ready (rs:=[8]) (by kernel_rfl) (by simp) ?_
  refine AllReadyH.cons rfl (fun K hK=>?_) AllReadyH.nil
  go_simp
  refine (D6.out _ ((Below.refl w2.heap.size w2).drew.alloc (aC _) _)).mono ?_
  rintro e5 w5 ⟨v5,rfl,hs5,aQ⟩
  obtain⟨A5,c5,n5,rfl,-⟩:=aF.src hs5
  have dM:Below w2.heap.size w2 w5:=Below.trans ((Below.refl w2.heap.size w2).drew.alloc (aC _) _) (aQ.mono (((Below.refl w2.heap.size w2).drew.alloc (aC _) _):Below w2.heap.size w2 _).size)
  refine hK.out _ _ dM (fun SK=>?_)
  clear hK K
  try simp only[Act.put,aJ,aO,aN]
  refine wpAnyH_ready (rs:=[9]) (by kernel_rfl) (by simp) ?_
  refine AllReadyH.cons rfl (fun K hK=>?_) AllReadyH.nil
  go_simp
  refine (HLe.out _ _ _ dM (show w2.heap.size≤(w2.drew.alloc (.cells #[.slice none 0 0] 67)).heap.size by simp) aQ.size hs5).mono ?_
  rintro e6 w6 ⟨v6,rfl,eX,b_,B3⟩
  obtain⟨A6,c6,n6,rfl,-⟩:=aF.src eX
  have cT:Below w2.heap.size w2 w6:=Below.trans dM (b_.mono (show w2.heap.size≤(w2.drew.alloc (.cells #[.slice none 0 0] 67)).heap.size by simp))
  refine hK.out _ _ cT (fun DT=>?_)
  clear hK K
  try simp only[Act.put,aJ,aO,aN]
  refine wpAnyH_ready (rs:=[11]) (by kernel_rfl) (by simp) ?_
  refine AllReadyH.cons rfl (fun K hK=>?_) AllReadyH.nil
  have lU:aG _ (w2.heap.size) 67 #[.slice none 0 0]:=((aG.new w2.drew 67 #[.slice none 0 0]).below aQ (by simp)).below b_ (by simp)
  have f0:=lU.frozen 0
  have q0:=lU.cell 0
  simp at q0
  have WN:Below w2.heap.size w2 _:=cT
  have hge:w2.heap.size≤w2.heap.size:=(aC _)
  have hS7:=aF.kept eX (dH _ ⟨w2.heap.size,0,none⟩ (.slice A6 (letters b ps).length c6)) (fun k e=>by injection e with e;subst e;exact aF.ne eX lU (by decide))
  have dI:=lU.cS 0 (.slice A6 (letters b ps).length c6)
  have iQ:=WN.setCell (p:=⟨w2.heap.size,0,none⟩) hge (.slice A6 (letters b ps).length c6)
  go_simp
  refine hK.out _ _ iQ (fun hH9=>?_)
  clear hK K
  try simp only[Act.put,aJ,aO,aN]
  refine wpAnyH_done (by kernel_rfl) ?_ _
  go_wp2
  go_meet
  exact⟨_,_,rfl,hid hge,hid dI,hid (aF.more hS7 (by simp)),hid iQ⟩
 obtain⟨bs,v6,rfl,hge,eH,eX,fY⟩:=hcut
 have hHe:=hid (show K8 ps b=(bJ b false []).filter fun x=>!inL (letters b ps) x from rfl)
 have BZ:=uJ b false []
 have hl2:=IW b ps
 rw[List.length_nil] at BZ
 obtain⟨lt,hlt⟩:∃z,z=letters b ps:=⟨_,rfl⟩
 obtain⟨cl,cC⟩:∃z,z=bJ b false []:=⟨_,rfl⟩
 rw[←hlt] at eX hHe hl2
 rw[←cC] at eN hHe BZ
 have HAp:=hid (T6 eN.out.row eX.out (aC _))
 have aAK:=hid (eN.out.below fY.out)
 have g0:=aAK.out.blk.cell 0
 have gf:=aAK.out.blk.frozen 0
 simp at g0
 have HD:=hid (bGP bs lt cl v6 nu (w.heap.size+1) w2.heap.size wc eH.out eX.out aAK.out.row HAp.out (by omega) (by omega))
 have XF:=hid (bY.out.trans (fY.out.mono hz2))
 obtain⟨A7,c7,n7,rfl,-⟩:=aF.src aAK.out.row
 clear hlt cC eX eH fY HAp aAK eN g_ D6 HLe hge uA iU
 go_wp2_with fail
 refine HD.out.mono ?_
 rintro e7 w7 ⟨v7,rfl,J2,dI⟩
 go_wp2
 go_ret
 exact⟨v7,rfl,by rw[hHe.out];exact aF.more J2 (Nat.le_succ _),XF.out.trans (dI.mono (Nat.le_succ _))⟩
end
section
open Go.RowKit
open Sl
theorem bND:∀c,N6 210 true c∧N6 271 false c∧aPN c:=fun c=>by
 induction c using Nat.strongRecOn with
 |ind c ih=>
  have e:=bH5 c (fun d h=>(ih d h).1) (fun d h=>(ih d h).2.2)
  have b:=bKG c (fun d h=>(ih d h).1) (fun d h=>(ih d h).2.1)
  refine⟨e,b,bJZ c fun d h=>?_⟩
  rcases Nat.lt_or_ge d c with h1|h1
  · exact (ih d h1).2.1
  rw[show d=c by omega];exact b
end
section
open Go.RowKit
open Sl
open Go.Lib (hid)
theorem bHH (k:Nat) (t:aA) (n:Int) (s:Fo) (ps:List aA) (b e:Fo) (sv pv bv ev:Value) (B:Nat) (w:World) (hv:lY w B sv pv bv ev s ps b e) (hB:B≤w.heap.size):
 Calls Tryz.prog 209 #[.agg #[.int .u8 k,.string t,.int .i64 n,sv,pv,bv,ev]] w fun e1 w'=>∃v,e1=.returned (.agg #[v])∧eO w' w'.heap.size v [⟨dJ,[],.cons k t n s ps b e .nil⟩]∧Below w.heap.size w w':=by
 obtain⟨As,cs,rfl,hcs⟩:=hv.subs.form
 obtain⟨Ab,cb,rfl,hcb⟩:=hv.body.form
 obtain⟨Ae,ce,rfl,hce⟩:=hv.els.form
 have lJ:=hid hv
 obtain⟨Ap,cp,rfl,kX,-⟩:=hv.aX
 clear hv
 have jV:=hid ((Below.refl w.heap.size w).alloc (aC _) (.cells #[.int .u8 k,.string t,.int .i64 n,.slice As s.len cs,.slice Ap ps.length cp,.slice Ab b.len cb,.slice Ae e.len ce] 69))
 have cQ:=hid (aG.new w 69 #[.int .u8 k,.string t,.int .i64 n,.slice As s.len cs,.slice Ap ps.length cp,.slice Ab b.len cb,.slice Ae e.len ce])
 go_enter Tryz.func209,Tryz.ntmps209
 go_upto_region 1 with fail
 go_wp2
 clear jV cQ
 refine bodyPost_ret (results_cell_row rfl _ _ (w.heap.size+1) 24 #[.slice (some ⟨w.heap.size+1+1+1,0,none⟩) 1 1] (0,0) _ rfl ?hg Tryz.underlying24 rfl (by kernel_rfl)) rfl ?_
 case hg=>
  rw[heap_alloc_old _ _ (by simp),heap_alloc_old _ _ (by simp)]
  exact heap_alloc2_new _ _ _
 have K1:=aG.new w 69 #[.int .u8 k,.string t,.int .i64 n,.slice As s.len cs,.slice Ap ps.length cp,.slice Ab b.len cb,.slice Ae e.len ce]
 have H4:Below w.heap.size w ((((w.alloc (.cells #[.int .u8 k,.string t,.int .i64 n,.slice As s.len cs,.slice Ap ps.length cp,.slice Ab b.len cb,.slice Ae e.len ce] 69)).alloc (.cells #[.slice (some ⟨w.heap.size+1+1+1,0,none⟩) 1 1] 24)).alloc (.cells #[.int .u8 k,.string t,.int .i64 n,.slice As s.len cs,.slice Ap ps.length cp,.slice Ab b.len cb,.slice Ae e.len ce] 69)).alloc (.cells #[.string dJ,.slice none 0 0,.slice (some ⟨w.heap.size+1+1,0,none⟩) 1 1] 112)):=
  ((((Below.refl w.heap.size w).alloc (aC _) _).alloc (by simp) _).alloc (by simp;omega) _).alloc (by simp;omega) _
 have K3:=(aG.new ((w.alloc (.cells #[.int .u8 k,.string t,.int .i64 n,.slice As s.len cs,.slice Ap ps.length cp,.slice Ab b.len cb,.slice Ae e.len ce] 69)).alloc (.cells #[.slice (some ⟨w.heap.size+1+1+1,0,none⟩) 1 1] 24)) 69 #[.int .u8 k,.string t,.int .i64 n,.slice As s.len cs,.slice Ap ps.length cp,.slice Ab b.len cb,.slice Ae e.len ce]).alloc (.cells #[.string dJ,.slice none 0 0,.slice (some ⟨w.heap.size+1+1,0,none⟩) 1 1] 112)
 have K4:=aG.new (((w.alloc (.cells #[.int .u8 k,.string t,.int .i64 n,.slice As s.len cs,.slice Ap ps.length cp,.slice Ab b.len cb,.slice Ae e.len ce] 69)).alloc (.cells #[.slice (some ⟨w.heap.size+1+1+1,0,none⟩) 1 1] 24)).alloc (.cells #[.int .u8 k,.string t,.int .i64 n,.slice As s.len cs,.slice Ap ps.length cp,.slice Ab b.len cb,.slice Ae e.len ce] 69)) 112 #[.string dJ,.slice none 0 0,.slice (some ⟨w.heap.size+1+1,0,none⟩) 1 1]
 simp only[World.size_alloc] at K3 K4
 have R3:=M9 (n:=1) (size:=7) K3 K3.lt rfl
 have R4:=M9 (n:=1) (size:=3) K4 K4.lt rfl
 have hm:=Nat.le_trans hB H4.size
 have HN:=lJ.out.below (H4.mono hB)
 refine⟨_,rfl,⟨_,_,_,rfl,aC _,R4,⟨_,_,[],rfl,⟨none,0,rfl,aC _,?_⟩,⟨_,_,_,rfl,aC _,R3,UE ⟨HN.subs.more hm,HN.aX.more hm,HN.body.more hm,HN.els.more hm⟩ (by unfold Flat;rfl)⟩,rfl⟩⟩,H4⟩
 exact⟨rfl,fun h=>absurd h (by simp)⟩
end
section
open Go.RowKit
open Go.Lib (hid)
namespace Sl
def NG (d:Nd):List aA:=if k8 d.k then (if FX nm op un (sY d)=0 then bJ d.s true [] else []) else []
end Sl
open Sl
theorem bF_ (k:Nat) (w:World):Calls Tryz.prog 171 #[.int .u8 k] w fun e w'=>e=.returned (.bool (k8 k))∧w=w':=by
 cases h1:decide ((k:Int)≥14)<;>cases h2:decide ((k:Int)≤27)<;>
 (have HE:Hid (k8 k=(decide ((k:Int)≥14)&&decide ((k:Int)≤27))):=hid (by unfold k8;congr 1<;>rw[decide_eq_decide]<;>omega)
  go_enter Tryz.func171,Tryz.ntmps171
  go_wp2
  go_ret
  exact⟨aR (by rw[HE.out,h1,h2];rfl),rfl⟩)
theorem bHJ (K:Nat) (hK:K≤140737488355328) (hK4:4<K) (d:Nd) (sv pv bv ev:Value) (B:Nat) (w:World) (hv:lY w B sv pv bv ev d.s d.ps d.b d.e) (hB:B≤w.heap.size)
 (cX:Fo.cO K (.cons d.k d.t d.n d.s d.ps d.b d.e .nil)) (ZR:1+d.s.cnt+d.b.cnt+d.e.cnt≤100000) (hp:d.s.aX≤100000):
 Calls Tryz.prog 162 #[.agg #[.int .u8 d.k,.string d.t,.int .i64 d.n,sv,pv,bv,ev]] w fun e1 w'=>∃v,e1=.returned v∧aM w' w.heap.size v (NG d)∧Below w.heap.size w w':=by
 obtain⟨k,t,n,s,ps,b,e⟩:=d
 dsimp only at *
 obtain⟨As,cs,rfl,hcs⟩:=hv.subs.form
 obtain⟨Ab,cb,rfl,hcb⟩:=hv.body.form
 obtain⟨Ae,ce,rfl,hce⟩:=hv.els.form
 have jV:=hid ((Below.refl w.heap.size w).alloc (aC _) (.cells #[.int .u8 k,.string t,.int .i64 n,.slice As s.len cs,pv,.slice Ab b.len cb,.slice Ae e.len ce] 69))
 have HN:=hid (hv.below (jV.out.mono hB))
 have iL:=hid cX
 obtain⟨Ap,cp,rfl,kX,-⟩:=hv.aX
 clear hv cX
 have cQ:=hid (aG.new w 69 #[.int .u8 k,.string t,.int .i64 n,.slice As s.len cs,.slice Ap ps.length cp,.slice Ab b.len cb,.slice Ae e.len ce])
 have hz1:w.heap.size<(w.alloc (.cells #[.int .u8 k,.string t,.int .i64 n,.slice As s.len cs,.slice Ap ps.length cp,.slice Ab b.len cb,.slice Ae e.len ce] 69)).heap.size:=by simp
 go_enter Tryz.func162,Tryz.ntmps162
 go_upto_region 1 with fail
 generalize w.alloc (.cells #[.int .u8 k,.string t,.int .i64 n,.slice As s.len cs,.slice Ap ps.length cp,.slice Ab b.len cb,.slice Ae e.len ce] 69)=w1 at *
 have fH:=hid (bF_ k w1)
 have c0:=cQ.out.cell 0
 have c1:=cQ.out.cell 1
 have c2:=cQ.out.cell 2
 have c3:=cQ.out.cell 3
 have c4:=cQ.out.cell 4
 have c5:=cQ.out.cell 5
 have c6:=cQ.out.cell 6
 simp at c0 c1 c2 c3 c4 c5 c6
 by_cases hst:k8 k=true
 rotate_left
 · have hst:k8 k=false:=by simpa using hst
   rw[hst] at fH
   have HR:=hid (show NG ⟨k,t,n,s,ps,b,e⟩=[] by unfold NG;rw[if_neg (by simp[hst])])
   clear hst
   go_wp2_with fail
   refine fH.out.mono ?_
   rintro e1 w' ⟨rfl,rfl⟩
   go_wp2
   go_ret
   exact⟨_,rfl,by rw[HR.out];exact aF.nil _ _ rfl rfl,jV.out⟩
 rw[hst] at fH
 have HR:=hid (show NG ⟨k,t,n,s,ps,b,e⟩=if FX nm op un (sY ⟨k,t,n,s,ps,b,e⟩)=0 then bJ s true [] else [] by unfold NG;rw[if_pos hst])
 clear hst
 have iM:=hid (bHH k t n s ps b e _ _ _ _ B w1 HN.out (by omega))
 go_wp2_with fail
 refine fH.out.mono ?_
 rintro e1 w' ⟨rfl,rfl⟩
 go_wp2_with fail
 refine iM.out.mono ?_
 rintro e1 w2 ⟨v2,rfl,hv2,hb2⟩
 have HV2:=hid hv2
 have bY:=hid hb2
 obtain⟨o1,o2,o3,o4,o5,j_,jO,kV,oY,tQ,C9,-⟩:=iL.out
 have pI:=hid oY
 have MZ:=hid (aZ3 K hK (sY ⟨k,t,n,s,ps,b,e⟩) v2 w2.heap.size w2 hv2 (aC _) (by unfold sY nodes;simp[Fo.cnt];omega) (by unfold sY;simp) ⟨by unfold sY;simp;omega,fun f hf=>by
  unfold sY at hf
  rw[List.mem_singleton] at hf
  subst hf
  exact⟨by show dJ.size<K;exact Nat.lt_of_le_of_lt (by decide) hK4,by simp;omega,by simp,by simp[Fo.len];omega,iL.out⟩⟩)
 have D7:=hid (fun W (hW:Below w1.heap.size w1 W)=>(bND s.cnt).1 s (.slice As s.len cs) (.slice none 0 0) [] (W.heap.size+1) W.heap.size (W.alloc (.cells #[.slice none 0 0] 272)) (aC _) ⟨aG.new W _ _,aF.nil _ _ rfl rfl,Nat.lt_succ_self _,by simp⟩ (((HN.out.subs.below (hW.mono (by omega))).more (by have:=hW.size;omega)).below ((Below.refl _ _).alloc (aC _) _)) (by omega) (by omega) (by simp;omega))
 obtain⟨A2,c2',rfl,-⟩:=hv2.form
 generalize FX nm op un (sY ⟨k,t,n,s,ps,b,e⟩)=q at *
 clear hv2 hb2 iM oY tQ C9
 go_wp2_with fail
 refine MZ.out.mono ?_
 rintro e1 w3 ⟨rfl,hb3⟩
 have b7:=hid (bY.out.trans (hb3.mono bY.out.size))
 clear hb3 MZ HV2
 have d3:w3.cell? ⟨w.heap.size,3,none⟩=some (.slice As s.len cs):=(b7.out.cell (p:=⟨w.heap.size,3,none⟩) hz1).trans c3
 by_cases hq:q=0
 rotate_left
 · have cY:=hid (HR.out.trans (if_neg hq))
   have b1:((q:Int) != 0)=true:=bne_iff_ne.2 (by omega)
   have bC:=hid (jV.out.trans (b7.out.mono (by omega)))
   clear hq c0 c1 c2 c3 c4 c5 c6
   go_wp2
   go_ret
   exact⟨_,rfl,by rw[cY.out];exact aF.nil _ _ rfl rfl,bC.out⟩
 have cY:=hid (HR.out.trans (if_pos hq))
 have b1:((q:Int) != 0)=false:=by rw[hq];rfl
 clear hq c0 c1 c2 c3 c4 c5 c6
 have hz3:=b7.out.size
 have d4:=(((Below.refl w3.heap.size w3).alloc (aC _) (.cells #[.slice none 0 0] 272)).cell (p:=⟨w.heap.size,3,none⟩) (show w.heap.size<w3.heap.size by omega)).trans d3
 have pL:=hid ((Below.refl w3.heap.size w3).alloc (aC _) (.cells #[.slice none 0 0] 272))
 have FR:=hid (D7.out w3 b7.out)
 clear D7
 go_wp2_with fail
 refine FR.out.mono ?_
 rintro e1 w4 ⟨rfl,nu,jB,hb4⟩
 have eY:=hid (aF.more jB.row (show w.heap.size≤w3.heap.size+1 by omega))
 have g4:=jB.blk.cell 0
 simp at g4
 obtain⟨A4,c4',n4,rfl,-⟩:=aF.src jB.row
 have bC:=hid (jV.out.trans ((b7.out.trans ((pL.out.trans hb4).mono b7.out.size)).mono (by omega)))
 clear jB hb4
 go_wp2
 go_ret
 exact⟨_,rfl,by rw[cY.out];exact eY.out,bC.out⟩
end
section
namespace Sl
theorem aZU:∀(a b:List Int),a.Pairwise (· < ·)→b.Pairwise (· < ·)→(∀x,x∈a↔x∈b)→a=b
 | [],[],_,_,_=>rfl
 | [],y::b,_,_,h=>absurd ((h y).2 (List.mem_cons_self ..)) (by simp)
 |x::a,[],_,_,h=>absurd ((h x).1 (List.mem_cons_self ..)) (by simp)
 |x::a,y::b,ha,hb,h=>by
   obtain⟨ha1,ha2⟩:=List.pairwise_cons.1 ha
   obtain⟨hb1,hb2⟩:=List.pairwise_cons.1 hb
   have L_:x=y:=by
    rcases List.mem_cons.1 ((h x).1 (List.mem_cons_self ..)) with e|e
    · exact e
    rcases List.mem_cons.1 ((h y).2 (List.mem_cons_self ..)) with e2|e2
    · exact e2.symm
    have h1:=hb1 x e
    have h2:=ha1 y e2
    omega
   subst L_
   congr 1
   refine aZU a b ha2 hb2 fun z=>⟨fun hz=>?_,fun hz=>?_⟩
   · rcases List.mem_cons.1 ((h z).1 (List.mem_cons_of_mem _ hz)) with e|e
     · have:=ha1 z hz;omega
     exact e
   rcases List.mem_cons.1 ((h z).2 (List.mem_cons_of_mem _ hz)) with e|e
   · have:=hb1 z hz;omega
   exact e
theorem aYM (zs:List Int) (hs:zs.Pairwise (·≤·)):∀m,m≤zs.length→(Lib.compactUpTo zs.toArray m).Pairwise (· < ·)∧∀x,x∈Lib.compactUpTo zs.toArray m↔∃j,j<m∧zs[j]! = x
 |0,_=>⟨by simp[Lib.compactUpTo],fun x=>by simp[Lib.compactUpTo]⟩
 |m+1,h=>by
   obtain⟨h1,h2⟩:=aYM zs hs m (by omega)
   have hle:∀i j,i≤j→j<zs.length→zs[i]!≤zs[j]!:=fun i j SA hj=>by
    rw[getElem!_pos zs i (by omega),getElem!_pos zs j hj]
    rcases Nat.lt_or_ge i j with hl|hl
    · exact List.pairwise_iff_getElem.1 hs i j (by omega) hj hl
    have:i=j:=by omega
    subst this
    exact Int.le_refl _
   have ea:∀i:Nat,zs.toArray[i]! = zs[i]!:=fun i=>by simp[List.getElem!_toArray]
   rw[Lib.compactUpTo_succ]
   cases hk:Lib.keeps zs.toArray m with
   |false=>
    have hm:0<m∧zs[m]! = zs[m-1]!:=by
     simp[Lib.keeps] at hk
     exact⟨by omega,by simpa using hk.2⟩
    simp only[Bool.false_eq_true,if_false,List.append_nil]
    refine⟨h1,fun x=>(h2 x).trans ⟨fun ⟨j,hj,e⟩=>⟨j,by omega,e⟩,fun ⟨j,hj,e⟩=>?_⟩⟩
    rcases Nat.lt_or_ge j m with hl|hl
    · exact⟨j,hl,e⟩
    have:j=m:=by omega
    subst this
    exact⟨j-1,by omega,hm.2.symm.trans e⟩
   |true=>
    simp only[if_true]
    refine⟨List.pairwise_append.2 ⟨h1,List.pairwise_singleton _ _,fun x hx y hy=>?_⟩,fun x=>?_⟩
    · rw[List.mem_singleton] at hy
      subst hy
      obtain⟨j,hj,rfl⟩:=(h2 x).1 hx
      have hne:zs[m]!≠zs[m-1]!:=by
       simp[Lib.keeps] at hk
       rcases hk with h0|h0
       · omega
       simpa using h0
      have a1:=hle j (m-1) (by omega) (by omega)
      have a2:=hle (m-1) m (by omega) (by omega)
      rw[ea]
      omega
    rw[List.mem_append,List.mem_singleton,h2 x,ea]
    constructor
    · rintro (⟨j,hj,e⟩|e)
      · exact⟨j,by omega,e⟩
      exact⟨m,by omega,e.symm⟩
    rintro⟨j,hj,e⟩
    rcases Nat.lt_or_ge j m with hl|hl
    · exact .inl ⟨j,hl,e⟩
    have:j=m:=by omega
    subst this
    exact .inr e.symm
theorem bGQ (zs:List Int) (hs:zs.Pairwise (·≤·)):(Lib.compact zs).Pairwise (· < ·)∧∀x,x∈Lib.compact zs↔x∈zs:=by
 obtain⟨h1,h2⟩:=aYM zs hs zs.length (Nat.le_refl _)
 refine⟨h1,fun x=>(h2 x).trans ?_⟩
 rw[List.mem_iff_getElem]
 exact⟨fun ⟨j,hj,e⟩=>⟨j,hj,by rw[←e,getElem!_pos zs j hj]⟩,fun ⟨j,hj,e⟩=>⟨j,hj,by rw[getElem!_pos zs j hj];exact e⟩⟩
def NS (zs:List Int):List Int:=Lib.compact (zs.mergeSort fun x y=>decide (x≤y))
theorem aZ2 (zs:List Int):(NS zs).Pairwise (· < ·)∧∀x,x∈NS zs↔x∈zs:=by
 have hp:(zs.mergeSort fun x y=>decide (x≤y)).Pairwise (·≤·):=by
  have:=List.pairwise_mergeSort (le:=fun x y:Int=>decide (x≤y)) (fun a b c h1 h2=>by simp at *;omega) (fun a b=>by simp;omega) zs
  exact this.imp fun h=>by simpa using h
 obtain⟨h1,h2⟩:=bGQ _ hp
 exact⟨h1,fun x=>(h2 x).trans (List.mergeSort_perm zs _).mem_iff⟩
theorem a1I {zs a:List Int} (ha:a.Pairwise (· < ·)) (h:∀x,x∈a↔x∈zs):NS zs=a:=
 aZU _ _ (aZ2 zs).1 ha fun x=>((aZ2 zs).2 x).trans (h x).symm
end Sl
namespace Sl
open Fo
theorem a1K {ar:aA→Option Nat}:∀(l:List bQ) (st:Sc),(fL ar l st).fault=0→∀x n,bQ.call x n∈l→ar x=some n
 | [],_,_,_,_,h=>by cases h
 |y::l,st,hf,x,n,h=>by
   change (fL ar l (mH ar st y)).fault=0 at hf
   have h0:(mH ar st y).fault=0:=by
    refine Classical.byContradiction fun hc=>hc ?_
    rw[CJ l hc] at hf
    exact hf
   rcases List.mem_cons.1 h with rfl|h
   rotate_left
   · exact a1K l _ hf x n h
   unfold mH at h0
   by_cases hst:st.fault≠0
   · simp only[if_pos hst] at h0;exact absurd h0 hst
   simp only[if_neg hst] at h0
   cases ha:ar x with
   |none=>rw[ha] at h0;simp at h0
   |some m=>
    rw[ha] at h0
    simp only at h0
    by_cases hm:m≠n
    · rw[if_pos hm] at h0;simp at h0
    have:m=n:=by omega
    rw[this]
theorem aYI:∀{l:List Nat},EF l=0→∀x∈l,x=0
 | [],_,x,hx=>by cases hx
 |0::l,h,x,hx=>by
   rcases List.mem_cons.1 hx with rfl|hx
   · rfl
   exact aYI (l:=l) h x hx
 |(n+1)::l,h,x,hx=>by simp[EF] at h
theorem aN2:∀(l:Fo) (t:aA),(5,t)∈heads (own l)→∃n,bQ.call t n∈way l
 |.nil,t,h=>by simp[own,heads] at h
 |.cons k t' n s ps b e r,t,h=>by
   rw[own,heads,aNJ] at h
   rw[way]
   simp only[List.mem_append]
   rcases List.mem_cons.1 h with h|h
   · injection h with h1 h2
     subst h1 h2
     exact⟨s.len,.inl (.inl (.inl (.inl (.inl (.inl (by simp[fT]))))))⟩
   rcases List.mem_append.1 h with h|h
   · obtain⟨m,hm⟩:=aN2 s t h
     exact⟨m,.inl (.inl (.inl (.inl (.inl (.inr hm)))))⟩
   obtain⟨m,hm⟩:=aN2 r t h
   exact⟨m,.inr hm⟩
theorem NB (F:Nat):∀(l:Fo) (ex:Bool) (num fns i:Nat) (p:Pl),∀r∈recs F l ex num fns i p,∀x,x∈way r.nd.s→x∈way l
 |.nil,_,_,_,_,_,r,h,_,_=>by simp[recs] at h
 |.cons k t n s ps b e r,false,num,fns,i,p,y,h,x,hx=>by
   rw[way]
   simp only[List.mem_append]
   unfold recs at h
   simp only[List.mem_cons,List.mem_append] at h
   rcases h with rfl|h|h|h|h
   · exact .inl (.inl (.inl (.inl (.inl (.inr hx)))))
   · exact .inl (.inl (.inl (.inl (.inl (.inr (NB F s _ _ _ _ _ y h x hx))))))
   · exact .inl (.inl (.inl (.inr (NB F b _ _ _ _ _ y h x hx))))
   · exact .inl (.inr (NB F e _ _ _ _ _ y h x hx))
   exact .inr (NB F r _ _ _ _ _ y h x hx)
 |.cons k t n s ps b e r,true,num,fns,i,p,y,h,x,hx=>by
   rw[way]
   simp only[List.mem_append]
   unfold recs at h
   simp only[List.mem_append] at h
   rcases h with h|h|h
   · exact .inl (.inl (.inl (.inl (.inl (.inr (NB F s _ _ _ _ _ y h x hx))))))
   · by_cases hk:k=10
     · rw[if_pos hk] at h
       exact .inl (.inl (.inl (.inr (NB F b _ _ _ _ _ y h x hx))))
     rw[if_neg hk] at h
     cases h
   exact .inr (NB F r _ _ _ _ _ y h x hx)
theorem a1O (F:Nat):∀(p:List Fc) (i num fns:Nat),∀r∈lN F p i num fns,∃f∈p,∀x,x∈way r.nd.s→x∈way f.body
 | [],_,_,_,r,h=>by simp[lN] at h
 |f::l,i,num,fns,r,h=>by
   unfold lN at h
   rcases List.mem_append.1 h with h|h
   · exact⟨f,List.mem_cons_self ..,NB F f.body _ _ _ _ _ r h⟩
   obtain⟨g,hg,hx⟩:=a1O F l _ _ _ r h
   exact⟨g,kS _ hg,hx⟩
theorem aD_ {nm op un:aA→Bool} {dJ:aA} {p:List Fc} (h:mY nm op un dJ p=0):nW nm op un p=0∧(p.map (·.name)).Nodup∧∀f∈p,pR p f=0:=by
 unfold mY YV at h
 by_cases h1:nW nm op un p≠0
 · rw[if_pos h1] at h;exact absurd h h1
 rw[if_neg h1] at h
 by_cases h2:twice p=true
 · rw[if_pos h2] at h;cases h
 rw[if_neg h2] at h
 refine⟨by omega,?_,?_⟩
 · unfold twice at h2
   simpa using h2
 cases ha:arity p dJ with
 |none=>rw[ha] at h;cases h
 |some n=>
  rw[ha] at h
  simp only at h
  by_cases h3:0<n
  · rw[if_pos h3] at h;cases h
  rw[if_neg h3] at h
  intro f hf
  exact aYI h _ (List.mem_map.2 ⟨f,hf,rfl⟩)
theorem bKK {p:List Fc} {x:aA} {n:Nat} (h:arity p x=some n):∃f∈p,f.name=x:=by
 unfold arity at h
 cases hf:p.find? (fun f=>decide (f.name=x)) with
 |none=>rw[hf] at h;cases h
 |some f=>exact⟨f,List.mem_of_find?_eq_some hf,by have:=List.find?_some hf;simpa using this⟩
theorem bNE {nm op un:aA→Bool} {dJ:aA} {p:List Fc} (h:mY nm op un dJ p=0) {r:Sm} (hr:r∈all p) {t:aA} (ht:(5,t)∈heads (own r.nd.s)):∃f∈p,f.name=t:=by
 obtain⟨f,hf,hx⟩:=a1O p.length p 0 0 0 r hr
 obtain⟨n,hn⟩:=aN2 _ _ ht
 have h1:=(aD_ h).2.2 f hf
 unfold pR at h1
 exact bKK (a1K _ _ h1 t n (iZ _ (hx _ hn)))
def sR (p:List Fc) (hs:List (Nat×aA)):List Nat:=(List.range p.length).filter fun i=>hs.any fun h=>decide (h.1=5)&&decide (h.2=(p.getD i bI).name)
def aIG (p:List Fc) (hs:List (Nat×aA)):List Int:=(hs.filter fun h=>decide (h.1=5)).map fun h=>dQ (fun f=>decide (f.name=h.2)) p 0
theorem bJM {p:List Fc} (h:(p.map (·.name)).Nodup) {i j:Nat} (hi:i<p.length) (hj:j<p.length) (he:(p.getD i bI).name=(p.getD j bI).name):i=j:=by
 rw[dR,dR,bX hi,bX hj] at he
 have h1:=List.pairwise_iff_getElem.1 h
 rcases Nat.lt_trichotomy i j with hl|hl|hl
 · have:=h1 i j (by simpa using hi) (by simpa using hj) hl
   simp at this
   exact absurd he this
 · exact hl
 have:=h1 j i (by simpa using hj) (by simpa using hi) hl
 simp at this
 exact absurd he.symm this
theorem bIC (p:List Fc) (hs:List (Nat×aA)):((sR p hs).map fun n:Nat=>(n:Int)).Pairwise (· < ·):=by
 rw[List.pairwise_map]
 refine (List.Pairwise.filter _ List.pairwise_lt_range).imp fun h=>?_
 omega
theorem a05 {p:List Fc} {hs:List (Nat×aA)} {n:Nat} (h:n∈sR p hs):n<p.length:=by
 unfold sR at h
 rw[List.mem_filter,List.mem_range] at h
 exact h.1
theorem bLY {p:List Fc} {hs:List (Nat×aA)} (hn:(p.map (·.name)).Nodup) (hc:∀t,(5,t)∈hs→∃f∈p,f.name=t):NS (aIG p hs)=(sR p hs).map fun n:Nat=>(n:Int):=by
 refine a1I (bIC p hs) fun x=>?_
 unfold sR aIG
 simp only[List.mem_map,List.mem_filter,List.mem_range,List.any_eq_true,LM,decide_eq_true_eq]
 constructor
 · rintro⟨i,⟨hi,⟨k,t⟩,hm,h5,ht⟩,rfl⟩
   simp only at h5 ht
   refine⟨⟨k,t⟩,⟨hm,h5⟩,?_⟩
   rcases aDY (f:=fun f:Fc=>decide (f.name=t)) p 0 with⟨-,h2⟩|⟨j,hj,h1,h2,-⟩
   · have:=h2 (p.getD i bI) (by rw[dR,bX hi];exact Q1 hi)
     simp[ht] at this
   have h2:p[j].name=t:=by simpa using h2
   have:i=j:=bJM hn hi hj (by rw[←ht,dR,bX hj];exact h2.symm)
   subst this
   simpa using h1
 rintro⟨⟨k,t⟩,⟨hm,h5⟩,rfl⟩
 simp only at h5 ⊢
 subst h5
 obtain⟨f,hf,hft⟩:=hc t hm
 rcases aDY (f:=fun f:Fc=>decide (f.name=t)) p 0 with⟨-,h2⟩|⟨j,hj,h1,h2,-⟩
 · have:=h2 f hf
   simp[hft] at this
 have h2:p[j].name=t:=by simpa using h2
 exact⟨j,⟨hj,⟨5,t⟩,hm,rfl,by rw[dR,bX hj];exact h2.symm⟩,by rw[h1];simp⟩
end Sl
end
end Go.Proofs.YtdlndhbkcgmkkaaGreatDoor
