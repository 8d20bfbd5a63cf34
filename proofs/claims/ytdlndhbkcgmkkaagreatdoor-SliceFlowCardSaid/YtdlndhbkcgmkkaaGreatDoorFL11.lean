/-
 Part 11 of 35 of a proof about the given program: facts on which the last part stands.
-/
import Derived.Test.YtdlndhbkcgmkkaaGreatDoorFL10
import Derived.KernelRfl
import Derived.Deep.RegionHeld3
set_option maxHeartbeats 12800000
set_option linter.unusedVariables false
set_option linter.unusedSimpArgs false
set_option maxRecDepth 100000
namespace Go.Proofs.YtdlndhbkcgmkkaaGreatDoor
section
open Go.RowKit Go.ChangeMaps Go.MapKept Go.Maps
open Sl
open Go.Lib (hid)
theorem bN5 (w:World):(binOp .neq 174 .nilFunc .nilFunc).run Tryz.prog w=.ok (.bool false) w:=by
 have h:=Tryz.underlying174
 unfold binOp
 go_simp
 unfold Op.equal
 rw[show Op.maxDepth=9999+1 from rfl]
 unfold Op.equalIn
 go_simp
theorem bPM (w:World) (x y:Operand):(eqGuard .neq 174 x y .nilFunc .nilFunc).run Tryz.prog w=.ok () w:=by
 unfold eqGuard
 go_simp
theorem bEM (ar:aA→Option Nat) (base g gm B:Nat) (dv ov iv:Value) (st:Sc) (w:World) (h:eI base g (.map (some gm)) dv ov iv st w) (cN:B≤g)
 (a:Addr) (o k:Nat) (t:aA) (n:Int) (s:Fo) (ps:List aA) (b e:Fo) (sv pv bv ev:Value) (hn:uM w B a o k t n s ps b e sv pv bv ev)
 (HS:F4 252 base g (.map (some gm)) sv w (scope ar s true)) (HB:F4 157 base g (.map (some gm)) bv w (scope ar b false)) (HE:F4 157 base g (.map (some gm)) ev w (scope ar e false)):
 Calls Tryz.prog 208 #[.pointer (some ⟨g,0,none⟩),.pointer (some (a.add o))] w (NQ base g (.map (some gm)) (YY ar k t s b e st) w):=by
 obtain⟨As,cs,rfl,hcs⟩:=hn.vals.subs.form
 obtain⟨Ab,cb,rfl,hcb⟩:=hn.vals.body.form
 obtain⟨Ae,ce,rfl,hce⟩:=hn.vals.els.form
 obtain⟨c0,c1,c2,c3,c4,c5,c6⟩:=hn.cells
 have H:=hid h
 have HN:=hid hn
 have Hs:=hid HS
 have Hb:=hid HB
 have He:=hid HE
 clear h hn HS HB HE
 have HM:=hid (show YY ar k t s b e st=if (scope ar s true st).fault≠0 then scope ar s true st else
  if k=14 then scope ar e false (scope ar b false (declares (scope ar s true st) t)) else
  if k=15 then scope ar e false (scope ar b false (uses (scope ar s true st) t)) else
  if k=21 then scope ar e false (declares (scope ar b false (scope ar s true st)) t) else
  scope ar e false (scope ar b false (scope ar s true st)) from rfl)
 go_enter Tryz.func208,Tryz.ntmps208
 go_wp2_with fail
 refine (Hs.out w st dv ov iv (Below.refl _ _) H.out).mono ?_
 rintro e1 w1 ⟨rfl,dv1,ov1,iv1,hs1,hb1⟩
 have R1:=hid hs1
 have L1:=hid hb1
 clear hs1 hb1 c0 c1 c2 c3 c4 c5 c6
 generalize scope ar s true st=V0 at *
 obtain⟨d0,d1,d2,d3,d4,d5,d6⟩:=(HN.out.below (L1.out.mono cN)).cells
 have HO:=hid (X9 base g (.map (some gm)) dv1 ov1 iv1 V0 w1 R1.out)
 by_cases hf:V0.fault≠0
 · have qX:=hid (HM.out.trans (if_pos hf))
   rw[bF hf] at HO
   clear hf
   go_wp2_with fail
   refine HO.out.mono ?_
   rintro e1 w' ⟨rfl,rfl⟩
   go_wp2
   go_end0
   exact⟨rfl,_,_,_,by rw[qX.out];exact R1.out,L1.out⟩
 have qX:=hid (HM.out.trans (if_neg hf))
 rw[bP hf] at HO
 clear HM hf
 go_wp2_with fail
 refine HO.out.mono ?_
 rintro e1 w' ⟨rfl,rfl⟩
 by_cases RQ:k=21
 · subst RQ
   have jT:=hid (qX.out.trans (by rw[if_neg (by decide),if_neg (by decide),if_pos rfl]))
   clear qX
   go_wp2_with fail
   refine (Hb.out w1 V0 dv1 ov1 iv1 L1.out R1.out).mono ?_
   rintro e1 w2 ⟨rfl,dv2,ov2,iv2,hs2,hb2⟩
   have R2:=hid hs2
   have L2:=hid (L1.out.trans hb2)
   clear hs2 hb2 d0 d1 d2 d3 d4 d5 d6
   generalize scope ar b false V0=O2 at *
   obtain⟨d0,d1,d2,d3,d4,d5,d6⟩:=(HN.out.below (L2.out.mono cN)).cells
   obtain⟨q0,q1,q2,q3,q4,q5,q6,q7⟩:=EA R2.out.blk
   have HD:=hid (aDK base g (.map (some gm)) dv2 ov2 iv2 O2 t w2 R2.out)
   go_wp2_with fail
   refine HD.out.mono ?_
   rintro e1 w3 ⟨rfl,dv3,ov3,iv3,hs3,hb3⟩
   have R3:=hid hs3
   have L3:=hid (L2.out.trans hb3)
   clear hs3 hb3 d0 d1 d2 d3 d4 d5 d6 q0 q1 q2 q3 q4 q5 q6 q7
   generalize declares O2 t=st3 at *
   obtain⟨d0,d1,d2,d3,d4,d5,d6⟩:=(HN.out.below (L3.out.mono cN)).cells
   go_wp2_with fail
   refine (He.out w3 st3 dv3 ov3 iv3 L3.out R3.out).mono ?_
   rintro e1 w4 ⟨rfl,AK,zU,zV,cU,hb4⟩
   have R4:=hid cU
   have L4:=hid (L3.out.trans hb4)
   clear cU hb4
   go_wp2
   go_end0
   exact⟨rfl,_,_,_,by rw[jT.out];exact R4.out,L4.out⟩
 have ZN:((k:Int)==21)=false:=aP (by omega)
 go_upto_block 0 with fail
 go_cut [] (fun wx=>∃(O2:Sc) (iH fP iv':Value),Hid (YY ar k t s b e st=scope ar e false (scope ar b false O2))∧Hid (eI base g (.map (some gm)) iH fP iv' O2 wx)∧Hid (Below g w wx))
 case first=>
  by_cases RT:k=14
  · subst RT
    have jT:=hid (qX.out.trans (if_pos rfl))
    have HD:=hid (aDK base g (.map (some gm)) dv1 ov1 iv1 V0 t w1 R1.out)
    clear qX
    go_wp2_with fail
    refine HD.out.mono ?_
    rintro e1 w3 ⟨rfl,dv3,ov3,iv3,hs3,hb3⟩
    have R3:=hid hs3
    have L3:=hid (L1.out.trans hb3)
    clear hs3 hb3
    go_wp2
    go_meet
    exact⟨_,_,_,_,jT,R3,L3⟩
  by_cases RR:k=15
  · subst RR
    have jT:=hid (qX.out.trans (by rw[if_neg (by decide),if_pos rfl]))
    have HD:=hid (a1B base g (.map (some gm)) dv1 ov1 iv1 V0 t w1 R1.out)
    clear qX
    go_wp2_with fail
    refine HD.out.mono ?_
    rintro e1 w3 ⟨rfl,dv3,ov3,iv3,hs3,hb3⟩
    have R3:=hid hs3
    have L3:=hid (L1.out.trans hb3)
    clear hs3 hb3
    go_wp2
    go_meet
    exact⟨_,_,_,_,jT,R3,L3⟩
  have jT:=hid (qX.out.trans (by rw[if_neg RT,if_neg RR,if_neg RQ]))
  have hk14:((k:Int)==14)=false:=aP (by omega)
  have hk15:((k:Int)==15)=false:=aP (by omega)
  clear qX RT RR RQ
  go_wp2
  go_meet
  exact⟨_,_,_,_,jT,R1,L1⟩
 obtain⟨O2,dv2,ov2,iv2,jT,R2,L2⟩:=hcut
 obtain⟨w2,rfl⟩:∃x:World,x=wc:=⟨_,rfl⟩
 clear d0 d1 d2 d3 d4 d5 d6
 obtain⟨d0,d1,d2,d3,d4,d5,d6⟩:=(HN.out.below (L2.out.mono cN)).cells
 go_wp2_with fail
 refine (Hb.out w2 O2 dv2 ov2 iv2 L2.out R2.out).mono ?_
 rintro e1 w3 ⟨rfl,dv3,ov3,iv3,hs3,hb3⟩
 have R3:=hid hs3
 have L3:=hid (L2.out.trans hb3)
 clear hs3 hb3 d0 d1 d2 d3 d4 d5 d6
 generalize scope ar b false O2=st3 at *
 obtain⟨d0,d1,d2,d3,d4,d5,d6⟩:=(HN.out.below (L3.out.mono cN)).cells
 go_wp2_with fail
 refine (He.out w3 st3 dv3 ov3 iv3 L3.out R3.out).mono ?_
 rintro e1 w4 ⟨rfl,AK,zU,zV,cU,hb4⟩
 have R4:=hid cU
 have L4:=hid (L3.out.trans hb4)
 clear cU hb4
 go_wp2
 go_end0
 exact⟨rfl,_,_,_,by rw[jT.out];exact R4.out,L4.out⟩
theorem bEA (ar:aA→Option Nat) (base g gm B K:Nat) (hK:K≤140737488355328) (cN:B≤g) (l:Fo) (v:Value) (w:World) (hl:cM w B v l) (cX:Fo.cO K l) (hlen:l.len<K)
 (H1:∀(W:World) (st:Sc) (dv ov iv:Value) (a:Addr) (o k:Nat) (t:aA) (n:Int) (s:Fo) (ps:List aA) (b e:Fo) (sv pv bv ev:Value),Below g w W→eI base g (.map (some gm)) dv ov iv st W→uM W B a o k t n s ps b e sv pv bv ev→Fo.cO K (.cons k t n s ps b e .nil)→s.cnt+b.cnt+e.cnt+1≤l.cnt→
  Calls Tryz.prog 270 #[.pointer (some ⟨g,0,none⟩),.pointer (some (a.add o))] W (NQ base g (.map (some gm)) (K_ ar k t s ps b st) W)):
 F4 252 base g (.map (some gm)) v w (scope ar l true):=by
 intro w0 st dv ov iv hw0 h
 obtain⟨A,cap,rfl,cB⟩:=hl.form
 have HL:=hid hl
 have HO:=hid cX
 have HW:=hid hw0
 have H:=hid h
 have H2:=hid H1
 clear hl cX h H1 hw0
 go_enter Tryz.func252,Tryz.ntmps252
 go_wp2
 go_loopg [7] l.len (fun q i wr=>∃(j:Nat) (lC:Sc) (iH fP iv':Value),j≤l.len∧q=l.len-j∧i=.int .i64 j∧Hid (scope ar l true st=scope ar (Fo.drop j l) true lC)∧Hid (eI base g (.map (some gm)) iH fP iv' lC wr)∧Hid (Below g w0 wr))
 case atStart=>exact⟨0,st,dv,ov,iv,Nat.zero_le _,rfl,rfl,hid (by rw[Fo.drop]),H,hid (Below.refl _ _)⟩
 obtain⟨j,lC,iH,fP,iv',hj,hq,rfl,hE,hR,hL⟩:=hrel
 have Hq:=hid hq
 clear hq
 obtain⟨wx,rfl⟩:∃x:World,x=wr:=⟨_,rfl⟩
 by_cases hlt:j<l.len
 rotate_left
 · have HE:=hid (hE.out.trans (show scope ar (Fo.drop j l) true lC=lC by rw[show j=l.len by omega,gB,scope]))
   clear hE
   go_wp2
   go_end0
   exact⟨rfl,_,_,_,by rw[HE.out];exact hR.out,hL.out⟩
 obtain⟨a,kk,t,nn,s,ps,b,e,r,sv,pv,bv,ev,rfl,aI,hno⟩:=(HL.out.below ((HW.out.trans hL.out).mono cN)).at_ hlt
 have dL:=kN aI
 have dN:Fo.cO K (.cons kk t nn s ps b e r):=aI▸IZ HO.out
 have S_:=hid (show Fo.cO K (.cons kk t nn s ps b e .nil) from⟨dN.1,dN.2.1,dN.2.2.1,dN.2.2.2.1,dN.2.2.2.2.1,dN.2.2.2.2.2.1,dN.2.2.2.2.2.2.1,dN.2.2.2.2.2.2.2.1,dN.2.2.2.2.2.2.2.2.1,dN.2.2.2.2.2.2.2.2.2.1,dN.2.2.2.2.2.2.2.2.2.2.1,trivial⟩)
 have HE:=hid (hE.out.trans (aYX (ar:=ar) aI lC).1)
 have IJ:=hid (X9 base g (.map (some gm)) iH fP iv' lC wx hR.out)
 have HN:=hid hno
 have Hd:=hid aI
 clear hno aI dN hE
 by_cases hf:lC.fault≠0
 · have sI:=hid (HE.out.trans (if_pos hf))
   rw[bF hf] at IJ
   clear hf
   go_wp2_with fail
   refine IJ.out.mono ?_
   rintro e1 w' ⟨rfl,rfl⟩
   go_wp2
   go_end0
   exact⟨rfl,_,_,_,by rw[sI.out];exact hR.out,hL.out⟩
 have sI:=hid (HE.out.trans (if_neg hf))
 rw[bP hf] at IJ
 have HX:=hid (fun (W:World) (hW:Below g wx W) (hRW:eI base g (.map (some gm)) iH fP iv' lC W)=>H2.out W lC iH fP iv' a (j*7) kk t nn s ps b e sv pv bv ev (HW.out.trans (hL.out.trans hW)) hRW (HN.out.below (hW.mono cN)) S_.out (by omega))
 clear hf HE
 go_wp2_with fail
 refine IJ.out.mono ?_
 rintro e1 w' ⟨rfl,rfl⟩
 go_wp2_with fail
 refine (HX.out wx (Below.refl _ _) hR.out).mono ?_
 rintro e1 w4 ⟨rfl,AK,zU,zV,cU,hb4⟩
 have R:=hid cU
 have LR:=hid (hL.out.trans hb4)
 clear cU hb4
 go_wp2
 go_roundg (l.len-(j+1))
 case rel=>exact⟨j+1,_,AK,zU,zV,hlt,rfl,by go_num,hid (by rw[eD Hd.out];exact sI.out),R,LR⟩
 rw[Hq.out];omega
theorem bEC (ar:aA→Option Nat) (base g gm B K:Nat) (hK:K≤140737488355328) (cN:B≤g) (l:Fo) (v:Value) (w:World) (hl:cM w B v l) (cX:Fo.cO K l) (hlen:l.len<K)
 (H1:∀(W:World) (st:Sc) (dv ov iv:Value) (a:Addr) (o k:Nat) (t:aA) (n:Int) (s:Fo) (ps:List aA) (b e:Fo) (sv pv bv ev:Value),Below g w W→eI base g (.map (some gm)) dv ov iv st W→uM W B a o k t n s ps b e sv pv bv ev→Fo.cO K (.cons k t n s ps b e .nil)→s.cnt+b.cnt+e.cnt+1≤l.cnt→
  Calls Tryz.prog 208 #[.pointer (some ⟨g,0,none⟩),.pointer (some (a.add o))] W (NQ base g (.map (some gm)) (YY ar k t s b e st) W)):
 F4 157 base g (.map (some gm)) v w (scope ar l false):=by
 intro w0 st dv ov iv hw0 h
 obtain⟨A,cap,rfl,cB⟩:=hl.form
 have HL:=hid hl
 have HO:=hid cX
 have HW:=hid hw0
 have H:=hid h
 have H2:=hid H1
 clear hl cX h H1 hw0
 go_enter Tryz.func157,Tryz.ntmps157
 go_wp2
 go_loopg [7] l.len (fun q i wr=>∃(j:Nat) (lC:Sc) (iH fP iv':Value),j≤l.len∧q=l.len-j∧i=.int .i64 j∧Hid (scope ar l false st=scope ar (Fo.drop j l) false lC)∧Hid (eI base g (.map (some gm)) iH fP iv' lC wr)∧Hid (Below g w0 wr))
 case atStart=>exact⟨0,st,dv,ov,iv,Nat.zero_le _,rfl,rfl,hid (by rw[Fo.drop]),H,hid (Below.refl _ _)⟩
 obtain⟨j,lC,iH,fP,iv',hj,hq,rfl,hE,hR,hL⟩:=hrel
 have Hq:=hid hq
 clear hq
 obtain⟨wx,rfl⟩:∃x:World,x=wr:=⟨_,rfl⟩
 by_cases hlt:j<l.len
 rotate_left
 · have HE:=hid (hE.out.trans (show scope ar (Fo.drop j l) false lC=lC by rw[show j=l.len by omega,gB,scope]))
   clear hE
   go_wp2
   go_end0
   exact⟨rfl,_,_,_,by rw[HE.out];exact hR.out,hL.out⟩
 obtain⟨a,kk,t,nn,s,ps,b,e,r,sv,pv,bv,ev,rfl,aI,hno⟩:=(HL.out.below ((HW.out.trans hL.out).mono cN)).at_ hlt
 have dL:=kN aI
 have dN:Fo.cO K (.cons kk t nn s ps b e r):=aI▸IZ HO.out
 have S_:=hid (show Fo.cO K (.cons kk t nn s ps b e .nil) from⟨dN.1,dN.2.1,dN.2.2.1,dN.2.2.2.1,dN.2.2.2.2.1,dN.2.2.2.2.2.1,dN.2.2.2.2.2.2.1,dN.2.2.2.2.2.2.2.1,dN.2.2.2.2.2.2.2.2.1,dN.2.2.2.2.2.2.2.2.2.1,dN.2.2.2.2.2.2.2.2.2.2.1,trivial⟩)
 have HE:=hid (hE.out.trans (aYX (ar:=ar) aI lC).2)
 have IJ:=hid (X9 base g (.map (some gm)) iH fP iv' lC wx hR.out)
 have HN:=hid hno
 have Hd:=hid aI
 clear hno aI dN hE
 obtain⟨q0,q1,q2,q3,q4,q5,q6,q7⟩:=EA hR.out.blk
 have hnf:=bN5
 have hng:=bPM
 by_cases hf:lC.fault≠0
 · have sI:=hid (HE.out.trans (if_pos hf))
   rw[bF hf] at IJ
   clear hf
   go_wp2_with fail
   refine IJ.out.mono ?_
   rintro e1 w' ⟨rfl,rfl⟩
   go_wp2
   go_end0
   exact⟨rfl,_,_,_,by rw[sI.out];exact hR.out,hL.out⟩
 have sI:=hid (HE.out.trans (if_neg hf))
 rw[bP hf] at IJ
 have HX:=hid (fun (W:World) (hW:Below g wx W) (hRW:eI base g (.map (some gm)) iH fP iv' lC W)=>H2.out W lC iH fP iv' a (j*7) kk t nn s ps b e sv pv bv ev (HW.out.trans (hL.out.trans hW)) hRW (HN.out.below (hW.mono cN)) S_.out (by omega))
 clear hf HE
 go_wp2_with fail
 refine IJ.out.mono ?_
 rintro e1 w' ⟨rfl,rfl⟩
 go_wp2_with fail
 go_quiet (fail)
 go_wp2_with fail
 refine (HX.out _ (below_drewN (Below.refl _ _) _) (hR.out.step (below_drewN (Below.refl _ _) _))).mono ?_
 rintro e1 w4 ⟨rfl,AK,zU,zV,cU,hb4⟩
 have R:=hid cU
 have LR:=hid (hL.out.trans (lM hb4))
 clear cU hb4
 go_wp2
 go_roundg (l.len-(j+1))
 case rel=>exact⟨j+1,_,AK,zU,zV,hlt,rfl,by go_num,hid (by rw[eD Hd.out];exact sI.out),R,LR⟩
 rw[Hq.out];omega
theorem bF2 (ar:aA→Option Nat) (base g gm B K:Nat) (hK:K≤140737488355328) (cN:B≤g) (J4:gm<g):∀(c:Nat) (l:Fo) (v:Value) (w:World),l.cnt≤c→cM w B v l→uC w gm ar→Fo.cO K l→l.len<K→
 F4 252 base g (.map (some gm)) v w (scope ar l true)∧F4 157 base g (.map (some gm)) v w (scope ar l false):=fun c=>by
 induction c using Nat.strongRecOn with
 |ind c ih=>
 intro l v w hc hl hA cX hlen
 have sub:∀(W:World) (z:Fo) (vz:Value),z.cnt<c→Below g w W→cM W B vz z→Fo.cO K z→z.len<K→F4 252 base g (.map (some gm)) vz W (scope ar z true)∧F4 157 base g (.map (some gm)) vz W (scope ar z false):=fun W z vz hz hb hv ho oF=>
  ih z.cnt hz z vz W (aC _) hv (hA.same (hb.block gm J4)) ho oF
 refine⟨bEA ar base g gm B K hK cN l v w hl cX hlen ?_,bEC ar base g gm B K hK cN l v w hl cX hlen ?_⟩
 · rintro W st dv ov iv a o k t n s ps b e sv pv bv ev hb hR hn ⟨p1,p2,p3,p4,p5,p6,p7,p8,p9,O5,RP,-⟩ dL
   exact bEI ar base g gm B dv ov iv st W hR (hA.same (hb.block gm J4)) cN a o k t n s ps b e sv pv bv ev hn (by omega) (by omega) (sub W s sv (by omega) hb hn.vals.subs p9 p6).1 (sub W b bv (by omega) hb hn.vals.body O5 p7).2
 rintro W st dv ov iv a o k t n s ps b e sv pv bv ev hb hR hn ⟨p1,p2,p3,p4,p5,p6,p7,p8,p9,O5,RP,-⟩ dL
 exact bEM ar base g gm B dv ov iv st W hR cN a o k t n s ps b e sv pv bv ev hn (sub W s sv (by omega) hb hn.vals.subs p9 p6).1 (sub W b bv (by omega) hb hn.vals.body O5 p7).2 (sub W e ev (by omega) hb hn.vals.els RP p8).2
theorem bN6:(⟨#[45]⟩:aA).toList=[45]:=by rw[ByteArray.toList_eq]
theorem bN7:(⟨#[33]⟩:aA).toList=[33]:=by rw[ByteArray.toList_eq]
namespace Sl
def a5M (r:Nat×Nat×Nat×Bool×Bool×Bool):Value:=.agg #[.int .i64 r.1,.int .i64 r.2.1,.int .i64 r.2.2.1,.bool r.2.2.2.1,.bool r.2.2.2.2.1,.bool r.2.2.2.2.2]
def aNY:List Nat:=[1,11,12,2,3,4,5,13,6,7,9,8,10,14,15,16,17,18,21,19,20,22,23,24,25,26,27]
def UF (k:Nat):Nat×Nat×Nat×Bool×Bool×Bool:=(aEL k).getD (0,0,0,false,false,false)
def a5N:List (Value×Value):=aNY.map fun (k:Nat)=>(.int .u8 (k:Int),a5M (UF k))
theorem bF5:∀k∈aNY,k<256:=by decide
theorem aX1:∀k,1≤k→k≤27→k∈aNY∧aEL k=some (UF k):=fun k h1 h2=>by
 have:k=1∨k=2∨k=3∨k=4∨k=5∨k=6∨k=7∨k=8∨k=9∨k=10∨k=11∨k=12∨k=13∨k=14∨k=15∨k=16∨k=17∨k=18∨k=19∨k=20∨k=21∨k=22∨k=23∨k=24∨k=25∨k=26∨k=27:=by omega
 rcases this with h|h|h|h|h|h|h|h|h|h|h|h|h|h|h|h|h|h|h|h|h|h|h|h|h|h|h<;>subst h<;>exact⟨by decide,rfl⟩
end Sl
theorem bI5:(Go.Ev.aI7 Tryz.prog 1000 122).entries=some a5N:=by kernel_rfl
def EN (w:World) (gm:Nat):Prop:=eC w Tryz.prog 65 gm a5N
theorem EN.same {w w':World} {gm:Nat} (h:EN w gm) (hk:w'.heap[gm]?=w.heap[gm]?):EN w' gm:=eC.same h hk
theorem aZF {k:Nat} (hk:k<256):keyOf Tryz.prog 65 (.int .u8 (k:Int))=some (.int .u8 (k:Int)):=
 keyOf_int_mk Tryz.underlying65 (by simp[Lit.wf,IntKind.min,IntKind.max,IntKind.signed,IntKind.bits];omega)
theorem bI6 (w:World):Calls Tryz.prog 122 #[] w fun e w'=>∃gm,e=.returned (.map (some gm))∧w.heap.size≤gm∧EN w' gm∧Below w.heap.size w w':=by
 refine (Go.Ev.bKE bI5 w).mono ?_
 rintro e w' ⟨gm,es,k,he,hg,hb,hm,kQ⟩
 refine⟨gm,he,hg,⟨es,k,hb,hm,fun p hp=>?_⟩,kQ⟩
 obtain⟨x,hx,rfl⟩:=List.mem_map.1 hp
 exact⟨_,aZF (bF5 x hx)⟩
theorem EN.look {w:World} {gm k:Nat} (h:EN w gm) (h1:1≤k) (h2:k≤27):(Instr.lookup 186 (.map (some gm)) (.int .u8 (k:Int)) true).run Tryz.prog w=.ok (.tuple #[a5M (UF k),.bool true]) w:=by
 refine eC.hit (e:=232) h (int_keyed Tryz.underlying65) Tryz.underlying186 (aZF (by omega)) (fun p hp he=>?_) ⟨_,List.mem_map.2 ⟨k,(aX1 k h1 h2).1,rfl⟩,rfl⟩ true
 obtain⟨x,hx,rfl⟩:=List.mem_map.1 hp
 injection he with h3 h4
 have:x=k:=by omega
 rw[this]
theorem bLS (x:Nat) (t:aA) (w:World) (ht:t.size≤140737488355328):Calls Tryz.prog 215 #[.int .i64 x,.string t] w fun e w'=>e=.returned (.bool (JF nm op un x t))∧Below w.heap.size w w':=by
 by_cases h1:x=1
 · subst h1
   have HC:=hid (aN5 t w ht)
   have HE:=hid (show JF nm op un 1 t=nm t from rfl)
   generalize nm t=b at *
   go_enter Tryz.func215,Tryz.ntmps215
   go_wp2_with fail
   refine HC.out.mono ?_
   rintro e w1 ⟨rfl,hb⟩
   have HB:=hid hb
   clear hb
   go_wp2
   go_ret
   exact⟨aR HE.out.symm,HB.out⟩
 by_cases h2:x=2
 · subst h2
   by_cases x1:t=⟨#[45]⟩
   · subst x1
     go_enter Tryz.func215,Tryz.ntmps215
     go_wp2
     go_ret
     exact⟨rfl,Below.refl _ _⟩
   by_cases x2:t=⟨#[33]⟩
   · subst x2
     go_enter Tryz.func215,Tryz.ntmps215
     go_wp2
     go_ret
     exact⟨rfl,Below.refl _ _⟩
   have y1:(t.toList==[45])=false:=by rw[←bN6];exact (Lib.bytes_beq_false_iff _ _).2 x1
   have y2:(t.toList==[33])=false:=by rw[←bN7];exact (Lib.bytes_beq_false_iff _ _).2 x2
   have HE:=hid (show JF nm op un 2 t=false by show un t=false;unfold un;rw[bP x1,bP x2];rfl)
   clear x1 x2 h1
   go_enter Tryz.func215,Tryz.ntmps215
   go_wp2
   go_ret
   exact⟨aR HE.out.symm,Below.refl _ _⟩
 by_cases h3:x=3
 · subst h3
   have HC:=hid (bFJ t w)
   have HE:=hid (show JF nm op un 3 t=decide (F5 t≥0) from (a1T t).symm)
   generalize F5 t=b at *
   clear h1 h2
   cases hb0:decide (b≥0)<;>
   (have bM:=hid (HE.out.trans hb0)
    go_enter Tryz.func215,Tryz.ntmps215
    go_wp2_with fail
    refine HC.out.mono ?_
    rintro e w1 ⟨rfl,hb⟩
    have HB:=hid hb
    clear hb
    go_wp2
    go_ret
    exact⟨aR bM.out.symm,HB.out⟩)
 have e1:((x:Int)==1)=false:=aP (by omega)
 have e2:((x:Int)==2)=false:=aP (by omega)
 have e3:((x:Int)==3)=false:=aP (by omega)
 have HE:=hid (show JF nm op un x t=empty t by unfold JF;rw[if_neg h1,if_neg h2,if_neg h3])
 clear h1 h2 h3
 by_cases R7:0<t.size
 · have y2:t.toList.isEmpty=false:=by cases h:t.toList with|nil=>exact absurd h (toList_cons R7)|cons=>rfl
   have y1:(t.toList==[])=false:=aP (toList_cons R7)
   have bM:=hid (HE.out.trans (bP (by omega)))
   go_enter Tryz.func215,Tryz.ntmps215
   go_wp2
   go_ret
   exact⟨aR bM.out.symm,Below.refl _ _⟩
 have y1:t.toList=[]:=toList_nil R7
 have bM:=hid (HE.out.trans (bF (by omega)))
 go_enter Tryz.func215,Tryz.ntmps215
 go_wp2
 go_ret
 exact⟨aR bM.out.symm,Below.refl _ _⟩
end
section
open Go.RowKit
structure BW (w:World) where
 wd:World
 ok:Below w.heap.size w wd
instance (w:World):Inhabited (BW w):=⟨⟨w,Below.refl _ _⟩⟩
theorem kK {P:Program} {id:Nat} {Q:Exit→Act→World→Prop} {a:Act} {w:World} {l:List Oper} (hm:P.follows .mixedOrders=true) (hB:Region.lexB .any l.toArray=true)
 (h:wpQuiet P l.toArray (fun w'=>∃p:BW w,w'=p.wd) (fun a'=>∀w',(∃p:BW w,w'=p.wd)→Q .normal a' w') l a):(Code.region id l.toArray true).wp P Q a w:=
 wp_region_quiet (C:=fun w'=>∃p:BW w,w'=p.wd) hm hB ⟨⟨w.drewN 1,below_drewN (Below.refl _ _) 1⟩,rfl⟩ (by simpa using h)
theorem j6 {w:World} {a:Addr} {v:Value} (hb:a.block<w.heap.size) (h:w.cell? a=some v) (p:BW w):p.wd.cell? a=some v:=(p.ok.cell hb).trans h
theorem dE {P:Program} {f:FuncId} {args:Array Value} {w:World} {p:BW w} {v:Value} (h:Calls P f args p.wd fun e w'=>e=.returned v∧Below p.wd.heap.size p.wd w'):
 Calls P f args p.wd fun e w''=>e=.returned v∧∃q:BW w,w''=q.wd:=
 h.mono fun _ w' ⟨he,hb⟩=>⟨he,⟨⟨w',p.ok.trans (hb.mono p.ok.size)⟩,rfl⟩⟩
end
section
open Go.RowKit Go.ChangeMaps Go.MapKept Go.Maps
open Sl
open Go.Lib (hid)
namespace Sl
theorem bI7 (k:Nat) (h1:1≤k) (h2:k≤27):(UF k).2.2.2.2.2=decide (k=10):=by
 have:k=1∨k=2∨k=3∨k=4∨k=5∨k=6∨k=7∨k=8∨k=9∨k=10∨k=11∨k=12∨k=13∨k=14∨k=15∨k=16∨k=17∨k=18∨k=19∨k=20∨k=21∨k=22∨k=23∨k=24∨k=25∨k=26∨k=27:=by omega
 rcases this with h|h|h|h|h|h|h|h|h|h|h|h|h|h|h|h|h|h|h|h|h|h|h|h|h|h|h<;>subst h<;>rfl
def sV (k:Nat) (t:aA) (n:Int) (s:Fo) (ps:List aA) (b e:Fo) (ins:Bool):Bool:=
 eJ nm op un k t n s.len ps b.len e.len ins&&bE (eJ nm op un) s true ins&&bE (eJ nm op un) b false (ins||decide (k=10))&&bE (eJ nm op un) e false ins
def Z_ (fn bd ot:Bool) (ps:List aA) (bl el:Nat):Bool:=(!fn&&decide (0<ps.length))||(!bd&&decide (0<bl))||(!ot&&decide (0<el))
theorem bK8 {k:Nat} {x lo hi:Nat} {bd ot fn:Bool} (h1:1≤k) (h2:k≤27) (hr:UF k=(x,lo,hi,bd,ot,fn)) (t:aA) (n:Int) (s:Fo) (ps:List aA) (b e:Fo) (ins:Bool):
 sV k t n s ps b e ins=(JF nm op un x t&&decide (lo≤s.len)&&decide (s.len≤hi)&&kP k n&&!Z_ fn bd ot ps b.len e.len&&!(fn&&(ins||!mF nm ps))&&bE (eJ nm op un) s true ins&&bE (eJ nm op un) b false (ins||fn)&&bE (eJ nm op un) e false ins):=by
 have hf:fn=decide (k=10):=by have:=bI7 k h1 h2;rw[hr] at this;exact this
 unfold sV eJ
 rw[(aX1 k h1 h2).2,hr,←hf]
 have q1:ps.isEmpty=!decide (0<ps.length):=by cases ps<;>simp
 have q2:∀m:Nat,decide (m=0)=!decide (0<m):=fun m=>by by_cases h:m=0<;>simp[h]<;>omega
 unfold Z_
 simp only[q1,q2]
 generalize decide (0<ps.length)=a1
 generalize decide (0<b.len)=a2
 generalize decide (0<e.len)=a3
 cases fn<;>cases bd<;>cases ot<;>cases a1<;>cases a2<;>cases a3<;>simp
end Sl
open Sl
theorem aXZ {B:Nat} {a w:World} (h:Below B a.drew w):Below B a w:=⟨h.os,h.tape,h.output,h.size,h.block⟩
theorem aMS {w:World} {g:Nat} {T:TypeId} {a b c d e f:Value} (x:aG w g T #[a,b,c,d,e,f]):
 w.cell? ⟨g,0,none⟩=some a∧w.cell? ⟨g,1,none⟩=some b∧w.cell? ⟨g,2,none⟩=some c∧w.cell? ⟨g,3,none⟩=some d∧w.cell? ⟨g,4,none⟩=some e∧w.cell? ⟨g,5,none⟩=some f:=
 ⟨x.cell 0,x.cell 1,x.cell 2,x.cell 3,x.cell 4,x.cell 5⟩
abbrev KW (f gm:Nat) (v:Value) (w:World) (go:Bool→Bool):Prop:=
 ∀(W:World) (ins:Bool),Below w.heap.size w W→Calls Tryz.prog f #[(.agg #[.map (some gm)]),v,.bool ins] W fun e w'=>e=.returned (.bool (go ins))∧Below W.heap.size W w'
theorem bJO (gm B:Nat) (w:World) (hR:EN w gm) (hB:B≤w.heap.size) (a:Addr) (o k:Nat) (t:aA) (n:Int) (s:Fo) (ps:List aA) (b e:Fo) (sv pv bv ev:Value) (hn:uM w B a o k t n s ps b e sv pv bv ev)
 (ins:Bool) (qN:1≤k) (hk2:k≤27) (ht:t.size≤140737488355328) (hpl:ps.length≤140737488355328) (eF:∀x∈ps,x.size≤140737488355328)
 (HS:KW 216 gm sv w (bE (eJ nm op un) s true)) (HB:KW 125 gm bv w (bE (eJ nm op un) b false)) (HE:KW 125 gm ev w (bE (eJ nm op un) e false)):
 Calls Tryz.prog 172 #[(.agg #[.map (some gm)]),.pointer (some (a.add o)),.bool ins] w fun e1 w'=>e1=.returned (.bool (sV k t n s ps b e ins))∧Below w.heap.size w w':=by
 obtain⟨As,cs,rfl,hcs⟩:=hn.vals.subs.form
 obtain⟨Ab,cb,rfl,hcb⟩:=hn.vals.body.form
 obtain⟨Ae,ce,rfl,hce⟩:=hn.vals.els.form
 have uA:=hid hn.vals.aX
 obtain⟨Ap,cp,rfl,kX,-⟩:=hn.vals.aX
 have HN:=hid hn
 have HR:=hid hR
 have Hs:=hid HS
 have Hb:=hid HB
 have He:=hid HE
 have HPz:=hid eF
 have J4:gm<w.heap.size:=eC.lt hR
 clear hR HS HB HE eF
 rcases BX:UF k with⟨x,lo,hi,bd,ot,fn⟩
 have HQ:=hid (bK8 qN hk2 BX t n s ps b e ins)
 have aS8:=hid (fun (W:World) (h:EN W gm)=>(show (Instr.lookup 186 (.map (some gm)) (.int .u8 (k:Int)) true).run Tryz.prog W=.ok (.tuple #[.agg #[.int .i64 x,.int .i64 lo,.int .i64 hi,.bool bd,.bool ot,.bool fn],.bool true]) W by
  have:=h.look qN hk2
  rw[BX] at this
  exact this))
 clear BX
 have HA:=hid ((Below.refl w.heap.size w).alloc (aC _) (.cells #[.map (some gm)] 189))
 have bN:=hid (aG.new w 189 #[.map (some gm)])
 go_enter Tryz.func172,Tryz.ntmps172
 go_upto_region 1 with fail
 generalize w.alloc (.cells #[.map (some gm)] 189)=w0 at *
 have hz0:w.heap.size<w0.heap.size:=bN.out.lt
 have c0:w0.cell? ⟨w.heap.size,0,none⟩=some (.map (some gm)):=bN.out.cell 0
 have eA:=hid (HR.out.same (HA.out.block gm J4))
 obtain⟨d0,d1,d2,d3,d4,d5,d6⟩:=(HN.out.below (HA.out.mono hB)).cells
 have hab:(a.add o).block<w0.heap.size:=mX d0
 have hru:=aS8.out w0.drew (eA.out.same rfl)
 have a7H:gm<w0.heap.size:=by omega
 go_cut [7,8] (fun p q wx=>p=.pointer (some ⟨w0.heap.size,0,none⟩)∧q=.bool true∧(w0.alloc (.cells #[.int .i64 x,.int .i64 lo,.int .i64 hi,.bool bd,.bool ot,.bool fn] 232)).drew=wx)
 case first=>as_aux_lemma=>
  go_region_held3 (fun w'=>w'.cell? ⟨w.heap.size,0,none⟩=some (.map (some gm))∧w'.cell? (a.add o)=some (.int .u8 (k:Int))∧(Instr.lookup 186 (.map (some gm)) (.int .u8 (k:Int)) true).run Tryz.prog w'=.ok (.tuple #[.agg #[.int .i64 x,.int .i64 lo,.int .i64 hi,.bool bd,.bool ot,.bool fn],.bool true]) w')
   (first
    |exact⟨(World.cell?_alloc_lt w0.drew _ _ hz0).trans c0,(World.cell?_alloc_lt w0.drew _ _ hab).trans d0,aS8.out _ (eA.out.same (Below.heap_alloc w0.drew _ gm a7H))⟩
    |go_keep)
   (fail)
  all_goals (go_wp2_with fail;go_meet;exact⟨rfl,rfl,rfl⟩)
 obtain⟨rfl,rfl,hwc⟩:=hcut
 have jV:=hid (show Below w.heap.size w wc by rw[←hwc];exact (HA.out.alloc (Nat.le_of_lt hz0) _).drew)
 have jM:=hid (show aG wc w.heap.size 189 #[.map (some gm)] by rw[←hwc];exact (bN.out.alloc _).drew)
 have aAE:=hid (show aG wc w0.heap.size 232 #[.int .i64 x,.int .i64 lo,.int .i64 hi,.bool bd,.bool ot,.bool fn] by rw[←hwc];exact (aG.new w0 _ _).drew)
 clear hwc c0 d0 d1 d2 d3 d4 d5 d6 hru hab eA aS8 HA bN
 obtain⟨w1,rfl⟩:∃y:World,y=wc:=⟨_,rfl⟩
 obtain⟨g2,hg2⟩:∃y:Nat,y=w0.heap.size:=⟨_,rfl⟩
 have hz2:w.heap.size<g2:=by omega
 rw[←hg2] at aAE
 rw[←hg2]
 clear hg2 hz0 a7H
 have hz1:g2<w1.heap.size:=aAE.out.lt
 have c0:w1.cell? ⟨w.heap.size,0,none⟩=some (.map (some gm)):=jM.out.cell 0
 obtain⟨r0,r1,r2,r3,r4,r5⟩:=aMS aAE.out
 obtain⟨d0,d1,d2,d3,d4,d5,d6⟩:=(HN.out.below (jV.out.mono hB)).cells
 have HF:=hid (bLS x t w1.drew ht)
 go_upto_block 0 with fail
 cases JK:JF nm op un x t with
 |false=>as_aux_lemma=>
  have HX:=hid (show sV k t n s ps b e ins=false by rw[HQ.out,JK];simp)
  rw[JK] at HF
  clear JK
  go_wp2_with fail
  go_still_tail 9,(by kernel_rfl)
  change wpList _ _ _ _ _ w1.drew
  go_wp2_with fail
  refine HF.out.mono ?_
  rintro e1 w2 ⟨rfl,hb2⟩
  have nR:=hid (jV.out.trans ((aXZ hb2).mono (show w.heap.size≤w1.drew.heap.size by show w.heap.size≤w1.heap.size;omega)))
  clear hb2
  go_wp2
  go_ret
  exact⟨aR HX.out.symm,nR.out⟩
 |true=>
  have AY:=hid (HQ.out.trans (by rw[JK,Bool.true_and]))
  rw[JK] at HF
  clear JK HQ
  go_wp2_with fail
  go_still_tail 9,(by kernel_rfl)
  change wpList _ _ _ _ _ w1.drew
  go_wp2_with fail
  refine HF.out.mono ?_
  rintro e1 w2 ⟨rfl,hb2⟩
  have JN:=aXZ hb2
  have rR:w.heap.size≤w1.drew.heap.size:=by show w.heap.size≤w1.heap.size;omega
  have nR:=hid (jV.out.trans (JN.mono rR))
  have BR:=hid (jM.out.below JN (show w.heap.size<w1.heap.size by omega))
  have aS_:=hid (aAE.out.below JN (show g2<w1.heap.size by omega))
  clear hb2 JN rR c0 r0 r1 r2 r3 r4 r5 d0 d1 d2 d3 d4 d5 d6 HF jV jM aAE hz1
  obtain⟨r0,r1,r2,r3,r4,r5⟩:=aMS aS_.out
  obtain⟨d0,d1,d2,d3,d4,d5,d6⟩:=(HN.out.below (nR.out.mono hB)).cells
  by_cases tV:s.len<lo
  · have b1:decide ((s.len:Int)<(lo:Int))=true:=bF (by omega)
    have b1':decide (s.len<lo)=true:=bF tV
    have HX:=hid (show sV k t n s ps b e ins=false by rw[AY.out,bP (show ¬lo≤s.len by omega)];simp)
    go_wp2_with fail
    go_quiet (fail)
    go_wp2
    go_ret
    exact⟨aR HX.out.symm,below_drewN nR.out _⟩
  have b1:decide ((s.len:Int)<(lo:Int))=false:=bP (by omega)
  have b1':decide (s.len<lo)=false:=bP tV
  have P8:=hid (AY.out.trans (by rw[bF (show lo≤s.len by omega),Bool.true_and]))
  clear AY
  by_cases SD:s.len > hi
  · have b2:decide ((s.len:Int) > (hi:Int))=true:=bF (by omega)
    have b2':decide (hi<s.len)=true:=bF SD
    have HX:=hid (show sV k t n s ps b e ins=false by rw[P8.out,bP (show ¬s.len≤hi by omega)];simp)
    go_wp2_with fail
    go_quiet (fail)
    go_wp2_with fail
    go_quiet (fail)
    go_wp2
    go_ret
    exact⟨aR HX.out.symm,below_drewN (below_drewN nR.out _) _⟩
  have b2:decide ((s.len:Int) > (hi:Int))=false:=bP (by omega)
  have b2':decide (hi<s.len)=false:=bP SD
  have II:=hid (P8.out.trans (by rw[bF (show s.len≤hi by omega),Bool.true_and]))
  clear P8
  go_wp2_with fail
  go_quiet (fail)
  go_wp2_with fail
  go_quiet (fail)
  go_upto_region 6 with fail
  go_cut [48] (fun q wx=>q=.bool (!kP k n)∧Hid (∃m,w2.drewN m=wx))
  case first=>as_aux_lemma=>
   by_cases n1:n<0
   · have z1:decide (n<0)=true:=bF n1
     have HE:=hid (show kP k n=false by unfold kP;rw[z1];rfl)
     clear n1
     go_wp2
     go_meet
     exact⟨by rw[HE.out];rfl,hid ⟨_,rfl⟩⟩
   have z1:decide (n<0)=false:=bP n1
   by_cases n2:n=0
   · subst n2
     have HE:=hid (show kP k 0=true by unfold kP;simp)
     go_wp2
     go_meet
     exact⟨by rw[HE.out];rfl,hid ⟨_,rfl⟩⟩
   have z2:(n != 0)=true:=bne_iff_ne.2 n2
   by_cases n3:k=1
   · have z3:((k:Int) != 1)=false:=by rw[n3];rfl
     have HE:=hid (show kP k n=true by unfold kP;rw[z1,n3];simp)
     clear n1 n2 n3
     go_wp2
     go_meet
     exact⟨by rw[HE.out];rfl,hid ⟨_,rfl⟩⟩
   have z3:((k:Int) != 1)=true:=bne_iff_ne.2 (by omega)
   have HE:=hid (show kP k n=false by unfold kP;rw[z1,bF (show n≠0 from n2),bF (show k≠1 from n3)];rfl)
   clear n1 n2 n3
   go_wp2
   go_meet
   exact⟨by rw[HE.out];rfl,hid ⟨_,rfl⟩⟩
  obtain⟨rfl,hwc⟩:=hcut
  have rC:=hid (show Below w.heap.size w wc by obtain⟨m,rfl⟩:=hwc.out;exact below_drewN nR.out _)
  have Q_:=hid (show aG wc w.heap.size 189 #[.map (some gm)] by obtain⟨m,rfl⟩:=hwc.out;exact BR.out.drewN _)
  have aS9:=hid (show aG wc g2 232 #[.int .i64 x,.int .i64 lo,.int .i64 hi,.bool bd,.bool ot,.bool fn] by obtain⟨m,rfl⟩:=hwc.out;exact aS_.out.drewN _)
  clear hwc r0 r1 r2 r3 r4 r5 d0 d1 d2 d3 d4 d5 d6 nR BR aS_ b1 b1' b2 b2' tV SD
  obtain⟨w3,rfl⟩:∃y:World,y=wc:=⟨_,rfl⟩
  obtain⟨r0,r1,r2,r3,r4,r5⟩:=aMS aS9.out
  obtain⟨d0,d1,d2,d3,d4,d5,d6⟩:=(HN.out.below (rC.out.mono hB)).cells
  cases hno:kP k n with
  |false=>
   have HX:=hid (show sV k t n s ps b e ins=false by rw[II.out,hno];simp)
   clear hno
   go_wp2
   go_ret
   exact⟨aR HX.out.symm,rC.out⟩
  |true=>
   have CF:=hid (II.out.trans (by rw[hno,Bool.true_and]))
   clear hno II
   go_upto_region 8 with fail
   go_cut [68] (fun q wx=>(∃q8:Bool,q=.bool q8∧Hid (q8=(!fn&&decide (0<ps.length))))∧w3=wx)
   case first=>as_aux_lemma=>
    have HG:=hid (show decide ((ps.length:Int) > 0)=decide (0<ps.length) by rw[decide_eq_decide];omega)
    cases fn<;>cases hp:decide (0<ps.length)<;>
    (have V9:=HG.out.trans hp
     go_wp2
     go_meet
     exact⟨⟨_,rfl,hid (by rw[hp];rfl)⟩,rfl⟩)
   obtain⟨⟨q8,rfl,hq8⟩,rfl⟩:=hcut
   go_upto_if 68 with fail
   go_cut [68] (fun q wx=>(∃q9:Bool,q=.bool q9∧Hid (Z_ fn bd ot ps b.len e.len=q9))∧w3=wx)
   case first=>as_aux_lemma=>
    have HG:=hid (show ∀m:Nat,decide ((m:Int) > 0)=decide (0<m) from fun m=>by rw[decide_eq_decide];omega)
    have HE:=hid (show Z_ fn bd ot ps b.len e.len=(q8||(!bd&&decide (0<b.len))||(!ot&&decide (0<e.len))) by unfold Z_;rw[hq8.out])
    clear hq8
    cases q8 with
    |true=>
     have bM:=hid (HE.out.trans (by rw[Bool.true_or,Bool.true_or]))
     go_wp2
     go_meet
     exact⟨⟨_,rfl,bM⟩,rfl⟩
    |false=>
     cases bd<;>cases ot<;>cases hb0:decide (0<b.len)<;>cases he0:decide (0<e.len)<;>
     (have hb1:=(HG.out b.len).trans hb0
      have he1:=(HG.out e.len).trans he0
      have bM:=HE
      rw[hb0,he0] at bM
      clear HE
      go_wp2
      go_meet
      exact⟨⟨_,rfl,bM⟩,rfl⟩)
   obtain⟨⟨q9,rfl,hq9⟩,rfl⟩:=hcut
   clear hq8
   cases q9 with
   |true=>
    have HX:=hid (show sV k t n s ps b e ins=false by rw[CF.out,hq9.out];simp)
    go_wp2
    go_ret
    exact⟨aR HX.out.symm,rC.out⟩
   |false=>
    have t_:=hid (CF.out.trans (by rw[hq9.out,Bool.not_false,Bool.true_and]))
    clear hq9 CF
    go_upto_region 12 with fail
    go_cut [102] (fun q wx=>(∃q3:Bool,q=.bool q3∧Hid ((fn&&(ins||!mF nm ps))=q3))∧Hid (Below w3.heap.size w3 wx))
    case first=>as_aux_lemma=>
     have Cn:=hid (aY7 _ ps B w3 (uA.out.below (rC.out.mono hB)) (by have:=rC.out.size;omega) hpl HPz.out)
     generalize mF nm ps=nk at *
     cases fn with
     |false=>
      go_wp2
      go_meet
      exact⟨⟨_,rfl,hid (Bool.false_and _)⟩,hid (Below.refl _ _)⟩
     |true=>
      cases ins with
      |true=>
       go_wp2
       go_meet
       exact⟨⟨_,rfl,hid rfl⟩,hid (Below.refl _ _)⟩
      |false=>
       cases nk<;>
       (go_wp2_with fail
        refine Cn.out.mono ?_
        rintro e1 w6 ⟨rfl,b_⟩
        have fZ:=hid b_
        clear b_
        go_wp2
        go_meet
        exact⟨⟨_,rfl,hid rfl⟩,fZ⟩)
    obtain⟨⟨q3,rfl,lD⟩,hb4⟩:=hcut
    have hz3:w.heap.size<w3.heap.size:=Q_.out.lt
    have OD:g2<w3.heap.size:=aS9.out.lt
    have nQ:=hid (rC.out.trans (hb4.out.mono (Nat.le_of_lt hz3)))
    have aAN:=hid (Q_.out.below hb4.out hz3)
    have a8V:=hid (aS9.out.below hb4.out OD)
    clear hb4 r0 r1 r2 r3 r4 r5 d0 d1 d2 d3 d4 d5 d6
    obtain⟨w4,rfl⟩:∃y:World,y=wc:=⟨_,rfl⟩
    cases q3 with
    |true=>
     have HX:=hid (show sV k t n s ps b e ins=false by rw[t_.out,lD.out];simp)
     go_wp2
     go_ret
     exact⟨aR HX.out.symm,nQ.out⟩
    |false=>
     have DZ:=hid (t_.out.trans (by rw[lD.out,Bool.not_false,Bool.true_and]))
     clear lD t_
     have r5:∀p:BW w4,p.wd.cell? ⟨g2,5,none⟩=some (.bool fn):=j6 a8V.out.lt (a8V.out.cell 5)
     have c0:∀p:BW w4,p.wd.cell? ⟨w.heap.size,0,none⟩=some (.map (some gm)):=j6 aAN.out.lt (aAN.out.cell 0)
     obtain⟨DV,HJ,FE,d3',d4',d5',d6'⟩:=(HN.out.below (nQ.out.mono hB)).cells
     have d3:=j6 (mX d3') d3'
     have d5:=j6 (mX d5') d5'
     have d6:=j6 (mX d6') d6'
     clear DV HJ FE d3' d4' d5' d6'
     have C1:=hid (fun p:BW w4=>Hs.out p.wd ins (nQ.out.trans (p.ok.mono (by have:=nQ.out.size;omega))))
     have C2:=hid (fun (p:BW w4) (i:Bool)=>Hb.out p.wd i (nQ.out.trans (p.ok.mono (by have:=nQ.out.size;omega))))
     have C3:=hid (fun p:BW w4=>He.out p.wd ins (nQ.out.trans (p.ok.mono (by have:=nQ.out.size;omega))))
     clear Hs Hb He
     cases nE:bE (eJ nm op un) s true ins with
     |false=>as_aux_lemma=>
      have HX:=hid (show sV k t n s ps b e ins=false by rw[DZ.out,nE];simp)
      rw[nE] at C1
      clear nE
      go_upto_region 14 with fail
      refine kK (by kernel_rfl) (by kernel_rfl) ?_
      repeat (go_big_quiet_step (first|((go_at_call 216;with_reducible exact dE (C1.out _)))|((go_at_call 125;with_reducible exact dE (C2.out _ _)))|((go_at_call 125;with_reducible exact dE (C3.out _)))))
      refine wpQuiet_nil ?_
      intro _ hw'
      obtain⟨p,hw''⟩:=hw'
      subst hw''
      have iN:=hid (nQ.out.trans (p.ok.mono (by have:=nQ.out.size;omega)))
      go_wp2
      go_ret
      exact⟨aR HX.out.symm,iN.out⟩
     |true=>
      have P7:=hid (DZ.out.trans (by rw[nE,Bool.true_and]))
      rw[nE] at C1
      clear nE DZ
      cases ins with
      |true=>
       have sN:=hid (fun p:BW w4=>C2.out p true)
       have TI:=hid (P7.out.trans (show _=(bE (eJ nm op un) b false true&&bE (eJ nm op un) e false true) by rw[Bool.true_or]))
       clear C2 P7
       cases fW:bE (eJ nm op un) b false true with
       |false=>as_aux_lemma=>
        have HX:=hid (TI.out.trans (by rw[fW,Bool.false_and]))
        rw[fW] at sN
        clear fW
        go_upto_region 14 with fail
        refine kK (by kernel_rfl) (by kernel_rfl) ?_
        repeat (go_big_quiet_step (first|((go_at_call 216;with_reducible exact dE (C1.out _)))|((go_at_call 125;with_reducible exact dE (sN.out _)))|((go_at_call 125;with_reducible exact dE (C3.out _)))))
        refine wpQuiet_nil ?_
        intro _ hw'
        obtain⟨p,hw''⟩:=hw'
        subst hw''
        have iN:=hid (nQ.out.trans (p.ok.mono (by have:=nQ.out.size;omega)))
        go_wp2
        go_ret
        exact⟨aR HX.out.symm,iN.out⟩
       |true=>as_aux_lemma=>
        have HX:=hid (TI.out.trans (by rw[fW,Bool.true_and]))
        rw[fW] at sN
        clear fW TI
        go_upto_region 14 with fail
        refine kK (by kernel_rfl) (by kernel_rfl) ?_
        repeat (go_big_quiet_step (first|((go_at_call 216;with_reducible exact dE (C1.out _)))|((go_at_call 125;with_reducible exact dE (sN.out _)))|((go_at_call 125;with_reducible exact dE (C3.out _)))))
        refine wpQuiet_nil ?_
        intro _ hw'
        obtain⟨p,hw''⟩:=hw'
        subst hw''
        have iN:=hid (nQ.out.trans (p.ok.mono (by have:=nQ.out.size;omega)))
        go_wp2
        go_ret
        exact⟨aR HX.out.symm,iN.out⟩
      |false=>
       have sN:=hid (fun p:BW w4=>C2.out p fn)
       have TI:=hid (P7.out.trans (show _=(bE (eJ nm op un) b false fn&&bE (eJ nm op un) e false false) by rw[Bool.false_or]))
       clear C2 P7
       cases fW:bE (eJ nm op un) b false fn with
       |false=>as_aux_lemma=>
        have HX:=hid (TI.out.trans (by rw[fW,Bool.false_and]))
        rw[fW] at sN
        clear fW
        go_upto_region 14 with fail
        refine kK (by kernel_rfl) (by kernel_rfl) ?_
        repeat (go_big_quiet_step (first|((go_at_call 216;with_reducible exact dE (C1.out _)))|((go_at_call 125;with_reducible exact dE (sN.out _)))|((go_at_call 125;with_reducible exact dE (C3.out _)))))
        refine wpQuiet_nil ?_
        intro _ hw'
        obtain⟨p,hw''⟩:=hw'
        subst hw''
        have iN:=hid (nQ.out.trans (p.ok.mono (by have:=nQ.out.size;omega)))
        go_wp2
        go_ret
        exact⟨aR HX.out.symm,iN.out⟩
       |true=>as_aux_lemma=>
        have HX:=hid (TI.out.trans (by rw[fW,Bool.true_and]))
        rw[fW] at sN
        clear fW TI
        go_upto_region 14 with fail
        refine kK (by kernel_rfl) (by kernel_rfl) ?_
        repeat (go_big_quiet_step (first|((go_at_call 216;with_reducible exact dE (C1.out _)))|((go_at_call 125;with_reducible exact dE (sN.out _)))|((go_at_call 125;with_reducible exact dE (C3.out _)))))
        refine wpQuiet_nil ?_
        intro _ hw'
        obtain⟨p,hw''⟩:=hw'
        subst hw''
        have iN:=hid (nQ.out.trans (p.ok.mono (by have:=nQ.out.size;omega)))
        go_wp2
        go_ret
        exact⟨aR HX.out.symm,iN.out⟩
theorem aZS {i:Nat} {l:Fo} {k:Nat} {t:aA} {n:Int} {s:Fo} {ps:List aA} {b e r:Fo} (h:Fo.drop i l=.cons k t n s ps b e r) (ex ins:Bool):
 bE (eJ nm op un) (Fo.drop i l) ex ins=(Sl.kindOk ex k&&sV k t n s ps b e ins&&bE (eJ nm op un) r ex ins):=by
 rw[h,bE]
 unfold sV
 simp only[Bool.and_assoc]
theorem bKA (gm B K:Nat) (hK:K≤140737488355328) (l:Fo) (v:Value) (w:World) (hl:cM w B v l) (hR:EN w gm) (hB:B≤w.heap.size) (cX:Fo.cO K l) (hlen:l.len<K)
 (H1:∀(W:World) (ins:Bool) (a:Addr) (o k:Nat) (t:aA) (n:Int) (s:Fo) (ps:List aA) (b e:Fo) (sv pv bv ev:Value),Below w.heap.size w W→1≤k→k≤27→uM W B a o k t n s ps b e sv pv bv ev→Fo.cO K (.cons k t n s ps b e .nil)→s.cnt+b.cnt+e.cnt+1≤l.cnt→
  Calls Tryz.prog 172 #[(.agg #[.map (some gm)]),.pointer (some (a.add o)),.bool ins] W fun e1 w'=>e1=.returned (.bool (sV k t n s ps b e ins))∧Below W.heap.size W w'):
 KW 125 gm v w (bE (eJ nm op un) l false):=by
 intro w0 ins hw0
 obtain⟨A,cap,rfl,cB⟩:=hl.form
 have HL:=hid hl
 have HO:=hid cX
 have HW:=hid hw0
 have H2:=hid H1
 have J4:gm<w.heap.size:=eC.lt hR
 have rR:=hw0.size
 clear hl cX hR H1 hw0
 have HA:=hid ((Below.refl w0.heap.size w0).alloc (aC _) (.cells #[.map (some gm)] 189))
 have bN:=hid (aG.new w0 189 #[.map (some gm)])
 go_enter Tryz.func125,Tryz.ntmps125
 go_upto_region 1 with fail
 generalize w0.alloc (.cells #[.map (some gm)] 189)=w1 at *
 have hz1:w0.heap.size<w1.heap.size:=bN.out.lt
 go_wp2
 go_loopg [10] l.len (fun q i wr=>∃j:Nat,j≤l.len∧q=l.len-j∧i=.int .i64 j∧Hid (bE (eJ nm op un) l false ins=bE (eJ nm op un) (Fo.drop j l) false ins)∧Hid (Below w1.heap.size w1 wr))
 case atStart=>exact⟨0,Nat.zero_le _,rfl,rfl,hid (by rw[Fo.drop]),hid (Below.refl _ _)⟩
 obtain⟨j,hj,hq,rfl,hE,hL⟩:=hrel
 have Hq:=hid hq
 clear hq
 obtain⟨wx,rfl⟩:∃x:World,x=wr:=⟨_,rfl⟩
 have o_:=hL.out.size
 have MW:=hid (HA.out.trans (hL.out.mono (by omega)))
 have P_:=hid (HW.out.trans (MW.out.mono rR))
 by_cases hlt:j<l.len
 rotate_left
 · have HX:=hid (hE.out.trans (show bE (eJ nm op un) (Fo.drop j l) false ins=true by rw[show j=l.len by omega,gB,bE]))
   clear hE
   go_wp2
   go_ret
   exact⟨aR HX.out.symm,MW.out⟩
 obtain⟨a,kk,t,nn,s,ps,b,e,r,sv,pv,bv,ev,rfl,aI,hno⟩:=(HL.out.below (P_.out.mono hB)).at_ hlt
 have dL:=kN aI
 have dN:Fo.cO K (.cons kk t nn s ps b e r):=aI▸IZ HO.out
 have S_:=hid (show Fo.cO K (.cons kk t nn s ps b e .nil) from⟨dN.1,dN.2.1,dN.2.2.1,dN.2.2.2.1,dN.2.2.2.2.1,dN.2.2.2.2.2.1,dN.2.2.2.2.2.2.1,dN.2.2.2.2.2.2.2.1,dN.2.2.2.2.2.2.2.2.1,dN.2.2.2.2.2.2.2.2.2.1,dN.2.2.2.2.2.2.2.2.2.2.1,trivial⟩)
 have HE:=hid (hE.out.trans (aZS aI false ins))
 have HN:=hid hno
 have Hd:=hid aI
 have hab:(a.add (j*7)).block<wx.heap.size:=mX hno.kind
 have d0:=j6 hab hno.kind
 have c0:∀p:BW wx,p.wd.cell? ⟨w0.heap.size,0,none⟩=some (.map (some gm)):=j6 (show w0.heap.size<wx.heap.size by omega) ((bN.out.below hL.out hz1).cell 0)
 have CK:=hid (fun p:BW wx=>(bEH kk p.wd).mono (R':=fun e w'=>e=.returned (.bool (k8 kk))∧Below p.wd.heap.size p.wd w') (fun e w' h=>⟨h.1,by rw[←h.2];exact Below.refl _ _⟩))
 clear hno aI dN hE
 cases jA:k8 kk with
 |false=>
  have HX:=hid (HE.out.trans (by rw[show Sl.kindOk false kk=false from jA,Bool.false_and,Bool.false_and]))
  rw[jA] at CK
  clear jA HE
  go_upto_region 4 with fail
  refine kK (by kernel_rfl) (by kernel_rfl) ?_
  repeat (go_big_quiet_step ((go_at_call 171;with_reducible exact dE (CK.out _))))
  refine wpQuiet_nil ?_
  intro _ hw'
  obtain⟨p,hw''⟩:=hw'
  subst hw''
  have iN:=hid (MW.out.trans (p.ok.mono (by omega)))
  go_wp2
  go_ret
  exact⟨aR HX.out.symm,iN.out⟩
 |true=>
  have B1:1≤kk∧kk≤27:=by unfold k8 at jA;simp at jA;omega
  have CN:=hid (fun p:BW wx=>H2.out p.wd ins a (j*7) kk t nn s ps b e sv pv bv ev (P_.out.trans (p.ok.mono (by omega))) B1.1 B1.2 (HN.out.below (p.ok.mono (by omega))) S_.out (by omega))
  have sI:=hid (HE.out.trans (by rw[show Sl.kindOk false kk=true from jA,Bool.true_and]))
  rw[jA] at CK
  clear jA HE B1
  generalize sV kk t nn s ps b e ins=nb at *
  cases nb with
  |false=>
   have HX:=hid (sI.out.trans (Bool.false_and _))
   clear sI
   go_upto_region 4 with fail
   refine kK (by kernel_rfl) (by kernel_rfl) ?_
   repeat (go_big_quiet_step (first|((go_at_call 171;with_reducible exact dE (CK.out _)))|((go_at_call 172;with_reducible exact dE (CN.out _)))))
   refine wpQuiet_nil ?_
   intro _ hw'
   obtain⟨p,hw''⟩:=hw'
   subst hw''
   have iN:=hid (MW.out.trans (p.ok.mono (by omega)))
   go_wp2
   go_ret
   exact⟨aR HX.out.symm,iN.out⟩
  |true=>
   have HX:=hid (sI.out.trans (Bool.true_and _))
   clear sI
   go_upto_region 4 with fail
   refine kK (by kernel_rfl) (by kernel_rfl) ?_
   repeat (go_big_quiet_step (first|((go_at_call 171;with_reducible exact dE (CK.out _)))|((go_at_call 172;with_reducible exact dE (CN.out _)))))
   refine wpQuiet_nil ?_
   intro _ hw'
   obtain⟨p,hw''⟩:=hw'
   subst hw''
   have iN:=hid (hL.out.trans (p.ok.mono (by omega)))
   go_wp2
   go_roundg (l.len-(j+1))
   case rel=>exact⟨j+1,hlt,rfl,by go_num,hid (by rw[eD Hd.out];exact HX.out),iN⟩
   rw[Hq.out];omega
theorem bKC (gm B K:Nat) (hK:K≤140737488355328) (l:Fo) (v:Value) (w:World) (hl:cM w B v l) (hR:EN w gm) (hB:B≤w.heap.size) (cX:Fo.cO K l) (hlen:l.len<K)
 (H1:∀(W:World) (ins:Bool) (a:Addr) (o k:Nat) (t:aA) (n:Int) (s:Fo) (ps:List aA) (b e:Fo) (sv pv bv ev:Value),Below w.heap.size w W→1≤k→k≤27→uM W B a o k t n s ps b e sv pv bv ev→Fo.cO K (.cons k t n s ps b e .nil)→s.cnt+b.cnt+e.cnt+1≤l.cnt→
  Calls Tryz.prog 172 #[(.agg #[.map (some gm)]),.pointer (some (a.add o)),.bool ins] W fun e1 w'=>e1=.returned (.bool (sV k t n s ps b e ins))∧Below W.heap.size W w'):
 KW 216 gm v w (bE (eJ nm op un) l true):=by
 intro w0 ins hw0
 obtain⟨A,cap,rfl,cB⟩:=hl.form
 have HL:=hid hl
 have HO:=hid cX
 have HW:=hid hw0
 have H2:=hid H1
 have J4:gm<w.heap.size:=eC.lt hR
 have rR:=hw0.size
 clear hl cX hR H1 hw0
 have HA:=hid ((Below.refl w0.heap.size w0).alloc (aC _) (.cells #[.map (some gm)] 189))
 have bN:=hid (aG.new w0 189 #[.map (some gm)])
 go_enter Tryz.func216,Tryz.ntmps216
 go_upto_region 1 with fail
 generalize w0.alloc (.cells #[.map (some gm)] 189)=w1 at *
 have hz1:w0.heap.size<w1.heap.size:=bN.out.lt
 go_wp2
 go_loopg [10] l.len (fun q i wr=>∃j:Nat,j≤l.len∧q=l.len-j∧i=.int .i64 j∧Hid (bE (eJ nm op un) l true ins=bE (eJ nm op un) (Fo.drop j l) true ins)∧Hid (Below w1.heap.size w1 wr))
 case atStart=>exact⟨0,Nat.zero_le _,rfl,rfl,hid (by rw[Fo.drop]),hid (Below.refl _ _)⟩
 obtain⟨j,hj,hq,rfl,hE,hL⟩:=hrel
 have Hq:=hid hq
 clear hq
 obtain⟨wx,rfl⟩:∃x:World,x=wr:=⟨_,rfl⟩
 have o_:=hL.out.size
 have MW:=hid (HA.out.trans (hL.out.mono (by omega)))
 have P_:=hid (HW.out.trans (MW.out.mono rR))
 by_cases hlt:j<l.len
 rotate_left
 · have HX:=hid (hE.out.trans (show bE (eJ nm op un) (Fo.drop j l) true ins=true by rw[show j=l.len by omega,gB,bE]))
   clear hE
   go_wp2
   go_ret
   exact⟨aR HX.out.symm,MW.out⟩
 obtain⟨a,kk,t,nn,s,ps,b,e,r,sv,pv,bv,ev,rfl,aI,hno⟩:=(HL.out.below (P_.out.mono hB)).at_ hlt
 have dL:=kN aI
 have dN:Fo.cO K (.cons kk t nn s ps b e r):=aI▸IZ HO.out
 have S_:=hid (show Fo.cO K (.cons kk t nn s ps b e .nil) from⟨dN.1,dN.2.1,dN.2.2.1,dN.2.2.2.1,dN.2.2.2.2.1,dN.2.2.2.2.2.1,dN.2.2.2.2.2.2.1,dN.2.2.2.2.2.2.2.1,dN.2.2.2.2.2.2.2.2.1,dN.2.2.2.2.2.2.2.2.2.1,dN.2.2.2.2.2.2.2.2.2.2.1,trivial⟩)
 have HE:=hid (hE.out.trans (aZS aI true ins))
 have HN:=hid hno
 have Hd:=hid aI
 have hab:(a.add (j*7)).block<wx.heap.size:=mX hno.kind
 have d0:=j6 hab hno.kind
 have c0:∀p:BW wx,p.wd.cell? ⟨w0.heap.size,0,none⟩=some (.map (some gm)):=j6 (show w0.heap.size<wx.heap.size by omega) ((bN.out.below hL.out hz1).cell 0)
 have CK:=hid (fun p:BW wx=>(bHV kk p.wd).mono (R':=fun e w'=>e=.returned (.bool (pS kk))∧Below p.wd.heap.size p.wd w') (fun e w' h=>⟨h.1,by rw[←h.2];exact Below.refl _ _⟩))
 clear hno aI dN hE
 cases jA:pS kk with
 |false=>
  have HX:=hid (HE.out.trans (by rw[show Sl.kindOk true kk=false from jA,Bool.false_and,Bool.false_and]))
  rw[jA] at CK
  clear jA HE
  go_upto_region 4 with fail
  refine kK (by kernel_rfl) (by kernel_rfl) ?_
  repeat (go_big_quiet_step ((go_at_call 257;with_reducible exact dE (CK.out _))))
  refine wpQuiet_nil ?_
  intro _ hw'
  obtain⟨p,hw''⟩:=hw'
  subst hw''
  have iN:=hid (MW.out.trans (p.ok.mono (by omega)))
  go_wp2
  go_ret
  exact⟨aR HX.out.symm,iN.out⟩
 |true=>
  have B1:1≤kk∧kk≤27:=by unfold pS at jA;simp at jA;omega
  have CN:=hid (fun p:BW wx=>H2.out p.wd ins a (j*7) kk t nn s ps b e sv pv bv ev (P_.out.trans (p.ok.mono (by omega))) B1.1 B1.2 (HN.out.below (p.ok.mono (by omega))) S_.out (by omega))
  have sI:=hid (HE.out.trans (by rw[show Sl.kindOk true kk=true from jA,Bool.true_and]))
  rw[jA] at CK
  clear jA HE B1
  generalize sV kk t nn s ps b e ins=nb at *
  cases nb with
  |false=>
   have HX:=hid (sI.out.trans (Bool.false_and _))
   clear sI
   go_upto_region 4 with fail
   refine kK (by kernel_rfl) (by kernel_rfl) ?_
   repeat (go_big_quiet_step (first|((go_at_call 257;with_reducible exact dE (CK.out _)))|((go_at_call 172;with_reducible exact dE (CN.out _)))))
   refine wpQuiet_nil ?_
   intro _ hw'
   obtain⟨p,hw''⟩:=hw'
   subst hw''
   have iN:=hid (MW.out.trans (p.ok.mono (by omega)))
   go_wp2
   go_ret
   exact⟨aR HX.out.symm,iN.out⟩
  |true=>
   have HX:=hid (sI.out.trans (Bool.true_and _))
   clear sI
   go_upto_region 4 with fail
   refine kK (by kernel_rfl) (by kernel_rfl) ?_
   repeat (go_big_quiet_step (first|((go_at_call 257;with_reducible exact dE (CK.out _)))|((go_at_call 172;with_reducible exact dE (CN.out _)))))
   refine wpQuiet_nil ?_
   intro _ hw'
   obtain⟨p,hw''⟩:=hw'
   subst hw''
   have iN:=hid (hL.out.trans (p.ok.mono (by omega)))
   go_wp2
   go_roundg (l.len-(j+1))
   case rel=>exact⟨j+1,hlt,rfl,by go_num,hid (by rw[eD Hd.out];exact HX.out),iN⟩
   rw[Hq.out];omega
theorem bKB (gm B K:Nat) (hK:K≤140737488355328):∀(c:Nat) (l:Fo) (v:Value) (w:World),l.cnt≤c→cM w B v l→EN w gm→B≤w.heap.size→Fo.cO K l→l.len<K→
 KW 216 gm v w (bE (eJ nm op un) l true)∧KW 125 gm v w (bE (eJ nm op un) l false):=fun c=>by
 induction c using Nat.strongRecOn with
 |ind c ih=>
 intro l v w hc hl hR hB cX hlen
 have sub:∀(W:World) (z:Fo) (vz:Value),z.cnt<c→Below w.heap.size w W→cM W B vz z→Fo.cO K z→z.len<K→KW 216 gm vz W (bE (eJ nm op un) z true)∧KW 125 gm vz W (bE (eJ nm op un) z false):=fun W z vz hz hb hv ho oF=>
  ih z.cnt hz z vz W (aC _) hv (hR.same (hb.block gm (eC.lt hR))) (Nat.le_trans hB hb.size) ho oF
 refine⟨bKC gm B K hK l v w hl hR hB cX hlen ?_,bKA gm B K hK l v w hl hR hB cX hlen ?_⟩<;>
 (rintro W ins a o k t n s ps b e sv pv bv ev hb qN hk2 hn ⟨p1,p2,p3,p4,p5,p6,p7,p8,p9,O5,RP,-⟩ dL
  exact bJO gm B W (hR.same (hb.block gm (eC.lt hR))) (Nat.le_trans hB hb.size) a o k t n s ps b e sv pv bv ev hn ins qN hk2 (by omega) (by omega) (fun x hx=>by have:=p5 x hx;omega) (sub W s sv (by omega) hb hn.vals.subs p9 p6).1 (sub W b bv (by omega) hb hn.vals.body O5 p7).2 (sub W e ev (by omega) hb hn.vals.els RP p8).2)
end
end Go.Proofs.YtdlndhbkcgmkkaaGreatDoor
