/-
 Part 19 of 35 of a proof about the given program: facts on which the last part stands.
-/
import Derived.Test.YtdlndhbkcgmkkaaGreatDoorFL18
import Derived.Lib.SliceRun
import Derived.OrdersHeld
import Derived.Laws.World
set_option maxHeartbeats 12800000
set_option linter.unusedVariables false
set_option linter.unusedSimpArgs false
set_option maxRecDepth 100000
namespace Go.Proofs.YtdlndhbkcgmkkaaGreatDoor
section
open Go.RowKit
open Go.Lib (hid)
namespace Sl
theorem bFN {i:Nat} {l:Fo} {k:Nat} {t:aA} {n:Int} {s:Fo} {ps:List aA} {b e r:Fo} (h:Fo.drop i l=.cons k t n s ps b e r) (out:List aA):letters (Fo.drop i l) out=letters (Fo.drop (i+1) l) (letters e (letters b (if k=14∨k=21 then out++[t] else out))):=by rw[eD h,h,letters]
theorem IW:∀(l:Fo) (out:List aA),(letters l out).length≤out.length+l.cnt
 |.nil,out=>by rw[letters];omega
 |.cons k t n s ps b e r,out=>by
   rw[letters]
   have h1:=IW r (letters e (letters b (if k=14∨k=21 then out++[t] else out)))
   have h2:=IW e (letters b (if k=14∨k=21 then out++[t] else out))
   have h3:=IW b (if k=14∨k=21 then out++[t] else out)
   have h4:(if k=14∨k=21 then out++[t] else out).length≤out.length+1:=by split<;>simp
   rw[Fo.cnt]
   omega
end Sl
open Sl
def KO (w w':World) (u v:Value):Prop:=∀(g:Nat) (t:TypeId) (cs:Array Value),aG w g t cs→u.ownBlock≠some g→aG w' g t cs∧v.ownBlock≠some g
theorem KO.refl (w:World) (u:Value):KO w w u u:=fun _ _ _ h h'=>⟨h,h'⟩
theorem KO.trans {a b c:World} {u v x:Value} (h:KO a b u v) (h':KO b c v x):KO a c u x:=fun g t cs h1 h2=>h' g t cs (h g t cs h1 h2).1 (h g t cs h1 h2).2
theorem KO.app {w w':World} {o:Obj} {u v:Value} (hg:(w.alloc o).grownBy w' u.ownBlock) (hat:v.ownBlock=u.ownBlock∨v.ownBlock=some (w.alloc o).heap.size):KO w w' u v:=fun g t cs h h'=>
 ⟨(h.alloc o).grown hg (fun e=>h' e.symm),fun e=>by
   rcases hat with e1|e1
   · exact h' (e1▸e)
   rw[e1] at e
   injection e with e
   have:=h.lt
   simp at e
   omega⟩
theorem bHP:∀(c:Nat) (l:Fo) (v:Value) (out:List aA) (vo:Value) (base B:Nat) (w:World),l.cnt≤c→cM w B v l→B≤base→base≤w.heap.size→aM w base vo out→l.cnt≤1000000→out.length+l.cnt≤500000000→
 Calls Tryz.prog 272 #[v,vo] w fun e w'=>∃v',e=.returned v'∧aM w' base v' (letters l out)∧Below base w w'∧KO w w' vo v':=fun c=>by
 induction c using Nat.strongRecOn with
 |ind c ih=>
 intro l v out vo base B w hc hl hB hbase hout BZ jS
 obtain⟨A,cap,rfl,cB⟩:=hl.form
 have HL:=hid hl
 have HI:=hid ih
 have HO:=hid hout
 have qM:=Fo.k7 l
 clear hl ih hout
 go_enter Tryz.func272,Tryz.ntmps272
 go_wp2
 go_loopg [1,9] l.len (fun g o i wr=>∃(vp:Value) (k:Nat) (acc:List aA),vp=o∧k≤l.len∧g=l.len-k∧i=.int .i64 k∧Hid (letters l out=letters (Fo.drop k l) acc)∧Hid (acc.length+(Fo.drop k l).cnt≤500000000)∧Hid (aM wr base vp acc)∧Hid (Below base w wr)∧Hid (KO w wr vo vp))
 case atStart=>exact⟨_,0,out,rfl,Nat.zero_le _,rfl,rfl,hid (by rw[Fo.drop]),hid (by rw[Fo.drop];exact jS),HO,hid (Below.refl _ _),hid (KO.refl _ _)⟩
 obtain⟨vp,k,acc,rfl,hk,hq,rfl,he,lT,hown,hb,hko⟩:=hrel
 have Hq:=hid hq
 clear hq
 obtain⟨wo,rfl⟩:∃x:World,x=wr:=⟨_,rfl⟩
 have hz:=hb.out.size
 have jP:base≤wo.heap.size:=by omega
 by_cases hlt:k<l.len
 rotate_left
 · have HE:=hid (he.out.trans (by rw[show k=l.len by omega,gB,letters]))
   clear he
   go_wp2
   go_ret
   exact⟨_,rfl,by rw[HE.out];exact hown.out,hb.out,hko.out⟩
 obtain⟨a,kk,t,nn,s,ps,b,e,r,sv,pv,bv,ev,rfl,aI,hno⟩:=(HL.out.below (hb.out.mono hB)).at_ hlt
 have dL:=kN aI
 have HE:=hid (he.out.trans (bFN aI acc))
 have aSB:acc.length+(1+s.cnt+b.cnt+e.cnt+r.cnt)≤500000000:=by
  have:=lT.out
  rw[aI,Fo.cnt] at this
  exact this
 have hdr:=hid (eD aI)
 obtain⟨Ab,cb,rfl,hcb⟩:=hno.vals.body.form
 obtain⟨Ae,ce,rfl,hce⟩:=hno.vals.els.form
 have HN:=hid hno.vals
 obtain⟨c0,c1,-,-,-,c5,c6⟩:=hno.cells
 have hab:(a.add (k*7)).block<B:=by rw[f_];exact hno.lt
 clear aI hno he lT
 obtain⟨gD,ha1⟩:∃z,z=if kk=14∨kk=21 then acc++[t] else acc:=⟨_,rfl⟩
 have hl1':gD.length≤acc.length+1:=by rw[ha1];split<;>simp
 rw[←ha1] at HE
 have Ha1:=hid ha1
 clear ha1
 by_cases gV:kk=14
 · have HA:=hid (show gD=acc++[t] by rw[Ha1.out,if_pos (.inl gV)])
   have dV:=hid (aF.alloc hown.out (.cells #[.string t] 9))
   have pL:=hid ((Below.refl base wo).alloc jP (.cells #[.string t] 9))
   have b1:((kk:Int)==14)=true:=beq_iff_eq.2 (by omega)
   clear gV
   go_wp2_with (at_builtin;go_must (refine BA rfl _ _ rfl base _ acc rfl dV.out _ _ 1 _ [t] _ rfl rfl uD rfl (by omega) (by simp;omega) ?_))
   intro vq w1 aZ aU kR
   have fD:=hid (show Below base wo w1 from aF.grown dV.out pL.out aU (by simp;omega))
   have PS:=hid (show aM w1 base vq gD by rw[HA.out];exact aZ)
   have hK1:=hid (show KO wo w1 vp vq from KO.app aU (by simpa using kR))
   clear aZ aU kR dV pL
   have hz1:=fD.out.size
   have oH:(a.add (k*7)).block<base:=by omega
   have d5:=(fD.out.cell (p:=⟨(a.add (k*7)).block,(a.add (k*7)).off+5,none⟩) oH).trans c5
   have d6:=(fD.out.cell (p:=⟨(a.add (k*7)).block,(a.add (k*7)).off+6,none⟩) oH).trans c6
   have E_:=IW b gD
   have P4:=hid (HN.out.below (fD.out.mono hB))
   have fH:=hid (HI.out b.cnt (by omega) b (.slice Ab b.len cb) gD vq base B w1.drew (aC _) (P4.out.body.below (below_drewN (Below.refl _ _) 1)) hB (show base≤w1.heap.size by omega) (show aM w1.drew base vq gD from PS.out) (by omega) (by omega))
   have iM:=hid (fun (v5:Value) (w5:World) (h5:Below base w1 w5) (aZ:aM w5 base v5 (letters b gD))=>HI.out e.cnt (by omega) e (.slice Ae e.len ce) (letters b gD) v5 base B w5 (aC _) (P4.out.els.below (h5.mono hB)) hB (by have:=h5.size;omega) aZ (by omega) (by omega))
   clear c0 c1 c5 c6 hown
   go_upto_region 7 with fail
   go_region_held3 (fun w'=>w'.cell? ⟨(a.add (k*7)).block,(a.add (k*7)).off+5,none⟩=some (.slice Ab b.len cb)∧w'.cell? ⟨(a.add (k*7)).block,(a.add (k*7)).off+6,none⟩=some (.slice Ae e.len ce))
    (first
     |exact OJ
     |exact GF
     |exact⟨d5,d6⟩
     |go_keep)
    (first
     |(go_at_call 272
       refine (iM.out _ _ cT iC).mono ?_
       rintro e7 w7 ⟨v7,rfl,j2,dI,PI⟩
       have iQ:Below base w1 w7:=cT.trans dI
       have OJ:=And.intro ((iQ.cell (p:=⟨(a.add (k*7)).block,(a.add (k*7)).off+5,none⟩) oH).trans d5) ((iQ.cell (p:=⟨(a.add (k*7)).block,(a.add (k*7)).off+6,none⟩) oH).trans d6))
     |(go_at_call 272
       refine fH.out.mono ?_
       rintro e6 w6 ⟨v6,rfl,iC,b_,B3⟩
       have cT:Below base w1 w6:=lM (n:=1) b_
       have GF:=And.intro ((cT.cell (p:=⟨(a.add (k*7)).block,(a.add (k*7)).off+5,none⟩) oH).trans d5) ((cT.cell (p:=⟨(a.add (k*7)).block,(a.add (k*7)).off+6,none⟩) oH).trans d6)))
   have hle:=IW e (letters b gD)
   have iV:=hid (hb.out.trans (fD.out.trans iQ))
   have HK8:=hid (hko.out.trans (hK1.out.trans (KO.trans (show KO w1 w6 vq v6 from B3) PI)))
   have kJ:=hid j2
   have G8:=hid (show letters l out=letters (Fo.drop (k+1) l) (letters e (letters b gD)) from HE.out)
   have qR:=hid (show (letters e (letters b gD)).length+(Fo.drop (k+1) l).cnt≤500000000 by rw[hdr.out];omega)
   clear GF OJ B3 PI iC j2 b_ dI cT iQ fH iM
   go_wp2
   go_roundg (l.len-(k+1))
   case rel=>exact⟨v7,k+1,_,rfl,hlt,rfl,by go_num,G8,qR,kJ,iV,HK8⟩
   rw[Hq.out];omega
 by_cases iR:kk=21
 · have HA:=hid (show gD=acc++[t] by rw[Ha1.out,if_pos (.inr iR)])
   have dV:=hid (aF.alloc hown.out (.cells #[.string t] 9))
   have pL:=hid ((Below.refl base wo).alloc jP (.cells #[.string t] 9))
   have b0:((kk:Int)==14)=false:=aP (by omega)
   have b1:((kk:Int)==21)=true:=beq_iff_eq.2 (by omega)
   clear gV iR
   go_wp2_with (at_builtin;go_must (refine BA rfl _ _ rfl base _ acc rfl dV.out _ _ 1 _ [t] _ rfl rfl uD rfl (by omega) (by simp;omega) ?_))
   intro vq w1 aZ aU kR
   have fD:=hid (show Below base wo w1 from aF.grown dV.out pL.out aU (by simp;omega))
   have PS:=hid (show aM w1 base vq gD by rw[HA.out];exact aZ)
   have hK1:=hid (show KO wo w1 vp vq from KO.app aU (by simpa using kR))
   clear aZ aU kR dV pL
   have hz1:=fD.out.size
   have oH:(a.add (k*7)).block<base:=by omega
   have d5:=(fD.out.cell (p:=⟨(a.add (k*7)).block,(a.add (k*7)).off+5,none⟩) oH).trans c5
   have d6:=(fD.out.cell (p:=⟨(a.add (k*7)).block,(a.add (k*7)).off+6,none⟩) oH).trans c6
   have E_:=IW b gD
   have P4:=hid (HN.out.below (fD.out.mono hB))
   have fH:=hid (HI.out b.cnt (by omega) b (.slice Ab b.len cb) gD vq base B w1.drew (aC _) (P4.out.body.below (below_drewN (Below.refl _ _) 1)) hB (show base≤w1.heap.size by omega) (show aM w1.drew base vq gD from PS.out) (by omega) (by omega))
   have iM:=hid (fun (v5:Value) (w5:World) (h5:Below base w1 w5) (aZ:aM w5 base v5 (letters b gD))=>HI.out e.cnt (by omega) e (.slice Ae e.len ce) (letters b gD) v5 base B w5 (aC _) (P4.out.els.below (h5.mono hB)) hB (by have:=h5.size;omega) aZ (by omega) (by omega))
   clear c0 c1 c5 c6 hown
   go_upto_region 7 with fail
   go_region_held3 (fun w'=>w'.cell? ⟨(a.add (k*7)).block,(a.add (k*7)).off+5,none⟩=some (.slice Ab b.len cb)∧w'.cell? ⟨(a.add (k*7)).block,(a.add (k*7)).off+6,none⟩=some (.slice Ae e.len ce))
    (first
     |exact OJ
     |exact GF
     |exact⟨d5,d6⟩
     |go_keep)
    (first
     |(go_at_call 272
       refine (iM.out _ _ cT iC).mono ?_
       rintro e7 w7 ⟨v7,rfl,j2,dI,PI⟩
       have iQ:Below base w1 w7:=cT.trans dI
       have OJ:=And.intro ((iQ.cell (p:=⟨(a.add (k*7)).block,(a.add (k*7)).off+5,none⟩) oH).trans d5) ((iQ.cell (p:=⟨(a.add (k*7)).block,(a.add (k*7)).off+6,none⟩) oH).trans d6))
     |(go_at_call 272
       refine fH.out.mono ?_
       rintro e6 w6 ⟨v6,rfl,iC,b_,B3⟩
       have cT:Below base w1 w6:=lM (n:=1) b_
       have GF:=And.intro ((cT.cell (p:=⟨(a.add (k*7)).block,(a.add (k*7)).off+5,none⟩) oH).trans d5) ((cT.cell (p:=⟨(a.add (k*7)).block,(a.add (k*7)).off+6,none⟩) oH).trans d6)))
   have hle:=IW e (letters b gD)
   have iV:=hid (hb.out.trans (fD.out.trans iQ))
   have HK8:=hid (hko.out.trans (hK1.out.trans (KO.trans (show KO w1 w6 vq v6 from B3) PI)))
   have kJ:=hid j2
   have G8:=hid (show letters l out=letters (Fo.drop (k+1) l) (letters e (letters b gD)) from HE.out)
   have qR:=hid (show (letters e (letters b gD)).length+(Fo.drop (k+1) l).cnt≤500000000 by rw[hdr.out];omega)
   clear GF OJ B3 PI iC j2 b_ dI cT iQ fH iM
   go_wp2
   go_roundg (l.len-(k+1))
   case rel=>exact⟨v7,k+1,_,rfl,hlt,rfl,by go_num,G8,qR,kJ,iV,HK8⟩
   rw[Hq.out];omega
 have HA:=hid (show gD=acc by rw[Ha1.out,if_neg (fun h=>h.elim gV iR)])
 have b0:((kk:Int)==14)=false:=aP (by omega)
 have b1:((kk:Int)==21)=false:=aP (by omega)
 clear gV iR
 go_upto_region 7 with fail
 obtain⟨w1,mO⟩:∃x:World,x=wo:=⟨_,rfl⟩
 obtain⟨vq,hvq⟩:∃x:Value,x=vp:=⟨_,rfl⟩
 have fD:=hid (show Below base wo wo from Below.refl _ _)
 have PS:=hid (show aM wo base vp gD by rw[HA.out];exact hown.out)
 have hK1:=hid (KO.refl wo vp)
 subst mO hvq
 have hz1:=fD.out.size
 have oH:(a.add (k*7)).block<base:=by omega
 have d5:=(fD.out.cell (p:=⟨(a.add (k*7)).block,(a.add (k*7)).off+5,none⟩) oH).trans c5
 have d6:=(fD.out.cell (p:=⟨(a.add (k*7)).block,(a.add (k*7)).off+6,none⟩) oH).trans c6
 have E_:=IW b gD
 have P4:=hid (HN.out.below (fD.out.mono hB))
 have fH:=hid (HI.out b.cnt (by omega) b (.slice Ab b.len cb) gD vq base B w1.drew (aC _) (P4.out.body.below (below_drewN (Below.refl _ _) 1)) hB (show base≤w1.heap.size by omega) (show aM w1.drew base vq gD from PS.out) (by omega) (by omega))
 have iM:=hid (fun (v5:Value) (w5:World) (h5:Below base w1 w5) (aZ:aM w5 base v5 (letters b gD))=>HI.out e.cnt (by omega) e (.slice Ae e.len ce) (letters b gD) v5 base B w5 (aC _) (P4.out.els.below (h5.mono hB)) hB (by have:=h5.size;omega) aZ (by omega) (by omega))
 clear c0 c1 c5 c6 hown
 go_upto_region 7 with fail
 go_region_held3 (fun w'=>w'.cell? ⟨(a.add (k*7)).block,(a.add (k*7)).off+5,none⟩=some (.slice Ab b.len cb)∧w'.cell? ⟨(a.add (k*7)).block,(a.add (k*7)).off+6,none⟩=some (.slice Ae e.len ce))
  (first
   |exact OJ
   |exact GF
   |exact⟨d5,d6⟩
   |go_keep)
  (first
   |(go_at_call 272
     refine (iM.out _ _ cT iC).mono ?_
     rintro e7 w7 ⟨v7,rfl,j2,dI,PI⟩
     have iQ:Below base w1 w7:=cT.trans dI
     have OJ:=And.intro ((iQ.cell (p:=⟨(a.add (k*7)).block,(a.add (k*7)).off+5,none⟩) oH).trans d5) ((iQ.cell (p:=⟨(a.add (k*7)).block,(a.add (k*7)).off+6,none⟩) oH).trans d6))
   |(go_at_call 272
     refine fH.out.mono ?_
     rintro e6 w6 ⟨v6,rfl,iC,b_,B3⟩
     have cT:Below base w1 w6:=lM (n:=1) b_
     have GF:=And.intro ((cT.cell (p:=⟨(a.add (k*7)).block,(a.add (k*7)).off+5,none⟩) oH).trans d5) ((cT.cell (p:=⟨(a.add (k*7)).block,(a.add (k*7)).off+6,none⟩) oH).trans d6)))
 have hle:=IW e (letters b gD)
 have iV:=hid (hb.out.trans (fD.out.trans iQ))
 have HK8:=hid (hko.out.trans (hK1.out.trans (KO.trans (show KO w1 w6 vq v6 from B3) PI)))
 have kJ:=hid j2
 have G8:=hid (show letters l out=letters (Fo.drop (k+1) l) (letters e (letters b gD)) from HE.out)
 have qR:=hid (show (letters e (letters b gD)).length+(Fo.drop (k+1) l).cnt≤500000000 by rw[hdr.out];omega)
 clear GF OJ B3 PI iC j2 b_ dI cT iQ fH iM
 go_wp2
 go_roundg (l.len-(k+1))
 case rel=>exact⟨v7,k+1,_,rfl,hlt,rfl,by go_num,G8,qR,kJ,iV,HK8⟩
 rw[Hq.out];omega
theorem bFM (c:Nat) (l:Fo) (v:Value) (out:List aA) (vo:Value) (base B:Nat) (w:World) (hc:l.cnt≤c) (hl:cM w B v l) (hB:B≤base) (hbase:base≤w.heap.size) (ho:aM w base vo out) (h1:l.cnt≤1000000) (h2:out.length+l.cnt≤500000000):
 Calls Tryz.prog 272 #[v,vo] w fun e w'=>∃v',e=.returned v'∧aM w' base v' (letters l out)∧Below base w w'∧∀(g:Nat) (t:TypeId) (cs:Array Value),aG w g t cs→vo.ownBlock≠some g→aG w' g t cs:=
 (bHP c l v out vo base B w hc hl hB hbase ho h1 h2).mono fun _ _ ⟨v',a,b,d,k⟩=>⟨v',a,b,d,fun g t cs x y=>(k g t cs x y).1⟩
end
section
open Go.RowKit
open Sl
open Go.Lib (hid)
theorem bK4 (q:Addr) (t BV:aA) (pv bv:Value) (w:World) (hq:w.cell? ⟨q.block,q.off+1,none⟩=some (.string t)) (hqs:q.block<w.heap.size):
 Calls Tryz.prog 212 #[.agg #[.string BV,pv,bv],.pointer (some q)] w fun e w'=>e=.returned (.bool (decide (BV=t)))∧Below w.heap.size w w':=by
 have hB:=hid ((Below.refl w.heap.size w).alloc (aC _) (.cells #[.string BV,pv,bv] 112))
 have q1:=(hB.out.cell (p:=⟨q.block,q.off+1,none⟩) hqs).trans hq
 go_enter Tryz.func212,Tryz.ntmps212
 go_wp2
 go_ret
 refine⟨aR ?_,hB.out⟩
 by_cases h:BV=t
 · rw[(Lib.bytes_beq_iff BV t).2 h,bF h]
 rw[(Lib.bytes_beq_false_iff BV t).2 h,bP h]
theorem bHW (q:Addr) (t:aA) (p:List Fc) (v:Value) (B:Nat) (w:World) (hq:w.cell? ⟨q.block,q.off+1,none⟩=some (.string t)) (hqs:q.block<w.heap.size) (hv:eO w B v p) (hB:B≤w.heap.size) (hN:p.length≤1000000):
 Calls Tryz.prog 211 #[v,.func (.func 212) #[] #[.pointer (some q)]] w fun e w'=>e=.returned (.int .i64 (dQ (fun f=>decide (f.name=t)) p 0))∧Below w.heap.size w w':=by
 have HQ:=hid hq
 obtain⟨A,c,rfl,hc⟩:=hv.form
 have HV:=hid hv
 obtain⟨fi,kE⟩:∃z,z=dQ (fun f:Fc=>decide (f.name=t)) p 0:=⟨_,rfl⟩
 rw[←kE]
 have HF:=hid kE
 clear hq hv kE
 go_enter Tryz.func211,Tryz.ntmps211
 go_wp2
 go_loopg [8] p.length (fun g i wr=>∃(k:Nat),k≤p.length∧g=p.length-k∧i=.int .i64 k∧Hid (fi=dQ (fun f:Fc=>decide (f.name=t)) (p.drop k) k)∧Hid (Below w.heap.size w wr))
 case atStart=>exact⟨0,Nat.zero_le _,rfl,rfl,hid (by rw[List.drop_zero];exact HF.out),hid (Below.refl _ _)⟩
 obtain⟨k,hk,hgq,rfl,he,hb⟩:=hrel
 have Hq:=hid hgq
 clear hgq
 obtain⟨wo,rfl⟩:∃z:World,z=wr:=⟨_,rfl⟩
 have hz:=hb.out.size
 by_cases hlt:k<p.length
 rotate_left
 · have HX:=hid (show fi=-1 by rw[he.out,List.drop_of_length_le (by omega)];rfl)
   clear he
   go_wp2
   go_ret
   exact⟨dC HX.out.symm,hb.out⟩
 obtain⟨a,pv,bv,rfl,hab,c0,c1,c2,-,-⟩:=(HV.out.below (hb.out.mono hB)).at_ hlt
 have HE:=hid (show fi=(if decide ((p.getD k bI).name=t) then (k:Int) else dQ (fun f:Fc=>decide (f.name=t)) (p.drop (k+1)) (k+1)) by
  rw[he.out,List.drop_eq_getElem_cons hlt,dQ,dR,bX hlt];rfl)
 generalize (p.getD k bI).name=nx at *
 have HC:=hid (bK4 q t nx pv bv wo ((hb.out.cell (p:=⟨q.block,q.off+1,none⟩) hqs).trans HQ.out) (by omega))
 cases hx:decide (nx=t) with
 |true=>
  have HX:=hid (show fi=(k:Int) by rw[HE.out,hx];rfl)
  rw[hx] at HC
  clear hx he HE
  go_wp2_with fail
  refine HC.out.mono ?_
  rintro e1 w1 ⟨rfl,hb1⟩
  have aT:=hid (hb.out.trans (hb1.mono hz))
  clear hb1 HC
  go_wp2
  go_ret
  exact⟨dC HX.out.symm,aT.out⟩
 |false=>
  have HX:=hid (show fi=dQ (fun f:Fc=>decide (f.name=t)) (p.drop (k+1)) (k+1) by rw[HE.out,hx];rfl)
  rw[hx] at HC
  clear hx he HE
  go_wp2_with fail
  refine HC.out.mono ?_
  rintro e1 w1 ⟨rfl,hb1⟩
  have aT:=hid (hb.out.trans (hb1.mono hz))
  clear hb1 HC
  go_wp2
  go_roundg (p.length-(k+1))
  case rel=>exact⟨k+1,hlt,rfl,by go_num,HX,aT⟩
  rw[Hq.out];omega
end
section
open Go
section
variable {P:Program} {ops:Array Oper} {Q:Exit→Act→World→Prop} {md:Region.Mode} {S:World→Prop} {z:Nat}
def AnyZ (P:Program) (md:Region.Mode) (ops:Array Oper) (Q:Exit→Act→World→Prop) (S:World→Prop) (z:Nat):Nat→Array Bool→Act→World→Prop
 |0,listed,a,w=>Region.ready md ops listed=[]∧Q .normal a w
 |fuel+1,listed,a,w=>
  (Region.ready md ops listed=[]→Q .normal a w)∧
  ∀i∈Region.ready md ops listed,wpOp P ops Q i (fun a' w'=>(i≠z→S w')∧AnyZ P md ops Q S z fuel (listed.setIfInBounds i true) a' w') a w
theorem a2H:∀(fuel:Nat) (listed:Array Bool) (a:Act) (w:World),AnyZ P md ops Q S z fuel listed a w→wpAny P md ops Q fuel listed a w
 |0,_,_,_,h=>h
 |fuel+1,_,_,_,h=>⟨h.1,fun i hi=>wpOp_mono (fun a' w' h'=>a2H fuel _ a' w' h'.2) (h.2 i hi)⟩
def aI1 (md:Region.Mode) (ops:Array Oper) (z i:Nat):Bool:=match ops[z]? with
 |some o=>o.after.any fun e=>Region.binds md e&&e.on==i
 |none=>false
theorem bL5 {i:Nat} {oi:Oper} {v:Value} (hi:ops[i]?=some oi) (a60:∀(j:Nat) (o:Oper) cs b,ops[j]?=some o→o.op≠.select cs b)
 (hQ:∀c a w,Q (.panic c) (a.put oi.dst v) w→Q (.panic c) a w) (hz:aI1 md ops z i=true):
 ∀(fuel:Nat) (listed:Array Bool) (a:Act) (w:World),
  (∀j oj,ops[j]?=some oj→j≠i→listed.getD j true=false→(∀e∈oj.after,Region.binds md e=true→e.on≠i)→oi.apart ops oj=true)→
  i∈Region.ready md ops listed→YieldsIf P ops S oi v a→S w→i≠z→
  AnyZ P md ops Q S z fuel (listed.setIfInBounds i true) (a.put oi.dst v) w→AnyZ P md ops Q S z (fuel+1) listed a w:=by
 intro fuel
 induction fuel with
 |zero=>
  intro listed a w _ hr hy hS _ H
  refine⟨fun h=>(by rw[h] at hr;cases hr),fun j hj=>?_⟩
  by_cases PJ:j=i
  · subst PJ;exact hy.wpOp hi hS ⟨fun _=>hS,H⟩
  have:=ready_mono hj PJ
  rw[H.1] at this
  cases this
 |succ fuel ih=>
  intro listed a w a57 hr hy hS hiz H
  refine⟨fun h=>(by rw[h] at hr;cases hr),fun j hj=>?_⟩
  by_cases PJ:j=i
  · subst PJ;exact hy.wpOp hi hS ⟨fun _=>hS,H⟩
  have h1:=H.2 j (ready_mono hj PJ)
  obtain⟨a7E,oj,PE,hall⟩:=mem_ready.1 hj
  have a66:∀e∈oj.after,Region.binds md e=true→e.on≠i:=fun e he hb heq=>by
   have h1:=hall e he hb
   have h0:=(mem_ready.1 hr).1
   rw[heq] at h1
   rcases Nat.lt_or_ge i listed.size with h'|h'
   · simp[h'] at h0 h1;rw[h0] at h1;cases h1
   simp[Array.getElem?_eq_none h'] at h1
  have hjz:j≠z:=fun e=>by
   subst e
   unfold aI1 at hz
   rw[PE] at hz
   simp only[Array.any_eq_true'] at hz
   obtain⟨e,he,hb⟩:=hz
   simp only[Bool.and_eq_true,beq_iff_eq] at hb
   exact a66 e he hb.1 hb.2
  have h2:=wpOp_putIf PE (a57 j oj PE PJ a7E a66) (fun cs b=>a60 i oi cs b hi) (fun cs b=>a60 j oj cs b PE) hQ hy h1
  have bOI:∀k ok,ops[k]?=some ok→k≠i→(listed.setIfInBounds j true).getD k true=false→
   (∀e∈ok.after,Region.binds md e=true→e.on≠i)→oi.apart ops ok=true:=fun k ok hk hki qK hno=>by
   refine a57 k ok hk hki ?_ hno
   by_cases hjk:j=k
   · subst hjk;exact a7E
   rw[getD_set_ne true hjk] at qK;exact qK
  refine wpOp_mono (fun a' w' h3=>⟨h3.2.1,ih (listed.setIfInBounds j true) a' w' bOI (ready_mono hr (Ne.symm PJ)) h3.1 (h3.2.1 hjz) hiz ?_⟩) h2
  rw[Array.setIfInBounds_comm _ _ PJ]
  exact h3.2.2
theorem EE {i:Nat} {oi:Oper} {v:Value} {fuel:Nat} {listed:Array Bool} {a:Act} {w:World} (hi:ops[i]?=some oi)
 (hs:Region.noSelect ops=true) (hf:Region.free md ops listed i=true) (hr:(Region.ready md ops listed).contains i=true)
 (hQ:∀c a w,Q (.panic c) (a.put oi.dst v) w→Q (.panic c) a w) (hz:aI1 md ops z i=true) (hiz:i≠z) (hS:S w) (hw:Region.wanted oi (yielded ops a.tmps)=true) (hy:∀w,S w→(execOp a.eval oi).run P w=.ok (.value v) w)
 (h:AnyZ P md ops Q S z fuel (listed.setIfInBounds i true) (a.put oi.dst v) w):AnyZ P md ops Q S z (fuel+1) listed a w:=
 bL5 hi (Region.noSelect_spec hs) hQ hz fuel listed a w (Region.free_spec hi hf) (by simpa using hr) (.inl ⟨hw,hy⟩) hS hiz h
theorem gM {i:Nat} {oi:Oper} {fuel:Nat} {listed:Array Bool} {a:Act} {w:World} (hi:ops[i]?=some oi) (hr:Region.ready md ops listed=[i]) (hw:Region.wanted oi (yielded ops a.tmps)=true)
 (h:∀K:Act→World→Prop,(∀a' w',(i≠z→S w')→AnyZ P md ops Q S z fuel (listed.setIfInBounds i true) a' w'→K a' w')→Oper.wp P oi a w K Q):AnyZ P md ops Q S z (fuel+1) listed a w:=
 ⟨fun h0=>(by rw[hr] at h0;cases h0),fun j hj=>by
  rw[hr] at hj
  obtain rfl:=List.mem_singleton.1 hj
  unfold wpOp
  simp only[hi,hw,if_true]
  exact .inl (h _ fun a' w' h1 h2=>⟨h1,h2⟩)⟩
theorem NJ {listed:Array Bool} {a:Act} {w:World} (hr:Region.ready md ops listed=[]) (h:Q .normal a w):∀fuel,AnyZ P md ops Q S z fuel listed a w
 |0=>⟨hr,h⟩
 |_+1=>⟨fun _=>h,by rw[hr];simp⟩
theorem NA (S:World→Prop) (z:Nat) {id:Nat} {a:Act} {w:World} (hm:P.follows .mixedOrders=true) (h:AnyZ P .any ops Q S z ops.size (Array.replicate ops.size false) a w.drew):(Code.region id ops true).wp P Q a w:=
 wp_region_any hm (a2H _ _ _ _ h)
end
end
section
open Go.RowKit
open Go.Lib (hid)
namespace Sl
theorem bH7 {l:List bQ} {k:Nat} (hk:k<l.length):sO (l.take (k+1))=sO (l.take k)++(match l.getD k .opn with | .decl y=>[y]|_=>[]):=by
 rw[List.take_succ_eq_append_getElem hk,sO,sO,List.filterMap_append,dR,bX hk]
 simp only[Option.getD_some]
 cases l[k]<;>rfl
end Sl
open Sl
theorem bJD (K:Nat) (hK:K≤140737488355328) (k:Nat) (t:aA) (n:Int) (s:Fo) (ps:List aA) (b e:Fo) (sv pv bv ev:Value) (B:Nat) (w:World) (hv:lY w B sv pv bv ev s ps b e) (hB:B≤w.heap.size)
 (cX:Fo.cO K b) (hlen:b.len<K) (hbl:3*b.cnt+b.aX≤100000000) (hpl:ps.length≤1000000):
 Calls Tryz.prog 248 #[.agg #[.int .u8 k,.string t,.int .i64 n,sv,pv,bv,ev]] w fun e1 w'=>∃v,e1=.returned v∧aM w' w.heap.size v (BN ps b)∧Below w.heap.size w w':=by
 obtain⟨As,cs,rfl,hcs⟩:=hv.subs.form
 obtain⟨Ab,cb,rfl,hcb⟩:=hv.body.form
 obtain⟨Ae,ce,rfl,hce⟩:=hv.els.form
 have lJ:=hid hv
 obtain⟨Ap,cp,rfl,kX,hrp⟩:=hv.aX
 have iL:=hid cX
 clear hv cX
 have jV:=hid ((Below.refl w.heap.size w).alloc (aC _) (.cells #[.int .u8 k,.string t,.int .i64 n,.slice As s.len cs,.slice Ap ps.length cp,.slice Ab b.len cb,.slice Ae e.len ce] 69))
 have cQ:=hid (aG.new w 69 #[.int .u8 k,.string t,.int .i64 n,.slice As s.len cs,.slice Ap ps.length cp,.slice Ab b.len cb,.slice Ae e.len ce])
 have HRp:=hid (hrp.below (jV.out.mono hB))
 have HN0:=hid (show aM (w.alloc (.cells #[.int .u8 k,.string t,.int .i64 n,.slice As s.len cs,.slice Ap ps.length cp,.slice Ab b.len cb,.slice Ae e.len ce] 69)) w.heap.size (.slice none 0 0) [] from aF.nil _ _ rfl rfl)
 have HR:=hid (show BN ps b=ps++sO (way b) from rfl)
 clear hrp
 go_enter Tryz.func248,Tryz.ntmps248
 go_upto_region 1 with fail
 generalize w.alloc (.cells #[.int .u8 k,.string t,.int .i64 n,.slice As s.len cs,.slice Ap ps.length cp,.slice Ab b.len cb,.slice Ae e.len ce] 69)=w1 at *
 obtain⟨a0,a1,a2,a3,a4,a5,a6⟩:=j5 cQ.out
 have hz1:=jV.out.size
 go_wp2_with (at_builtin;go_must (refine BA rfl _ _ rfl w.heap.size _ [] rfl HN0.out _ Ap ps.length cp ps _ rfl rfl HRp.out rfl (by simp;omega) hz1 ?_))
 intro v2 w2 tU hg2 CT
 have KE:=hid (show aM w2 w.heap.size v2 ps from tU)
 have nR:=hid (aF.grown HN0.out jV.out hg2 hz1)
 have uB:=hid (cQ.out.grown hg2 (fun e=>by simp[Value.ownBlock] at e))
 clear tU hg2 CT HN0 HRp a0 a1 a2 a3 a4 a5 a6
 obtain⟨a0,a1,a2,a3,a4,a5,a6⟩:=j5 uB.out
 have hz2:=nR.out.size
 have HC:=hid (aOH K hK b.cnt b (.slice Ab b.len cb) B w2 (aC _) (lJ.out.body.below (nR.out.mono hB)) (by omega) iL.out hlen hbl)
 have hwl:=I2 b
 go_wp2_with fail
 refine HC.out.mono ?_
 rintro e1 w3 ⟨v3,rfl,hs3,hb3⟩
 have fG:=hid hs3
 have gK:=hid (aF.below KE.out hb3 (aC _))
 have rC:=hid (nR.out.trans (hb3.mono hz2))
 have hz3:=hb3.size
 generalize way b=wy at *
 obtain⟨A3,c3,e3⟩:=aMQ hs3
 subst e3
 clear hs3 hb3 HC KE nR uB cQ a0 a1 a2 a3 a4 a5 a6
 have eY:=hid (show Steps w3 w.heap.size (.slice A3 wy.length c3) wy from aF.more fG.out hz2)
 clear fG
 go_wp2
 go_loopg [3,5] wy.length (fun g o i wr=>∃(vo:Value) (q:Nat),vo=o∧q≤wy.length∧g=wy.length-q∧i=.int .i64 q∧Hid (aM wr w.heap.size vo (ps++sO (wy.take q)))∧Hid (Steps wr w.heap.size (.slice A3 wy.length c3) wy)∧Hid (Below w.heap.size w wr))
 case atStart=>exact⟨_,0,rfl,Nat.zero_le _,rfl,rfl,hid (by rw[List.take_zero];simpa[sO] using gK.out),eY,rC⟩
 obtain⟨vo,q,rfl,hq,hg,rfl,hO,hS,hL⟩:=hrel
 have Hg:=hid hg
 clear hg
 obtain⟨wo,rfl⟩:∃x:World,x=wr:=⟨_,rfl⟩
 have jP:=hL.out.size
 by_cases hlt:q<wy.length
 rotate_left
 · have HF:=hid (show aM wo w.heap.size vo (BN ps b) by
    rw[HR.out,←List.take_of_length_le (show wy.length≤q by omega)];exact hO.out)
   clear hO hS
   go_wp2
   go_ret
   exact⟨_,rfl,HF.out,hL.out⟩
 obtain⟨a,c,bb,hva,s0,s1,s2,s3⟩:=aNV hS.out hlt
 injection hva with SS hx6 WI
 subst SS
 clear hx6 WI
 have HT:=hid (bH7 hlt)
 have lT:(sO (wy.take q)).length≤q:=Nat.le_trans (List.length_filterMap_le _ _) (by rw[List.length_take];omega)
 generalize sO (wy.take q)=acc at *
 generalize wy.getD q .opn=jN at *
 cases jN with
 |decl x=>
  have LY:wo.cell? (a.add (q*4))=some (.int .i64 1):=s0
  have s1':wo.cell? ⟨(a.add (q*4)).block,(a.add (q*4)).off+1,none⟩=some (.string x):=s1
  have dG:=hid (aF.alloc hO.out (.cells #[.string x] 9))
  have TG:=hid (aF.alloc hS.out (.cells #[.string x] 9))
  have D1:=hid (hL.out.alloc jP (.cells #[.string x] 9))
  have hpa:(ps++acc).length≤999999999:=by rw[bL];omega
  obtain⟨ac,DN⟩:∃z,z=ps++acc:=⟨_,rfl⟩
  rw[←DN] at dG hpa
  have Hac:=hid DN
  clear s0 s1 s2 s3 hO hS DN
  go_wp2_with (at_builtin;go_must (refine BA rfl _ _ rfl w.heap.size _ ac rfl dG.out _ _ 1 _ [x] _ rfl rfl uD rfl (by omega) (by simp;omega) ?_))
  intro v5 w5 aZ aU kR
  have cK:=hid (show aM w5 w.heap.size v5 (ps++sO (wy.take (q+1))) by rw[HT.out,←dZ,←Hac.out];exact aZ)
  have jC:=hid (TG.out.kept aU (aD5 dG.out TG.out))
  have iT:=hid (aF.grown dG.out D1.out aU D1.out.size)
  clear aZ aU kR dG TG D1
  go_wp2
  go_roundg (wy.length-(q+1))
  case rel=>exact⟨_,q+1,rfl,hlt,rfl,by go_num,cK,jC,iT⟩
  rw[Hg.out];omega
 |use x=>
  have LY:wo.cell? (a.add (q*4))=some (.int .i64 2):=s0
  have cK:=hid (show aM wo w.heap.size vo (ps++sO (wy.take (q+1))) by rw[HT.out];simpa using hO.out)
  clear s0 s1 s2 s3 hO
  go_wp2
  go_roundg (wy.length-(q+1))
  case rel=>exact⟨_,q+1,rfl,hlt,rfl,by go_num,cK,hS,hL⟩
  rw[Hg.out];omega
 |opn=>
  have LY:wo.cell? (a.add (q*4))=some (.int .i64 3):=s0
  have cK:=hid (show aM wo w.heap.size vo (ps++sO (wy.take (q+1))) by rw[HT.out];simpa using hO.out)
  clear s0 s1 s2 s3 hO
  go_wp2
  go_roundg (wy.length-(q+1))
  case rel=>exact⟨_,q+1,rfl,hlt,rfl,by go_num,cK,hS,hL⟩
  rw[Hg.out];omega
 |cls=>
  have LY:wo.cell? (a.add (q*4))=some (.int .i64 4):=s0
  have cK:=hid (show aM wo w.heap.size vo (ps++sO (wy.take (q+1))) by rw[HT.out];simpa using hO.out)
  clear s0 s1 s2 s3 hO
  go_wp2
  go_roundg (wy.length-(q+1))
  case rel=>exact⟨_,q+1,rfl,hlt,rfl,by go_num,cK,hS,hL⟩
  rw[Hg.out];omega
 |call x m=>
  have LY:wo.cell? (a.add (q*4))=some (.int .i64 5):=s0
  have cK:=hid (show aM wo w.heap.size vo (ps++sO (wy.take (q+1))) by rw[HT.out];simpa using hO.out)
  clear s0 s1 s2 s3 hO
  go_wp2
  go_roundg (wy.length-(q+1))
  case rel=>exact⟨_,q+1,rfl,hlt,rfl,by go_num,cK,hS,hL⟩
  rw[Hg.out];omega
namespace Sl
def mI (ow out:List aA) (x:aA):List aA:=if inL ow x||inL out x then out else out++[x]
theorem a19 (ps:List aA) (b:Fo):UX ps b=(pQ (way b)).foldl (mI (BN ps b)) []:=rfl
theorem bIP {ow:List aA} {l:List bQ} {k:Nat} (hk:k<l.length):(pQ (l.take (k+1))).foldl (mI ow) []=(match l.getD k .opn with | .use y=>mI ow ((pQ (l.take k)).foldl (mI ow) []) y|_=>(pQ (l.take k)).foldl (mI ow) []):=by
 rw[List.take_succ_eq_append_getElem hk,pQ,pQ,List.filterMap_append,List.foldl_append,dR,bX hk]
 simp only[Option.getD_some]
 cases l[k]<;>rfl
end Sl
open Sl
theorem bJA (K:Nat) (hK:K≤140737488355328) (k:Nat) (t:aA) (n:Int) (s:Fo) (ps:List aA) (b e:Fo) (sv pv bv ev:Value) (B:Nat) (w:World) (hv:lY w B sv pv bv ev s ps b e) (hB:B≤w.heap.size)
 (cX:Fo.cO K b) (hlen:b.len<K) (hbl:3*b.cnt+b.aX≤100000000) (hpl:ps.length≤1000000):
 Calls Tryz.prog 197 #[.agg #[.int .u8 k,.string t,.int .i64 n,sv,pv,bv,ev]] w fun e1 w'=>∃v,e1=.returned v∧aM w' w.heap.size v (UX ps b)∧Below w.heap.size w w':=by
 obtain⟨As,cs,rfl,hcs⟩:=hv.subs.form
 obtain⟨Ab,cb,rfl,hcb⟩:=hv.body.form
 obtain⟨Ae,ce,rfl,hce⟩:=hv.els.form
 have lJ:=hid hv
 obtain⟨Ap,cp,rfl,kX,-⟩:=hv.aX
 have iL:=hid cX
 clear hv cX
 have jV:=hid ((Below.refl w.heap.size w).alloc (aC _) (.cells #[.int .u8 k,.string t,.int .i64 n,.slice As s.len cs,.slice Ap ps.length cp,.slice Ab b.len cb,.slice Ae e.len ce] 69))
 have cQ:=hid (aG.new w 69 #[.int .u8 k,.string t,.int .i64 n,.slice As s.len cs,.slice Ap ps.length cp,.slice Ab b.len cb,.slice Ae e.len ce])
 have HR:=hid (a19 ps b)
 have hwl:=I2 b
 have how:(BN ps b).length≤101000000:=by
  unfold BN
  have:(sO (way b)).length≤(way b).length:=List.length_filterMap_le _ _
  rw[bL];omega
 go_enter Tryz.func197,Tryz.ntmps197
 go_upto_region 1 with fail
 generalize w.alloc (.cells #[.int .u8 k,.string t,.int .i64 n,.slice As s.len cs,.slice Ap ps.length cp,.slice Ab b.len cb,.slice Ae e.len ce] 69)=w1 at *
 obtain⟨a0,a1,a2,a3,a4,a5,a6⟩:=j5 cQ.out
 have hz1:=jV.out.size
 have HC:=hid (bJD K hK k t n s ps b e (.slice As s.len cs) (.slice Ap ps.length cp) (.slice Ab b.len cb) (.slice Ae e.len ce) B w1 (lJ.out.below (jV.out.mono hB)) (by omega) iL.out hlen hbl hpl)
 go_wp2_with fail
 refine HC.out.mono ?_
 rintro e1 w2 ⟨v2,rfl,hs2,hb2⟩
 have gI:=hid hs2
 have nR:=hid (jV.out.trans (hb2.mono hz1))
 have uB:=hid (cQ.out.below hb2 cQ.out.lt)
 have hz2:=nR.out.size
 generalize BN ps b=ow at *
 obtain⟨A2,c2,n2,e2,-⟩:=aF.src hs2
 subst e2
 clear hs2 hb2 HC cQ a0 a1 a2 a3 a4 a5 a6
 obtain⟨a0,a1,a2,a3,a4,a5,a6⟩:=j5 uB.out
 have HC:=hid (aOH K hK b.cnt b (.slice Ab b.len cb) B w2 (aC _) (lJ.out.body.below (nR.out.mono hB)) (by omega) iL.out hlen hbl)
 go_wp2_with fail
 refine HC.out.mono ?_
 rintro e1 w3 ⟨v3,rfl,hs3,hb3⟩
 have fG:=hid hs3
 have gK:=hid (iF.below gI.out.toV hb3)
 have rC:=hid (nR.out.trans (hb3.mono hz2))
 have hz3:=hb3.size
 generalize way b=wy at *
 obtain⟨A3,c3,e3⟩:=aMQ hs3
 subst e3
 clear hs3 hb3 HC gI nR uB a0 a1 a2 a3 a4 a5 a6
 go_wp2
 go_loopg [4,6] wy.length (fun g o i wr=>∃(vo:Value) (q:Nat) (acc:List aA),vo=o∧q≤wy.length∧g=wy.length-q∧i=.int .i64 q∧Hid ((pQ (wy.take q)).foldl (mI ow) []=acc)∧acc.length≤q∧Hid (aM wr w3.heap.size vo acc)∧Hid (Below w3.heap.size w3 wr))
 case atStart=>exact⟨_,0,[],rfl,Nat.zero_le _,rfl,rfl,hid (by rw[List.take_zero];rfl),aC _,hid (aF.nil _ _ rfl rfl),hid (Below.refl _ _)⟩
 obtain⟨vo,q,acc,rfl,hq,hg,rfl,hE,lT,hO,hL⟩:=hrel
 have Hg:=hid hg
 clear hg
 obtain⟨wo,rfl⟩:∃x:World,x=wr:=⟨_,rfl⟩
 have jP:=hL.out.size
 by_cases hlt:q<wy.length
 rotate_left
 · have HF:=hid (show UX ps b=acc by rw[HR.out,←hE.out,List.take_of_length_le (show wy.length≤q by omega)])
   clear hE
   go_wp2
   go_ret
   exact⟨_,rfl,by rw[HF.out];exact aF.more hO.out rC.out.size,rC.out.trans (hL.out.mono rC.out.size)⟩
 obtain⟨a,c,bb,hva,s0,s1,s2,s3⟩:=aNV (aF.below fG.out hL.out (aC _)) hlt
 injection hva with SS hx6 WI
 subst SS
 clear hx6 WI
 have HT:=hid (bIP (ow:=ow) hlt)
 generalize wy.getD q .opn=jN at *
 cases jN with
 |use x=>
  have LY:wo.cell? (a.add (q*4))=some (.int .i64 2):=s0
  have s1':wo.cell? ⟨(a.add (q*4)).block,(a.add (q*4)).off+1,none⟩=some (.string x):=s1
  have mV:=hid (show (pQ (wy.take (q+1))).foldl (mI ow) []=mI ow acc x by rw[HT.out,←hE.out])
  have C1:=hid (KY (.slice A2 ow.length c2) ow x w2.heap.size wo (gK.out.below (hL.out.mono hz3)) (by omega))
  have C2:=hid (KY vo acc x wo.heap.size wo hO.out.toV (by omega))
  have kD:=I4 ow x
  have jQ:=I4 acc x
  clear s0 s1 s2 s3 HT
  cases h1:inL ow x with
  |true=>
   have cK:=hid (show (pQ (wy.take (q+1))).foldl (mI ow) []=acc by rw[mV.out];unfold mI;rw[h1];rfl)
   have pX:acc.length≤q+1:=by omega
   have jC:=hO
   have iT:=hL
   rw[h1] at kD
   have b1:decide (Lib.idxOfS ow x<0)=false:=by have:=of_decide_eq_true kD;exact bP (by omega)
   clear kD jQ h1 mV C2
   generalize Lib.idxOfS ow x=i1 at *
   go_wp2_with fail
   refine C1.out.mono ?_
   rintro e w' ⟨rfl,rfl⟩
   go_wp2
   go_roundg (wy.length-(q+1))
   case rel=>exact⟨_,q+1,_,rfl,hlt,rfl,by go_num,cK,pX,jC,iT⟩
   rw[Hg.out];omega
  |false=>
   rw[h1] at kD
   have b1:decide (Lib.idxOfS ow x<0)=true:=by have:=of_decide_eq_false kD;exact bF (by omega)
   clear kD
   generalize Lib.idxOfS ow x=i1 at *
   cases h2:inL acc x with
   |true=>
    have cK:=hid (show (pQ (wy.take (q+1))).foldl (mI ow) []=acc by rw[mV.out];unfold mI;rw[h1,h2];rfl)
    have pX:acc.length≤q+1:=by omega
    have jC:=hO
    have iT:=hL
    rw[h2] at jQ
    have b2:decide (Lib.idxOfS acc x<0)=false:=by have:=of_decide_eq_true jQ;exact bP (by omega)
    clear jQ h1 h2 mV
    generalize Lib.idxOfS acc x=i2 at *
    go_wp2_with fail
    refine C1.out.mono ?_
    rintro e w' ⟨rfl,rfl⟩
    go_wp2_with fail
    refine C2.out.mono ?_
    rintro e w' ⟨rfl,rfl⟩
    go_wp2
    go_roundg (wy.length-(q+1))
    case rel=>exact⟨_,q+1,_,rfl,hlt,rfl,by go_num,cK,pX,jC,iT⟩
    rw[Hg.out];omega
   |false=>
    have cK:=hid (show (pQ (wy.take (q+1))).foldl (mI ow) []=acc++[x] by rw[mV.out];unfold mI;rw[h1,h2];rfl)
    have pX:(acc++[x]).length≤q+1:=by simp;omega
    rw[h2] at jQ
    have b2:decide (Lib.idxOfS acc x<0)=true:=by have:=of_decide_eq_false jQ;exact bF (by omega)
    clear jQ h1 h2 mV
    generalize Lib.idxOfS acc x=i2 at *
    have dG:=hid (aF.alloc hO.out (.cells #[.string x] 9))
    have D1:=hid (hL.out.alloc jP (.cells #[.string x] 9))
    go_wp2_with fail
    refine C1.out.mono ?_
    rintro e w' ⟨rfl,rfl⟩
    go_wp2_with fail
    refine C2.out.mono ?_
    rintro e w' ⟨rfl,rfl⟩
    clear hO
    go_wp2_with (at_builtin;go_must (refine BA rfl _ _ rfl w3.heap.size _ acc rfl dG.out _ _ 1 _ [x] _ rfl rfl uD rfl (by omega) (by simp;omega) ?_))
    intro v5 w5 aZ aU kR
    have jC:=hid aZ
    have iT:=hid (aF.grown dG.out D1.out aU D1.out.size)
    clear aZ aU kR dG D1
    go_wp2
    go_roundg (wy.length-(q+1))
    case rel=>exact⟨_,q+1,_,rfl,hlt,rfl,by go_num,cK,pX,jC,iT⟩
    rw[Hg.out];omega
 |decl x=>
  have LY:wo.cell? (a.add (q*4))=some (.int .i64 1):=s0
  have cK:=hid (show (pQ (wy.take (q+1))).foldl (mI ow) []=acc by rw[HT.out];exact hE.out)
  have pX:acc.length≤q+1:=by omega
  have jC:=hO
  have iT:=hL
  clear s0 s1 s2 s3
  go_wp2
  go_roundg (wy.length-(q+1))
  case rel=>exact⟨_,q+1,_,rfl,hlt,rfl,by go_num,cK,pX,jC,iT⟩
  rw[Hg.out];omega
 |opn=>
  have LY:wo.cell? (a.add (q*4))=some (.int .i64 3):=s0
  have cK:=hid (show (pQ (wy.take (q+1))).foldl (mI ow) []=acc by rw[HT.out];exact hE.out)
  have pX:acc.length≤q+1:=by omega
  have jC:=hO
  have iT:=hL
  clear s0 s1 s2 s3
  go_wp2
  go_roundg (wy.length-(q+1))
  case rel=>exact⟨_,q+1,_,rfl,hlt,rfl,by go_num,cK,pX,jC,iT⟩
  rw[Hg.out];omega
 |cls=>
  have LY:wo.cell? (a.add (q*4))=some (.int .i64 4):=s0
  have cK:=hid (show (pQ (wy.take (q+1))).foldl (mI ow) []=acc by rw[HT.out];exact hE.out)
  have pX:acc.length≤q+1:=by omega
  have jC:=hO
  have iT:=hL
  clear s0 s1 s2 s3
  go_wp2
  go_roundg (wy.length-(q+1))
  case rel=>exact⟨_,q+1,_,rfl,hlt,rfl,by go_num,cK,pX,jC,iT⟩
  rw[Hg.out];omega
 |call x m=>
  have LY:wo.cell? (a.add (q*4))=some (.int .i64 5):=s0
  have cK:=hid (show (pQ (wy.take (q+1))).foldl (mI ow) []=acc by rw[HT.out];exact hE.out)
  have pX:acc.length≤q+1:=by omega
  have jC:=hO
  have iT:=hL
  clear s0 s1 s2 s3
  go_wp2
  go_roundg (wy.length-(q+1))
  case rel=>exact⟨_,q+1,_,rfl,hlt,rfl,by go_num,cK,pX,jC,iT⟩
  rw[Hg.out];omega
namespace Sl
theorem bG7 {i:Nat} {l:Fo} {k:Nat} {t:aA} {n:Int} {s:Fo} {ps:List aA} {b e r:Fo} (h:Fo.drop i l=.cons k t n s ps b e r) (out:List aA):kO (Fo.drop i l) out=kO r (kO s ((rG k t ps b).foldl dP out)):=by rw[h,kO]
theorem X8 (out:List aA) (x:aA):(dP out x).length≤out.length+1:=by
 unfold dP
 split<;>simp
theorem aXW:∀(l out:List aA),(l.foldl dP out).length≤out.length+l.length
 | [],out=>by simp
 |x::l,out=>by
   have h1:=aXW l (dP out x)
   have h2:=X8 out x
   simp only[List.foldl_cons,List.length_cons]
   omega
theorem a18 (ps:List aA) (b:Fo):(UX ps b).length≤(way b).length:=by
 have key:∀(l out:List aA),(l.foldl (mI (BN ps b)) out).length≤out.length+l.length:=fun l=>by
  induction l with
  |nil=>intro out;simp
  |cons x l ih=>
   intro out
   have h1:=ih (mI (BN ps b) out x)
   have h2:(mI (BN ps b) out x).length≤out.length+1:=by
    unfold mI
    split<;>simp
   simp only[List.foldl_cons,List.length_cons]
   omega
 have h1:=key (pQ (way b)) []
 have h2:(pQ (way b)).length≤(way b).length:=List.length_filterMap_le _ _
 rw[a19]
 simp at h1
 omega
theorem aM9:∀(l:Fo) (out:List aA),(kO l out).length≤out.length+4*l.cnt+l.aX
 |.nil,out=>by rw[kO];omega
 |.cons k t n s ps b e r,out=>by
   rw[kO]
   have h1:=aM9 r (kO s ((rG k t ps b).foldl dP out))
   have h2:=aM9 s ((rG k t ps b).foldl dP out)
   have h3:=aXW (rG k t ps b) out
   have h4:(rG k t ps b).length≤1+(way b).length:=by
    unfold rG
    have:=a18 ps b
    split
    · simp
    split
    · omega
    simp
   have h5:=I2 b
   simp only[Fo.cnt,Fo.aX]
   omega
end Sl
open Sl
theorem a0Y (l:Fo) (v:Value) (x y:Int) (B:Nat) (w:World) (hl:cM w B v l):
 Calls Tryz.prog 100 #[v,.int .i64 x,.int .i64 y] w fun e w'=>e=.returned (.int .i64 (if 0<l.len then x else y))∧w=w':=by
 obtain⟨A,cap,rfl,cB⟩:=hl.form
 clear hl
 obtain⟨z,hz⟩:∃z,z=if 0<l.len then x else y:=⟨_,rfl⟩
 rw[←hz]
 have Hz:=hid hz
 clear hz
 by_cases h:0<l.len
 · have b1:decide ((l.len:Int) > 0)=true:=bF (by omega)
   have b2:decide (0<l.len)=true:=bF h
   have HX:=hid (Hz.out.trans (if_pos h))
   clear Hz
   go_enter Tryz.func100,Tryz.ntmps100
   go_wp2
   go_ret
   exact⟨dC HX.out.symm,rfl⟩
 have b1:decide ((l.len:Int) > 0)=false:=bP (by omega)
 have b2:decide (0<l.len)=false:=bP h
 have HX:=hid (Hz.out.trans (if_neg h))
 clear h Hz
 go_enter Tryz.func100,Tryz.ntmps100
 go_wp2
 go_ret
 exact⟨dC HX.out.symm,rfl⟩
end
section
open Go.RowKit
open Sl
open Go.Lib (hid)
theorem TY (w:World) (base:Nat) (t:aA) (hb:base≤w.heap.size):aM (w.alloc (.cells #[.string t] 9)) base (.slice (some ⟨w.heap.size,0,none⟩) 1 1) [t]:=
 ⟨[.string t],⟨by simp,.inr ⟨w.heap.size,1,#[.string t],rfl,hb,heap_alloc_new w _,aC _,by unfold maxLen;omega,rfl,by simp⟩⟩,rfl⟩
theorem T6 {w w':World} {base base':Nat} {u v:Value} {l m:List aA} (h:aM w base u l) (h':aM w' base' v m) (hb:w.heap.size≤base'):fS u v:=fun k hk ME=>by
 obtain⟨xs,h1,-⟩:=h
 obtain⟨ys,h2,-⟩:=h'
 have a1:=World.ownsRow.lt h1 k hk
 have a2:=World.ownsRow.lt h2 k ME
 omega
theorem bG8 (K:Nat) (hK:K≤140737488355328):∀(c:Nat) (l:Fo) (v:Value) (out:List aA) (vo:Value) (base B:Nat) (w:World),l.cnt≤c→cM w B v l→B≤base→base≤w.heap.size→aM w base vo out→Fo.cO K l→l.len<K→4*l.cnt+l.aX≤1000000→out.length+4*l.cnt+l.aX≤500000000→
 Calls Tryz.prog 146 #[v,vo] w fun e w'=>∃v',e=.returned v'∧aM w' base v' (kO l out)∧Below base w w':=fun c=>by
 induction c using Nat.strongRecOn with
 |ind c ih=>
 intro l v out vo base B w hc hl hB hbase hout cX hlen J8 jS
 obtain⟨A,cap,rfl,cB⟩:=hl.form
 have HL:=hid hl
 have HI:=hid ih
 have HO:=hid hout
 have iL:=hid cX
 clear hl ih hout cX
 go_enter Tryz.func146,Tryz.ntmps146
 go_wp2
 go_loopg [1,5] l.len (fun g o i wr=>∃(vp:Value) (k:Nat) (acc:List aA),vp=o∧k≤l.len∧g=l.len-k∧i=.int .i64 k∧Hid (kO l out=kO (Fo.drop k l) acc)∧Hid (acc.length+4*(Fo.drop k l).cnt+(Fo.drop k l).aX≤500000000)∧Hid (aM wr base vp acc)∧Hid (Below base w wr))
 case atStart=>exact⟨_,0,out,rfl,Nat.zero_le _,rfl,rfl,hid (by rw[Fo.drop]),hid (by rw[Fo.drop];exact jS),HO,hid (Below.refl _ _)⟩
 obtain⟨vp,k,acc,rfl,hk,hq,rfl,he,lT,hown,hb⟩:=hrel
 have Hq:=hid hq
 clear hq
 obtain⟨wo,rfl⟩:∃x:World,x=wr:=⟨_,rfl⟩
 have hz:=hb.out.size
 have jP:base≤wo.heap.size:=by omega
 by_cases hlt:k<l.len
 rotate_left
 · have HE:=hid (he.out.trans (by rw[show k=l.len by omega,gB,kO]))
   clear he
   go_wp2
   go_ret
   exact⟨_,rfl,by rw[HE.out];exact hown.out,hb.out⟩
 obtain⟨a,kk,t,nn,s,ps,b,e,r,sv,pv,bv,ev,rfl,aI,hno⟩:=(HL.out.below (hb.out.mono hB)).at_ hlt
 have dL:=kN aI
 have nD:=T5 aI
 have HE:=hid (he.out.trans (bG7 aI acc))
 have bRK:acc.length+4*(1+s.cnt+b.cnt+e.cnt+r.cnt)+(ps.length+s.aX+b.aX+e.aX+r.aX)≤500000000:=by
  have:=lT.out
  rw[aI] at this
  simpa only[Fo.cnt,Fo.aX] using this
 obtain⟨o1,-,o3,o4,-,j_,jO,kV,ZH,ZI,aJH,-⟩:Fo.cO K (.cons kk t nn s ps b e r):=aI▸IZ iL.out
 have pI:=hid ZH
 have oN:=hid ZI
 obtain⟨As,cs,rfl,hcs⟩:=hno.vals.subs.form
 obtain⟨Ab,cb,rfl,hcb⟩:=hno.vals.body.form
 obtain⟨Ae,ce,rfl,hce⟩:=hno.vals.els.form
 have HN:=hid hno.vals
 obtain⟨Ap,cp,rfl,kX,-⟩:=hno.vals.aX
 obtain⟨c0,c1,c2,c3,c4,c5,c6⟩:=hno.cells
 have hab:(a.add (k*7)).block<B:=by rw[f_];exact hno.lt
 have Hd:=hid aI
 have hml:(rG kk t ps b).length≤1+3*b.cnt+b.aX:=by
  unfold rG
  have h1:=a18 ps b
  have h2:=I2 b
  split
  · simp;omega
  split
  · omega
  simp
 clear aI hno ZH ZI aJH he lT
 go_upto_block 2 with fail
 go_cut [6] (fun h wx=>Hid (aM wx base h (rG kk t ps b))∧Hid (fS vp h)∧Hid (aM wx base vp acc)∧Hid (Below base w wx)∧Hid (Below base wo wx))
 case first=>
  by_cases k2:kk=2
  · have HM:=hid (show rG kk t ps b=[t] from if_pos k2)
    have b1:((kk:Int)==2)=true:=beq_iff_eq.2 (by omega)
    clear k2
    have H1:=hid (TY wo base t jP)
    have H2:=hid (T6 hown.out (TY wo wo.heap.size t (aC _)) (aC _))
    have H3:=hid (aF.alloc hown.out (.cells #[.string t] 9))
    have H4:=hid (hb.out.alloc jP (.cells #[.string t] 9))
    have H5:=hid ((Below.refl base wo).alloc jP (.cells #[.string t] 9))
    go_wp2
    go_meet
    exact⟨by rw[HM.out];exact H1,H2,H3,H4,H5⟩
  have b1:((kk:Int)==2)=false:=aP (by omega)
  by_cases kA:kk=10
  · have HM:=hid (show rG kk t ps b=UX ps b by unfold rG;rw[if_neg k2,if_pos kA])
    have b2:((kk:Int)==10)=true:=beq_iff_eq.2 (by omega)
    clear k2 kA
    have HC:=hid (bJA K hK kk t nn s ps b e _ _ _ _ B wo HN.out (by omega) oN.out jO (by omega) (by omega))
    go_wp2_with fail
    refine HC.out.mono ?_
    rintro e1 w6 ⟨v6,rfl,eX,b_⟩
    have H1:=hid (aF.more eX jP)
    have H2:=hid (T6 hown.out eX (aC _))
    have H3:=hid (aF.below hown.out b_ (aC _))
    have H4:=hid (hb.out.trans (b_.mono jP))
    have H5:=hid (b_.mono jP)
    clear eX b_ HC
    go_wp2
    go_meet
    exact⟨by rw[HM.out];exact H1,H2,H3,H4,H5⟩
  have HM:=hid (show rG kk t ps b=[] by unfold rG;rw[if_neg k2,if_neg kA])
  have b2:((kk:Int)==10)=false:=aP (by omega)
  clear k2 kA
  go_wp2
  go_meet
  exact⟨by rw[HM.out];exact hid (aF.nil _ _ rfl rfl),hid (fS.nil _),hown,hb,hid (Below.refl _ _)⟩
 obtain⟨hM,hAp,PS,fD,PY⟩:=hcut
 obtain⟨w1,rfl⟩:∃x:World,x=wc:=⟨_,rfl⟩
 have hz1:=fD.out.size
 have bM:=hid (show kO l out=kO r (kO s ((rG kk t ps b).foldl dP acc)) from HE.out)
 have MZ:=hid c3
 generalize rG kk t ps b=more at *
 obtain⟨A6,c6',n6,e6,-⟩:=aF.src hM.out
 subst e6
 clear c0 c1 c2 c3 c4 c5 c6 hown hb HE HN
 go_wp2
 go_loopg [1,7] more.length (fun g o i wr=>∃(vq:Value) (j:Nat) (lB:List aA),vq=o∧j≤more.length∧g=more.length-j∧i=.int .i64 j∧Hid ((more.take j).foldl dP acc=lB)∧lB.length≤acc.length+j∧Hid (aM wr base vq lB)∧Hid (aM wr base (.slice A6 more.length c6') more)∧Hid (fS vq (.slice A6 more.length c6'))∧Hid (Below base w wr)∧Hid (Below base wo wr))
 case atStart=>exact⟨_,0,acc,rfl,Nat.zero_le _,rfl,rfl,hid (by rw[List.take_zero];rfl),aC _,PS,hM,hAp,fD,PY⟩
 obtain⟨vq,j,lB,rfl,hj,hg,rfl,hE',hal',hO,hM',hA',hL,hL2⟩:=hrel
 have Hg:=hid hg
 clear hg hM hAp PS fD PY
 obtain⟨wx,rfl⟩:∃x:World,x=wr:=⟨_,rfl⟩
 have o_:=hL.out.size
 have cH:base≤wx.heap.size:=by omega
 by_cases hlj:j<more.length
 rotate_left
 · have sH:=hid (show kO l out=kO r (kO s lB) by rw[bM.out,←hE'.out,List.take_of_length_le (show more.length≤j by omega)])
   have d3:=(hL2.out.cell (p:=⟨(a.add (k*7)).block,(a.add (k*7)).off+3,none⟩) (show (a.add (k*7)).block<base by omega)).trans MZ.out
   have hLs:=hid (show cM wx B (.slice As s.len cs) s by
    obtain⟨a',k',t',n',s',C8,b',e',r',zT,l7,mD,AH,hA9,hd9,a68⟩:=(HL.out.below (hL.out.mono hB)).at_ hlt
    cases hA9
    rw[Hd.out] at hd9
    cases hd9
    obtain⟨-,-,-,y3,-⟩:=a68.cells
    rw[d3] at y3
    injection y3 with y3
    rw[y3]
    exact a68.vals.subs)
   have hrl:=aM9 s lB
   have HC:=hid (HI.out s.cnt (by omega) s (.slice As s.len cs) lB vq base B wx (aC _) hLs.out hB cH hO.out pI.out j_ (by omega) (by omega))
   clear hE' hO hM' hA' hLs
   go_wp2_with fail
   refine HC.out.mono ?_
   rintro e1 w7 ⟨v7,rfl,J2,dI⟩
   have KD:=hid J2
   have HL7:=hid (hL.out.trans dI)
   have TQ:=hid (show kO l out=kO (Fo.drop (k+1) l) (kO s lB) by rw[eD Hd.out];exact sH.out)
   have HAL:=hid (show (kO s lB).length+4*(Fo.drop (k+1) l).cnt+(Fo.drop (k+1) l).aX≤500000000 by rw[eD Hd.out];omega)
   clear J2 dI HC d3
   go_wp2
   go_roundg (l.len-(k+1))
   case rel=>exact⟨_,k+1,_,rfl,hlt,rfl,by go_num,TQ,HAL,KD,HL7⟩
   rw[Hq.out];omega
 obtain⟨ap,hap,-,V8⟩:=FV (show Reads wx wx.heap.size 1 A6 more.length (more.map .string) by
  obtain⟨A',c',e',-,kC⟩:=hM'.out.toV
  cases e'
  exact kC) hlj
 subst hap
 have HT:=hid (show (more.take (j+1)).foldl dP acc=dP lB (more.getD j ByteArray.empty) by
  rw[List.take_succ_eq_append_getElem hlj,List.foldl_append,hE'.out,dR,bX hlj]
  rfl)
 generalize more.getD j ByteArray.empty=x at *
 have C1:=hid (KY vq lB x wx.heap.size wx hO.out.toV (by omega))
 have hi:=I4 lB x
 cases h1:inL lB x with
 |true=>
  have sH:=hid (show (more.take (j+1)).foldl dP acc=lB by rw[HT.out];unfold dP;rw[if_pos h1])
  rw[h1] at hi
  have b1:decide (Lib.idxOfS lB x<0)=false:=by have:=of_decide_eq_true hi;exact bP (by omega)
  clear hi h1 HT hE'
  generalize Lib.idxOfS lB x=i1 at *
  go_wp2_with fail
  refine C1.out.mono ?_
  rintro e1 w' ⟨rfl,rfl⟩
  go_wp2
  go_roundg (more.length-(j+1))
  case rel=>exact⟨_,j+1,lB,rfl,hlj,rfl,by go_num,sH,by omega,hO,hM',hA',hL,hL2⟩
  rw[Hg.out];omega
 |false=>
  have sH:=hid (show (more.take (j+1)).foldl dP acc=lB++[x] by rw[HT.out];unfold dP;rw[if_neg (by simp[h1])])
  rw[h1] at hi
  have b1:decide (Lib.idxOfS lB x<0)=true:=by have:=of_decide_eq_false hi;exact bF (by omega)
  clear hi h1 HT hE'
  generalize Lib.idxOfS lB x=i1 at *
  have dG:=hid (aF.alloc hO.out (.cells #[.string x] 9))
  have TL:=hid (aF.alloc hM'.out (.cells #[.string x] 9))
  have D1:=hid (hL.out.alloc cH (.cells #[.string x] 9))
  have HLb:=hid (hL2.out.alloc cH (.cells #[.string x] 9))
  have pX:(lB++[x]).length≤acc.length+(j+1):=by simp;omega
  go_wp2_with fail
  refine C1.out.mono ?_
  rintro e1 w' ⟨rfl,rfl⟩
  clear hO hM' C1
  go_wp2_with (at_builtin;go_must (refine BA rfl _ _ rfl base _ lB rfl dG.out _ _ 1 _ [x] _ rfl rfl uD rfl (by omega) (by simp;omega) ?_))
  intro v5 w5 aZ aU kR
  have cK:=hid aZ
  have HM5:=hid (show aM w5 base _ more from j4.keep aU TL.out hA'.out)
  have iN:=hid (BB hA'.out TL.out (show v5.ownBlock=vq.ownBlock∨v5.ownBlock=some (wx.alloc (.cells #[.string x] 9)).heap.size by simpa using kR))
  have iT:=hid (aF.grown dG.out D1.out aU (by simp;omega))
  have TN:=hid (aF.grown dG.out HLb.out aU (by simp;omega))
  clear aZ aU kR dG TL D1 HLb hA' hL hL2
  go_wp2
  go_roundg (more.length-(j+1))
  case rel=>exact⟨_,j+1,_,rfl,hlj,rfl,by go_num,sH,pX,cK,HM5,iN,iT,TN⟩
  rw[Hg.out];omega
theorem bKL (k:Nat) (t:aA) (n:Int) (s:Fo) (ps:List aA) (b e:Fo) (sv pv bv ev:Value) (B:Nat) (w:World) (hv:lY w B sv pv bv ev s ps b e) (hB:B≤w.heap.size):
 Calls Tryz.prog 145 #[.agg #[.int .u8 k,.string t,.int .i64 n,sv,pv,bv,ev]] w fun e1 w'=>∃v,e1=.returned (.agg #[v])∧eO w' w'.heap.size v [⟨dJ,[],.cons k t n s ps b e .nil⟩]∧Below w.heap.size w w':=by
 obtain⟨As,cs,rfl,hcs⟩:=hv.subs.form
 obtain⟨Ab,cb,rfl,hcb⟩:=hv.body.form
 obtain⟨Ae,ce,rfl,hce⟩:=hv.els.form
 have lJ:=hid hv
 obtain⟨Ap,cp,rfl,kX,-⟩:=hv.aX
 clear hv
 have jV:=hid ((Below.refl w.heap.size w).alloc (aC _) (.cells #[.int .u8 k,.string t,.int .i64 n,.slice As s.len cs,.slice Ap ps.length cp,.slice Ab b.len cb,.slice Ae e.len ce] 69))
 have cQ:=hid (aG.new w 69 #[.int .u8 k,.string t,.int .i64 n,.slice As s.len cs,.slice Ap ps.length cp,.slice Ab b.len cb,.slice Ae e.len ce])
 go_enter Tryz.func145,Tryz.ntmps145
 go_upto_region 1 with fail
 go_wp2
 clear jV cQ
 refine bodyPost_ret (results_cell_row rfl _ _ (w.heap.size+1) 24 #[.slice (some ⟨w.heap.size+1+1+1,0,none⟩) 1 1] (0,0) _ rfl ?hg Tryz.underlying24 rfl (by kernel_rfl)) rfl ?_
 case hg=>
  rw[heap_alloc_old _ _ (by simp),heap_alloc_old _ _ (by simp)]
  exact heap_alloc2_new _ _ _
 have K1:=aG.new w 69 #[.int .u8 k,.string t,.int .i64 n,.slice As s.len cs,.slice Ap ps.length cp,.slice Ab b.len cb,.slice Ae e.len ce]
 have H4:Below w.heap.size w ((((w.alloc (.cells #[.int .u8 k,.string t,.int .i64 n,.slice As s.len cs,.slice Ap ps.length cp,.slice Ab b.len cb,.slice Ae e.len ce] 69)).alloc (.cells #[.slice (some ⟨w.heap.size+1+1+1,0,none⟩) 1 1] 24)).alloc (.cells #[.int .u8 k,.string t,.int .i64 n,.slice As s.len cs,.slice Ap ps.length cp,.slice Ab b.len cb,.slice Ae e.len ce] 69)).alloc (.cells #[.string dJ,.slice none 0 0,.slice (some ⟨w.heap.size+1+1,0,none⟩) 1 1] 112)):=
  ((((Below.refl w.heap.size w).alloc (aC _) _).alloc (by simp) _).alloc (by simp;omega) _).alloc (by simp;omega) _
 have K3:=(aG.new ((w.alloc (.cells #[.int .u8 k,.string t,.int .i64 n,.slice As s.len cs,.slice Ap ps.length cp,.slice Ab b.len cb,.slice Ae e.len ce] 69)).alloc (.cells #[.slice (some ⟨w.heap.size+1+1+1,0,none⟩) 1 1] 24)) 69 #[.int .u8 k,.string t,.int .i64 n,.slice As s.len cs,.slice Ap ps.length cp,.slice Ab b.len cb,.slice Ae e.len ce]).alloc (.cells #[.string dJ,.slice none 0 0,.slice (some ⟨w.heap.size+1+1,0,none⟩) 1 1] 112)
 have K4:=aG.new (((w.alloc (.cells #[.int .u8 k,.string t,.int .i64 n,.slice As s.len cs,.slice Ap ps.length cp,.slice Ab b.len cb,.slice Ae e.len ce] 69)).alloc (.cells #[.slice (some ⟨w.heap.size+1+1+1,0,none⟩) 1 1] 24)).alloc (.cells #[.int .u8 k,.string t,.int .i64 n,.slice As s.len cs,.slice Ap ps.length cp,.slice Ab b.len cb,.slice Ae e.len ce] 69)) 112 #[.string dJ,.slice none 0 0,.slice (some ⟨w.heap.size+1+1,0,none⟩) 1 1]
 simp only[World.size_alloc] at K3 K4
 have R3:=M9 (n:=1) (size:=7) K3 K3.lt rfl
 have R4:=M9 (n:=1) (size:=3) K4 K4.lt rfl
 have hm:=Nat.le_trans hB H4.size
 have HN:=lJ.out.below (H4.mono hB)
 refine⟨_,rfl,⟨_,_,_,rfl,aC _,R4,⟨_,_,[],rfl,⟨none,0,rfl,aC _,?_⟩,⟨_,_,_,rfl,aC _,R3,UE ⟨HN.subs.more hm,HN.aX.more hm,HN.body.more hm,HN.els.more hm⟩ (by unfold Flat;rfl)⟩,rfl⟩⟩,H4⟩
 exact⟨rfl,fun h=>absurd h (by simp)⟩
end
section
open Go.RowKit
open Go.Lib (hid)
namespace Sl
def sY (d:Nd):List Fc:=[⟨dJ,[],.cons d.k d.t d.n d.s d.ps d.b d.e .nil⟩]
def eV (d:Nd):List aA:=if k8 d.k then (if nW nm op un (sY d)=0 then kO d.s [] else []) else []
end Sl
open Sl
theorem bHA (K:Nat) (hK:K≤140737488355328) (hK4:4<K) (d:Nd) (sv pv bv ev:Value) (B:Nat) (w:World) (hv:lY w B sv pv bv ev d.s d.ps d.b d.e) (hB:B≤w.heap.size)
 (cX:Fo.cO K (.cons d.k d.t d.n d.s d.ps d.b d.e .nil)) (ZR:1+d.s.cnt+d.b.cnt+d.e.cnt≤100000) (hp:d.s.aX≤100000):
 Calls Tryz.prog 98 #[.agg #[.int .u8 d.k,.string d.t,.int .i64 d.n,sv,pv,bv,ev]] w fun e1 w'=>∃v,e1=.returned v∧aM w' w.heap.size v (eV d)∧Below w.heap.size w w':=by
 obtain⟨k,t,n,s,ps,b,e⟩:=d
 dsimp only at *
 obtain⟨As,cs,rfl,hcs⟩:=hv.subs.form
 obtain⟨Ab,cb,rfl,hcb⟩:=hv.body.form
 obtain⟨Ae,ce,rfl,hce⟩:=hv.els.form
 have jV:=hid ((Below.refl w.heap.size w).alloc (aC _) (.cells #[.int .u8 k,.string t,.int .i64 n,.slice As s.len cs,pv,.slice Ab b.len cb,.slice Ae e.len ce] 69))
 have HN:=hid (hv.below (jV.out.mono hB))
 have iL:=hid cX
 obtain⟨Ap,cp,rfl,kX,-⟩:=hv.aX
 clear hv cX
 have cQ:=hid (aG.new w 69 #[.int .u8 k,.string t,.int .i64 n,.slice As s.len cs,.slice Ap ps.length cp,.slice Ab b.len cb,.slice Ae e.len ce])
 have hz1:w.heap.size<(w.alloc (.cells #[.int .u8 k,.string t,.int .i64 n,.slice As s.len cs,.slice Ap ps.length cp,.slice Ab b.len cb,.slice Ae e.len ce] 69)).heap.size:=by simp
 go_enter Tryz.func98,Tryz.ntmps98
 go_upto_region 1 with fail
 generalize w.alloc (.cells #[.int .u8 k,.string t,.int .i64 n,.slice As s.len cs,.slice Ap ps.length cp,.slice Ab b.len cb,.slice Ae e.len ce] 69)=w1 at *
 have fH:=hid (aYA k w1)
 have c0:=cQ.out.cell 0
 have c1:=cQ.out.cell 1
 have c2:=cQ.out.cell 2
 have c3:=cQ.out.cell 3
 have c4:=cQ.out.cell 4
 have c5:=cQ.out.cell 5
 have c6:=cQ.out.cell 6
 simp at c0 c1 c2 c3 c4 c5 c6
 by_cases hst:k8 k=true
 rotate_left
 · have hst:k8 k=false:=by simpa using hst
   rw[hst] at fH
   have HR:=hid (show eV ⟨k,t,n,s,ps,b,e⟩=[] by unfold eV;rw[if_neg (by simp[hst])])
   clear hst
   go_wp2_with fail
   refine fH.out.mono ?_
   rintro e1 w' ⟨rfl,rfl⟩
   go_wp2
   go_ret
   exact⟨_,rfl,by rw[HR.out];exact aF.nil _ _ rfl rfl,jV.out⟩
 rw[hst] at fH
 have HR:=hid (show eV ⟨k,t,n,s,ps,b,e⟩=if nW nm op un (sY ⟨k,t,n,s,ps,b,e⟩)=0 then kO s [] else [] by unfold eV;rw[if_pos hst])
 clear hst
 have iM:=hid (bKL k t n s ps b e _ _ _ _ B w1 HN.out (by omega))
 go_wp2_with fail
 refine fH.out.mono ?_
 rintro e1 w' ⟨rfl,rfl⟩
 go_wp2_with fail
 refine iM.out.mono ?_
 rintro e1 w2 ⟨v2,rfl,hv2,hb2⟩
 have HV2:=hid hv2
 have bY:=hid hb2
 obtain⟨o1,o2,o3,o4,o5,j_,jO,kV,oY,tQ,C9,-⟩:=iL.out
 have pI:=hid oY
 have MZ:=hid (aY4 K hK (sY ⟨k,t,n,s,ps,b,e⟩) v2 w2.heap.size w2 hv2 (aC _) (by unfold sY nodes;simp[Fo.cnt];omega) (by unfold sY;simp) ⟨by unfold sY;simp;omega,fun f hf=>by
  unfold sY at hf
  rw[List.mem_singleton] at hf
  subst hf
  exact⟨by show dJ.size<K;exact Nat.lt_of_le_of_lt (by decide) hK4,by simp;omega,by simp,by simp[Fo.len];omega,iL.out⟩⟩)
 have D7:=hid (fun W (hW:Below w1.heap.size w1 W)=>bG8 K hK s.cnt s (.slice As s.len cs) [] (.slice none 0 0) W.heap.size B W (aC _) (HN.out.subs.below (hW.mono (by omega))) (by have:=hW.size;omega) (aC _) (aF.nil _ _ rfl rfl) oY j_ (by omega) (by simp;omega))
 obtain⟨A2,c2',rfl,-⟩:=hv2.form
 generalize nW nm op un (sY ⟨k,t,n,s,ps,b,e⟩)=q at *
 clear hv2 hb2 iM oY tQ C9
 go_wp2_with fail
 refine MZ.out.mono ?_
 rintro e1 w3 ⟨rfl,hb3⟩
 have b7:=hid (bY.out.trans (hb3.mono bY.out.size))
 clear hb3 MZ HV2
 have d3:w3.cell? ⟨w.heap.size,3,none⟩=some (.slice As s.len cs):=(b7.out.cell (p:=⟨w.heap.size,3,none⟩) hz1).trans c3
 by_cases hq:q=0
 · have cY:=hid (HR.out.trans (if_pos hq))
   have b1:((q:Int) != 0)=false:=by rw[hq];rfl
   clear hq c0 c1 c2 c3 c4 c5 c6
   go_wp2_with fail
   refine (D7.out w3 b7.out).mono ?_
   rintro e1 w4 ⟨v4,rfl,cU,hb4⟩
   have eY:=hid (aF.more cU (show w.heap.size≤w3.heap.size by have:=b7.out.size;omega))
   have bC:=hid (jV.out.trans ((b7.out.trans (hb4.mono b7.out.size)).mono (by omega)))
   clear cU hb4
   go_wp2
   go_ret
   exact⟨_,rfl,by rw[cY.out];exact eY.out,bC.out⟩
 have cY:=hid (HR.out.trans (if_neg hq))
 have b1:((q:Int) != 0)=true:=bne_iff_ne.2 (by omega)
 have bC:=hid (jV.out.trans (b7.out.mono (by omega)))
 clear hq c0 c1 c2 c3 c4 c5 c6
 go_wp2
 go_ret
 exact⟨_,rfl,by rw[cY.out];exact aF.nil _ _ rfl rfl,bC.out⟩
end
section
open Go.RowKit
namespace Sl
theorem bH9 {i:Nat} {l:Fo} {k:Nat} {t:aA} {n:Int} {s:Fo} {ps:List aA} {b e r:Fo} (h:Fo.drop i l=.cons k t n s ps b e r) (out:List aA):bJ (Fo.drop i l) true out=bJ (Fo.drop (i+1) l) true (if k=2 then dP out t else if k=10 then (K8 ps b).foldl dP out else bJ s true out):=by rw[eD h,h,bJ,K8]
theorem bH_ {i:Nat} {l:Fo} {k:Nat} {t:aA} {n:Int} {s:Fo} {ps:List aA} {b e r:Fo} (h:Fo.drop i l=.cons k t n s ps b e r) (out:List aA):bJ (Fo.drop i l) false out=bJ (Fo.drop (i+1) l) false (bJ e false (bJ b false (if k=15 then dP (bJ s true out) t else bJ s true out))):=by rw[eD h,h,bJ]
theorem aMG:∀(l out:List aA),(l.foldl dP out).length≤out.length+l.length
 | [],_=>aC _
 |x::l,out=>by
   rw[List.foldl_cons]
   have h1:=aMG l (dP out x)
   have h2:(dP out x).length≤out.length+1:=by unfold dP;split<;>simp
   rw[List.length_cons];omega
theorem uJ:∀(l:Fo) (ex:Bool) (out:List aA),(bJ l ex out).length≤out.length+l.cnt
 |.nil,ex,out=>by rw[aOD];omega
 |.cons k t n s ps b e r,true,out=>by
   rw[bJ,Fo.cnt]
   have h1:=uJ r true (if k=2 then dP out t else if k=10 then ((bJ b false []).filter fun x=>!inL (letters b ps) x).foldl dP out else bJ s true out)
   have h2:=uJ s true out
   have h3:=uJ b false []
   have h4:=List.length_filter_le (fun x=>!inL (letters b ps) x) (bJ b false [])
   have h5:=aMG ((bJ b false []).filter fun x=>!inL (letters b ps) x) out
   have h6:=X8 out t
   rw[List.length_nil] at h3
   have h7:(if k=2 then dP out t else if k=10 then ((bJ b false []).filter fun x=>!inL (letters b ps) x).foldl dP out else bJ s true out).length≤out.length+(1+s.cnt+b.cnt):=by
    split
    · omega
    split<;>omega
   omega
 |.cons k t n s ps b e r,false,out=>by
   rw[bJ,Fo.cnt]
   have h1:=uJ r false (bJ e false (bJ b false (if k=15 then dP (bJ s true out) t else bJ s true out)))
   have h2:=uJ e false (bJ b false (if k=15 then dP (bJ s true out) t else bJ s true out))
   have h3:=uJ b false (if k=15 then dP (bJ s true out) t else bJ s true out)
   have h4:=uJ s true out
   have h5:=X8 (bJ s true out) t
   have h6:(if k=15 then dP (bJ s true out) t else bJ s true out).length≤out.length+(1+s.cnt):=by split<;>omega
   omega
end Sl
open Sl
def N6 (F:FuncId) (ex:Bool) (c:Nat):Prop:=∀(l:Fo) (lv nv:Value) (names:List aA) (base g:Nat) (w:World),l.cnt≤c→sM base g w nv names→cM w g lv l→l.cnt≤1000000→l.aX≤1000000→names.length+l.cnt≤400000000→
 Calls Tryz.prog F #[.pointer (some ⟨g,0,none⟩),lv] w (aPP base g w (bJ l ex names))
def aPN (c:Nat):Prop:=∀(p:Addr) (pv bv:Value) (ps:List aA) (b:Fo) (B:Nat) (w:World),b.cnt≤c→p.block<B→B≤w.heap.size→w.cell? ⟨p.block,p.off+4,none⟩=some pv→w.cell? ⟨p.block,p.off+5,none⟩=some bv→iF w B pv ps→cM w B bv b→b.cnt≤1000000→ps.length+b.aX≤1000000→
 Calls Tryz.prog 255 #[.pointer (some p)] w fun e w'=>∃v',e=.returned v'∧aM w' w.heap.size v' (K8 ps b)∧Below w.heap.size w w'
end
end Go.Proofs.YtdlndhbkcgmkkaaGreatDoor
