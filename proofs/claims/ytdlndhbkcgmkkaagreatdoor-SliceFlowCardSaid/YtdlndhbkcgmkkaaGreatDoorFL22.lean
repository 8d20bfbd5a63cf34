/-
 Part 22 of 35 of a proof about the given program: facts on which the last part stands.
-/
import Derived.Test.YtdlndhbkcgmkkaaGreatDoorFL19
set_option maxHeartbeats 12800000
set_option linter.unusedVariables false
set_option linter.unusedSimpArgs false
set_option maxRecDepth 100000
namespace Go.Proofs.YtdlndhbkcgmkkaaGreatDoor
section
open Go.RowKit
theorem D_ {P:Program} {ops:Array Oper} {Q:Exit→Act→World→Prop} {md:Region.Mode} {S:World→Prop} {i:Nat} {oi:Oper} {v:Value} {fuel:Nat} {listed:Array Bool} {a:Act} {w:World} (d:Option Nat) (hi:ops[i]?=some oi) (hd:oi.dst=d)
 (hs:Region.noSelect ops=true) (hf:Region.free md ops listed i=true) (hr:(Region.ready md ops listed).contains i=true)
 (hQ:∀c a w,Q (.panic c) (a.put d v) w→Q (.panic c) a w) (hy:YieldsIf P ops S oi v a) (hS:S w)
 (h:wpAnyH P md ops Q S fuel (listed.setIfInBounds i true) (a.put d v) w):wpAnyH P md ops Q S (fuel+1) listed a w:=by
 subst hd
 exact wpAnyH_take hi hs hf hr hQ hy hS h
theorem cG {P:Program} {ops:Array Oper} {Q:Exit→Act→World→Prop} {md:Region.Mode} {S:World→Prop} {z:Nat} {i:Nat} {oi:Oper} {v:Value} {fuel:Nat} {listed:Array Bool} {a:Act} {w:World} (d:Option Nat) (hi:ops[i]?=some oi) (hd:oi.dst=d)
 (hs:Region.noSelect ops=true) (hf:Region.free md ops listed i=true) (hr:(Region.ready md ops listed).contains i=true)
 (hQ:∀c a w,Q (.panic c) (a.put d v) w→Q (.panic c) a w) (hz:aI1 md ops z i=true) (hiz:i≠z) (hS:S w) (hw:Region.wanted oi (yielded ops a.tmps)=true) (hy:∀w,S w→(execOp a.eval oi).run P w=.ok (.value v) w)
 (h:AnyZ P md ops Q S z fuel (listed.setIfInBounds i true) (a.put d v) w):AnyZ P md ops Q S z (fuel+1) listed a w:=by
 subst hd
 exact EE hi hs hf hr hQ hz hiz hS hw hy h
end
section
open Go.RowKit
open Go.Lib (hid)
namespace Sl
def EY (Z:List Int) (at_:Nat) (l:Fo):Prop:=∃rest,Z.drop at_=(Fo.aL l false).map (fun n:Nat=>(n:Int))++rest
theorem EY.head {Z:List Int} {at_:Nat} {k:Nat} {t:aA} {n:Int} {s:Fo} {ps:List aA} {b e r:Fo} (h:EY Z at_ (.cons k t n s ps b e r)):
 at_<Z.length∧Z.getD at_ 0=((1+Fo.aD s true+Fo.aD b false+Fo.aD e false:Nat):Int)∧EY Z (at_+(1+Fo.aD s true+Fo.aD b false+Fo.aD e false)) r:=by
 obtain⟨rest,h⟩:=h
 rw[Fo.aL] at h
 have hl:at_<Z.length:=by
  rcases Nat.lt_or_ge at_ Z.length with h1|h1
  · exact h1
  rw[List.drop_eq_nil_of_le h1] at h
  simp at h
 refine⟨hl,?_,rest,?_⟩
 · rw[List.drop_eq_getElem_cons hl] at h
   rw[dR,bX hl]
   simp only[List.map_cons,List.cons_append] at h
   exact (List.cons.inj h).1
 rw[←List.drop_drop,h]
 have hlen:((1+Fo.aD s true+Fo.aD b false+Fo.aD e false)::(Fo.aL s true++Fo.aL b false++Fo.aL e false)).length=1+Fo.aD s true+Fo.aD b false+Fo.aD e false:=by simp[Fo.oO];omega
 have bOF:((1+Fo.aD s true+Fo.aD b false+Fo.aD e false)::(Fo.aL s true++Fo.aL b false++Fo.aL e false++Fo.aL r false)).map (fun n:Nat=>(n:Int))++rest=((1+Fo.aD s true+Fo.aD b false+Fo.aD e false)::(Fo.aL s true++Fo.aL b false++Fo.aL e false)).map (fun n:Nat=>(n:Int))++((Fo.aL r false).map (fun n:Nat=>(n:Int))++rest):=by simp
 rw[bOF]
 exact List.drop_left' (by rw[cL];exact hlen)
theorem EY.fits {Z:List Int} {at_:Nat} {l:Fo} (h:EY Z at_ l) (hl:at_≤Z.length):at_+Fo.aD l false≤Z.length:=by
 obtain⟨rest,h⟩:=h
 have:=congrArg List.length h
 rw[List.length_drop,bL,cL,Fo.oO] at this
 omega
end Sl
open Sl
theorem bIF {w:World} {g:Nat} {T:TypeId} {a b c d e:Value} (x:aG w g T #[a,b,c,d,e]):
 w.cell? ⟨g,0,none⟩=some a∧w.cell? ⟨g,1,none⟩=some b∧w.cell? ⟨g,2,none⟩=some c∧w.cell? ⟨g,3,none⟩=some d∧w.cell? ⟨g,4,none⟩=some e:=⟨x.cell 0,x.cell 1,x.cell 2,x.cell 3,x.cell 4⟩
theorem aM6 (g:Nat) (pv tv zv xv nv:Value) (Z:List Int) (l:Fo) (v:Value) (at_:Nat) (B:Nat) (w:World) (hg:aG w g 45 #[pv,tv,zv,xv,nv]) (hZ:Ints w B zv Z) (hl:cM w B v l) (hc:l.cnt≤1000000) (hZl:Z.length≤1000000) (ha:at_≤1000000) (hs:EY Z at_ l):
 Calls Tryz.prog 56 #[.pointer (some ⟨g,0,none⟩),v,.int .i64 at_] w fun e w'=>e=.returned (.int .i64 (Fo.aD l false:Nat))∧w=w':=by
 obtain⟨A,cap,rfl,cB⟩:=hl.form
 have HL:=hid hl
 have qM:=Fo.k7 l
 have HS:=hid hs
 obtain⟨Az,cz,rfl,hz1,hz2,hz3⟩:=hZ
 have HZ:=hid hz3
 obtain⟨b0,b1,b2,b3,b4⟩:=bIF hg
 clear hl hs hz3 hg b0 b1 b3 b4
 go_enter Tryz.func56,Tryz.ntmps56
 go_wp2
 go_loopg [7,8] l.len (fun q o i wr=>∃(k at':Nat),k≤l.len∧q=l.len-k∧o=.int .i64 at'∧i=.int .i64 k∧wr=w∧at'≤1000000∧at'+Fo.aD (Fo.drop k l) false=at_+Fo.aD l false∧Hid (EY Z at' (Fo.drop k l)))
 case atStart=>exact⟨0,at_,Nat.zero_le _,rfl,rfl,rfl,rfl,ha,by rw[Fo.drop],hid (by rw[Fo.drop];exact HS.out)⟩
 obtain⟨k,at',hk,hq,rfl,rfl,rfl,ha',ZE,hs'⟩:=hrel
 have Hq:=hid hq
 clear hq
 by_cases hlt:k<l.len
 rotate_left
 · have HT:=hid (show (at':Int)-(at_:Int)=((Fo.aD l false:Nat):Int) by
    rw[show k=l.len by omega,gB,Fo.aD] at ZE
    omega)
   clear hs' ZE
   go_wp2
   go_ret
   exact⟨dC (by first|exact HT.out|(rw[←HT.out])),rfl⟩
 obtain⟨a,kk,t,nn,s,ps,b,e,r,sv,l7,bv,ev,rfl,aI,hno⟩:=HL.out.at_ hlt
 have hs2:=hs'.out
 rw[aI] at hs2 ZE
 obtain⟨h1,h2,h3⟩:=hs2.head
 have h4:=hs2.fits (by omega)
 simp only[Fo.aD] at ZE h4
 generalize E9:1+Fo.aD s true+Fo.aD b false+Fo.aD e false=n1 at *
 obtain⟨az,rfl,-,FB⟩:=ints_at HZ.out h1
 rw[h2] at FB
 have H3:=hid (show EY Z (at'+n1) (Fo.drop (k+1) l) by rw[eD aI];exact h3)
 have H5:=hid (show at'+n1+Fo.aD (Fo.drop (k+1) l) false=at_+Fo.aD l false by rw[eD aI];omega)
 have hb:at'+n1≤1000000:=by omega
 clear hs' hs2 h2 h3 aI hno ZE E9 h4
 go_wp2
 go_roundg (l.len-(k+1))
 case rel=>exact⟨k+1,at'+n1,hlt,rfl,by go_num,by go_num,rfl,hb,H5.out,H3⟩
 rw[Hq.out];omega
end
section
open Go.RowKit
open Sl
open Go.Lib (hid)
theorem a1L:∀(c:Nat) (l:Fo) (v:Value) (B:Nat) (W w:World),l.cnt≤c→c≤1000000→cM W B v l→Below B W w→B≤w.heap.size→
 Calls Tryz.prog 97 #[v] w (a0_ W B w (Fo.own l)):=fun c=>by
 induction c using Nat.strongRecOn with
 |ind c ih=>
 intro l v B W w hc hc2 hl hW hB
 obtain⟨A,cap,rfl,cB⟩:=hl.form
 have HL:=hid hl
 have HI:=hid ih
 have HW:=hid hW
 have qM:=Fo.k7 l
 have gR:=Fo.KU l
 clear hl ih hW
 go_enter Tryz.func97,Tryz.ntmps97
 go_wp2
 go_loopg [3,4] l.len (fun g o i wr=>∃(vo:Value) (k:Nat) (acc:Fo),vo=o∧k≤l.len∧g=l.len-k∧i=.int .i64 k∧Hid (Fo.own l=Fo.app acc (Fo.own (Fo.drop k l)))∧Hid (lX W B wr w.heap.size vo acc)∧Hid (Below w.heap.size w wr))
 case atStart=>exact⟨_,0,.nil,rfl,Nat.zero_le _,rfl,rfl,hid (by rw[Fo.drop];rfl),hid (aF.nil w w.heap.size (by unfold Y8 Flat;rfl) rfl),hid (Below.refl _ _)⟩
 obtain⟨vo,k,acc,rfl,hk,hq,rfl,he,hown,hb⟩:=hrel
 have Hq:=hid hq
 clear hq
 obtain⟨wo,rfl⟩:∃x:World,x=wr:=⟨_,rfl⟩
 have hz:=hb.out.size
 by_cases hlt:k<l.len
 rotate_left
 · have HE:=hid (he.out.trans (by rw[show k=l.len by omega,gB,Fo.own,Fo.aOY]))
   clear he
   go_wp2
   go_ret
   exact⟨_,rfl,by rw[HE.out];exact hown.out,hb.out⟩
 obtain⟨a,kk,t,nn,s,ps,b,e,r,sv,pv,bv,ev,rfl,aI,hno⟩:=HL.out.at_ hlt
 have dL:=kN aI
 have SI:=hid (HW.out.trans (hb.out.mono hB))
 have HE:=hid (he.out.trans (by rw[aI,Fo.own]))
 have lT:acc.len+1+(Fo.own s).len+(Fo.own r).len=(Fo.own l).len:=by
  rw[HE.out,Fo.I5,Fo.len,Fo.I5];omega
 obtain⟨As,cs,rfl,hcs⟩:=hno.vals.subs.form
 obtain⟨Ab,cb,rfl,hcb⟩:=hno.vals.body.form
 obtain⟨Ae,ce,rfl,hce⟩:=hno.vals.els.form
 have HN:=hid hno.vals
 obtain⟨Ap,cp,rfl,kX,-⟩:=hno.vals.aX
 obtain⟨x0,x1,x2,x3,x4,x5,x6⟩:=hno.cells
 have hab:(a.add (k*7)).block<B:=by rw[f_];exact hno.lt
 have c0:=(SI.out.cell hab).trans x0
 have c1:=(SI.out.cell (p:=⟨(a.add (k*7)).block,(a.add (k*7)).off+1,none⟩) hab).trans x1
 have c2:=(SI.out.cell (p:=⟨(a.add (k*7)).block,(a.add (k*7)).off+2,none⟩) hab).trans x2
 have c3:=(SI.out.cell (p:=⟨(a.add (k*7)).block,(a.add (k*7)).off+3,none⟩) hab).trans x3
 have c4:=(SI.out.cell (p:=⟨(a.add (k*7)).block,(a.add (k*7)).off+4,none⟩) hab).trans x4
 have c5:=(SI.out.cell (p:=⟨(a.add (k*7)).block,(a.add (k*7)).off+5,none⟩) hab).trans x5
 have c6:=(SI.out.cell (p:=⟨(a.add (k*7)).block,(a.add (k*7)).off+6,none⟩) hab).trans x6
 have Hd:=hid aI
 have IA:=hid x3
 clear aI hno x0 x1 x2 x3 x4 x5 x6 he
 have dG:=hid (hb.out.alloc hz (.cells #[.int .u8 kk,.string t,.int .i64 nn,.slice As s.len cs,.slice Ap ps.length cp,.slice Ab b.len cb,.slice Ae e.len ce] 69))
 have TJ:=hid (aF.alloc hown.out (.cells #[.int .u8 kk,.string t,.int .i64 nn,.slice As s.len cs,.slice Ap ps.length cp,.slice Ab b.len cb,.slice Ae e.len ce] 69))
 have hP:=hid (CH (w:=wo) (t:=69) (cs:=#[.int .u8 kk,.string t,.int .i64 nn,.slice As s.len cs,.slice Ap ps.length cp,.slice Ab b.len cb,.slice Ae e.len ce]) (n:=1) (size:=7) rfl)
 have D3:=hid (show Flat W B (.cons kk t nn s ps b e .nil) [.int .u8 kk,.string t,.int .i64 nn,.slice As s.len cs,.slice Ap ps.length cp,.slice Ab b.len cb,.slice Ae e.len ce] from UE HN.out (by unfold Flat;rfl))
 clear hown
 go_wp2_with (at_builtin;go_must (refine aMH W B rfl _ _ rfl w.heap.size _ acc rfl TJ.out _ _ 1 _ (.cons kk t nn s ps b e .nil) _ rfl rfl hP.out D3.out (by omega) (by simp;omega) ?_))
 intro v5 w5 aZ aU
 have cK:=hid aZ
 have iT:=hid (aF.grown TJ.out dG.out aU dG.out.size)
 have a8S:=hid (HW.out.trans (iT.out.mono hB))
 have oC:=iT.out.size
 clear aZ aU TJ dG hP D3 c0 c1 c2 c3 c4 c5 c6
 have d3:=(a8S.out.cell (p:=⟨(a.add (k*7)).block,(a.add (k*7)).off+3,none⟩) hab).trans IA.out
 have HC:=hid (HI.out s.cnt (by omega) s (.slice As s.len cs) B W w5 (aC _) (by omega) HN.out.subs a8S.out (by omega))
 have hols:=Fo.KU s
 go_wp2_with fail
 refine HC.out.mono ?_
 rintro e1 w6 ⟨v6,rfl,eX,b_⟩
 have gJ:=hid (aF.below cK.out b_ (aC _))
 have TN:=hid (iT.out.trans (b_.mono oC))
 have mN:=b_.size
 obtain⟨A6,c6,n6,rfl,-,hr6,G1⟩:=aF.src eX
 have Hr6:=hid hr6
 have HR6:=hid (show Flat W B (Fo.own s) n6 from G1)
 clear eX b_ hr6 G1 HC cK iT d3
 have a79:(Fo.app acc (.cons kk t nn s ps b e .nil)).len=acc.len+1:=by rw[Fo.I5];rfl
 obtain⟨jE,ha2⟩:∃z,z=Fo.app acc (.cons kk t nn s ps b e .nil):=⟨_,rfl⟩
 rw[←ha2] at gJ a79
 have Ha2:=hid ha2
 clear ha2
 go_wp2_with (at_builtin;go_must (refine aMH W B rfl _ _ rfl w.heap.size _ jE rfl gJ.out _ A6 _ c6 (Fo.own s) n6 rfl rfl Hr6.out HR6.out (by omega) (by omega) ?_))
 intro v7 w7 j2 eM
 have KD:=hid j2
 have HL7:=hid (aF.grown gJ.out TN.out eM (by omega))
 have TQ:=hid (show Fo.own l=Fo.app (Fo.app jE (Fo.own s)) (Fo.own (Fo.drop (k+1) l)) by
  rw[eD Hd.out,Ha2.out,Fo.aD0,Fo.aD0,HE.out];rfl)
 clear j2 eM gJ TN
 go_wp2
 go_roundg (l.len-(k+1))
 case rel=>exact⟨_,k+1,Fo.app jE (Fo.own s),rfl,hlt,rfl,by go_num,TQ,KD,HL7⟩
 rw[Hq.out];omega
theorem bEZ (l:Fo) (v:Value) (B:Nat) (W w:World) (hc2:l.cnt≤1000000) (hl:cM W B v l) (hW:Below B W w) (hB:B≤w.heap.size):
 Calls Tryz.prog 99 #[v] w (a0_ W B w (Fo.fns (Fo.own l))):=by
 obtain⟨A,cap,rfl,cB⟩:=hl.form
 have HC:=hid (a1L l.cnt l (.slice A l.len cap) B W w (aC _) hc2 hl hW hB)
 have gR:=Fo.KU l
 clear hl hW
 go_enter Tryz.func99,Tryz.ntmps99
 go_wp2_with fail
 refine HC.out.mono ?_
 rintro e1 w4 ⟨v4,rfl,cU,hb4⟩
 have HS:=hid cU
 have HB:=hid hb4
 have gY:=hb4.size
 generalize Fo.own l=ol at *
 obtain⟨A4,c4,n4,e4,-⟩:=aF.src cU
 subst e4
 clear cU hb4 HC
 go_wp2
 go_loopg [3,5] ol.len (fun g o i wr=>∃(vo:Value) (k:Nat) (acc:Fo),vo=o∧k≤ol.len∧g=ol.len-k∧i=.int .i64 k∧Hid (Fo.fns ol=Fo.app acc (Fo.fns (Fo.drop k ol)))∧acc.len≤k∧Hid (lX W B wr w4.heap.size vo acc)∧Hid (Below w4.heap.size w4 wr))
 case atStart=>exact⟨_,0,.nil,rfl,Nat.zero_le _,rfl,rfl,hid (by rw[Fo.drop];rfl),aC _,hid (aF.nil w4 w4.heap.size (by unfold Y8 Flat;rfl) rfl),hid (Below.refl _ _)⟩
 obtain⟨vo,k,acc,rfl,hk,hq,rfl,he,lT,hown,hb⟩:=hrel
 have Hq:=hid hq
 clear hq
 obtain⟨wo,rfl⟩:∃x:World,x=wr:=⟨_,rfl⟩
 have hz:=hb.out.size
 by_cases hlt:k<ol.len
 rotate_left
 · have HE:=hid (he.out.trans (by rw[show k=ol.len by omega,gB,Fo.fns,Fo.aOY]))
   clear he
   go_wp2
   go_ret
   exact⟨_,rfl,by rw[HE.out];exact aF.more hown.out gY,HB.out.trans (hb.out.mono gY)⟩
 obtain⟨a,c',kk,t,nn,s,ps,b,e,r,sv,pv,bv,ev,hv4,aI,J3,hab,x0,x1,x2,x3,x4,x5,x6⟩:=HS.out.at_ hlt
 injection hv4 with hA hx hx2
 subst hA
 have HE:=hid (he.out.trans (by rw[bLQ aI]))
 obtain⟨As,cs,rfl,hcs⟩:=J3.subs.form
 obtain⟨Ab,cb,rfl,hcb⟩:=J3.body.form
 obtain⟨Ae,ce,rfl,hce⟩:=J3.els.form
 have HN:=hid J3
 obtain⟨Ap,cp,rfl,kX,-⟩:=J3.aX
 have hab:(a.add (k*7)).block<w4.heap.size:=by rw[f_];exact hab
 have c0:=(hb.out.cell hab).trans x0
 have c1:=(hb.out.cell (p:=⟨(a.add (k*7)).block,(a.add (k*7)).off+1,none⟩) hab).trans x1
 have c2:=(hb.out.cell (p:=⟨(a.add (k*7)).block,(a.add (k*7)).off+2,none⟩) hab).trans x2
 have c3:=(hb.out.cell (p:=⟨(a.add (k*7)).block,(a.add (k*7)).off+3,none⟩) hab).trans x3
 have c4':=(hb.out.cell (p:=⟨(a.add (k*7)).block,(a.add (k*7)).off+4,none⟩) hab).trans x4
 have c5:=(hb.out.cell (p:=⟨(a.add (k*7)).block,(a.add (k*7)).off+5,none⟩) hab).trans x5
 have c6:=(hb.out.cell (p:=⟨(a.add (k*7)).block,(a.add (k*7)).off+6,none⟩) hab).trans x6
 have Hd:=hid aI
 clear aI J3 x0 x1 x2 x3 x4 x5 x6 he hx hx2
 by_cases kA:kk=10
 rotate_left
 · have bM:=hid (HE.out.trans (by rw[if_neg kA]))
   have TQ:=hid (show Fo.fns ol=Fo.app acc (Fo.fns (Fo.drop (k+1) ol)) by rw[eD Hd.out];exact bM.out)
   have b1:((kk:Int)==10)=false:=aP (by omega)
   clear kA
   go_wp2
   go_roundg (ol.len-(k+1))
   case rel=>exact⟨_,k+1,_,rfl,hlt,rfl,by go_num,TQ,by omega,hown,hb⟩
   rw[Hq.out];omega
 have bM:=hid (HE.out.trans (by rw[if_pos kA]))
 have b1:((kk:Int)==10)=true:=beq_iff_eq.2 (by omega)
 clear kA
 have dG:=hid (hb.out.alloc hz (.cells #[.int .u8 kk,.string t,.int .i64 nn,.slice As s.len cs,.slice Ap ps.length cp,.slice Ab b.len cb,.slice Ae e.len ce] 69))
 have TJ:=hid (aF.alloc hown.out (.cells #[.int .u8 kk,.string t,.int .i64 nn,.slice As s.len cs,.slice Ap ps.length cp,.slice Ab b.len cb,.slice Ae e.len ce] 69))
 have hP:=hid (CH (w:=wo) (t:=69) (cs:=#[.int .u8 kk,.string t,.int .i64 nn,.slice As s.len cs,.slice Ap ps.length cp,.slice Ab b.len cb,.slice Ae e.len ce]) (n:=1) (size:=7) rfl)
 have D3:=hid (show Flat W B (.cons kk t nn s ps b e .nil) [.int .u8 kk,.string t,.int .i64 nn,.slice As s.len cs,.slice Ap ps.length cp,.slice Ab b.len cb,.slice Ae e.len ce] from UE HN.out (by unfold Flat;rfl))
 clear hown
 go_wp2_with (at_builtin;go_must (refine aMH W B rfl _ _ rfl w4.heap.size _ acc rfl TJ.out _ _ 1 _ (.cons kk t nn s ps b e .nil) _ rfl rfl hP.out D3.out (by omega) (by simp;omega) ?_))
 intro v5 w5 aZ aU
 have cK:=hid aZ
 have iT:=hid (aF.grown TJ.out dG.out aU dG.out.size)
 have TQ:=hid (show Fo.fns ol=Fo.app (Fo.app acc (.cons kk t nn s ps b e .nil)) (Fo.fns (Fo.drop (k+1) ol)) by
  rw[eD Hd.out,Fo.aD0,bM.out];rfl)
 have bRQ:(Fo.app acc (.cons kk t nn s ps b e .nil)).len≤k+1:=by rw[Fo.I5];simp only[Fo.len];omega
 clear aZ aU TJ dG hP D3 c0 c1 c2 c3 c4' c5 c6
 go_wp2
 go_roundg (ol.len-(k+1))
 case rel=>exact⟨_,k+1,_,rfl,hlt,rfl,by go_num,TQ,bRQ,cK,iT⟩
 rw[Hq.out];omega
end
end Go.Proofs.YtdlndhbkcgmkkaaGreatDoor
