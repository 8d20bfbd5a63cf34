/-
 Part 14 of 35 of a proof about the given program: facts on which the last part stands.
-/
import Derived.Test.YtdlndhbkcgmkkaaGreatDoorFL10
import Derived.Deep.RegionHeld3
set_option maxHeartbeats 12800000
set_option linter.unusedVariables false
set_option linter.unusedSimpArgs false
set_option maxRecDepth 100000
namespace Go.Proofs.YtdlndhbkcgmkkaaGreatDoor
section
open Go.RowKit
open Go.Lib (hid)
namespace Sl
def QU (k:Nat):Bool:=decide (k=13∨k=22∨k=23∨k=24)
def outF:Fo→Bool
 |.nil=>false
 |.cons k _ _ s _ b e r=>(QU k||outF s||outF b||outF e)||outF r
def sX (k:Nat) (s b e:Fo):Bool:=QU k||outF s||outF b||outF e
theorem QL (k:Nat) (s b e:Fo):sX k s b e=(QU k||outF s||outF b||outF e):=rfl
theorem XX {i:Nat} {l:Fo} {k:Nat} {t:aA} {n:Int} {s:Fo} {ps:List aA} {b e r:Fo} (h:Fo.drop i l=.cons k t n s ps b e r):outF (Fo.drop i l)=(sX k s b e||outF r):=by rw[h,outF];rfl
def N9 (j:Nat) (a b c:Bool):Bool:=if j=0 then false else if j=1 then a else if j=2 then a||b else a||b||c
end Sl
open Sl
theorem bFG:∀(c:Nat) (k:Nat) (t:aA) (n:Int) (s:Fo) (ps:List aA) (b e:Fo) (sv pv bv ev:Value) (B:Nat) (w:World),1+s.cnt+b.cnt+e.cnt≤c→c≤1073741824→lY w B sv pv bv ev s ps b e→B≤w.heap.size→
 Calls Tryz.prog 71 #[.agg #[.int .u8 k,.string t,.int .i64 n,sv,pv,bv,ev]] w fun e1 w'=>e1=.returned (.bool (sX k s b e))∧Below w.heap.size w w':=fun c=>by
 induction c using Nat.strongRecOn with
 |ind c ih=>
 intro k t n s ps b e sv pv bv ev B w hc hc2 hv hB
 have rW:=Fo.k7 s
 have E_:=Fo.k7 b
 have hle:=Fo.k7 e
 obtain⟨As,cs,rfl,hcs⟩:=hv.subs.form
 obtain⟨Ab,cb,rfl,hcb⟩:=hv.body.form
 obtain⟨Ae,ce,rfl,hce⟩:=hv.els.form
 have lJ:=hid hv
 obtain⟨Ap,cp,rfl,kX,-⟩:=hv.aX
 have HI:=hid ih
 clear hv ih
 have HA:=hid ((Below.refl w.heap.size w).alloc (aC _) (.cells #[.int .u8 k,.string t,.int .i64 n,.slice As s.len cs,.slice Ap ps.length cp,.slice Ab b.len cb,.slice Ae e.len ce] 69))
 have bN:=hid (aG.new w 69 #[.int .u8 k,.string t,.int .i64 n,.slice As s.len cs,.slice Ap ps.length cp,.slice Ab b.len cb,.slice Ae e.len ce])
 go_enter Tryz.func71,Tryz.ntmps71
 go_upto_region 1 with fail
 generalize w.alloc (.cells #[.int .u8 k,.string t,.int .i64 n,.slice As s.len cs,.slice Ap ps.length cp,.slice Ab b.len cb,.slice Ae e.len ce] 69)=w1 at *
 obtain⟨a0,a1,a2,a3,a4,a5,a6⟩:=j5 bN.out
 have rR:=bN.out.lt
 by_cases hk:k=13∨k=22∨k=23∨k=24
 · have HR:=hid (show sX k s b e=true by rw[QL,show QU k=true from bF hk];simp)
   rcases hk with rfl|rfl|rfl|rfl<;>
   (go_wp2
    go_ret
    exact⟨aR HR.out.symm,HA.out⟩)
 have HK:=hid (show QU k=false from bP hk)
 have G_:((k:Int)==13)=false:=aP (by omega)
 have e22:((k:Int)==22)=false:=aP (by omega)
 have e23:((k:Int)==23)=false:=aP (by omega)
 have e24:((k:Int)==24)=false:=aP (by omega)
 clear hk
 have rC:=hid ((Below.refl w1.heap.size w1).alloc (aC _) (.cells #[.slice As s.len cs,.slice Ab b.len cb,.slice Ae e.len ce] 66))
 have lK:=hid (aG.new w1 66 #[.slice As s.len cs,.slice Ab b.len cb,.slice Ae e.len ce])
 go_upto_region 4 with fail
 generalize w1.alloc (.cells #[.slice As s.len cs,.slice Ab b.len cb,.slice Ae e.len ce] 66)=w3 at *
 have hz3:=rC.out.size
 have OD:=lK.out.lt
 clear a0 a1 a2 a3 a4 a5 a6 G_ e22 e23 e24
 go_wp2
 go_loopg [4] 3 (fun g i wr=>∃jx:Nat,jx≤3∧g=3-jx∧i=.int .i64 jx∧Hid (N9 jx (outF s) (outF b) (outF e)=false)∧Hid (Below w3.heap.size w3 wr))
 case atStart=>exact⟨0,by omega,rfl,rfl,hid rfl,hid (Below.refl _ _)⟩
 obtain⟨jx,hj,lD,rfl,aJG,cH⟩:=hrel
 have H9:=hid lD
 clear lD
 obtain⟨wx,rfl⟩:∃x:World,x=wr:=⟨_,rfl⟩
 have o_:=cH.out.size
 have HW:=hid (HA.out.trans ((rC.out.trans (cH.out.mono (by omega))).mono (by omega)))
 have YR:jx=3∨jx=0∨jx=1∨jx=2:=by omega
 rcases YR with rfl|rfl|rfl|rfl
 · have HR:=hid (show sX k s b e=false by
    have:=aJG.out
    unfold N9 at this
    simp at this
    rw[QL,HK.out]
    simp[this])
   go_wp2
   go_ret
   exact⟨aR HR.out.symm,HW.out⟩
 · have cj:wx.cell? ⟨w1.heap.size,0,none⟩=some (.slice As s.len cs):=(lK.out.below cH.out lK.out.lt).cell 0
   have HZ:=hid (lJ.out.subs.below (HW.out.mono hB))
   have HQ:=hid aJG.out
   go_wp2
   go_loopg [5] s.len (fun g i wr=>∃q:Nat,q≤s.len∧g=s.len-q∧i=.int .i64 q∧Hid (outF s=outF (Fo.drop q s))∧Hid (Below wx.heap.size wx wr))
   case atStart=>exact⟨0,Nat.zero_le _,rfl,rfl,hid (by rw[Fo.drop]),hid (Below.refl _ _)⟩
   obtain⟨q,hq,hg,rfl,he,hby⟩:=hrel
   have Hg:=hid hg
   clear hg cj
   obtain⟨wy,rfl⟩:∃x:World,x=wr:=⟨_,rfl⟩
   have J0:=hby.out.size
   have cj:wy.cell? ⟨w1.heap.size,0,none⟩=some (.slice As s.len cs):=(lK.out.below (cH.out.trans (hby.out.mono (by have:=cH.out.size;omega))) lK.out.lt).cell 0
   have sB:=hid (HW.out.trans (hby.out.mono (by have:=HW.out.size;omega)))
   by_cases hlt:q<s.len
   rotate_left
   · have HE:=hid (he.out.trans (by rw[show q=s.len by omega,gB,outF]:_=false))
     have HP2:=hid (show N9 1 (outF s) (outF b) (outF e)=false by
      have:=HQ.out
      have h2:=HE.out
      unfold N9 at this ⊢
      simp at this ⊢
      simp[h2])
     have D8:=hid (cH.out.trans (hby.out.mono (by have:=cH.out.size;omega)))
     clear he
     go_wp2
     go_roundg (3-1)
     case rel=>exact⟨1,by omega,rfl,rfl,HP2,D8⟩
     rw[H9.out];omega
   obtain⟨a,kk,tt,nn,s',C8,b',e',r',zT,l7,mD,AH,hA,aI,hno⟩:=(lJ.out.subs.below (sB.out.mono hB)).at_ hlt
   subst hA
   have dL:=kN aI
   have HE:=hid (he.out.trans (XX aI))
   have HC:=hid (HI.out (1+s'.cnt+b'.cnt+e'.cnt) (by omega) kk tt nn s' C8 b' e' zT l7 mD AH B wy (aC _) (by omega) hno.vals (by have:=sB.out.size;omega))
   obtain⟨c0,c1,c2,c3,c4,c5,c6⟩:=hno.cells
   have Hd:=hid aI
   clear aI hno
   generalize sX kk s' b' e'=ob at *
   cases ob with
   |true=>
    have HR:=hid (show sX k s b e=true by rw[QL,HE.out];simp)
    go_wp2_with fail
    refine HC.out.mono ?_
    rintro e1 w5 ⟨rfl,aQ⟩
    have a_:=hid (sB.out.trans (aQ.mono (by have:=sB.out.size;omega)))
    clear aQ
    go_wp2
    go_ret
    exact⟨aR HR.out.symm,a_.out⟩
   |false=>
    have bM:=hid (HE.out.trans (Bool.false_or _))
    go_wp2_with fail
    refine HC.out.mono ?_
    rintro e1 w5 ⟨rfl,aQ⟩
    have a_:=hid (hby.out.trans (aQ.mono J0))
    clear aQ
    go_wp2
    go_roundg (s.len-(q+1))
    case rel=>exact⟨q+1,hlt,rfl,by go_num,hid (by rw[eD Hd.out];exact bM.out),a_⟩
    rw[Hg.out];omega
 · have cj:wx.cell? ⟨w1.heap.size,1,none⟩=some (.slice Ab b.len cb):=(lK.out.below cH.out lK.out.lt).cell 1
   have HZ:=hid (lJ.out.body.below (HW.out.mono hB))
   have HQ:=hid aJG.out
   go_wp2
   go_loopg [5] b.len (fun g i wr=>∃q:Nat,q≤b.len∧g=b.len-q∧i=.int .i64 q∧Hid (outF b=outF (Fo.drop q b))∧Hid (Below wx.heap.size wx wr))
   case atStart=>exact⟨0,Nat.zero_le _,rfl,rfl,hid (by rw[Fo.drop]),hid (Below.refl _ _)⟩
   obtain⟨q,hq,hg,rfl,he,hby⟩:=hrel
   have Hg:=hid hg
   clear hg cj
   obtain⟨wy,rfl⟩:∃x:World,x=wr:=⟨_,rfl⟩
   have J0:=hby.out.size
   have cj:wy.cell? ⟨w1.heap.size,1,none⟩=some (.slice Ab b.len cb):=(lK.out.below (cH.out.trans (hby.out.mono (by have:=cH.out.size;omega))) lK.out.lt).cell 1
   have sB:=hid (HW.out.trans (hby.out.mono (by have:=HW.out.size;omega)))
   by_cases hlt:q<b.len
   rotate_left
   · have HE:=hid (he.out.trans (by rw[show q=b.len by omega,gB,outF]:_=false))
     have HP2:=hid (show N9 2 (outF s) (outF b) (outF e)=false by
      have:=HQ.out
      have h2:=HE.out
      unfold N9 at this ⊢
      simp at this ⊢
      simp[this,h2])
     have D8:=hid (cH.out.trans (hby.out.mono (by have:=cH.out.size;omega)))
     clear he
     go_wp2
     go_roundg (3-2)
     case rel=>exact⟨2,by omega,rfl,rfl,HP2,D8⟩
     rw[H9.out];omega
   obtain⟨a,kk,tt,nn,s',C8,b',e',r',zT,l7,mD,AH,hA,aI,hno⟩:=(lJ.out.body.below (sB.out.mono hB)).at_ hlt
   subst hA
   have dL:=kN aI
   have HE:=hid (he.out.trans (XX aI))
   have HC:=hid (HI.out (1+s'.cnt+b'.cnt+e'.cnt) (by omega) kk tt nn s' C8 b' e' zT l7 mD AH B wy (aC _) (by omega) hno.vals (by have:=sB.out.size;omega))
   obtain⟨c0,c1,c2,c3,c4,c5,c6⟩:=hno.cells
   have Hd:=hid aI
   clear aI hno
   generalize sX kk s' b' e'=ob at *
   cases ob with
   |true=>
    have HR:=hid (show sX k s b e=true by rw[QL,HE.out];simp)
    go_wp2_with fail
    refine HC.out.mono ?_
    rintro e1 w5 ⟨rfl,aQ⟩
    have a_:=hid (sB.out.trans (aQ.mono (by have:=sB.out.size;omega)))
    clear aQ
    go_wp2
    go_ret
    exact⟨aR HR.out.symm,a_.out⟩
   |false=>
    have bM:=hid (HE.out.trans (Bool.false_or _))
    go_wp2_with fail
    refine HC.out.mono ?_
    rintro e1 w5 ⟨rfl,aQ⟩
    have a_:=hid (hby.out.trans (aQ.mono J0))
    clear aQ
    go_wp2
    go_roundg (b.len-(q+1))
    case rel=>exact⟨q+1,hlt,rfl,by go_num,hid (by rw[eD Hd.out];exact bM.out),a_⟩
    rw[Hg.out];omega
 have cj:wx.cell? ⟨w1.heap.size,2,none⟩=some (.slice Ae e.len ce):=(lK.out.below cH.out lK.out.lt).cell 2
 have HZ:=hid (lJ.out.els.below (HW.out.mono hB))
 have HQ:=hid aJG.out
 go_wp2
 go_loopg [5] e.len (fun g i wr=>∃q:Nat,q≤e.len∧g=e.len-q∧i=.int .i64 q∧Hid (outF e=outF (Fo.drop q e))∧Hid (Below wx.heap.size wx wr))
 case atStart=>exact⟨0,Nat.zero_le _,rfl,rfl,hid (by rw[Fo.drop]),hid (Below.refl _ _)⟩
 obtain⟨q,hq,hg,rfl,he,hby⟩:=hrel
 have Hg:=hid hg
 clear hg cj
 obtain⟨wy,rfl⟩:∃x:World,x=wr:=⟨_,rfl⟩
 have J0:=hby.out.size
 have cj:wy.cell? ⟨w1.heap.size,2,none⟩=some (.slice Ae e.len ce):=(lK.out.below (cH.out.trans (hby.out.mono (by have:=cH.out.size;omega))) lK.out.lt).cell 2
 have sB:=hid (HW.out.trans (hby.out.mono (by have:=HW.out.size;omega)))
 by_cases hlt:q<e.len
 rotate_left
 · have HE:=hid (he.out.trans (by rw[show q=e.len by omega,gB,outF]:_=false))
   have HP2:=hid (show N9 3 (outF s) (outF b) (outF e)=false by
    have:=HQ.out
    have h2:=HE.out
    unfold N9 at this ⊢
    simp at this ⊢
    simp[this,h2])
   have D8:=hid (cH.out.trans (hby.out.mono (by have:=cH.out.size;omega)))
   clear he
   go_wp2
   go_roundg (3-3)
   case rel=>exact⟨3,by omega,rfl,rfl,HP2,D8⟩
   rw[H9.out];omega
 obtain⟨a,kk,tt,nn,s',C8,b',e',r',zT,l7,mD,AH,hA,aI,hno⟩:=(lJ.out.els.below (sB.out.mono hB)).at_ hlt
 subst hA
 have dL:=kN aI
 have HE:=hid (he.out.trans (XX aI))
 have HC:=hid (HI.out (1+s'.cnt+b'.cnt+e'.cnt) (by omega) kk tt nn s' C8 b' e' zT l7 mD AH B wy (aC _) (by omega) hno.vals (by have:=sB.out.size;omega))
 obtain⟨c0,c1,c2,c3,c4,c5,c6⟩:=hno.cells
 have Hd:=hid aI
 clear aI hno
 generalize sX kk s' b' e'=ob at *
 cases ob with
 |true=>
  have HR:=hid (show sX k s b e=true by rw[QL,HE.out];simp)
  go_wp2_with fail
  refine HC.out.mono ?_
  rintro e1 w5 ⟨rfl,aQ⟩
  have a_:=hid (sB.out.trans (aQ.mono (by have:=sB.out.size;omega)))
  clear aQ
  go_wp2
  go_ret
  exact⟨aR HR.out.symm,a_.out⟩
 |false=>
  have bM:=hid (HE.out.trans (Bool.false_or _))
  go_wp2_with fail
  refine HC.out.mono ?_
  rintro e1 w5 ⟨rfl,aQ⟩
  have a_:=hid (hby.out.trans (aQ.mono J0))
  clear aQ
  go_wp2
  go_roundg (e.len-(q+1))
  case rel=>exact⟨q+1,hlt,rfl,by go_num,hid (by rw[eD Hd.out];exact bM.out),a_⟩
  rw[Hg.out];omega
def uK (p:List Fc) (x:aA):Int:=dQ (fun f=>decide (f.name=x)) p 0
theorem aM_ (p:List Fc) (v:Value) (x:aA) (B:Nat) (w:World) (hv:eO w B v p) (hB:B≤w.heap.size) (hp:p.length≤140737488355328):
 Calls Tryz.prog 113 #[.agg #[v],.string x] w fun e w'=>e=.returned (.int .i64 (uK p x))∧Below w.heap.size w w':=by
 obtain⟨A,cap,rfl,cB⟩:=hv.form
 have HV:=hid hv
 clear hv
 have HA:=hid ((Below.refl w.heap.size w).alloc (aC _) (.cells #[.slice A p.length cap] 24))
 have bN:=hid (aG.new w 24 #[.slice A p.length cap])
 go_enter Tryz.func113,Tryz.ntmps113
 go_upto_region 1 with fail
 generalize w.alloc (.cells #[.slice A p.length cap] 24)=w0 at *
 have hz0:w.heap.size<w0.heap.size:=bN.out.lt
 have c0:w0.cell? ⟨w.heap.size,0,none⟩=some (.slice A p.length cap):=bN.out.cell 0
 go_wp2
 go_loop [5] (fun i=>∃k:Nat,k≤p.length∧i=.int .i64 k∧Hid (∀j,j<k→(decide ((p.getD j bI).name=x))=false)) (fun i=>p.length-(intOf i).toNat)
 case atStart=>exact⟨0,Nat.zero_le _,rfl,hid fun j h=>absurd h (Nat.not_lt_zero _)⟩
 obtain⟨k,hk,rfl,he⟩:=hrel
 by_cases hlt:k<p.length
 rotate_left
 · have HR:=hid (show uK p x=-1 from aNN (d:=bI) fun j hj=>he.out j (by omega))
   clear he
   go_wp2
   go_ret
   exact⟨dC HR.out.symm,HA.out⟩
 obtain⟨a,pv,bv,rfl,hab,d0,d1,d2,eF,cZ⟩:=(HV.out.below (HA.out.mono hB)).at_ hlt
 clear eF cZ
 by_cases hx:(p.getD k bI).name=x
 · have HR:=hid (show uK p x=k by
    have:=aOB (f:=fun f:Fc=>decide (f.name=x)) (d:=bI) (i:=0) hlt (bF hx) he.out
    rw[Nat.zero_add] at this
    exact this)
   have hb:((p.getD k bI).name.toList==x.toList)=true:=(Lib.bytes_beq_iff _ _).2 hx
   clear he hx
   generalize (p.getD k bI).name=y at *
   go_wp2
   go_ret
   exact⟨dC HR.out.symm,HA.out⟩
 have He:=hid (show ∀j,j<k+1→(decide ((p.getD j bI).name=x))=false from fun j hj=>by
  by_cases e:j=k
  · rw[e];exact bP hx
  exact he.out j (by omega))
 have hb:((p.getD k bI).name.toList==x.toList)=false:=(Lib.bytes_beq_false_iff _ _).2 hx
 clear he hx
 generalize (p.getD k bI).name=y at *
 go_wp2
 go_round
 case rel=>exact⟨k+1,hlt,by go_num,He⟩
 simp[intOf];omega
end
end Go.Proofs.YtdlndhbkcgmkkaaGreatDoor
