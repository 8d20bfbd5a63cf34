/-
 Part 33 of 35 of a proof about the given program: facts on which the last part stands.
-/
import Derived.Test.YtdlndhbkcgmkkaaGreatDoorFL22
import Derived.Test.YtdlndhbkcgmkkaaGreatDoorFL27
import Derived.Test.YtdlndhbkcgmkkaaGreatDoorFL31
set_option maxHeartbeats 12800000
set_option linter.unusedVariables false
set_option linter.unusedSimpArgs false
set_option maxRecDepth 100000
namespace Go.Proofs.YtdlndhbkcgmkkaaGreatDoor
section
open Go.RowKit
open Sl
open Go.Lib (hid)
theorem zqB {P:Program} {ops:Array Oper} {Q:Exit→Act→World→Prop} {md:Region.Mode} {S:World→Prop} {z:Nat} {oi:Oper} {k:Nat} {l:Array Bool} {a:Act} {w:World} (i d:Nat) (v:Value) (hi:ops[i]?=some oi) (hd:oi.dst=some d)
 (hb:(Region.noSelect ops&&Region.free md ops l i&&(Region.ready md ops l).contains i&&aI1 md ops z i&&decide (i≠z))=true)
 (hQ:∀c a w,Q (.panic c) (a.put (some d) v) w→Q (.panic c) a w) (hS:S w) (hw:Region.wanted oi (yielded ops a.tmps)=true) (hy:∀w,S w→(execOp a.eval oi).run P w=.ok (.value v) w)
 (h:AnyZ P md ops Q S z k (l.setIfInBounds i true) (a.put (some d) v) w):AnyZ P md ops Q S z (k+1) l a w:=by
 simp only[Bool.and_eq_true,decide_eq_true_eq] at hb
 exact cG _ hi hd hb.1.1.1.1 hb.1.1.1.2 hb.1.1.2 hQ hb.1.2 hb.2 hS hw hy h
namespace Sl
theorem k6.cells {w:World} {g:Nat} {p:List Fc} {N:List Px} (h:k6 w g p N):∃W B base Aa ca,Below B W w∧w.cell? ⟨g,1,none⟩=some (.slice Aa N.length ca)∧∀i x,N[i]?=some x→cF W B w base none x∧∃gb,Aa=some ⟨gb,0,none⟩∧w.cell? ⟨gb,i,none⟩=some (.pointer (some ⟨x.b,0,none⟩)):=by
 obtain⟨⟨W,B,base,pv,aV,av,fv,h1,h2,h3⟩,h4,h5⟩:=h
 obtain⟨Aa,ca,nw,hav,-⟩:=aF.src h1.gr.all
 have a77:av=.slice Aa N.length ca:=by rw[hav];simp
 refine⟨W,B,base,Aa,ca,h2,by rw[←a77];exact h1.gr.blk.cell 1,fun i x hi=>⟨h1.dS x (List.mem_of_getElem? hi),?_⟩⟩
 have jQ:(N.map (·.b))[i]?=some x.b:=by rw[lZ,hi];rfl
 obtain⟨gb,c,cs,hv,-,-,-,-,hC,cC,-⟩:=cP.at_ h1.gr.all aD7 jQ
 have hA:Aa=some ⟨gb,0,none⟩:=by
  rw[a77] at hv
  injection hv
 refine⟨gb,hA,?_⟩
 have:=cC 0 (by decide)
 rw[show cs=[.pointer (some ⟨x.b,0,none⟩)] from hC] at this
 simpa using this
theorem cF.cells {W:World} {B:Nat} {w:World} {base:Nat} {x:Px} (h:cF W B w base none x) (hW:Below B W w):w.cell? ⟨x.b,12,none⟩=some (.pointer (some x.ad))∧w.cell? ⟨x.b,15,none⟩=some (.int .i64 (x.sm.index:Nat))∧w.cell? ⟨x.b,16,none⟩=some (.int .i64 x.sm.owner)∧w.cell? ⟨x.b,17,none⟩=some (.int .i64 (x.sm.part:Nat))∧w.cell? x.ad=some (.int .u8 x.sm.nd.k)∧
 ∃lv bv ov,w.cell? ⟨x.b,14,none⟩=some lv∧w.cell? ⟨x.b,18,none⟩=some bv∧w.cell? ⟨x.b,19,none⟩=some ov∧aW w base lv (ints x.sm.eP)∧aW w base bv (ints x.sm.bl)∧aW w base ov (ints x.sm.ol):=by
 obtain⟨rv,cv,lv,bv,ov,hb,-,-,hl,kF,eG,-⟩:=h.ex
 obtain⟨a,o,sv,pv,bv2,ev,had,hn⟩:=h.nd
 refine⟨hb.cell 12,hb.cell 15,hb.cell 16,hb.cell 17,?_,lv,bv,ov,hb.cell 14,hb.cell 18,hb.cell 19,hl,kF,eG⟩
 rw[had]
 exact (hW.cell (p:=a.add o) (by rw[f_];exact hn.lt)).trans hn.kind
theorem k6.at_ {w:World} {g:Nat} {p:List Fc} {N:List Px} (h:k6 w g p N) {n:Nat} {r:Sm} (hr:(all p)[n]?=some r):∃x,N[n]?=some x∧x.sm=r:=by
 rw[←h.sm,lZ] at hr
 cases hx:N[n]? with
 |none=>rw[hx] at hr;cases hr
 |some x=>rw[hx] at hr;exact⟨x,rfl,Option.some.inj hr⟩
theorem k6.drewN {w:World} {g:Nat} {p:List Fc} {N:List Px} (h:k6 w g p N) (q:Nat):k6 (w.drewN q) g p N:=h.below (below_drewN (Below.refl _ _) q)
def aI5 (g:Nat) (p:List Fc) (N:List Px) (n:Nat):Prop:=∀m r,m<n→(all p)[m]?=some r→∀w,k6 w g p N→Calls Tryz.prog 106 #[.pointer (some ⟨g,0,none⟩),.int .i64 (m:Nat)] w fun e w'=>e=.returned (.int .i64 r.follow)∧∃q,w'=w.drewN q
def XI (p:List Fc) (n:Nat) (o res:Int):Prop:=(o<0∧res=-1)∨∃m r,o=((m:Nat):Int)∧m<n∧(all p)[m]?=some r∧res=if r.nd.k=18 then o else r.follow
end Sl
theorem a09 (g:Nat) (p:List Fc) (N:List Px) (n:Nat) (HI:aI5 g p N n) (o res:Int) (ho:XI p n o res) (w:World) (h:k6 w g p N):
 Calls Tryz.prog 154 #[.pointer (some ⟨g,0,none⟩),.int .i64 o] w fun e w'=>e=.returned (.int .i64 res)∧∃q,w'=w.drewN q:=by
 rcases ho with⟨h0,rfl⟩|⟨m,r,rfl,hm,hr,rfl⟩
 · clear HI h
   go_enter Tryz.func154,Tryz.ntmps154
   go_wp2
   go_ret
   exact⟨rfl,0,rfl⟩
 have HF:=hid (HI m r hm hr w h)
 obtain⟨x,hx,j0⟩:=h.at_ hr
 have hmN:=(mK.1 hx).1
 obtain⟨W,B,base,Aa,ca,hW,g1,hat⟩:=h.cells
 obtain⟨hst,gb,rfl,c1⟩:=hat m x hx
 obtain⟨s12,-,-,-,sk,-⟩:=hst.cells hW
 rw[j0] at sk
 clear HI hat hst hW hx j0 hr h
 have aRT:¬((m:Nat):Int)<0:=by omega
 by_cases hk:r.nd.k=18
 · have b1:((r.nd.k:Int)==18)=true:=beq_iff_eq.2 (by omega)
   rw[if_pos hk]
   clear hk
   go_enter Tryz.func154,Tryz.ntmps154
   go_wp2
   go_ret
   exact⟨rfl,0,rfl⟩
 have b1:((r.nd.k:Int)==18)=false:=aP (by omega)
 rw[if_neg hk]
 clear hk
 go_enter Tryz.func154,Tryz.ntmps154
 go_wp2_with fail
 refine HF.out.mono ?_
 rintro e1 w1 ⟨rfl,q,rfl⟩
 go_wp2
 go_ret
 exact⟨rfl,q,rfl⟩
namespace Sl
theorem a16 {w:World} {base:Nat} {v:Value} {l:List Nat} (h:aW w base v (ints l)) (hb:l.length≤100000):∃A c,v=.slice A l.length c∧∀i m,l[i]?=some m→∃a,A=some a∧w.cell? (a.add i)=some (.int .i64 ((m:Nat):Int)):=by
 have hl:(ints l).length=l.length:=by unfold ints;rw[cL]
 obtain⟨A,c,hv,-,-,hr⟩:=aW.reads h (by rw[hl];omega)
 rw[hl] at hv
 refine⟨A,c,hv,fun i m hi=>?_⟩
 have hil:=(mK.1 hi).1
 obtain⟨a,hA,-,hc⟩:=ints_at hr (k:=i) (by rw[hl];exact hil)
 refine⟨a,hA,?_⟩
 rw[hc]
 unfold ints
 rw[dR,lZ,hi]
 rfl
theorem Loc.aft {p:List Fc} {n:Nat} {r:Sm} (h:Sl.Loc (all p) n r) (hlen:n<(all p).length) (hl:r.eP[r.index+1]?=none):XI p n r.owner r.follow:=by
 by_cases h0:r.owner<0
 · exact .inl ⟨h0,(h.last hl).1 h0⟩
 have h1:=h.own
 obtain⟨o,ho⟩:∃o,(all p)[r.owner.toNat]?=some o:=⟨(all p)[r.owner.toNat],bX (by omega)⟩
 exact .inr ⟨r.owner.toNat,o,by omega,by omega,ho,(h.last hl).2 o (by omega) ho⟩
end Sl
theorem bIG (g:Nat) (p:List Fc) (N:List Px) (n:Nat) (HI:aI5 g p N n) (x:Px) (hx:N[n]?=some x) (res:Int) (ho:XI p n x.sm.owner res) (w:World) (h:k6 w g p N):
 Calls Tryz.prog 155 #[.pointer (some ⟨g,0,none⟩),.pointer (some ⟨x.b,0,none⟩)] w fun e w'=>e=.returned (.int .i64 res)∧∃q,w'=w.drewN q:=by
 have HA:=hid (a09 g p N n HI x.sm.owner res ho w h)
 obtain⟨W,B,base,Aa,ca,hW,-,hat⟩:=h.cells
 obtain⟨hst,-⟩:=hat n x hx
 obtain⟨-,-,s16,-⟩:=hst.cells hW
 clear HI hx ho h hW hat hst
 go_enter Tryz.func155,Tryz.ntmps155
 go_wp2_with fail
 refine HA.out.mono ?_
 rintro e1 w1 ⟨rfl,q,rfl⟩
 go_wp2
 go_ret
 exact⟨rfl,q,rfl⟩
theorem aZO (g:Nat) (p:List Fc) (N:List Px) (hloc:∀(n:Nat) (r:Sm),(Sl.all p)[n]?=some r→Sl.Loc (Sl.all p) n r) (aRW:∀(n:Nat) (r:Sm),(Sl.all p)[n]?=some r→r.eP.length≤100000):∀n,aI5 g p N n:=fun n=>by
 induction n with
 |zero=>exact fun m r hm=>absurd hm (Nat.not_lt_zero _)
 |succ n ih=>
 intro m r hm hr w h
 by_cases hmn:m<n
 · exact ih m r hmn hr w h
 obtain rfl:m=n:=by omega
 obtain⟨x,hx,rfl⟩:=h.at_ hr
 have hL:=hloc m _ hr
 have qM:=aRW m _ hr
 have hmN:=(mK.1 hx).1
 have hmA:=(mK.1 hr).1
 have aJJ:=(mK.1 hL.at_).1
 obtain⟨W,B,base,Aa,ca,hW,g1,hat⟩:=h.cells
 obtain⟨hst,gb,rfl,c1⟩:=hat m x hx
 obtain⟨-,s15,-,-,-,lv,-,-,s14,-,-,hl,-⟩:=hst.cells hW
 obtain⟨Al,cl,rfl,bZ⟩:=a16 hl qM
 by_cases hlt:x.sm.index+1<x.sm.eP.length
 · obtain⟨k,hk⟩:∃k,x.sm.eP[x.sm.index+1]?=some k:=⟨x.sm.eP[x.sm.index+1],bX hlt⟩
   obtain⟨al,rfl,ck⟩:=bZ _ _ hk
   have HF:=hid (hL.next k hk)
   obtain⟨ix,MF⟩:∃z,z=x.sm.index:=⟨_,rfl⟩
   obtain⟨ln,oF⟩:∃z,z=x.sm.eP.length:=⟨_,rfl⟩
   rw[←MF] at s15 ck hlt aJJ
   rw[←oF] at s14 hlt qM aJJ
   have hw:IntKind.i64.wrap ((ix:Int)+1)=((ix+1:Nat):Int):=by rw[IntKind.wrap_i64];omega
   generalize ix+1=j at *
   clear hL hW hat hst hl bZ hk hr h ih hloc aRW MF oF hx hmA
   go_enter Tryz.func106,Tryz.ntmps106
   go_wp2
   go_quiet (fail)
   go_wp2
   go_quiet (fail)
   go_wp2
   go_ret
   refine⟨dC HF.out.symm,?_⟩
   first|exact⟨_,rfl⟩|exact⟨_,World.drewN_drewN ..⟩
 have hnone:x.sm.eP[x.sm.index+1]?=none:=aAA (by omega)
 have HB:=hid (fun w h=>bIG g p N m ih x hx _ (hL.aft hmA hnone) w h)
 obtain⟨ix,MF⟩:∃z,z=x.sm.index:=⟨_,rfl⟩
 obtain⟨ln,oF⟩:∃z,z=x.sm.eP.length:=⟨_,rfl⟩
 rw[←MF] at s15 hlt aJJ
 rw[←oF] at s14 hlt qM aJJ
 have HH:=hid h
 clear hL hW hat hst hl bZ hr h ih hloc aRW MF oF hx hmA hnone
 go_enter Tryz.func106,Tryz.ntmps106
 go_wp2
 go_quiet (fail)
 go_wp2_with fail
 refine (HB.out _ (HH.out.drewN _)).mono ?_
 rintro e1 w1 ⟨rfl,q,rfl⟩
 go_wp2
 go_ret
 exact⟨rfl,_,rfl⟩
namespace Sl
theorem aZ1 (a b:Int):NS [a,b]=Gr.mJ a b:=by
 refine a1I ?_ fun x=>?_
 · unfold Gr.mJ
   by_cases h:a=b
   · rw[if_pos h];simp
   rw[if_neg h]
   refine List.pairwise_cons.2 ⟨fun y hy=>?_,by simp⟩
   simp at hy
   omega
 unfold Gr.mJ
 by_cases h:a=b
 · rw[if_pos h];simp[h]
 rw[if_neg h]
 simp
 omega
end Sl
theorem aYW {w:World} {base:Nat} {v:Value} {l:List Int} (hown:aW w base v l) (hsz:l.length≤100000):
 Calls Tryz.prog 90 #[v] w fun e w'=>∃v',e=.returned v'∧aW w' base v' (NS l)∧w.grownBy w' v.ownBlock∧v'.ownBlock=v.ownBlock:=by
 have HSo:=hid (aZ0 hown (by omega))
 have HL:=hid (show (l.mergeSort fun x y=>decide (x≤y)).length≤100000 by rw[(List.mergeSort_perm l _).length_eq];exact hsz)
 obtain⟨A,c,rfl,hc,-⟩:=jJ hown
 clear hown
 go_enter Tryz.func90,Tryz.ntmps90
 go_wp2_with fail
 refine HSo.out.mono ?_
 rintro e1 w1 ⟨rfl,MA,hg1⟩
 have HCm:=hid (aX7 MA (by have:=HL.out;omega))
 have HG1:=hid hg1
 clear MA hg1 HSo
 go_wp2_with fail
 refine HCm.out.mono ?_
 rintro e2 w2 ⟨v',rfl,tU,hg2,hv2⟩
 have KE:=hid tU
 have IL:=hid (HG1.out.trans hg2)
 have HV2:=hid hv2
 clear tU hg2 hv2 HCm
 go_wp2
 go_ret
 exact⟨_,rfl,KE.out,IL.out,HV2.out⟩
def Sl.aSS (l:List Nat) (res:Int):Int:=match l with | []=>res|m::_=>((m:Nat):Int)
theorem aMU (g:Nat) (p:List Fc) (N:List Px) (n:Nat) (HI:aI5 g p N n) (l:List Nat) (v:Value) (base:Nat) (o res:Int) (ho:XI p n o res) (w:World) (h:k6 w g p N) (hl:aW w base v (ints l)) (qM:l.length≤100000):
 Calls Tryz.prog 105 #[.pointer (some ⟨g,0,none⟩),v,.int .i64 o] w fun e w'=>e=.returned (.int .i64 (Sl.aSS l res))∧∃q,w'=w.drewN q:=by
 have HA:=hid (a09 g p N n HI o res ho w h)
 obtain⟨A,c,rfl,bZ⟩:=a16 hl qM
 cases l with
 |nil=>
  clear bZ hl HI ho h
  go_enter Tryz.func105,Tryz.ntmps105
  go_wp2_with fail
  refine HA.out.mono ?_
  rintro e1 w1 ⟨rfl,q,rfl⟩
  go_wp2
  go_ret
  exact⟨rfl,q,rfl⟩
 |cons m l=>
  obtain⟨a,rfl,ck0⟩:=bZ 0 m rfl
  have ck:w.cell? a=some (.int .i64 ((m:Nat):Int)):=ck0
  have hlen:0<(m::l).length:=by simp
  generalize (m::l).length=ln at *
  clear bZ hl HI ho h HA ck0
  go_enter Tryz.func105,Tryz.ntmps105
  go_wp2
  go_ret
  exact⟨rfl,0,rfl⟩
namespace Sl
structure S9 (p:List Fc):Prop where
 loc:∀(n:Nat) (r:Sm),(Sl.all p)[n]?=some r→Sl.Loc (Sl.all p) n r
 eP:∀(n:Nat) (r:Sm),(Sl.all p)[n]?=some r→r.eP.length≤100000
 bl:∀(n:Nat) (r:Sm),(Sl.all p)[n]?=some r→r.bl.length≤100000
 ol:∀(n:Nat) (r:Sm),(Sl.all p)[n]?=some r→r.ol.length≤100000
theorem bNH {p:List Fc} {n:Nat} {r:Sm} (h:Sl.Loc (Sl.all p) n r):r.body=aSS r.bl (if r.nd.k=18 then (n:Int) else r.follow):=by
 rw[h.mU];cases r.bl<;>rfl
theorem a2Z {p:List Fc} {n:Nat} {r:Sm} (h:Sl.Loc (Sl.all p) n r):r.els=aSS r.ol r.follow:=by
 rw[h.els];cases r.ol<;>rfl
end Sl
theorem aMK (g:Nat) (p:List Fc) (N:List Px) (hp:S9 p) (n:Nat) (r:Sm) (hr:(Sl.all p)[n]?=some r) (w:World) (h:k6 w g p N):
 Calls Tryz.prog 61 #[.pointer (some ⟨g,0,none⟩),.int .i64 (n:Nat)] w fun e w'=>∃v,e=.returned v∧aW w' w.heap.size v (Gr.ordinary r)∧Below w.heap.size w w':=by
 obtain⟨x,hx,rfl⟩:=h.at_ hr
 have hL:=hp.loc n _ hr
 have hbl:=hp.bl n _ hr
 have gR:=hp.ol n _ hr
 have hF:=aZO g p N hp.loc hp.eP (n+1)
 have aSR:XI p (n+1) ((n:Nat):Int) (if x.sm.nd.k=18 then ((n:Nat):Int) else x.sm.follow):=.inr ⟨n,x.sm,rfl,Nat.lt_succ_self n,hr,rfl⟩
 have hmN:=(mK.1 hx).1
 obtain⟨W,B,base,Aa,ca,hW,g1,hat⟩:=h.cells
 obtain⟨hst,gb,rfl,c1⟩:=hat n x hx
 obtain⟨s12,-,-,-,sk,lv,bv,ov,-,s18,s19,-,kF,eG⟩:=hst.cells hW
 have GL:x.b<w.heap.size:=hst.lt
 have QC:=hid (fun (X:World) (hX:Below w.heap.size w X)=>hF n x.sm (Nat.lt_succ_self n) hr X (h.below hX))
 have iU:=hid (fun (X:World) (hX:Below w.heap.size w X)=>(show Calls Tryz.prog 105 #[.pointer (some ⟨g,0,none⟩),bv,.int .i64 (n:Nat)] X (fun e w'=>e=.returned (.int .i64 x.sm.body)∧∃q,w'=X.drewN q) by
  rw[bNH hL]
  exact aMU g p N (n+1) hF x.sm.bl bv base _ _ aSR X (h.below hX) (gW kF hX (aC _)) hbl))
 have sG:=hid (fun (hk:¬x.sm.nd.k=18) (X:World) (hX:Below w.heap.size w X)=>(show Calls Tryz.prog 105 #[.pointer (some ⟨g,0,none⟩),ov,.int .i64 (n:Nat)] X (fun e w'=>e=.returned (.int .i64 x.sm.els)∧∃q,w'=X.drewN q) by
  have ha:=aSR
  rw[if_neg hk] at ha
  rw[a2Z hL]
  exact aMU g p N (n+1) hF x.sm.ol ov base _ _ ha X (h.below hX) (gW eG hX (aC _)) gR))
 clear hF aSR hL hbl gR hr hx hat hst hW kF eG h hp
 obtain⟨bo,jS⟩:∃z,z=x.sm.body:=⟨_,rfl⟩
 obtain⟨el,AB⟩:∃z,z=x.sm.els:=⟨_,rfl⟩
 obtain⟨fo,GS⟩:∃z,z=x.sm.follow:=⟨_,rfl⟩
 obtain⟨kk,WA⟩:∃z,z=x.sm.nd.k:=⟨_,rfl⟩
 have HO:=hid (show Gr.ordinary x.sm=if kk=17 then Gr.mJ bo el else if kk=18 then Gr.mJ bo fo else if kk=21 then [bo] else if kk=19 then [-1] else if kk=20 then [] else [fo] by rw[jS,AB,GS,WA];rfl)
 rw[←jS] at iU
 rw[←AB,←WA] at sG
 rw[←GS] at QC
 rw[←WA] at sk
 clear jS AB GS WA
 have mB:Below w.heap.size w w:=Below.refl _ _
 by_cases lI:kk=17
 · subst lI
   have HE:=hid (show Gr.ordinary x.sm=Gr.mJ bo el from HO.out)
   have bSI:=hid (sG.out (by decide))
   clear HO QC sG
   go_enter Tryz.func61,Tryz.ntmps61
   go_upto_region 4 with fail
   have bG:w.drew.cell? ⟨x.b,12,none⟩=some (.pointer (some x.ad))∧w.drew.cell? ⟨x.b,18,none⟩=some bv∧w.drew.cell? ⟨x.b,19,none⟩=some ov:=⟨s12,s18,s19⟩
   refine NA (fun w'=>w'.cell? ⟨x.b,12,none⟩=some (.pointer (some x.ad))∧w'.cell? ⟨x.b,18,none⟩=some bv∧w'.cell? ⟨x.b,19,none⟩=some ov) 16 (by kernel_rfl) ?_
   refine zqB 0 22 ?_ rfl rfl (by kernel_rfl) (fun _ _ _ h=>h) bG (by rfl) (by rintro w⟨GY,bR,bB⟩;go_simp;rfl) ?_
   simp only[Act.put,aJ,aO,aN]
   refine zqB 1 23 ?_ rfl rfl (by kernel_rfl) (fun _ _ _ h=>h) bG (by rfl) (by rintro w⟨GY,bR,bB⟩;go_simp;rfl) ?_
   simp only[Act.put,aJ,aO,aN]
   refine zqB 2 24 ?_ rfl rfl (by kernel_rfl) (fun _ _ _ h=>h) bG (by rfl) (by rintro w⟨GY,bR,bB⟩;go_simp;rfl) ?_
   simp only[Act.put,aJ,aO,aN]
   refine zqB 3 25 ?_ rfl rfl (by kernel_rfl) (fun _ _ _ h=>h) bG (by rfl) (by rintro w⟨GY,bR,bB⟩;go_simp;rfl) ?_
   simp only[Act.put,aJ,aO,aN]
   refine zqB 4 26 ?_ rfl rfl (by kernel_rfl) (fun _ _ _ h=>h) bG (by rfl) (by rintro w⟨GY,bR,bB⟩;go_simp;rfl) ?_
   simp only[Act.put,aJ,aO,aN]
   refine zqB 5 27 ?_ rfl rfl (by kernel_rfl) (fun _ _ _ h=>h) bG (by rfl) (by rintro w⟨GY,bR,bB⟩;go_simp;rfl) ?_
   simp only[Act.put,aJ,aO,aN]
   refine zqB 7 29 ?_ rfl rfl (by kernel_rfl) (fun _ _ _ h=>h) bG (by rfl) (by rintro w⟨GY,bR,bB⟩;go_simp;rfl) ?_
   simp only[Act.put,aJ,aO,aN]
   refine zqB 8 30 ?_ rfl rfl (by kernel_rfl) (fun _ _ _ h=>h) bG (by rfl) (by rintro w⟨GY,bR,bB⟩;go_simp;rfl) ?_
   simp only[Act.put,aJ,aO,aN]
   refine zqB 9 31 ?_ rfl rfl (by kernel_rfl) (fun _ _ _ h=>h) bG (by rfl) (by rintro w⟨GY,bR,bB⟩;go_simp;rfl) ?_
   simp only[Act.put,aJ,aO,aN]
   refine zqB 10 32 ?_ rfl rfl (by kernel_rfl) (fun _ _ _ h=>h) bG (by rfl) (by rintro w⟨GY,bR,bB⟩;go_simp;rfl) ?_
   simp only[Act.put,aJ,aO,aN]
   refine zqB 11 33 ?_ rfl rfl (by kernel_rfl) (fun _ _ _ h=>h) bG (by rfl) (by rintro w⟨GY,bR,bB⟩;go_simp;rfl) ?_
   simp only[Act.put,aJ,aO,aN]
   refine zqB 12 34 ?_ rfl rfl (by kernel_rfl) (fun _ _ _ h=>h) bG (by rfl) (by rintro w⟨GY,bR,bB⟩;go_simp;rfl) ?_
   simp only[Act.put,aJ,aO,aN]
   refine gM (i:=6) rfl (by kernel_rfl) (by rfl) (fun K hK=>?_)
   go_simp
   refine (iU.out w.drew mB.drew).mono ?_
   rintro e1 w1 ⟨rfl,q1,rfl⟩
   have hb1:Below w.heap.size w (w.drew.drewN q1):=below_drewN mB.drew q1
   obtain⟨w1,mO⟩:∃z:World,z=w.drew.drewN q1:=⟨_,rfl⟩
   rw[←mO] at hb1 ⊢
   have hS1:w1.cell? ⟨x.b,12,none⟩=some (.pointer (some x.ad))∧w1.cell? ⟨x.b,18,none⟩=some bv∧w1.cell? ⟨x.b,19,none⟩=some ov:=by rw[mO];exact⟨s12,s18,s19⟩
   have hz1:w.heap.size≤w1.heap.size:=hb1.size
   refine hK _ _ (fun _=>hS1) ?_
   clear mO
   clear hK K
   try simp only[Act.put,aJ]
   refine gM (i:=13) rfl (by kernel_rfl) (by rfl) (fun K hK=>?_)
   go_simp
   refine (bSI.out _ hb1).mono ?_
   rintro e2 w2 ⟨rfl,q2,rfl⟩
   have hb2:Below w.heap.size w (w1.drewN q2):=below_drewN hb1 q2
   obtain⟨w2,hw2⟩:∃z:World,z=w1.drewN q2:=⟨_,rfl⟩
   rw[←hw2] at hb2 ⊢
   have hS2:w2.cell? ⟨x.b,12,none⟩=some (.pointer (some x.ad))∧w2.cell? ⟨x.b,18,none⟩=some bv∧w2.cell? ⟨x.b,19,none⟩=some ov:=by rw[hw2];exact hS1
   have hz2:w.heap.size≤w2.heap.size:=hb2.size
   refine hK _ _ (fun _=>hS2) ?_
   clear hw2
   clear hK K
   try simp only[Act.put,aJ]
   refine gM (i:=14) rfl (by kernel_rfl) (by rfl) (fun K hK=>?_)
   go_simp
   have hb3:Below w.heap.size w (w2.alloc (.cells #[.int .i64 bo,.int .i64 el] 3)):=hb2.alloc (by omega) _
   have E8:=aDQ w2 w.heap.size bo el (by omega)
   have nH:(w2.alloc (.cells #[.int .i64 bo,.int .i64 el] 3)).cell? ⟨x.b,12,none⟩=some (.pointer (some x.ad))∧(w2.alloc (.cells #[.int .i64 bo,.int .i64 el] 3)).cell? ⟨x.b,18,none⟩=some bv∧(w2.alloc (.cells #[.int .i64 bo,.int .i64 el] 3)).cell? ⟨x.b,19,none⟩=some ov:=⟨(hb3.cell (p:=⟨x.b,12,none⟩) GL).trans s12,(hb3.cell (p:=⟨x.b,18,none⟩) GL).trans s18,(hb3.cell (p:=⟨x.b,19,none⟩) GL).trans s19⟩
   refine hK _ _ (fun _=>nH) ?_
   clear hK K
   try simp only[Act.put,aJ]
   refine gM (i:=15) rfl (by kernel_rfl) (by rfl) (fun K hK=>?_)
   go_simp
   refine (aYW E8 (by simp)).mono ?_
   rintro e4 w4 ⟨v4,rfl,iO,hg4,-⟩
   have hb4:Below w.heap.size w w4:=hb3.grown hg4 (by have:=hb3.size;omega) (fun j hj=>by cases hj;omega)
   rw[aZ1] at iO
   have kY:w4.cell? ⟨x.b,12,none⟩=some (.pointer (some x.ad))∧w4.cell? ⟨x.b,18,none⟩=some bv∧w4.cell? ⟨x.b,19,none⟩=some ov:=⟨(hb4.cell (p:=⟨x.b,12,none⟩) GL).trans s12,(hb4.cell (p:=⟨x.b,18,none⟩) GL).trans s18,(hb4.cell (p:=⟨x.b,19,none⟩) GL).trans s19⟩
   refine hK _ _ (fun _=>kY) ?_
   clear hK K
   try simp only[Act.put,aJ]
   refine gM (i:=16) rfl (by kernel_rfl) (by rfl) (fun K hK=>?_)
   go_simp
   refine hK _ _ (fun h=>absurd rfl h) ?_
   clear hK K
   try simp only[Act.put,aJ]
   refine NJ (by kernel_rfl) ?_ _
   have P9:=hid iO
   have bC:=hid hb4
   clear iO hb4 hg4 E8 hb3 bG hS1 hS2 nH kY
   go_wp2
   go_ret
   exact⟨_,rfl,by rw[HE.out];exact P9.out,bC.out⟩
 have b17:((kk:Int)==17)=false:=aP (by omega)
 by_cases oI:kk=18
 · subst oI
   have HE:=hid (show Gr.ordinary x.sm=Gr.mJ bo fo from HO.out)
   clear HO sG lI
   go_enter Tryz.func61,Tryz.ntmps61
   go_wp2_with fail
   refine (iU.out _ mB).mono ?_
   rintro e1 w1 ⟨rfl,q1,nC⟩
   have hb1:Below w.heap.size w w1:=by rw[nC];exact below_drewN mB q1
   have hz1:w.heap.size≤w1.heap.size:=hb1.size
   have aT:=hid hb1
   clear nC hb1
   go_wp2_with fail
   refine (QC.out _ aT.out).mono ?_
   rintro e2 w2 ⟨rfl,q2,GN⟩
   have hb2:Below w.heap.size w w2:=by rw[GN];exact below_drewN aT.out q2
   have hz2:w.heap.size≤w2.heap.size:=hb2.size
   have bY:=hid hb2
   have gK:=hid (aDQ w2 w.heap.size bo fo (by omega))
   have b7:=hid (show Below w.heap.size w (w2.alloc (.cells #[.int .i64 bo,.int .i64 fo] 3)) from hb2.alloc (by omega) _)
   clear GN hb2
   go_wp2_with fail
   refine (aYW gK.out (by simp)).mono ?_
   rintro e4 w4 ⟨v4,rfl,iO,hg4,-⟩
   have hb4:Below w.heap.size w w4:=b7.out.grown hg4 (by have:=b7.out.size;omega) (fun j hj=>by cases hj;omega)
   rw[aZ1] at iO
   have P9:=hid iO
   have bC:=hid hb4
   clear iO hb4 hg4 gK b7
   go_wp2
   go_ret
   exact⟨_,rfl,by rw[HE.out];exact P9.out,bC.out⟩
 have b18:((kk:Int)==18)=false:=aP (by omega)
 by_cases iR:kk=21
 · subst iR
   have HE:=hid (show Gr.ordinary x.sm=[bo] from HO.out)
   clear HO sG lI oI
   go_enter Tryz.func61,Tryz.ntmps61
   go_wp2_with fail
   refine (iU.out _ mB).mono ?_
   rintro e1 w1 ⟨rfl,q1,nC⟩
   have aT:=hid (show Below w.heap.size w w1 by rw[nC];exact below_drewN mB q1)
   have hz1:w.heap.size≤w1.heap.size:=aT.out.size
   clear nC
   have gK:=hid (IX w1 w.heap.size bo (by omega))
   have b7:=hid (show Below w.heap.size w (w1.alloc (.cells #[.int .i64 bo] 3)) from aT.out.alloc (by omega) _)
   clear aT
   go_wp2
   go_ret
   exact⟨_,rfl,by rw[HE.out];exact gK.out,b7.out⟩
 have b21:((kk:Int)==21)=false:=aP (by omega)
 by_cases qU:kk=19
 · subst qU
   have HE:=hid (show Gr.ordinary x.sm=[-1] from HO.out)
   clear HO sG lI oI iR
   have gK:=hid (IX w w.heap.size (-1) (aC _))
   have b7:=hid (show Below w.heap.size w (w.alloc (.cells #[.int .i64 (-1)] 3)) from mB.alloc (aC _) _)
   go_enter Tryz.func61,Tryz.ntmps61
   go_wp2
   go_ret
   exact⟨_,rfl,by rw[HE.out];exact gK.out,b7.out⟩
 have b19:((kk:Int)==19)=false:=aP (by omega)
 by_cases jH:kk=20
 · subst jH
   have HE:=hid (show Gr.ordinary x.sm=[] from HO.out)
   clear HO sG lI oI iR qU
   go_enter Tryz.func61,Tryz.ntmps61
   go_wp2
   go_ret
   exact⟨_,rfl,by rw[HE.out];exact EB w _,mB⟩
 have b20:((kk:Int)==20)=false:=aP (by omega)
 have HE:=hid (show Gr.ordinary x.sm=[fo] by rw[HO.out,if_neg lI,if_neg oI,if_neg iR,if_neg qU,if_neg jH])
 clear HO sG lI oI iR qU jH
 go_enter Tryz.func61,Tryz.ntmps61
 go_wp2_with fail
 refine (QC.out _ mB).mono ?_
 rintro e1 w1 ⟨rfl,q1,nC⟩
 have aT:=hid (show Below w.heap.size w w1 by rw[nC];exact below_drewN mB q1)
 have hz1:w.heap.size≤w1.heap.size:=aT.out.size
 clear nC
 have gK:=hid (IX w1 w.heap.size fo (by omega))
 have b7:=hid (show Below w.heap.size w (w1.alloc (.cells #[.int .i64 fo] 3)) from aT.out.alloc (by omega) _)
 clear aT
 go_wp2
 go_ret
 exact⟨_,rfl,by rw[HE.out];exact gK.out,b7.out⟩
theorem aYQ (g:Nat) (p:List Fc) (N:List Px) (hp:S9 p) (n:Nat) (x:Px) (hx:N[n]?=some x) (w:World) (h:k6 w g p N):
 Calls Tryz.prog 62 #[.pointer (some ⟨g,0,none⟩),.int .i64 (n:Nat)] w fun e w'=>∃v,e=.returned v∧aW w' w.heap.size v (if x.ef.cW then [x.sm.cD] else [])∧Below w.heap.size w w':=by
 obtain⟨res,hres⟩:∃z,z=if x.ef.cW then [x.sm.cD] else []:=⟨_,rfl⟩
 rw[←hres]
 have HR:=hid hres
 clear hres
 have HP:=hid hp
 have HH:=hid h
 have sD:=hid (show ∀(m:Nat) (y:Px),N[m]?=some y→(Sl.all p)[m]?=some y.sm from fun m y hy=>by rw[←h.sm,lZ,hy];rfl)
 have hmN:=(mK.1 hx).1
 obtain⟨W,B,base,Aa,ca,hW,g1,hat⟩:=h.cells
 obtain⟨hst,gb,rfl,c1⟩:=hat n x hx
 have M3:=hid (show ∀m y,N[m]?=some y→cF W B w base none y∧w.cell? ⟨gb,m,none⟩=some (.pointer (some ⟨y.b,0,none⟩)) from fun m y hy=>by
  obtain⟨a1,gb',e,a2⟩:=hat m y hy
  injection e with e;injection e with e
  subst e
  exact⟨a1,a2⟩)
 have HW:=hid hW
 obtain⟨rv,cv,lv0,bv0,ov0,hb,-⟩:=hst.ex
 have V1:w.cell? ⟨x.b,11,none⟩=some (.bool x.ef.cW):=hb.cell 11
 have HX:=hid hx
 clear hp h hat hst hb hW hx
 have mB:Below w.heap.size w w:=Below.refl _ _
 by_cases ht:x.ef.cW=true
 case neg=>
  have HE:=hid (show res=[] from HR.out.trans (if_neg ht))
  have hf:x.ef.cW=false:=by simpa using ht
  rw[hf] at V1
  clear ht hf
  go_enter Tryz.func62,Tryz.ntmps62
  go_wp2
  go_ret
  exact⟨_,rfl,by rw[HE.out];exact EB w _,mB⟩
 rw[ht] at V1
 obtain⟨ct,AE⟩:∃z,z=x.sm.cD:=⟨_,rfl⟩
 have D5:=hid AE
 have HE:=hid (show res=[ct] from HR.out.trans ((if_pos ht).trans (by rw[AE])))
 clear AE ht
 go_enter Tryz.func62,Tryz.ntmps62
 go_wp2
 go_loopg [5] n (fun q sv wr=>∃(m:Nat) (y:Px) (d:Nat),q=m∧m<N.length∧sv=.pointer (some ⟨y.b,0,none⟩)∧wr=w.drewN d∧Hid (N[m]?=some y)∧Hid (y.sm.cD=ct))
 case atStart=>exact⟨n,x,0,rfl,hmN,rfl,rfl,HX,hid D5.out.symm⟩
 obtain⟨m,y,d,hq,hm,rfl,rfl,hy,hc⟩:=hrel
 have Hq:=hid hq
 obtain⟨hst,-⟩:=M3.out m y hy.out
 obtain⟨-,-,s16,s17,-⟩:=hst.cells HW.out
 have hyb:=hst.lt
 have HL:=hid (HP.out.loc m _ (sD.out m y hy.out))
 clear hq hst V1
 by_cases h0:y.sm.owner<0
 · have HC:=hid (show ct=-1 by rw[←hc.out];exact HL.out.top h0)
   have gK:=hid (IX (w.drewN d) w.heap.size (-1) (aC _))
   have b7:=hid (show Below w.heap.size w ((w.drewN d).alloc (.cells #[.int .i64 (-1)] 3)) from (below_drewN mB d).alloc (aC _) _)
   have aRT:¬0≤y.sm.owner:=by omega
   generalize y.sm.owner=ow at *
   go_wp2
   go_ret
   exact⟨_,rfl,by rw[HE.out,HC.out];exact gK.out,b7.out⟩
 obtain⟨o,ho⟩:∃o:Nat,y.sm.owner=(o:Int):=⟨y.sm.owner.toNat,by omega⟩
 have hom:o<m:=by have:=HL.out.own;omega
 have hoN:o<N.length:=by omega
 obtain⟨z,hz⟩:∃z,N[o]?=some z:=⟨N[o],bX hoN⟩
 have RU:=sD.out o z hz
 have HUp:=hid (show y.sm.cD=if z.sm.nd.k=21∧y.sm.part=1 then z.sm.els else z.sm.cD from HL.out.up z.sm (by omega) (by rw[ho,Int.toNat_natCast];exact RU))
 obtain⟨OE,c2⟩:=M3.out o z hz
 obtain⟨z12,-,-,-,zk,lv,bv,ov,-,z18,z19,-,-,eG⟩:=OE.cells HW.out
 rw[ho] at s16
 have hzb:=OE.lt
 have HZ:=hid hz
 have HLz:=hid (HP.out.loc o _ RU)
 have gR:=HP.out.ol o _ RU
 have hF:=aZO g p N HP.out.loc HP.out.eP (o+1)
 have hge:¬((o:Nat):Int)<0:=by omega
 have eN:=hid (show ¬(z.sm.nd.k=21∧y.sm.part=1)→z.sm.cD=ct from fun hn=>by rw[←hc.out,HUp.out,if_neg hn])
 by_cases hk:z.sm.nd.k=21
 rotate_left
 · have b1:((z.sm.nd.k:Int)==21)=false:=aP (by omega)
   have HC:=hid (eN.out (fun h=>hk h.1))
   clear RU OE eG hz gR hF hk ho
   generalize z.sm.nd.k=zkk at *
   go_wp2
   go_quiet (fail)
   go_wp2
   go_quiet (fail)
   go_wp2
   go_roundg o
   case rel=>exact⟨o,z,_,rfl,hoN,rfl,World.drewN_drewN ..,HZ,HC⟩
   rw[Hq.out];exact hom
 have b1:((z.sm.nd.k:Int)==21)=true:=beq_iff_eq.2 (by omega)
 by_cases hpt:y.sm.part=1
 rotate_left
 · have b2:((y.sm.part:Int)==1)=false:=aP (by omega)
   have HC:=hid (eN.out (fun h=>hpt h.2))
   clear RU OE eG hz gR hF hk hpt ho
   generalize z.sm.nd.k=zkk at *
   generalize y.sm.part=ypt at *
   go_wp2
   go_quiet (fail)
   go_wp2
   go_quiet (fail)
   go_wp2
   go_roundg o
   case rel=>exact⟨o,z,_,rfl,hoN,rfl,World.drewN_drewN ..,HZ,HC⟩
   rw[Hq.out];exact hom
 have b2:((y.sm.part:Int)==1)=true:=beq_iff_eq.2 (by omega)
 have HC:=hid (show ct=z.sm.els by rw[←hc.out,HUp.out,if_pos ⟨hk,hpt⟩])
 have sG:=hid (fun (X:World) (hX:Below w.heap.size w X)=>(show Calls Tryz.prog 105 #[.pointer (some ⟨g,0,none⟩),ov,.int .i64 (o:Nat)] X (fun e w'=>e=.returned (.int .i64 ct)∧∃q,w'=X.drewN q) by
  have ha:XI p (o+1) ((o:Nat):Int) z.sm.follow:=.inr ⟨o,z.sm,rfl,Nat.lt_succ_self o,RU,by rw[if_neg (by omega)]⟩
  rw[HC.out,a2Z HLz.out]
  exact aMU g p N (o+1) hF z.sm.ol ov base _ _ ha X (HH.out.below hX) (gW eG hX (aC _)) gR))
 clear RU OE eG hz gR hF hk hpt ho
 generalize z.sm.nd.k=zkk at *
 generalize y.sm.part=ypt at *
 go_wp2
 go_quiet (fail)
 go_upto_region 8 with fail
 generalize hw2:World.drewN w _=w2
 have hb2:Below w.heap.size w w2:=by rw[←hw2];exact below_drewN mB _
 have bG:w2.drew.cell? ⟨y.b,16,none⟩=some (.int .i64 (o:Nat))∧w2.drew.cell? ⟨z.b,19,none⟩=some ov:=by rw[←hw2];exact⟨s16,z19⟩
 have hz2:w.heap.size≤w2.heap.size:=hb2.size
 clear hw2
 refine NA (fun w'=>w'.cell? ⟨y.b,16,none⟩=some (.int .i64 (o:Nat))∧w'.cell? ⟨z.b,19,none⟩=some ov) 11 (by kernel_rfl) ?_
 refine zqB 0 66 ?_ rfl rfl (by kernel_rfl) (fun _ _ _ h=>h) bG (by rfl) (by rintro w⟨bR,bB⟩;go_simp;rfl) ?_
 simp only[Act.put,aJ,aO,aN]
 refine zqB 1 67 ?_ rfl rfl (by kernel_rfl) (fun _ _ _ h=>h) bG (by rfl) (by rintro w⟨bR,bB⟩;go_simp;rfl) ?_
 simp only[Act.put,aJ,aO,aN]
 refine zqB 2 68 ?_ rfl rfl (by kernel_rfl) (fun _ _ _ h=>h) bG (by rfl) (by rintro w⟨bR,bB⟩;go_simp;rfl) ?_
 simp only[Act.put,aJ,aO,aN]
 refine zqB 3 69 ?_ rfl rfl (by kernel_rfl) (fun _ _ _ h=>h) bG (by rfl) (by rintro w⟨bR,bB⟩;go_simp;rfl) ?_
 simp only[Act.put,aJ,aO,aN]
 refine zqB 4 70 ?_ rfl rfl (by kernel_rfl) (fun _ _ _ h=>h) bG (by rfl) (by rintro w⟨bR,bB⟩;go_simp;rfl) ?_
 simp only[Act.put,aJ,aO,aN]
 refine zqB 5 71 ?_ rfl rfl (by kernel_rfl) (fun _ _ _ h=>h) bG (by rfl) (by rintro w⟨bR,bB⟩;go_simp;rfl) ?_
 simp only[Act.put,aJ,aO,aN]
 refine zqB 6 72 ?_ rfl rfl (by kernel_rfl) (fun _ _ _ h=>h) bG (by rfl) (by rintro w⟨bR,bB⟩;go_simp;rfl) ?_
 simp only[Act.put,aJ,aO,aN]
 refine zqB 7 73 ?_ rfl rfl (by kernel_rfl) (fun _ _ _ h=>h) bG (by rfl) (by rintro w⟨bR,bB⟩;go_simp;rfl) ?_
 simp only[Act.put,aJ,aO,aN]
 refine zqB 8 74 ?_ rfl rfl (by kernel_rfl) (fun _ _ _ h=>h) bG (by rfl) (by rintro w⟨bR,bB⟩;go_simp;rfl) ?_
 simp only[Act.put,aJ,aO,aN]
 refine gM (i:=9) rfl (by kernel_rfl) (by rfl) (fun K hK=>?_)
 go_simp
 refine (sG.out w2.drew hb2.drew).mono ?_
 rintro e1 w3 ⟨rfl,q1,nC⟩
 have hb3:Below w.heap.size w w3:=by rw[nC];exact below_drewN hb2.drew q1
 have hS1:w3.cell? ⟨y.b,16,none⟩=some (.int .i64 (o:Nat))∧w3.cell? ⟨z.b,19,none⟩=some ov:=by rw[nC];exact bG
 have hz3:w.heap.size≤w3.heap.size:=hb3.size
 refine hK _ _ (fun _=>hS1) ?_
 clear nC
 clear hK K
 try simp only[Act.put,aJ]
 refine gM (i:=10) rfl (by kernel_rfl) (by rfl) (fun K hK=>?_)
 go_simp
 have hb4:Below w.heap.size w (w3.alloc (.cells #[.int .i64 ct] 3)):=hb3.alloc (by omega) _
 have P9:=hid (IX w3 w.heap.size ct (by omega))
 have kY:(w3.alloc (.cells #[.int .i64 ct] 3)).cell? ⟨y.b,16,none⟩=some (.int .i64 (o:Nat))∧(w3.alloc (.cells #[.int .i64 ct] 3)).cell? ⟨z.b,19,none⟩=some ov:=⟨(hb4.cell (p:=⟨y.b,16,none⟩) hyb).trans s16,(hb4.cell (p:=⟨z.b,19,none⟩) hzb).trans z19⟩
 refine hK _ _ (fun _=>kY) ?_
 clear hK K
 try simp only[Act.put,aJ]
 refine gM (i:=11) rfl (by kernel_rfl) (by rfl) (fun K hK=>?_)
 go_simp
 refine hK _ _ (fun h=>absurd rfl h) ?_
 clear hK K
 try simp only[Act.put,aJ]
 refine NJ (by kernel_rfl) ?_ _
 have bC:=hid hb4
 clear hb4 hb3 hb2 bG hS1 kY
 go_wp2
 go_ret
 exact⟨_,rfl,by rw[HE.out];exact P9.out,bC.out⟩
namespace Sl
theorem sL.aQW {g base:Nat} {pv fv:Value} {clos:Bool} {aV:Nat} {w:World} {av:Value} {bs:List Nat} {bH:Nat} (h:sL g base pv fv clos aV w av bs bH) (i:Nat):sL g base pv fv clos i (w.setCell ⟨g,5,none⟩ (.int .i64 (i:Nat))) av bs bH:=
 ⟨h.blk.cS 5 _,aF.kept h.all (dH w _ _) (fun k e=>by cases e;exact aF.ne h.all h.blk (by decide)),h.low,by simpa[World.setCell] using h.size⟩
theorem iD.aQW {W:World} {B g base:Nat} {pv fv:Value} {clos:Bool} {aV:Nat} {w0:World} {eW:Option Nat} {dT:List Nat} {X:Option Nat} {w:World} {av ov hv:Value} {N:List Px} {H outs:List Nat} {bH:Nat} (h:iD W B g base pv fv clos aV w0 eW dT X w av ov hv N H outs bH) (i:Nat):iD W B g base pv fv clos i w0 eW dT X (w.setCell ⟨g,5,none⟩ (.int .i64 (i:Nat))) av ov hv N H outs bH where
 gr:=h.gr.aQW i
 out:=fA h.out (dH w _ _) (fun k e=>by cases e;exact eB h.out h.gr.blk (by decide))
 here:=aF.kept h.here (dH w _ _) (fun k e=>by cases e;exact aF.ne h.here h.gr.blk (by decide))
 dS:=fun x hx=>(h.dS x hx).aJT h.gr.blk (by decide) (by decide) (by decide) 5 _
 eQ:=h.eQ
 inc:=h.inc
 hne:=h.hne
 fr:=h.fr.QR 5 _
 row:=h.row
def EX (p:List Fc) (x:Px):Px:=⟨x.b,x.ad,x.sm,mC p x.sm.nd,false⟩
end Sl
theorem KI {P:Program} {ops:Array Oper} {Q:Exit→Act→World→Prop} {md:Region.Mode} {S:World→Prop} {i:Nat} {oi:Oper} {v:Value} {fuel:Nat} {listed:Array Bool} {a:Act} {w:World} (d:Option Nat) (hi:ops[i]?=some oi) (hd:oi.dst=d)
 (hs:Region.noSelect ops=true) (hf:Region.free md ops listed i=true) (hr:(Region.ready md ops listed).contains i=true)
 (hQ:∀c a w,Q (.panic c) (a.put d v) w→Q (.panic c) a w) (hy:YieldsIf P ops S oi v a) (hS:S w)
 (h:wpAnyH P md ops Q S fuel (listed.setIfInBounds i true) (a.put d v) w):wpAnyH P md ops Q S (fuel+1) listed a w:=by
 subst hd
 exact wpAnyH_take hi hs hf hr hQ hy hS h
theorem bEK {w:World} {ops:Array Oper} {o:Oper} {a:Act} {K:Act→World→Prop} {Q:Exit→Act→World→Prop} {E:Prop} (hgd:o.guard=none) (x y:Operand) (ho:o.op=.makeSlice 41 x y)
 (n:Nat) (hx:a.eval x=.int .i64 (n:Nat)) (hy:a.eval y=.int .i64 (n:Nat)) (hn:n≤100000000) (base:Nat) (hb:base≤w.heap.size)
 (h:∀w',sS w' base (.slice (some ⟨w.heap.size,0,none⟩) n n) (List.replicate n false)→w.grownBy w' none→K (a.put o.dst (.slice (some ⟨w.heap.size,0,none⟩) n n)) w'):
 if Region.wanted o (yielded ops a.tmps)=true then Oper.wp Tryz.prog o a w K Q else E:=by
 have hw:Region.wanted o (yielded ops a.tmps)=true:=by simp[Region.wanted,hgd]
 rw[if_pos hw]
 obtain⟨i,hi,hz,hs,hby⟩:=info_parts a0Q
 obtain⟨w',hr,h1,h2⟩:=run_make_full (P:=Tryz.prog) (w:=w) base 41 4 i _ 1 Tryz.underlying41 hi hz hs .i64 .i64 n (by rw[hby];omega) (by unfold maxLen;omega) hb
 unfold Oper.wp execOp
 simp only[ho,hx,hy,hr,Sem.run_bind,Sem.run_pure,Result.andThen_ok]
 refine h w' ⟨_,by rw[List.length_replicate];exact h1,?_⟩ h2
 rw[show (Value.bool false).cells=#[.bool false] from rfl,Nat.mul_one,toList_madeCells_one]
 exact aZ6 n
theorem bIE (K:Nat) (hK:K≤140737488355328) (hK4:4<K) (p:List Fc) (v:Value) (B:Nat) (w:World) (hv:eO w B v p) (hB:B≤w.heap.size) (hBe:B=w.heap.size) (hs:nodes p≤90000) (hp:p.length≤90000) (oT:∀f∈p,f.body.aX≤100000) (ho:oU K p):
 Calls Tryz.prog 72 #[.agg #[v]] w fun e w'=>Below w.heap.size w w'∧((dD p≠0∧e=.returned (.tuple #[.pointer none,.int .i64 (dD p)]))∨(dD p=0∧∃g N,e=.returned (.tuple #[.pointer (some ⟨g,0,none⟩),.int .i64 0])∧k6 w' g p N)):=by
 obtain⟨A,cap,rfl,cB⟩:=hv.form
 have HV:=hid hv
 have HO:=hid ho
 have HPa:=hid oT
 have HA:=hid ((Below.refl w.heap.size w).alloc (aC _) (.cells #[.slice A p.length cap] 24))
 have bN:=hid (aG.new w 24 #[.slice A p.length cap])
 have HS:=hid (fun (X:World) (hX:Below w.heap.size w X)=>bI2 K hK p (.slice A p.length cap) B X (hv.below (hX.mono hB)) (by have:=hX.size;omega) (by omega) (by omega) ho)
 have hz1:w.heap.size<(w.alloc (.cells #[.slice A p.length cap] 24)).heap.size:=by simp
 obtain⟨sc,hsc⟩:∃z,z=dD p:=⟨_,rfl⟩
 rw[←hsc] at HS ⊢
 have CB:=hid hsc
 have HBe:=hid hBe
 clear hv ho oT hsc hBe
 go_enter Tryz.func72,Tryz.ntmps72
 go_wp2_with fail
 refine (HS.out _ HA.out).mono ?_
 rintro e1 w1 ⟨rfl,hb1⟩
 have aT:=hid (HA.out.trans (hb1.mono (Nat.le_of_lt hz1)))
 have cQ:=hid (bN.out.below hb1 hz1)
 clear hb1 HS
 by_cases h0:sc=0
 rotate_left
 · have b0:((sc:Int) != 0)=true:=bne_iff_ne.2 (by omega)
   have HZ:=hid h0
   clear h0
   go_wp2
   go_ret2
   exact⟨aT.out,.inl ⟨HZ.out,rfl⟩⟩
 have b0:((sc:Int) != 0)=false:=by rw[h0];rfl
 have HZ:=hid h0
 clear h0
 go_upto_region 4 with fail
 have g_:=hid (fun (X:World) (hX:Below w1.heap.size w1 X)=>show X.cell? ⟨w.heap.size,0,none⟩=some (.slice A p.length cap) from (cQ.out.below hX cQ.out.lt).cell 0)
 refine wp_region_held_drew (S:=fun w'=>Below w1.heap.size w1 w') (by kernel_rfl) (Below.refl _ _).drew (fun kH=>?_)
 refine KI (i:=0) (d:=some 14) (v:=?_) rfl rfl (by kernel_rfl) (by kernel_rfl) (by kernel_rfl) (fun _ _ _ h=>h) (Or.inl ⟨by rfl,by intro w hSw;(try dsimp only at hSw);have z3:=g_.out w hSw;go_simp;rfl⟩) kH ?_
 try simp only[Act.put,aJ,aO,aN]
 refine KI (i:=1) (d:=some 15) (v:=?_) rfl rfl (by kernel_rfl) (by kernel_rfl) (by kernel_rfl) (fun _ _ _ h=>h) (Or.inl ⟨by rfl,by intro w hSw;(try dsimp only at hSw);have z3:=g_.out w hSw;go_simp;rfl⟩) kH ?_
 try simp only[Act.put,aJ,aO,aN]
 refine KI (i:=2) (d:=some 16) (v:=?_) rfl rfl (by kernel_rfl) (by kernel_rfl) (by kernel_rfl) (fun _ _ _ h=>h) (Or.inl ⟨by rfl,by intro w hSw;(try dsimp only at hSw);have z3:=g_.out w hSw;go_simp;rfl⟩) kH ?_
 try simp only[Act.put,aJ,aO,aN]
 refine KI (i:=3) (d:=some 17) (v:=?_) rfl rfl (by kernel_rfl) (by kernel_rfl) (by kernel_rfl) (fun _ _ _ h=>h) (Or.inl ⟨by rfl,by intro w hSw;(try dsimp only at hSw);have z3:=g_.out w hSw;go_simp;rfl⟩) kH ?_
 try simp only[Act.put,aJ,aO,aN]
 refine KI (i:=4) (d:=some 18) (v:=?_) rfl rfl (by kernel_rfl) (by kernel_rfl) (by kernel_rfl) (fun _ _ _ h=>h) (Or.inl ⟨by rfl,by intro w hSw;(try dsimp only at hSw);have z3:=g_.out w hSw;go_simp;rfl⟩) kH ?_
 try simp only[Act.put,aJ,aO,aN]
 refine KI (i:=5) (d:=some 19) (v:=?_) rfl rfl (by kernel_rfl) (by kernel_rfl) (by kernel_rfl) (fun _ _ _ h=>h) (Or.inl ⟨by rfl,by intro w hSw;(try dsimp only at hSw);have z3:=g_.out w hSw;go_simp;rfl⟩) kH ?_
 try simp only[Act.put,aJ,aO,aN]
 refine KI (i:=6) (d:=some 20) (v:=?_) rfl rfl (by kernel_rfl) (by kernel_rfl) (by kernel_rfl) (fun _ _ _ h=>h) (Or.inl ⟨by rfl,by intro w hSw;(try dsimp only at hSw);have z3:=g_.out w hSw;go_simp;rfl⟩) kH ?_
 try simp only[Act.put,aJ,aO,aN]
 refine wpAnyH_ready (rs:=[7]) (by kernel_rfl) (by simp) ?_
 refine AllReadyH.cons rfl (fun K hK=>?_) AllReadyH.nil
 refine bEK rfl _ _ (by rfl) p.length (by rfl) (by rfl) (by omega) w1.heap.size (aC _) ?_
 intro w2 hs2 hg2
 have PY:Below w1.heap.size w1 w2:=⟨hg2.os,hg2.tape,hg2.output,hg2.size,fun k hk=>hg2.block k hk (by simp)⟩
 have gI:=hid hs2
 refine hK.out _ _ PY (fun SK=>?_)
 clear hK K hs2 hg2
 try simp only[Act.put,aJ]
 refine KI (i:=8) (d:=some 22) (v:=?_) rfl rfl (by kernel_rfl) (by kernel_rfl) (by kernel_rfl) (fun _ _ _ h=>h) (Or.inl ⟨by rfl,by intro w hSw;(try dsimp only at hSw);have z3:=g_.out w hSw;go_simp;rfl⟩) SK ?_
 try simp only[Act.put]
 refine wpAnyH_ready (rs:=[9]) (by kernel_rfl) (by simp) ?_
 refine AllReadyH.cons rfl (fun K hK=>?_) AllReadyH.nil
 go_simp
 refine hK.out _ _ (PY.alloc PY.size _) (fun DT=>?_)
 clear hK K
 try simp only[Act.put,aJ,aO,aN]
 refine KI (i:=10) (d:=some 5) (v:=?_) rfl rfl (by kernel_rfl) (by kernel_rfl) (by kernel_rfl) (fun _ _ _ h=>h) (Or.inl ⟨by rfl,by intro w hSw;(try dsimp only at hSw);have z3:=g_.out w hSw;go_simp;rfl⟩) DT ?_
 try simp only[Act.put,aJ,aO,aN]
 refine wpAnyH_done (by kernel_rfl) ?_ _
 try simp only[Act.put,aJ,aO,aN]
 have hzd:w1.drew.heap.size=w1.heap.size:=rfl
 have hz2:=PY.size
 have fD:=aT.out.size
 have jU:=hid (aG.new w2 129 #[.slice A p.length cap,.slice none 0 0,.int .i64 (p.length:Nat),.slice (some ⟨w1.heap.size,0,none⟩) p.length p.length,.bool false,.int .i64 0])
 have fG:=hid (aF.below gI.out ((Below.refl w2.heap.size w2).alloc (aC _) (.cells #[.slice A p.length cap,.slice none 0 0,.int .i64 (p.length:Nat),.slice (some ⟨w1.heap.size,0,none⟩) p.length p.length,.bool false,.int .i64 0] 129)) (aC _))
 have hz3:(w2.alloc (.cells #[.slice A p.length cap,.slice none 0 0,.int .i64 (p.length:Nat),.slice (some ⟨w1.heap.size,0,none⟩) p.length p.length,.bool false,.int .i64 0] 129)).heap.size=w2.heap.size+1:=by simp
 have kW:w1.heap.size<w2.heap.size:=(aF.lt gI.out w1.heap.size rfl).2
 generalize w2.alloc (.cells #[.slice A p.length cap,.slice none 0 0,.int .i64 (p.length:Nat),.slice (some ⟨w1.heap.size,0,none⟩) p.length p.length,.bool false,.int .i64 0] 129)=w3 at *
 obtain⟨g,hg⟩:∃g,g=w2.heap.size:=⟨_,rfl⟩
 rw[←hg] at jU hz3 hz2 kW ⊢
 have b7:=hid DT
 clear gI kH SK PY hg DT
 have iJ:=hid (show iD w B g (g+1) (.slice A p.length cap) (.slice (some ⟨w1.heap.size,0,none⟩) p.length p.length) false 0 w3 none [] none w3 (.slice none 0 0) (.slice none 0 0) (.slice none 0 0) [] [] [] (p.length+0) from
  ⟨⟨jU.out,aF.nil _ _ rfl rfl,Nat.lt_succ_self _,by omega⟩,World.ownsRow_nil _ _ _ _,aF.nil _ _ rfl rfl,fun x hx=>by (cases hx),fun x hx=>by (cases hx),List.Pairwise.nil,fun k hk=>by (simp[Value.ownBlock] at hk),dA.refl _ _ _,.inl rfl⟩)
 have hg3:w3.cell? ⟨w.heap.size,0,none⟩=some (.slice A p.length cap):=g_.out w3 b7.out
 have cN:B≤g:=by omega
 go_wp2
 go_loopg [27] p.length (fun q i wr=>∃(k num f aV:Nat) (av:Value) (N:List Px),k≤p.length∧q=p.length-k∧i=.int .i64 k∧Hid (Sl.all p=N.map (·.sm)++lN p.length (p.drop k) k num f)∧Hid (N.length=num∧num+nodes (p.drop k)≤90000∧f+nodes (p.drop k)≤90000∧f+fns (p.drop k)=fns p)∧Hid (iD w B g (g+1) (.slice A p.length cap) (.slice (some ⟨w1.heap.size,0,none⟩) p.length p.length) false aV w3 none [] none wr av (.slice none 0 0) (.slice none 0 0) N [] [] (p.length+f)))
 case atStart=>exact⟨0,0,0,0,.slice none 0 0,[],Nat.zero_le _,rfl,rfl,hid (by rw[List.drop_zero];rfl),hid ⟨rfl,by rw[List.drop_zero];omega,by rw[List.drop_zero];omega,by rw[List.drop_zero];omega⟩,iJ⟩
 obtain⟨k,num,f,aV,av,N,hk,hq,rfl,he,sZ,hwr⟩:=hrel
 have Hq:=hid hq
 clear hq hg3
 obtain⟨wo,rfl⟩:∃x:World,x=wr:=⟨_,rfl⟩
 have HT:=hid (b7.out.trans (hwr.out.fr.toBelow (B:=w1.heap.size) (by omega) (fun j hj=>by cases hj) (by omega)))
 have q0:=g_.out wo HT.out
 have HWo:=hid (aT.out.trans (HT.out.mono fD))
 by_cases hlt:k<p.length
 · obtain⟨a,pv,bv,rfl,hab,-,-,c2,-,cZ⟩:=HV.out.at_ hlt
   have hb1:(a.add (k*3)).block<w.heap.size:=by rw[f_];omega
   obtain⟨-,-,-,-,-,g5,gfz⟩:=I1 hwr.out.gr
   have f5:=gfz 5
   have hdr:p.drop k=p.getD k bI::p.drop (k+1):=by
    rw[List.drop_eq_getElem_cons hlt,dR,bX hlt];rfl
   obtain⟨E9,MB,PH,PG⟩:=sZ.out
   rw[hdr] at MB PH PG
   have lF:nodes (p.getD k bI::p.drop (k+1))=(p.getD k bI).body.cnt+nodes (p.drop (k+1)):=by unfold nodes;rw[List.map_cons,List.sum_cons]
   have MH:fns (p.getD k bI::p.drop (k+1))=Fo.aK (p.getD k bI).body false+fns (p.drop (k+1)):=by unfold fns;rw[List.map_cons,List.sum_cons]
   rw[lF] at MB PH
   rw[MH] at PG
   have HE:=hid (he.out.trans (by rw[hdr,lN]))
   generalize p.getD k bI=fc at *
   obtain⟨Ab,cb,rfl,hcb⟩:=cZ.form
   have iU:=hid cZ
   have hs1:=Fo.jX fc.body false
   have hs2:=nU fc.body false
   have iM:=hid c2
   clear gfz hdr lF MH cZ c2 he sZ
   go_upto_region 9 with fail
   have FN:=hid (hwr.out.aQW k)
   generalize wo.setCell ⟨g,5,none⟩ (.int .i64 (k:Nat))=w4 at *
   clear g5 f5 q0 hwr HT HWo
   have tZ:=hid (b7.out.trans (FN.out.fr.toBelow (B:=w1.heap.size) (by omega) (fun j hj=>by cases hj) (by omega)))
   have q0:=g_.out w4 tZ.out
   have hW4:=aT.out.trans (tZ.out.mono fD)
   have d2:=(hW4.cell (p:=⟨(a.add (k*3)).block,(a.add (k*3)).off+2,none⟩) hb1).trans iM.out
   have XE:=hid ((bKR (F:=p.length) (pv:=.slice (some a) p.length cap) (fv:=(.slice (some ⟨w1.heap.size,0,none⟩) p.length p.length)) (clos:=false) (base:=g+1) (W:=w) cN (by omega) fc.body.cnt).1 fc.body (.slice Ab fc.body.len cb) num f ⟨k,k,-1,-1,-1,-1,0,[]⟩ av ([]++N.map (·.b)) w4 (aC _) iU.out (hW4.mono hB) FN.out.gr (by simp;exact E9) (by omega) (by omega))
   go_wp2_with fail
   refine XE.out.mono ?_
   rintro e5 w5 ⟨v5,rfl,-,av5,N5,aU,hN5,hs5,he5,hi5,hf5,PD⟩
   have WK:=FN.out.call (.inl rfl) aU hs5 he5 hi5 hf5 PD
   have bRY:N5.length=Fo.aD fc.body false:=by rw[←eU p.length fc.body false num f 0 (E5 ⟨k,k,-1,-1,-1,-1,0,[]⟩ (Fo.cJ fc.body num)),←hN5,cL]
   have sH:=hid (HE.out.trans (show _=(N++N5).map (·.sm)++lN p.length (p.drop (k+1)) (k+1) (num+Fo.aD fc.body false) (f+Fo.aK fc.body false) by rw[List.map_append,hN5,dZ];rfl))
   have nM:=hid WK
   clear XE WK aU hN5 hs5 he5 hi5 hf5 PD HE FN q0 d2 hW4
   go_wp2
   go_roundg (p.length-(k+1))
   case rel=>exact⟨k+1,num+Fo.aD fc.body false,f+Fo.aK fc.body false,k,av5,N++N5,hlt,rfl,by go_num,sH,hid ⟨by rw[bL,bRY,E9],by omega,by omega,by omega⟩,nM⟩
   rw[Hq.out];omega
 have LS:=hid (show Sl.all p=N.map (·.sm) by rw[he.out,List.drop_of_length_le (by omega),lN,List.append_nil])
 have z_:f=fns p:=by
  have:=sZ.out.2.2.2
  rw[List.drop_of_length_le (by omega)] at this
  unfold fns at this ⊢
  simpa using this
 subst z_
 have G5:N.length≤90000:=by have:=sZ.out.2.1;have:=sZ.out.1;omega
 have bSS:=hid hwr.out.eQ
 have D9:=HWo
 have TP:=hid (show jW w B g (g+1) (.slice A p.length cap) aV p.length wo av (.slice (some ⟨w1.heap.size,0,none⟩) p.length p.length) (fun _=>false) N (p.length+fns p) from⟨by simpa using hwr.out.gr,by
  have h1:=dA.BN fG.out hwr.out.fr (aF.ne fG.out jU.out (by decide)) (fun k hk=>by cases hk)
  rw[a1N] at h1
  exact aF.more h1 (by omega),fun x hx=>hz3▸hwr.out.dS x hx,hwr.out.inc⟩)
 have hc0:mY nm op un dJ p=0:=by
  have h1:=CB.out.symm.trans HZ.out
  unfold dD at h1
  by_cases h2:mY nm op un dJ p=0
  · exact h2
  rw[if_pos h2] at h1;exact absurd h1 h2
 have M0:=hid hc0
 have W_:=hid (aD_ hc0).2.1
 have HCf:=hid (fun x (hx:x∈N) t ht=>bNE hc0 (r:=x.sm) (by rw[LS.out];exact List.mem_map_of_mem hx) (t:=t) ht)
 have bSJ:=hid (fun x (hx:x∈N)=>aMT (K:=K) p.length p 0 0 0 (fun f hf=>(HO.out.2 f hf).2.2.2.2) x.sm (by have h1:x.sm∈Sl.all p:=(by rw[LS.out];exact List.mem_map_of_mem hx);exact h1))
 obtain⟨Aa,ca,hav,-⟩:=aOR (num:=N.length) TP.out.gr (by rw[cL])
 subst hav
 obtain⟨-,g1,-,-,-,-,-⟩:=I1 TP.out.gr
 clear he sZ hwr hc0 q0 HT HWo
 go_wp2
 go_loopg [49] N.length (fun q i wr=>∃(j:Nat),j≤N.length∧q=N.length-j∧i=.int .i64 j∧Hid (jW w B g (g+1) (.slice A p.length cap) aV p.length wr (.slice Aa N.length ca) (.slice (some ⟨w1.heap.size,0,none⟩) p.length p.length) (fun _=>false) ((N.take j).map (EX p)++N.drop j) (p.length+fns p))∧Hid (Below w.heap.size w wr))
 case atStart=>exact⟨0,Nat.zero_le _,rfl,rfl,hid (by rw[List.take_zero,List.drop_zero];exact TP.out),D9⟩
 obtain⟨j,hj,hq,rfl,qO,hbw⟩:=hrel
 have MS:=hid hq
 clear hq g1
 obtain⟨wi,rfl⟩:∃x:World,x=wr:=⟨_,rfl⟩
 by_cases lG:j<N.length
 · obtain⟨x,hx⟩:∃x,N[j]?=some x:=⟨N[j],bX lG⟩
   have kB:x∈N:=List.mem_of_getElem? hx
   have hdr:N.drop j=x::N.drop (j+1):=by
    rw[List.drop_eq_getElem_cons lG]
    rw[bX lG] at hx
    injection hx with hx
    rw[hx]
   have E7:N.take (j+1)=N.take j++[x]:=by
    rw[List.take_add_one,hx]
    rfl
   have ES:=qO.out
   rw[hdr] at ES
   have aJC:x∈(N.take j).map (EX p)++x::N.drop (j+1):=iZ _ (List.mem_cons_self ..)
   have hst:=ES.dS x aJC
   have hHk:(((N.take j).map (EX p)++x::N.drop (j+1)).map (·.b))[j]?=some x.b:=by
    rw[List.map_append,List.getElem?_append_right (by simp;omega)]
    simp
    have VA:min j N.length=j:=Nat.min_eq_left hj
    simp[VA]
   obtain⟨gb,c',cs',hv',-,-,-,-,JL,hcell,-⟩:=cP.at_ ES.gr.all aD7 hHk
   injection hv' with hA' nC GN
   subst hA'
   clear nC GN
   have qq:=hcell 0 Nat.one_pos
   rw[show cs'=[.pointer (some ⟨x.b,0,none⟩)] from JL,Nat.mul_one,Nat.add_zero] at qq
   have q0':wi.cell? ⟨gb,j,none⟩=some (.pointer (some ⟨x.b,0,none⟩)):=qq
   obtain⟨J5,hnw⟩:=bSS.out x kB
   obtain⟨fx,hfx,MA,tU,E8⟩:=bSJ.out x kB
   have hfn:=aZB hfx
   have hfp:=HPa.out fx hfx
   obtain⟨cs7,dI⟩:=hst.blk
   have kQ:=hst.low
   have U9:=ES.gr.size
   have HCe:=hid (bH6 K hK hK4 w B g (g+1) none x (.slice A p.length cap) p j wi hst J5 hnw (hbw.out.mono hB) (by omega) (by omega) (I1 ES.gr).1 (by omega) (ES.gr.blk.rQ dI (by decide)) HV.out (by omega) MA (by omega) (by omega))
   have IL:=hid ES
   have HTk:=hid E7
   clear hst ES qO hdr E7 aJC hHk hcell JL qq J5 hnw MA tU E8 dI hx hfx
   go_wp2_with fail
   refine HCe.out.mono ?_
   rintro e6 w6 ⟨rfl,a6Z,gG⟩
   have hG6:=IL.out.upd (x':=EX p x) a6Z rfl gG
   have cT:Below w.heap.size w w6:=hbw.out.grown gG (by omega) (fun j hj=>by injection hj with hj;omega)
   have HG6:=hid (show jW w B g (g+1) (.slice A p.length cap) aV p.length w6 (.slice (some ⟨gb,0,none⟩) N.length ca) (.slice (some ⟨w1.heap.size,0,none⟩) p.length p.length) (fun _=>false) ((N.take (j+1)).map (EX p)++N.drop (j+1)) (p.length+fns p) by
    rw[HTk.out,List.map_append,dZ]
    exact hG6)
   have fZ:=hid cT
   clear hG6 cT a6Z gG HCe IL
   go_wp2
   go_roundg (N.length-(j+1))
   case rel=>exact⟨j+1,lG,rfl,by go_num,HG6,fZ⟩
   rw[MS.out];omega
 have ES:=qO.out
 rw[List.take_of_length_le (by omega),List.drop_of_length_le (by omega),List.append_nil] at ES
 have HGe:=hid ES
 clear qO ES
 go_upto_region 16 with fail
 have K7:∀y∈N.map (EX p),y.ef=mC p y.sm.nd∧∃x∈N,y=EX p x:=fun y hy=>by
  obtain⟨x,hx,rfl⟩:=List.mem_map.1 hy
  exact⟨rfl,x,hx,rfl⟩
 have hcy:∀y∈N.map (EX p),∀t,(5,t)∈Fo.heads (Fo.own y.sm.nd.s)→∃f∈p,f.name=t:=fun y hy=>by
  obtain⟨-,x,hx,rfl⟩:=K7 y hy
  exact HCf.out x hx
 have hTs:(N.map (EX p)).map (eE p.length)=(Sl.all p).map (E0 p):=by
  rw[LS.out,List.map_map,List.map_map]
  refine List.map_congr_left fun x hx=>?_
  exact a2J (x:=EX p x) rfl W_.out (hcy _ (List.mem_map_of_mem hx))
 have FO:=hid (bGY w B g (g+1) (.slice A p.length cap) aV p.length (N.map (EX p)) wi _ _ _ HGe.out (fun y hy=>by obtain⟨-,x,hx,rfl⟩:=K7 y hy;rfl) (fun y hy=>by
  obtain⟨h1,h2⟩:=a3A (K7 y hy).1 W_.out (hcy y hy)
  refine⟨h2,fun c hc=>?_,?_⟩
  · rw[h1] at hc;exact a05 hc
  rw[h1]
  unfold sR
  refine Nat.le_trans (List.length_filter_le _ _) ?_
  rw[List.length_range]
  omega) (hbw.out.mono hB) cN (by rw[cL];omega))
 rw[hTs] at FO
 have HTs:=hid hTs
 have HHy:=hid (fun x (hx:x∈N)=>a2J (x:=EX p x) rfl W_.out (hcy _ (List.mem_map_of_mem hx)))
 clear K7 hcy hTs
 go_wp2_with fail
 refine FO.out.mono ?_
 rintro e7 w7 ⟨rfl,eM,dI⟩
 have HG7:=hid eM
 have nP:=hid (hbw.out.trans (HBe.out▸dI))
 have iV:=hid ((hbw.out.mono hB).trans dI)
 clear eM dI FO
 go_wp2
 go_ret2
 refine⟨nP.out,.inr ⟨HZ.out,g,_,by rw[HZ.out];rfl,⟨⟨w,B,g+1,_,aV,_,_,HG7.out,iV.out,cN⟩,?_,fun y hy=>?_⟩⟩⟩
 · rw[LS.out,List.map_map,List.map_map]
   rfl
 obtain⟨z,hz,rfl⟩:=List.mem_map.1 hy
 obtain⟨x,hx,rfl⟩:=List.mem_map.1 hz
 show ({ mC p x.sm.nd with cW:=_ }:Ef)=WR p x.sm
 rw[HHy.out x hx]
 rfl
theorem bKF (K:Nat) (hK:K≤140737488355328) (hK4:4<K) (p:List Fc) (v:Value) (B:Nat) (w:World) (hv:eO w B v p) (hB:B≤w.heap.size) (hs:nodes p≤90000) (hp:p.length≤90000) (oT:∀f∈p,f.body.aX≤100000) (ho:oU K p):
 Calls Tryz.prog 72 #[.agg #[v]] w fun e w'=>Below w.heap.size w w'∧((dD p≠0∧e=.returned (.tuple #[.pointer none,.int .i64 (dD p)]))∨(dD p=0∧∃g N,e=.returned (.tuple #[.pointer (some ⟨g,0,none⟩),.int .i64 0])∧k6 w' g p N)):=
 bIE K hK hK4 p v w.heap.size w (hv.more hB) (aC _) rfl hs hp oT ho
theorem bEL (g:Nat) (p:List Fc) (N:List Px) (w:World) (h:k6 w g p N) (n:Int) (a b ca cb:Nat) (q1:w.cell? ⟨b,0,none⟩=some (.slice (some ⟨a,0,none⟩) 1 ca)) (q2:w.cell? ⟨a,0,none⟩=some (.int .i64 n)):
 Calls Tryz.prog 101 #[.pointer (some ⟨g,0,none⟩),.slice (some ⟨b,0,none⟩) 1 cb] w fun e w'=>e=.returned (.bool (decide (0≤n)&&decide (n<(N.length:Int))))∧w=w':=by
 obtain⟨W,B,base,Aa,cc,-,g1,-⟩:=h.cells
 clear h
 obtain⟨nl,qL⟩:∃z,z=N.length:=⟨_,rfl⟩
 rw[←qL] at g1 ⊢
 clear qL
 by_cases h0:n<0
 · have HX:=hid (show (decide (0≤n)&&decide (n<(nl:Int)))=false by rw[bP (by omega),Bool.false_and])
   go_enter Tryz.func101,Tryz.ntmps101
   go_wp2
   go_loopg [11] 1 (fun q i wr=>q=1∧i=.int .i64 0∧w=wr)
   case atStart=>exact⟨rfl,rfl,rfl⟩
   obtain⟨rfl,rfl,rfl⟩:=hrel
   go_wp2
   go_loopg [17] 1 (fun q i wr=>q=1∧i=.int .i64 0∧w=wr)
   case atStart=>exact⟨rfl,rfl,rfl⟩
   obtain⟨rfl,rfl,rfl⟩:=hrel
   go_wp2
   go_ret
   exact⟨aR HX.out.symm,rfl⟩
 by_cases h1:n<(nl:Int)
 rotate_left
 · have HX:=hid (show (decide (0≤n)&&decide (n<(nl:Int)))=false by rw[bP h1,Bool.and_false])
   go_enter Tryz.func101,Tryz.ntmps101
   go_wp2
   go_loopg [11] 1 (fun q i wr=>q=1∧i=.int .i64 0∧w=wr)
   case atStart=>exact⟨rfl,rfl,rfl⟩
   obtain⟨rfl,rfl,rfl⟩:=hrel
   go_wp2
   go_loopg [17] 1 (fun q i wr=>q=1∧i=.int .i64 0∧w=wr)
   case atStart=>exact⟨rfl,rfl,rfl⟩
   obtain⟨rfl,rfl,rfl⟩:=hrel
   go_wp2
   go_ret
   exact⟨aR HX.out.symm,rfl⟩
 have HX:=hid (show (decide (0≤n)&&decide (n<(nl:Int)))=true by rw[bF (by omega),bF h1];rfl)
 go_enter Tryz.func101,Tryz.ntmps101
 go_wp2
 go_loopg [11] 1 (fun q i wr=>∃k:Nat,k≤1∧q=1-k∧i=.int .i64 (k:Nat)∧w=wr)
 case atStart=>exact⟨0,by omega,rfl,rfl,rfl⟩
 obtain⟨k,hk,rfl,rfl,rfl⟩:=hrel
 by_cases DK:k=0
 rotate_left
 · obtain rfl:k=1:=by omega
   go_wp2
   go_ret
   exact⟨aR HX.out.symm,rfl⟩
 subst DK
 go_wp2
 go_loopg [17] 1 (fun q i wr=>∃k:Nat,k≤1∧q=1-k∧i=.int .i64 (k:Nat)∧w=wr)
 case atStart=>exact⟨0,by omega,rfl,rfl,rfl⟩
 obtain⟨k,hk,rfl,rfl,rfl⟩:=hrel
 by_cases DK:k=0
 · subst DK
   go_wp2
   go_roundg 0
   case rel=>exact⟨1,by omega,rfl,rfl,rfl⟩
   omega
 obtain rfl:k=1:=by omega
 go_wp2
 go_roundg 0
 case rel=>exact⟨1,by omega,rfl,rfl,rfl⟩
 omega
theorem a08 (K:Nat) (hK:K≤140737488355328) (hK4:4<K) (p:List Fc) (v:Value) (B:Nat) (w:World) (hv:eO w B v p) (hB:B≤w.heap.size) (hs:nodes p≤90000) (hp:p.length≤90000) (oT:∀f∈p,f.body.aX≤100000) (ho:oU K p)
 (n:Int) (a b ca cb:Nat) (q1:w.cell? ⟨b,0,none⟩=some (.slice (some ⟨a,0,none⟩) 1 ca)) (q2:w.cell? ⟨a,0,none⟩=some (.int .i64 n)):
 Calls Tryz.prog 58 #[.agg #[v],.int .u8 0,.slice (some ⟨b,0,none⟩) 1 cb] w fun e w'=>Below w.heap.size w w'∧((dD p≠0∧e=.returned (.tuple #[.pointer none,.int .i64 (dD p)]))∨
  (dD p=0∧(¬(0≤n∧n<((Sl.all p).length:Int))∧e=.returned (.tuple #[.pointer none,.int .i64 1])∨(0≤n∧n<((Sl.all p).length:Int))∧∃g N,e=.returned (.tuple #[.pointer (some ⟨g,0,none⟩),.int .i64 0])∧k6 w' g p N))):=by
 obtain⟨A,cap,rfl,cB⟩:=hv.form
 have HA:=hid ((Below.refl w.heap.size w).alloc (aC _) (.cells #[.slice A p.length cap] 24))
 have bN:=hid (aG.new w 24 #[.slice A p.length cap])
 have HC:=hid (fun (X:World) (hX:Below w.heap.size w X)=>bKF K hK hK4 p (.slice A p.length cap) B X (hv.below (hX.mono hB)) (by have:=hX.size;omega) hs hp oT ho)
 have hz1:w.heap.size<(w.alloc (.cells #[.slice A p.length cap] 24)).heap.size:=by simp
 have hbl:b<w.heap.size:=mX q1
 have lT:a<w.heap.size:=mX q2
 have AY:=hid q1
 have P8:=hid q2
 obtain⟨sc,hsc⟩:∃z,z=dD p:=⟨_,rfl⟩
 rw[←hsc] at HC ⊢
 clear hv ho oT hsc q1 q2
 go_enter Tryz.func58,Tryz.ntmps58
 have DI:=bN.out.cell 0
 go_wp2_with fail
 refine (HC.out _ HA.out).mono ?_
 rintro e1 w1 ⟨hb1,hres⟩
 have aT:=hid (HA.out.trans (hb1.mono (Nat.le_of_lt hz1)))
 clear hb1 DI HC
 rcases hres with⟨h0,rfl⟩|⟨h0,g,N,rfl,tT⟩
 · have b0:((sc:Int) != 0)=true:=bne_iff_ne.2 (by omega)
   have HZ:=hid h0
   clear h0
   go_wp2
   go_ret2
   exact⟨aT.out,.inl ⟨HZ.out,rfl⟩⟩
 have HZ:=hid h0
 have HP:=hid tT
 have HL:=hid (show N.length=(Sl.all p).length by rw[←tT.sm,cL])
 have HS:=hid (bEL g p N w1 tT n a b ca cb ((aT.out.cell (p:=⟨b,0,none⟩) hbl).trans AY.out) ((aT.out.cell (p:=⟨a,0,none⟩) lT).trans P8.out))
 clear h0 tT
 obtain⟨q,hq⟩:∃z,z=(decide (0≤n)&&decide (n<(N.length:Int))):=⟨_,rfl⟩
 rw[←hq] at HS
 have Hq:=hid hq
 clear hq
 cases q with
 |false=>
  have HN:=hid (show ¬(0≤n∧n<((Sl.all p).length:Int)) from fun h=>by
   have h1:=Hq.out
   rw[HL.out,bF h.1,bF h.2] at h1
   cases h1)
  go_wp2_with fail
  refine HS.out.mono ?_
  rintro e2 w2 ⟨rfl,rfl⟩
  go_wp2
  go_ret2
  exact⟨aT.out,.inr ⟨HZ.out,.inl ⟨HN.out,rfl⟩⟩⟩
 |true=>
  have HN:=hid (show 0≤n∧n<((Sl.all p).length:Int) by
   have h1:=Hq.out.symm
   rw[HL.out,LM,decide_eq_true_eq,decide_eq_true_eq] at h1
   exact h1)
  go_wp2_with fail
  refine HS.out.mono ?_
  rintro e2 w2 ⟨rfl,rfl⟩
  go_wp2
  go_ret2
  exact⟨aT.out,.inr ⟨HZ.out,.inr ⟨HN.out,g,N,rfl,HP.out⟩⟩⟩
end
end Go.Proofs.YtdlndhbkcgmkkaaGreatDoor
