/-
 Part 13 of 35 of a proof about the given program: facts on which the last part stands.
-/
import Derived.Test.YtdlndhbkcgmkkaaGreatDoorFL11
import Derived.Test.YtdlndhbkcgmkkaaGreatDoorFL12
import Derived.Carry
import Derived.Laws.EntriesVeiled
set_option maxHeartbeats 12800000
set_option linter.unusedVariables false
set_option linter.unusedSimpArgs false
set_option maxRecDepth 100000
namespace Go.Proofs.YtdlndhbkcgmkkaaGreatDoor
section
open Go.RowKit
open Sl
open Go.Lib (hid)
theorem UN:∀l:Fo,l.dep≤l.cnt:=fun l=>by
 induction l with
 |nil=>exact aC _
 |cons k t n s ps b e r h1 h2 h3 h4=>simp only[Fo.dep,Fo.cnt];omega
theorem bJ7:∀(c:Nat) (l:Fo) (v:Value) (B:Nat) (w:World),l.cnt≤c→cM w B v l→B≤w.heap.size→l.cnt≤1073741824→
 Calls Tryz.prog 165 #[v] w fun e w'=>e=.returned (.tuple #[.int .i64 l.cnt,.int .i64 l.dep])∧Below w.heap.size w w':=fun c=>by
 induction c using Nat.strongRecOn with
 |ind c ih=>
 intro l v B w hc hl hB J8
 obtain⟨A,cap,rfl,cB⟩:=hl.form
 have HL:=hid hl
 clear hl
 have hlc:=Fo.k7 l
 have HI:=hid ih
 clear ih
 go_enter Tryz.func165,Tryz.ntmps165
 go_wp2
 go_loopg [2,3,12] l.len (fun g a m i wr=>∃(k n dp:Nat),k≤l.len∧g=l.len-k∧a=.int .i64 n∧m=.int .i64 dp∧i=.int .i64 k∧n+(Fo.drop k l).cnt=l.cnt∧Hid (l.dep=max dp (Fo.drop k l).dep)∧Hid (Below w.heap.size w wr))
 case atStart=>exact⟨0,0,0,Nat.zero_le _,rfl,rfl,rfl,rfl,by rw[Fo.drop];omega,hid (by rw[Fo.drop];omega),hid (Below.refl _ _)⟩
 obtain⟨k,n,dp,hk,hq,rfl,rfl,rfl,hn,GW,hb⟩:=hrel
 have Hq:=hid hq
 clear hq
 obtain⟨wo,rfl⟩:∃x:World,x=wr:=⟨_,rfl⟩
 by_cases hlt:k<l.len
 rotate_left
 · have MB:n=l.cnt:=by
    have:Fo.drop k l=.nil:=by rw[show k=l.len by omega,gB]
    rw[this,Fo.cnt] at hn;omega
   have HD:=hid (show l.dep=dp by
    have:Fo.drop k l=.nil:=by rw[show k=l.len by omega,gB]
    have h2:=GW.out
    rw[this,Fo.dep] at h2;omega)
   subst MB
   clear hn
   go_wp2
   go_ret2
   exact⟨by rw[HD.out];rfl,hb.out⟩
 obtain⟨a,kk,t,nn,s,ps,b,e,r,sv,pv,bv,ev,rfl,aI,hno⟩:=(HL.out.below (hb.out.mono hB)).at_ hlt
 have dL:=kN aI
 have tX:=a2E aI
 have HDP:=hid (GW.out.trans (by rw[aI,Fo.dep]))
 obtain⟨As,cs,rfl,hcs⟩:=hno.vals.subs.form
 obtain⟨Ab,cb,rfl,hcb⟩:=hno.vals.body.form
 obtain⟨Ae,ce,rfl,hce⟩:=hno.vals.els.form
 obtain⟨-,-,-,c3,-,c5,c6⟩:=hno.cells
 have Hd:=hid aI
 rw[tX] at hn
 clear tX aI
 have hab:(a.add (k*7)).block<wo.heap.size:=mX (p:=⟨(a.add (k*7)).block,(a.add (k*7)).off+3,none⟩) c3
 go_wp2_with fail
 go_region_held3 (fun w'=>w'.cell? ⟨(a.add (k*7)).block,(a.add (k*7)).off+3,none⟩=some (.slice As s.len cs)∧w'.cell? ⟨(a.add (k*7)).block,(a.add (k*7)).off+5,none⟩=some (.slice Ab b.len cb)∧w'.cell? ⟨(a.add (k*7)).block,(a.add (k*7)).off+6,none⟩=some (.slice Ae e.len ce))
  (first
   |exact⟨(World.cell?_alloc_lt wo.drew _ _ hab).trans c3,(World.cell?_alloc_lt wo.drew _ _ hab).trans c5,(World.cell?_alloc_lt wo.drew _ _ hab).trans c6⟩
   |go_keep)
  (fail)
 have hzd:=hb.out.size
 have HV:=hid (show lY wo B (.slice As s.len cs) pv (.slice Ab b.len cb) (.slice Ae e.len ce) s ps b e from hno.vals)
 have HA:=hid ((Below.refl wo.heap.size wo).alloc (aC _) (.cells #[.slice As s.len cs,.slice Ab b.len cb,.slice Ae e.len ce] 66)).drew
 have bN:=hid (aG.new wo 66 #[.slice As s.len cs,.slice Ab b.len cb,.slice Ae e.len ce]).drew
 clear hno
 generalize (wo.alloc (.cells #[.slice As s.len cs,.slice Ab b.len cb,.slice Ae e.len ce] 66)).drew=w3 at *
 have hz3:=HA.out.size
 go_wp2
 go_loopg [2,5,34] 3 (fun g a m j wr=>∃(jx nx dx:Nat),jx≤3∧g=3-jx∧a=.int .i64 nx∧m=.int .i64 dx∧j=.int .i64 jx∧Hid (nx=n+1+mM jx s.cnt b.cnt e.cnt)∧Hid (dx=tR jx 0 s.dep b.dep e.dep)∧Hid (Below w3.heap.size w3 wr))
 case atStart=>exact⟨0,n+1,0,by omega,rfl,by go_num,rfl,rfl,hid rfl,hid rfl,hid (Below.refl _ _)⟩
 obtain⟨jx,nx,dx,hj,lD,rfl,rfl,rfl,zY,AD,cH⟩:=hrel
 have H9:=hid lD
 clear lD
 obtain⟨wx,rfl⟩:∃x:World,x=wr:=⟨_,rfl⟩
 have M0:=hid (fun (z:Fo) (vz:Value) (hz:z.cnt+1≤l.cnt) (hv:cM wx B vz z)=>
  HI.out z.cnt (by omega) z vz B wx (aC _) hv (by have:=cH.out.size;omega) (by omega))
 have TF:=hid (HV.out.below ((HA.out.trans (cH.out.mono hz3)).mono (show B≤wo.heap.size by omega)))
 have YR:jx=3∨jx=0∨jx=1∨jx=2:=by omega
 rcases YR with rfl|rfl|rfl|rfl
 · have hnz:nx=n+(1+s.cnt+b.cnt+e.cnt):=by rw[zY.out];unfold mM;simp;omega
   obtain⟨m2,mA⟩:∃m2:Nat,m2=max dp (dx+1):=⟨_,rfl⟩
   have HD:=hid (show l.dep=max m2 r.dep by
    rw[HDP.out,mA,AD.out]
    unfold tR
    simp<;>omega)
   have SF:=UN l
   have hdr:m2≤l.dep:=by have:=HD.out;omega
   have VB:(if dp<dx+1 then ((dx:Int)+1) else (dp:Int))=(m2:Int):=by split<;>omega
   have hmi3:(if (dp:Int)<(dx:Int)+1 then ((dx:Int)+1) else (dp:Int))=(m2:Int):=by split<;>omega
   have hdx2:dx≤1073741824:=by omega
   have Hn2:nx+r.cnt=l.cnt:=by omega
   have D8:=hid (show Below w.heap.size w wx from hb.out.trans ((HA.out.trans (cH.out.mono hz3)).mono (by omega)))
   clear hnz mA
   go_wp2
   go_roundg (l.len-(k+1))
   case rel=>exact⟨k+1,nx,m2,hlt,rfl,rfl,rfl,by go_num,by rw[eD Hd.out];exact Hn2,hid (by rw[eD Hd.out];exact HD.out),D8⟩
   rw[Hq.out];omega
 · have cj:wx.cell? ⟨wo.heap.size,0,none⟩=some (.slice As s.len cs):=(bN.out.below cH.out bN.out.lt).cell 0
   have hnz:nx+s.cnt=n+1+mM 1 s.cnt b.cnt e.cnt:=by rw[zY.out];unfold mM;simp
   have ZK:nx+s.cnt≤1073741824:=by rw[hnz];unfold mM;simp;omega
   have GV:=UN s
   have HC:=hid (M0.out s _ (by omega) (TF.out).subs)
   have H_:=hid hnz
   have HD:=hid (show max dx s.dep=tR 1 0 s.dep b.dep e.dep by rw[AD.out];unfold tR;simp)
   obtain⟨m2,mA⟩:∃m2:Nat,m2=max dx s.dep:=⟨_,rfl⟩
   have VB:(if dx<s.dep then (s.dep:Int) else (dx:Int))=(m2:Int):=by split<;>omega
   rw[←mA] at HD
   clear mA hnz GV
   go_wp2_with fail
   refine HC.out.mono ?_
   rintro e1 w4 ⟨rfl,hb4⟩
   have bC:=hid (cH.out.trans (hb4.mono (by have:=cH.out.size;omega)))
   clear hb4
   go_wp2
   go_roundg (3-1)
   case rel=>exact⟨1,nx+s.cnt,m2,by omega,rfl,by go_num,rfl,by go_num,H_,HD,bC⟩
   rw[H9.out];omega
 · have cj:wx.cell? ⟨wo.heap.size,1,none⟩=some (.slice Ab b.len cb):=(bN.out.below cH.out bN.out.lt).cell 1
   have hnz:nx+b.cnt=n+1+mM 2 s.cnt b.cnt e.cnt:=by rw[zY.out];unfold mM;simp;omega
   have ZK:nx+b.cnt≤1073741824:=by rw[hnz];unfold mM;simp;omega
   have GV:=UN b
   have HC:=hid (M0.out b _ (by omega) (TF.out).body)
   have H_:=hid hnz
   have HD:=hid (show max dx b.dep=tR 2 0 s.dep b.dep e.dep by rw[AD.out];unfold tR;simp)
   obtain⟨m2,mA⟩:∃m2:Nat,m2=max dx b.dep:=⟨_,rfl⟩
   have VB:(if dx<b.dep then (b.dep:Int) else (dx:Int))=(m2:Int):=by split<;>omega
   rw[←mA] at HD
   clear mA hnz GV
   go_wp2_with fail
   refine HC.out.mono ?_
   rintro e1 w4 ⟨rfl,hb4⟩
   have bC:=hid (cH.out.trans (hb4.mono (by have:=cH.out.size;omega)))
   clear hb4
   go_wp2
   go_roundg (3-2)
   case rel=>exact⟨2,nx+b.cnt,m2,by omega,rfl,by go_num,rfl,by go_num,H_,HD,bC⟩
   rw[H9.out];omega
 have cj:wx.cell? ⟨wo.heap.size,2,none⟩=some (.slice Ae e.len ce):=(bN.out.below cH.out bN.out.lt).cell 2
 have hnz:nx+e.cnt=n+1+mM 3 s.cnt b.cnt e.cnt:=by rw[zY.out];unfold mM;simp;omega
 have ZK:nx+e.cnt≤1073741824:=by rw[hnz];unfold mM;simp;omega
 have GV:=UN e
 have HC:=hid (M0.out e _ (by omega) (TF.out).els)
 have H_:=hid hnz
 have HD:=hid (show max dx e.dep=tR 3 0 s.dep b.dep e.dep by rw[AD.out];unfold tR;simp)
 obtain⟨m2,mA⟩:∃m2:Nat,m2=max dx e.dep:=⟨_,rfl⟩
 have VB:(if dx<e.dep then (e.dep:Int) else (dx:Int))=(m2:Int):=by split<;>omega
 rw[←mA] at HD
 clear mA hnz GV
 go_wp2_with fail
 refine HC.out.mono ?_
 rintro e1 w4 ⟨rfl,hb4⟩
 have bC:=hid (cH.out.trans (hb4.mono (by have:=cH.out.size;omega)))
 clear hb4
 go_wp2
 go_roundg (3-3)
 case rel=>exact⟨3,nx+e.cnt,m2,by omega,rfl,by go_num,rfl,by go_num,H_,HD,bC⟩
 rw[H9.out];omega
def YT (p:List Fc) (d:Nat):Nat:=p.foldl (fun d f=>max d f.body.dep) d
theorem aZA {p:List Fc} {k:Nat} (hk:k<p.length):nodes (p.drop k)=(p.getD k bI).body.cnt+nodes (p.drop (k+1)):=by
 rw[List.drop_eq_getElem_cons hk,nodes,List.map_cons,List.sum_cons,dR,bX hk]
 rfl
theorem aZT {p:List Fc} {k:Nat} (hk:k<p.length) (d:Nat):YT (p.drop k) d=YT (p.drop (k+1)) (max d (p.getD k bI).body.dep):=by
 rw[List.drop_eq_getElem_cons hk,YT,List.foldl_cons,dR,bX hk]
 rfl
theorem aY5 (p:List Fc) (v:Value) (B:Nat) (w:World) (hv:eO w B v p) (hB:B≤w.heap.size) (hs:nodes p≤1000000) (hp:p.length≤1000000):
 Calls Tryz.prog 52 #[.agg #[v]] w fun e w'=>e=.returned (.tuple #[.int .i64 (nodes p),.int .i64 (depth p)])∧Below w.heap.size w w':=by
 obtain⟨A,cap,rfl,cB⟩:=hv.form
 have HV:=hid hv
 clear hv
 have HA:=hid ((Below.refl w.heap.size w).alloc (aC _) (.cells #[.slice A p.length cap] 24))
 have bN:=hid (aG.new w 24 #[.slice A p.length cap])
 have r7:(w.alloc (.cells #[.slice A p.length cap] 24)).cell? ⟨w.heap.size,0,none⟩=some (.slice A p.length cap):=bN.out.cell 0
 go_enter Tryz.func52,Tryz.ntmps52
 go_upto_block 0 with fail
 generalize w.alloc (.cells #[.slice A p.length cap] 24)=w0 at *
 have hz0:w.heap.size<w0.heap.size:=bN.out.lt
 clear r7
 go_wp2
 go_loopg [4,5,6] p.length (fun g a m i wr=>∃(k n dp:Nat),k≤p.length∧g=p.length-k∧a=.int .i64 n∧m=.int .i64 dp∧i=.int .i64 k∧Hid (nodes p=n+nodes (p.drop k))∧Hid (depth p=YT (p.drop k) dp)∧Hid (dp≤2000000)∧Hid (Below w0.heap.size w0 wr))
 case atStart=>exact⟨0,0,0,Nat.zero_le _,rfl,rfl,rfl,rfl,hid (by rw[List.drop_zero,Nat.zero_add]),hid rfl,hid (by omega),hid (Below.refl _ _)⟩
 obtain⟨k,n,dp,hk,hq,rfl,rfl,rfl,hn,GW,SF,hb⟩:=hrel
 have Hq:=hid hq
 clear hq
 obtain⟨wo,rfl⟩:∃x:World,x=wr:=⟨_,rfl⟩
 have jP:=hb.out.size
 have HB:=hid (show Below w.heap.size w wo from HA.out.trans (hb.out.mono (by omega)))
 have c1:wo.cell? ⟨w.heap.size,0,none⟩=some (.slice A p.length cap):=(bN.out.below hb.out hz0).cell 0
 by_cases hlt:k<p.length
 rotate_left
 · have h0:p.drop k=[]:=by rw[show k=p.length by omega,List.drop_length]
   have HN:=hid (show nodes p=n by rw[hn.out,h0];rfl)
   have HD:=hid (show depth p=dp by rw[GW.out,h0];rfl)
   clear h0
   go_wp2
   go_ret2
   exact⟨by rw[HN.out,HD.out];rfl,HB.out⟩
 obtain⟨a,pv,bv,rfl,hab,d0,d1,d2,eF,cZ⟩:=(HV.out.below (HB.out.mono hB)).at_ hlt
 have zY:=aZA hlt
 have AD:=aZT hlt dp
 have HN:=hid (show nodes p=n+((p.getD k bI).body.cnt+nodes (p.drop (k+1))) by rw[hn.out,zY])
 have HD:=hid (GW.out.trans AD)
 have hsm:n+(p.getD k bI).body.cnt≤1000000:=by have:=HN.out;omega
 clear zY AD
 generalize p.getD k bI=f at *
 have HC:=hid ((bNC f.body)▸bI9 f.body.cnt f.body bv 1 1073741824 B wo (aC _) cZ (by omega) (by omega) (by omega) (by omega))
 obtain⟨Ab,cb,rfl,hcb⟩:=cZ.form
 have hdl:=UN f.body
 obtain⟨mx,hmx⟩:∃mx:Nat,mx=max dp f.body.dep:=⟨_,rfl⟩
 have hmi:(if dp<f.body.dep then (f.body.dep:Int) else (dp:Int))=(mx:Int):=by split<;>omega
 rw[←hmx] at HD
 have HX:=hid (show mx≤2000000 by have:=SF.out;omega)
 clear hmx hdl cZ eF
 go_wp2_with fail
 refine HC.out.mono ?_
 rintro e1 w4 ⟨rfl,hb4⟩
 have bC:=hid (hb.out.trans (hb4.mono (by have:=hb.out.size;omega)))
 clear hb4
 go_wp2
 go_roundg (p.length-(k+1))
 case rel=>exact⟨k+1,n+f.body.cnt,mx,hlt,rfl,by go_num,rfl,by go_num,hid (by rw[HN.out];omega),HD,HX,bC⟩
 rw[Hq.out];omega
theorem bJN (p:List Fc) (v:Value) (B:Nat) (w:World) (hv:eO w B v p) (hB:B≤w.heap.size) (hs:nodes p≤1000000) (hp:p.length≤1000000):
 Calls Tryz.prog 121 #[.agg #[v]] w fun e w'=>e=.returned (.tuple #[.int .i64 (nodes p),.int .i64 (depth p)])∧Below w.heap.size w w':=by
 obtain⟨A,cap,rfl,cB⟩:=hv.form
 have HV:=hid hv
 clear hv
 have HA:=hid ((Below.refl w.heap.size w).alloc (aC _) (.cells #[.slice A p.length cap] 24))
 have bN:=hid (aG.new w 24 #[.slice A p.length cap])
 have r7:(w.alloc (.cells #[.slice A p.length cap] 24)).cell? ⟨w.heap.size,0,none⟩=some (.slice A p.length cap):=bN.out.cell 0
 go_enter Tryz.func121,Tryz.ntmps121
 go_upto_block 0 with fail
 generalize w.alloc (.cells #[.slice A p.length cap] 24)=w0 at *
 have hz0:w.heap.size<w0.heap.size:=bN.out.lt
 clear r7
 go_wp2
 go_loopg [2,3,10] p.length (fun g a m i wr=>∃(k n dp:Nat),k≤p.length∧g=p.length-k∧a=.int .i64 n∧m=.int .i64 dp∧i=.int .i64 k∧Hid (nodes p=n+nodes (p.drop k))∧Hid (depth p=YT (p.drop k) dp)∧Hid (dp≤2000000)∧Hid (Below w0.heap.size w0 wr))
 case atStart=>exact⟨0,0,0,Nat.zero_le _,rfl,rfl,rfl,rfl,hid (by rw[List.drop_zero,Nat.zero_add]),hid rfl,hid (by omega),hid (Below.refl _ _)⟩
 obtain⟨k,n,dp,hk,hq,rfl,rfl,rfl,hn,GW,SF,hb⟩:=hrel
 have Hq:=hid hq
 clear hq
 obtain⟨wo,rfl⟩:∃x:World,x=wr:=⟨_,rfl⟩
 have jP:=hb.out.size
 have HB:=hid (show Below w.heap.size w wo from HA.out.trans (hb.out.mono (by omega)))
 have c1:wo.cell? ⟨w.heap.size,0,none⟩=some (.slice A p.length cap):=(bN.out.below hb.out hz0).cell 0
 by_cases hlt:k<p.length
 rotate_left
 · have h0:p.drop k=[]:=by rw[show k=p.length by omega,List.drop_length]
   have HN:=hid (show nodes p=n by rw[hn.out,h0];rfl)
   have HD:=hid (show depth p=dp by rw[GW.out,h0];rfl)
   clear h0
   go_wp2
   go_ret2
   exact⟨by rw[HN.out,HD.out];rfl,HB.out⟩
 obtain⟨a,pv,bv,rfl,hab,d0,d1,d2,eF,cZ⟩:=(HV.out.below (HB.out.mono hB)).at_ hlt
 have zY:=aZA hlt
 have AD:=aZT hlt dp
 have HN:=hid (show nodes p=n+((p.getD k bI).body.cnt+nodes (p.drop (k+1))) by rw[hn.out,zY])
 have HD:=hid (GW.out.trans AD)
 have hsm:n+(p.getD k bI).body.cnt≤1000000:=by have:=HN.out;omega
 clear zY AD
 generalize p.getD k bI=f at *
 have HC:=hid (bJ7 f.body.cnt f.body bv B wo (aC _) cZ (by omega) (by omega))
 obtain⟨Ab,cb,rfl,hcb⟩:=cZ.form
 have hdl:=UN f.body
 obtain⟨mx,hmx⟩:∃mx:Nat,mx=max dp f.body.dep:=⟨_,rfl⟩
 have hmi:(if dp<f.body.dep then (f.body.dep:Int) else (dp:Int))=(mx:Int):=by split<;>omega
 rw[←hmx] at HD
 have HX:=hid (show mx≤2000000 by have:=SF.out;omega)
 clear hmx hdl cZ eF
 go_wp2_with fail
 refine HC.out.mono ?_
 rintro e1 w4 ⟨rfl,hb4⟩
 have bC:=hid (hb.out.trans (hb4.mono (by have:=hb.out.size;omega)))
 clear hb4
 go_wp2
 go_roundg (p.length-(k+1))
 case rel=>exact⟨k+1,n+f.body.cnt,mx,hlt,rfl,by go_num,rfl,by go_num,hid (by rw[HN.out];omega),HD,HX,bC⟩
 rw[Hq.out];omega
theorem bH3 {i:Nat} {l:Fo} {k:Nat} {t:aA} {n:Int} {s:Fo} {ps:List aA} {b e r:Fo} (h:Fo.drop i l=.cons k t n s ps b e r) (ex ins:Bool):
 bE (dK nm op un) (Fo.drop i l) ex ins=(NX ex k t n s ps b e ins&&bE (dK nm op un) r ex ins):=by
 rw[h,bE];rfl
theorem bK1 (K:Nat) (hK:K≤140737488355328):∀(c:Nat) (l:Fo) (v:Value) (ex ins:Bool) (B:Nat) (w:World),l.cnt≤c→cM w B v l→B≤w.heap.size→Fo.cO K l→l.len<K→
 Calls Tryz.prog 132 #[v,.bool ex,.bool ins] w fun e w'=>e=.returned (.bool (bE (dK nm op un) l ex ins))∧Below w.heap.size w w':=fun c=>by
 induction c using Nat.strongRecOn with
 |ind c ih=>
 intro l v ex ins B w hc hl hB cX hlen
 obtain⟨A,cap,rfl,cB⟩:=hl.form
 have HL:=hid hl
 have HO:=hid cX
 clear hl cX
 have HI:=hid ih
 clear ih
 go_enter Tryz.func132,Tryz.ntmps132
 go_wp2
 go_loopg [7] l.len (fun g i wr=>∃k:Nat,k≤l.len∧g=l.len-k∧i=.int .i64 k∧Hid (bE (dK nm op un) l ex ins=bE (dK nm op un) (Fo.drop k l) ex ins)∧Hid (Below w.heap.size w wr))
 case atStart=>exact⟨0,Nat.zero_le _,rfl,rfl,hid (by rw[Fo.drop]),hid (Below.refl _ _)⟩
 obtain⟨k,hk,hq,rfl,he,hb⟩:=hrel
 have Hq:=hid hq
 clear hq
 obtain⟨wo,rfl⟩:∃x:World,x=wr:=⟨_,rfl⟩
 have hz:=hb.out.size
 by_cases hlt:k<l.len
 rotate_left
 · have HE:=hid (he.out.trans (by rw[show k=l.len by omega,gB,bE]:_=true))
   clear he
   go_wp2
   go_ret
   exact⟨aR HE.out.symm,hb.out⟩
 obtain⟨a,kk,t,nn,s,ps,b,e,r,sv,pv,bv,ev,rfl,aI,hno⟩:=(HL.out.below (hb.out.mono hB)).at_ hlt
 have dL:=kN aI
 obtain⟨o1,o2,o3,o4,o5,o6,o7,o8,o9,o10,o11,-⟩:Fo.cO K (.cons kk t nn s ps b e r):=aI▸IZ HO.out
 have HE:=hid (he.out.trans (bH3 aI ex ins))
 have HC:=hid (bG3 ex ins kk t nn s ps b e sv pv bv ev B wo hno.vals (by omega) o1 (by omega) (by omega) (fun x hx=>by have:=o5 x hx;omega) o2
  (fun W hW=>HI.out s.cnt (by omega) s sv true ins B W (aC _) (hno.vals.subs.below (hW.mono (by omega))) (by have:=hW.size;omega) o9 o6)
  (fun W hW=>HI.out b.cnt (by omega) b bv false (ins||decide (kk=10)) B W (aC _) (hno.vals.body.below (hW.mono (by omega))) (by have:=hW.size;omega) o10 o7)
  (fun W hW=>HI.out e.cnt (by omega) e ev false ins B W (aC _) (hno.vals.els.below (hW.mono (by omega))) (by have:=hW.size;omega) o11 o8))
 obtain⟨c0,c1,c2,c3,c4,c5,c6⟩:=hno.cells
 have Hd:=hid aI
 clear aI hno o1 o2 o3 o4 o5 o6 o7 o8 o9 o10 o11
 generalize NX ex kk t nn s ps b e ins=fb at *
 cases fb with
 |true=>
  have bM:=hid (HE.out.trans (Bool.true_and _))
  clear HE
  go_wp2_with fail
  refine HC.out.mono ?_
  rintro e1 w1 ⟨rfl,hb1⟩
  have aT:=hid (hb.out.trans (hb1.mono hz))
  clear hb1
  go_wp2
  go_roundg (l.len-(k+1))
  case rel=>exact⟨k+1,hlt,rfl,by go_num,hid (by rw[eD Hd.out];exact bM.out),aT⟩
  rw[Hq.out];omega
 |false=>
  have bM:=hid (HE.out.trans (Bool.false_and _))
  clear HE
  go_wp2_with fail
  refine HC.out.mono ?_
  rintro e1 w1 ⟨rfl,hb1⟩
  have aT:=hid (hb.out.trans (hb1.mono hz))
  clear hb1
  go_wp2
  go_ret
  exact⟨aR bM.out.symm,aT.out⟩
theorem QG {w:World} {g:Nat} {T:TypeId} {a b c:Value} (x:aG w g T #[a,b,c]):
 w.cell? ⟨g,0,none⟩=some a∧w.cell? ⟨g,1,none⟩=some b∧w.cell? ⟨g,2,none⟩=some c:=⟨x.cell 0,x.cell 1,x.cell 2⟩
theorem a0W {p:List Fc} {k:Nat} (hk:k<p.length) {hd:Nat→aA→Int→Nat→List aA→Nat→Nat→Bool→Bool}:(p.drop k).all (h_ nm hd)=(h_ nm hd (p.getD k bI)&&(p.drop (k+1)).all (h_ nm hd)):=by
 rw[List.drop_eq_getElem_cons hk,List.all_cons,dR,bX hk]
 rfl
theorem aY4 (K:Nat) (hK:K≤140737488355328) (p:List Fc) (v:Value) (B:Nat) (w:World) (hv:eO w B v p) (hB:B≤w.heap.size) (hs:nodes p≤1000000) (hp:p.length≤1000000) (ho:oU K p):
 Calls Tryz.prog 84 #[.agg #[v]] w fun e w'=>e=.returned (.int .i64 (nW nm op un p))∧Below w.heap.size w w':=by
 obtain⟨A,cap,rfl,cB⟩:=hv.form
 have HV:=hid hv
 have HO:=hid ho
 clear hv ho
 have HA:=hid ((Below.refl w.heap.size w).alloc (aC _) (.cells #[.slice A p.length cap] 24))
 have bN:=hid (aG.new w 24 #[.slice A p.length cap])
 have r7:(w.alloc (.cells #[.slice A p.length cap] 24)).cell? ⟨w.heap.size,0,none⟩=some (.slice A p.length cap):=bN.out.cell 0
 have HR:=hid (show nW nm op un p=if 16<p.length then 3 else if 1024<nodes p∨24<depth p then 3 else if p.all (h_ nm (dK nm op un)) then 0 else 1 from rfl)
 go_enter Tryz.func84,Tryz.ntmps84
 go_upto_region 1 with fail
 generalize w.alloc (.cells #[.slice A p.length cap] 24)=w0 at *
 have hz0:w.heap.size<w0.heap.size:=bN.out.lt
 by_cases pF:16<p.length
 · have b1:decide ((p.length:Int) > 16)=true:=bF (by omega)
   have b2:decide (16<p.length)=true:=bF (by omega)
   have cY:=hid (HR.out.trans (if_pos pF))
   go_wp2
   go_ret
   exact⟨dC (by rw[cY.out];rfl),HA.out⟩
 have b1:decide ((p.length:Int) > 16)=false:=bP (by omega)
 have d_:=hid (HR.out.trans (if_neg pF))
 clear HR
 have HN:=hid (aY5 p (.slice A p.length cap) B w0 (HV.out.below (HA.out.mono hB)) (by omega) hs hp)
 generalize nodes p=nn at *
 generalize depth p=dd at *
 go_wp2_with fail
 refine HN.out.mono ?_
 rintro e1 w1 ⟨rfl,hb1⟩
 have aT:=hid (HA.out.trans (hb1.mono (by omega)))
 have jM:=hid (bN.out.below hb1 hz0)
 have hz1:w.heap.size<w1.heap.size:=jM.out.lt
 have S8:w1.cell? ⟨w.heap.size,0,none⟩=some (.slice A p.length cap):=jM.out.cell 0
 clear hb1 r7 HN
 by_cases h24:1024<nn
 · have b2:decide ((nn:Int) > 1024)=true:=bF (by omega)
   have cY:=hid (d_.out.trans (if_pos (.inl h24)))
   go_wp2
   go_ret
   exact⟨dC (by rw[cY.out];rfl),aT.out⟩
 have b2:decide ((nn:Int) > 1024)=false:=bP (by omega)
 by_cases h25:24<dd
 · have b3:decide ((dd:Int) > 24)=true:=bF (by omega)
   have cY:=hid (d_.out.trans (if_pos (.inr h25)))
   go_wp2
   go_ret
   exact⟨dC (by rw[cY.out];rfl),aT.out⟩
 have b3:decide ((dd:Int) > 24)=false:=bP (by omega)
 have cY:=hid (d_.out.trans (if_neg (by omega)))
 clear d_
 go_wp2
 go_loopg [5] p.length (fun g i wr=>∃k:Nat,k≤p.length∧g=p.length-k∧i=.int .i64 k∧Hid (p.all (h_ nm (dK nm op un))=(p.drop k).all (h_ nm (dK nm op un)))∧Hid (Below w1.heap.size w1 wr))
 case atStart=>exact⟨0,Nat.zero_le _,rfl,rfl,hid rfl,hid (Below.refl _ _)⟩
 obtain⟨k,hk,hq,rfl,he,hb⟩:=hrel
 have Hq:=hid hq
 clear hq
 obtain⟨wo,rfl⟩:∃x:World,x=wr:=⟨_,rfl⟩
 have hz:=hb.out.size
 have HB:=hid (aT.out.trans (hb.out.mono (by omega)))
 have co:wo.cell? ⟨w.heap.size,0,none⟩=some (.slice A p.length cap):=(jM.out.below hb.out hz1).cell 0
 by_cases hlt:k<p.length
 rotate_left
 · have iJ:=hid (cY.out.trans (if_pos (by rw[he.out,show k=p.length by omega,List.drop_length];rfl)))
   clear he
   go_wp2
   go_ret
   exact⟨dC (by rw[iJ.out];rfl),HB.out⟩
 obtain⟨a,pv,bv,rfl,hab,d0,d1,d2,eF,cZ⟩:=(HV.out.below (HB.out.mono hB)).at_ hlt
 obtain⟨o1,o2,o3,o4,o5⟩:=HO.out.2 _ (uI hlt)
 have HE:=hid (he.out.trans (a0W hlt))
 generalize p.getD k bI=f at *
 obtain⟨fname,J9,F8⟩:=f
 have dG:=hid ((Below.refl wo.heap.size wo).alloc (aC _) (.cells #[.string fname,pv,bv] 112))
 have rB:=hid (aG.new wo 112 #[.string fname,pv,bv])
 have uA:=hid eF
 have iU:=hid cZ
 have Ho3:=hid o3
 have Ho5:=hid o5
 clear eF cZ o3 o5 he
 obtain⟨Ap,cp,rfl,kX,-⟩:=uA.out
 obtain⟨Ab,cb,rfl,hcb⟩:=iU.out.form
 go_upto_region 10 with fail
 generalize wo.alloc (.cells #[.string fname,.slice Ap J9.length cp,.slice Ab F8.len cb] 112)=w2 at *
 obtain⟨f0,f1,f2⟩:=QG rB.out
 have hz2:wo.heap.size<w2.heap.size:=rB.out.lt
 have C1:=hid (aM7 fname w2 (by show fname.size≤_;have:fname.size<K:=o1;omega))
 have bY:=hid (hb.out.trans (dG.out.mono hz))
 have HF:=hid (show ∀x,h_ nm (dK nm op un) ⟨fname,J9,F8⟩=x→p.all (h_ nm (dK nm op un))=(x&&(p.drop (k+1)).all (h_ nm (dK nm op un))) from fun x hx=>by rw[HE.out,hx])
 clear HE
 cases hn:nm fname with
 |false=>
  have iJ:=hid (cY.out.trans (if_neg (by rw[HF.out false (by unfold h_;rw[hn];rfl)];simp)))
  rw[hn] at C1
  clear hn
  go_wp2_with fail
  refine C1.out.mono ?_
  rintro e1 w3 ⟨rfl,hb3⟩
  have b7:=hid (aT.out.trans ((bY.out.trans (hb3.mono (by omega))).mono (by omega)))
  clear hb3
  go_wp2
  go_ret
  exact⟨dC (by rw[iJ.out];rfl),b7.out⟩
 |true=>
  rw[hn] at C1
  go_wp2_with fail
  refine C1.out.mono ?_
  rintro e1 w3 ⟨rfl,hb3⟩
  have b7:=hid (bY.out.trans (hb3.mono (by omega)))
  have aTM:=hid (rB.out.below hb3 hz2)
  have TE:=hid (dG.out.trans (hb3.mono (by omega)))
  clear hb3 f0 f1 f2
  obtain⟨f0,f1,f2⟩:=QG aTM.out
  have hz3:=aTM.out.lt
  have aJB:=b7.out.size
  have hBo:B≤wo.heap.size:=by omega
  have C2:=hid (aY2 _ J9 B w3 (uA.out.below (TE.out.mono hBo)) (by omega) (by have:J9.length<K:=o2;omega) (fun x hx=>by have:x.size<K:=Ho3.out x hx;omega))
  cases l_:mF nm J9 with
  |false=>
   have iJ:=hid (cY.out.trans (if_neg (by rw[HF.out false (by unfold h_;rw[hn,l_];rfl)];simp)))
   rw[l_] at C2
   clear hn l_
   go_wp2_with fail
   refine C2.out.mono ?_
   rintro e1 w4 ⟨rfl,hb4⟩
   have bC:=hid (b7.out.trans (hb4.mono (by omega)))
   clear hb4
   have D8:=hid (aT.out.trans ((bC.out).mono (by omega)))
   go_wp2
   go_ret
   exact⟨dC (by rw[iJ.out];rfl),D8.out⟩
  |true=>
   rw[l_] at C2
   go_wp2_with fail
   refine C2.out.mono ?_
   rintro e1 w4 ⟨rfl,hb4⟩
   have bC:=hid (b7.out.trans (hb4.mono (by omega)))
   have a9C:=hid (aTM.out.below hb4 hz3)
   have DY:=hid (TE.out.trans (hb4.mono (by omega)))
   clear hb4 f0 f1 f2
   obtain⟨f0,f1,f2⟩:=QG a9C.out
   have gY:=a9C.out.lt
   have aRD:=bC.out.size
   have C3:=hid (bK1 K hK F8.cnt F8 (.slice Ab F8.len cb) false false B w4 (aC _) (iU.out.below (DY.out.mono hBo)) (by omega) Ho5.out o4)
   cases fW:bE (dK nm op un) F8 false false with
   |false=>
    have iJ:=hid (cY.out.trans (if_neg (by rw[HF.out false (by unfold h_;rw[hn,l_,fW];rfl)];simp)))
    rw[fW] at C3
    clear hn l_ fW
    go_wp2_with fail
    refine C3.out.mono ?_
    rintro e1 w5 ⟨rfl,aQ⟩
    have a_:=hid (bC.out.trans (aQ.mono (by omega)))
    clear aQ
    have D8:=hid (aT.out.trans ((a_.out).mono (by omega)))
    go_wp2
    go_ret
    exact⟨dC (by rw[iJ.out];rfl),D8.out⟩
   |true=>
    have HE:=hid ((HF.out true (by unfold h_;rw[hn,l_,fW];rfl)).trans (Bool.true_and _))
    rw[fW] at C3
    clear hn l_ fW
    go_wp2_with fail
    refine C3.out.mono ?_
    rintro e1 w5 ⟨rfl,aQ⟩
    have a_:=hid (bC.out.trans (aQ.mono (by omega)))
    clear aQ
    go_wp2
    go_roundg (p.length-(k+1))
    case rel=>exact⟨k+1,hlt,rfl,by go_num,HE,a_⟩
    rw[Hq.out];omega
end
section
open Go.RowKit Go.ChangeMaps Go.MapKept Go.Maps
open Sl
open Go.Lib (hid)
theorem aZ3 (K:Nat) (hK:K≤140737488355328) (p:List Fc) (v:Value) (B:Nat) (w:World) (hv:eO w B v p) (hB:B≤w.heap.size) (hs:nodes p≤1000000) (hp:p.length≤1000000) (ho:oU K p):
 Calls Tryz.prog 81 #[.agg #[v]] w fun e w'=>e=.returned (.int .i64 (FX nm op un p))∧Below w.heap.size w w':=by
 obtain⟨A,cap,rfl,cB⟩:=hv.form
 have HV:=hid hv
 have HO:=hid ho
 clear hv ho
 have HA:=hid ((Below.refl w.heap.size w).alloc (aC _) (.cells #[.slice A p.length cap] 24))
 have bN:=hid (aG.new w 24 #[.slice A p.length cap])
 have r7:(w.alloc (.cells #[.slice A p.length cap] 24)).cell? ⟨w.heap.size,0,none⟩=some (.slice A p.length cap):=bN.out.cell 0
 have HR:=hid (show FX nm op un p=if 16<p.length then 3 else if 1024<nodes p∨24<depth p then 3 else if p.all (h_ nm (eJ nm op un)) then 0 else 1 from rfl)
 go_enter Tryz.func81,Tryz.ntmps81
 go_upto_region 1 with fail
 generalize w.alloc (.cells #[.slice A p.length cap] 24)=w0 at *
 have hz0:w.heap.size<w0.heap.size:=bN.out.lt
 by_cases pF:16<p.length
 · have b1:decide ((p.length:Int) > 16)=true:=bF (by omega)
   have cY:=hid (HR.out.trans (if_pos pF))
   go_wp2
   go_ret
   exact⟨dC (by rw[cY.out];rfl),HA.out⟩
 have b1:decide ((p.length:Int) > 16)=false:=bP (by omega)
 have d_:=hid (HR.out.trans (if_neg pF))
 clear HR
 have HN:=hid (bJN p (.slice A p.length cap) B w0 (HV.out.below (HA.out.mono hB)) (by omega) hs hp)
 generalize nodes p=nn at *
 generalize depth p=dd at *
 go_wp2_with fail
 refine HN.out.mono ?_
 rintro e1 w1 ⟨rfl,hb1⟩
 have aT:=hid (HA.out.trans (hb1.mono (by omega)))
 have jM:=hid (bN.out.below hb1 hz0)
 have hz1:w.heap.size<w1.heap.size:=jM.out.lt
 clear hb1 r7 HN
 by_cases h24:1024<nn
 · have b2:decide ((nn:Int) > 1024)=true:=bF (by omega)
   have cY:=hid (d_.out.trans (if_pos (.inl h24)))
   go_wp2
   go_ret
   exact⟨dC (by rw[cY.out];rfl),aT.out⟩
 have b2:decide ((nn:Int) > 1024)=false:=bP (by omega)
 by_cases h25:24<dd
 · have b3:decide ((dd:Int) > 24)=true:=bF (by omega)
   have cY:=hid (d_.out.trans (if_pos (.inr h25)))
   go_wp2
   go_ret
   exact⟨dC (by rw[cY.out];rfl),aT.out⟩
 have b3:decide ((dd:Int) > 24)=false:=bP (by omega)
 have cY:=hid (d_.out.trans (if_neg (by omega)))
 clear d_
 go_wp2_with fail
 refine (bI6 w1).mono ?_
 rintro e1 w2 ⟨gm,rfl,J4,G2,hb2⟩
 have bY:=hid (aT.out.trans (hb2.mono (Nat.le_of_lt hz1)))
 have BR:=hid (jM.out.below hb2 hz1)
 have hz2:=hb2.size
 have XF:=hid (aG.new w2 189 #[.map (some gm)])
 have HRu:=hid (EN.same G2 (Below.heap_alloc w2 (.cells #[.map (some gm)] 189) gm (eC.lt G2)))
 have b7:=hid (bY.out.alloc (by omega) (.cells #[.map (some gm)] 189))
 have Q_:=hid (BR.out.alloc (.cells #[.map (some gm)] 189))
 clear G2 hb2 bY BR aT jM
 have a6S:w.heap.size<w2.heap.size:=by omega
 go_upto_region 7 with fail
 generalize w2.alloc (.cells #[.map (some gm)] 189)=w3 at *
 have hz3:w2.heap.size<w3.heap.size:=XF.out.lt
 have S8:w3.cell? ⟨w.heap.size,0,none⟩=some (.slice A p.length cap):=Q_.out.cell 0
 go_wp2
 go_loopg [28] p.length (fun g i wr=>∃k:Nat,k≤p.length∧g=p.length-k∧i=.int .i64 k∧Hid (p.all (h_ nm (eJ nm op un))=(p.drop k).all (h_ nm (eJ nm op un)))∧Hid (Below w3.heap.size w3 wr))
 case atStart=>exact⟨0,Nat.zero_le _,rfl,rfl,hid rfl,hid (Below.refl _ _)⟩
 obtain⟨k,hk,hq,rfl,he,hb⟩:=hrel
 have Hq:=hid hq
 clear hq
 obtain⟨wo,rfl⟩:∃x:World,x=wr:=⟨_,rfl⟩
 have hz:=hb.out.size
 have HB:=hid (b7.out.trans (hb.out.mono (by omega)))
 have co:wo.cell? ⟨w.heap.size,0,none⟩=some (.slice A p.length cap):=(Q_.out.below hb.out (by omega)).cell 0
 by_cases hlt:k<p.length
 rotate_left
 · have iJ:=hid (cY.out.trans (if_pos (by rw[he.out,show k=p.length by omega,List.drop_length];rfl)))
   clear he
   go_wp2
   go_ret
   exact⟨dC (by rw[iJ.out];rfl),HB.out⟩
 obtain⟨a,pv,bv,rfl,hab,DV,HJ,FE,eF,cZ⟩:=(HV.out.below (HB.out.mono hB)).at_ hlt
 obtain⟨o1,o2,o3,o4,o5⟩:=HO.out.2 _ (uI hlt)
 have HE:=hid (he.out.trans (a0W hlt))
 generalize p.getD k bI=f at *
 obtain⟨fname,J9,F8⟩:=f
 have d0:=j6 (mX DV) DV
 have d1:=j6 (mX HJ) HJ
 have d2:=j6 (mX FE) FE
 have c0:∀q:BW wo,q.wd.cell? ⟨w2.heap.size,0,none⟩=some (.map (some gm)):=j6 (show w2.heap.size<wo.heap.size by omega) ((XF.out.below hb.out hz3).cell 0)
 have C1:=hid (fun q:BW wo=>aN5 fname q.wd (by show fname.size≤_;have:fname.size<K:=o1;omega))
 have C2:=hid (fun q:BW wo=>aY7 pv J9 B q.wd (eF.below (q.ok.mono (by omega))) (by have:=q.ok.size;omega) (by have:J9.length<K:=o2;omega) (fun x hx=>by have:x.size<K:=o3 x hx;omega))
 have C3:=hid (fun q:BW wo=>(bKB gm B K hK F8.cnt F8 bv wo (aC _) cZ (HRu.out.same (hb.out.block gm (eC.lt HRu.out))) (by omega) o5 o4).2 q.wd false q.ok)
 obtain⟨Ap,cp,rfl,kX,-⟩:=eF
 obtain⟨Ab,cb,rfl,hcb⟩:=cZ.form
 have HF:=hid (show ∀x,h_ nm (eJ nm op un) ⟨fname,J9,F8⟩=x→p.all (h_ nm (eJ nm op un))=(x&&(p.drop (k+1)).all (h_ nm (eJ nm op un))) from fun x hx=>by rw[HE.out,hx])
 clear HE cZ o3 o5 he DV HJ FE
 cases hn:nm fname with
 |false=>as_aux_lemma=>
  have iJ:=hid (cY.out.trans (if_neg (by rw[HF.out false (by unfold h_;rw[hn];rfl)];simp)))
  rw[hn] at C1
  clear hn
  go_upto_region 11 with fail
  refine kK (by kernel_rfl) (by kernel_rfl) ?_
  repeat (go_big_quiet_step (first|((go_at_call 123;with_reducible exact dE (C1.out _)))|((go_at_call 124;with_reducible exact dE (C2.out _)))|((go_at_call 125;with_reducible exact dE (C3.out _)))))
  refine wpQuiet_nil ?_
  intro _ hw'
  obtain⟨p',hw''⟩:=hw'
  subst hw''
  have iN:=hid (HB.out.trans (p'.ok.mono (by omega)))
  go_wp2
  go_ret
  exact⟨dC (by rw[iJ.out];rfl),iN.out⟩
 |true=>
  rw[hn] at C1
  cases l_:mF nm J9 with
  |false=>as_aux_lemma=>
   have iJ:=hid (cY.out.trans (if_neg (by rw[HF.out false (by unfold h_;rw[hn,l_];rfl)];simp)))
   rw[l_] at C2
   clear hn l_
   go_upto_region 11 with fail
   refine kK (by kernel_rfl) (by kernel_rfl) ?_
   repeat (go_big_quiet_step (first|((go_at_call 123;with_reducible exact dE (C1.out _)))|((go_at_call 124;with_reducible exact dE (C2.out _)))|((go_at_call 125;with_reducible exact dE (C3.out _)))))
   refine wpQuiet_nil ?_
   intro _ hw'
   obtain⟨p',hw''⟩:=hw'
   subst hw''
   have iN:=hid (HB.out.trans (p'.ok.mono (by omega)))
   go_wp2
   go_ret
   exact⟨dC (by rw[iJ.out];rfl),iN.out⟩
  |true=>
   rw[l_] at C2
   cases fW:bE (eJ nm op un) F8 false false with
   |false=>as_aux_lemma=>
    have iJ:=hid (cY.out.trans (if_neg (by rw[HF.out false (by unfold h_;rw[hn,l_,fW];rfl)];simp)))
    rw[fW] at C3
    clear hn l_ fW
    go_upto_region 11 with fail
    refine kK (by kernel_rfl) (by kernel_rfl) ?_
    repeat (go_big_quiet_step (first|((go_at_call 123;with_reducible exact dE (C1.out _)))|((go_at_call 124;with_reducible exact dE (C2.out _)))|((go_at_call 125;with_reducible exact dE (C3.out _)))))
    refine wpQuiet_nil ?_
    intro _ hw'
    obtain⟨p',hw''⟩:=hw'
    subst hw''
    have iN:=hid (HB.out.trans (p'.ok.mono (by omega)))
    go_wp2
    go_ret
    exact⟨dC (by rw[iJ.out];rfl),iN.out⟩
   |true=>
    have HE:=hid ((HF.out true (by unfold h_;rw[hn,l_,fW];rfl)).trans (Bool.true_and _))
    rw[fW] at C3
    clear hn l_ fW
    go_upto_region 11 with fail
    refine kK (by kernel_rfl) (by kernel_rfl) ?_
    repeat (go_big_quiet_step (first|((go_at_call 123;with_reducible exact dE (C1.out _)))|((go_at_call 124;with_reducible exact dE (C2.out _)))|((go_at_call 125;with_reducible exact dE (C3.out _)))))
    refine wpQuiet_nil ?_
    intro _ hw'
    obtain⟨p',hw''⟩:=hw'
    subst hw''
    have iN:=hid (hb.out.trans (p'.ok.mono (by omega)))
    go_wp2
    go_roundg (p.length-(k+1))
    case rel=>exact⟨k+1,hlt,rfl,by go_num,HE,iN⟩
    rw[Hq.out];omega
namespace Sl
def N4 (p:List Fc):List (Value×Value):=p.map fun f=>(.string f.name,.int .i64 (f.ps.length:Int))
theorem bIJ {p:List Fc} {k:Nat} (hk:k<p.length):N4 (p.take (k+1))=N4 (p.take k)++[(.string (p.getD k bI).name,.int .i64 ((p.getD k bI).ps.length:Int))]:=by
 unfold N4
 rw[List.take_succ_eq_append_getElem hk,List.map_append,dR,bX hk]
 rfl
theorem bHM {p:List Fc} {k:Nat} (hk:k<p.length):((p.take (k+1)).map (·.name)).Nodup↔((p.take k).map (·.name)).Nodup∧(p.getD k bI).name∉(p.take k).map (·.name):=by
 rw[List.take_succ_eq_append_getElem hk,List.map_append,List.nodup_append,dR,bX hk]
 simp only[List.map_cons,List.map_nil,List.mem_singleton,Option.getD_some]
 constructor
 · rintro⟨h1,-,h3⟩
   exact⟨h1,fun h=>h3 _ h _ rfl rfl⟩
 rintro⟨h1,h2⟩
 exact⟨h1,by simp,fun a ha b hb e=>h2 (by rw[←hb,←e];exact ha)⟩
theorem bJL {p:List Fc} {k:Nat} (h:(p.map (·.name)).Nodup):((p.take k).map (·.name)).Nodup:=by
 rw[←List.take_append_drop k p,List.map_append,List.nodup_append] at h
 exact h.1
theorem aY_ {l:List Fc} (hn:(l.map (·.name)).Nodup) {f g:Fc} (hf:f∈l) (hg:g∈l) (e:f.name=g.name):f=g:=by
 induction l with
 |nil=>cases hf
 |cons y l ih=>
  rw[List.map_cons,List.nodup_cons] at hn
  rcases List.mem_cons.1 hf with e2|hf'
  · rcases List.mem_cons.1 hg with e3|hg'
    · rw[e2,e3]
    exact absurd (List.mem_map.2 ⟨g,hg',by rw[←e,e2]⟩) hn.1
  rcases List.mem_cons.1 hg with e3|hg'
  · exact absurd (List.mem_map.2 ⟨f,hf',by rw[e,e3]⟩) hn.1
  exact ih hn.2 hf' hg'
theorem bII {p:List Fc} {x:aA} (h:arity p x=none):∀f∈p,f.name≠x:=fun f hf e=>by
 unfold arity at h
 rw[Option.map_eq_none_iff,List.find?_eq_none] at h
 exact h f hf (bF e)
theorem bIH {p:List Fc} {x:aA} {m:Nat} (hn:(p.map (·.name)).Nodup) (h:arity p x=some m):(∃f∈p,f.name=x)∧∀f∈p,f.name=x→f.ps.length=m:=by
 unfold arity at h
 rw[Option.map_eq_some_iff] at h
 obtain⟨f,hf,rfl⟩:=h
 have h1:=List.find?_some hf
 have h2:=List.mem_of_find?_eq_some hf
 have e1:f.name=x:=of_decide_eq_true h1
 refine⟨⟨f,h2,e1⟩,fun g hg e=>?_⟩
 have:f=g:=aY_ hn h2 hg (e1.trans e.symm)
 rw[this]
end Sl
theorem bOT {w:World} {gm:Nat} {p:List Fc} (h:eC w Tryz.prog 9 gm (N4 p)) (hn:(p.map (·.name)).Nodup):uC w gm (arity p):=by
 refine⟨_,h,fun x=>?_⟩
 cases hx:arity p x with
 |none=>
  dsimp only
  intro q hq
  obtain⟨f,hf,rfl⟩:=List.mem_map.1 hq
  intro e
  injection e with e
  exact bII hx f hf e
 |some m=>
  dsimp only
  obtain⟨⟨f,hf,e⟩,h2⟩:=bIH hn hx
  refine⟨⟨_,List.mem_map.2 ⟨f,hf,rfl⟩,by rw[e]⟩,fun q hq he=>?_⟩
  obtain⟨f',hf',rfl⟩:=List.mem_map.1 hq
  injection he with he
  rw[h2 f' hf' he]
def bOZ (p:List Fc) (w:World) (e:Ending) (w':World):Prop:=
 (if twice p=true then e=.returned (.tuple #[.map none,.bool false]) else ∃gm,e=.returned (.tuple #[.map (some gm),.bool true])∧uC w' gm (arity p)∧w.heap.size≤gm)∧Below w.heap.size w w'
theorem bGS (p:List Fc) (A:Option Addr) (cap g B K:Nat) (hK:K≤140737488355328) (w:World) (hb0:aG w g 24 #[.slice A p.length cap]) (hv:eO w B (.slice A p.length cap) p) (hB:B≤w.heap.size) (hp:p.length≤1000000) (ho:oU K p):
 Calls Tryz.prog 109 #[.pointer (some ⟨g,0,none⟩)] w (bOZ p w):=by
 have HV:=hid hv
 have bN:=hid hb0
 have HO:=hid ho
 have hg:=hb0.lt
 have hM0:=eC.made w Tryz.prog 9
 have HM0:=hid hM0
 have HA:=hid ((Below.refl w.heap.size w).alloc (aC _) (.map #[] 0))
 have hzl:w.heap.size<(w.alloc (.map #[] 0)).heap.size:=eC.lt hM0
 have c0:(w.alloc (.map #[] 0)).cell? ⟨g,0,none⟩=some (.slice A p.length cap):=(hb0.alloc (.map #[] 0)).cell 0
 clear hv hb0 ho hM0
 go_enter Tryz.func109,Tryz.ntmps109
 have hmm:=@run_makeMap Tryz.prog
 go_upto_region 2 with fail
 clear hmm
 generalize w.alloc (.map #[] 0)=w1 at *
 go_wp2
 go_loopg [14] p.length (fun q i wr=>∃k:Nat,k≤p.length∧q=p.length-k∧i=.int .i64 k∧Hid (eC wr Tryz.prog 9 w.heap.size (N4 (p.take k)))∧Hid (((p.take k).map (·.name)).Nodup)∧Hid (Below w.heap.size w wr))
 case atStart=>exact⟨0,Nat.zero_le _,rfl,rfl,HM0,hid (by simp),HA⟩
 obtain⟨k,hk,hq,rfl,hM,hN,hL⟩:=hrel
 have Hq:=hid hq
 clear hq
 obtain⟨wo,rfl⟩:∃x:World,x=wr:=⟨_,rfl⟩
 have hz:=hL.out.size
 have hzg:w.heap.size<wo.heap.size:=eC.lt hM.out
 have bY:=hid (bN.out.below hL.out hg)
 have co:wo.cell? ⟨g,0,none⟩=some (.slice A p.length cap):=bY.out.cell 0
 by_cases hlt:k<p.length
 rotate_left
 · have HX:=hid (show ¬twice p=true by
    have:=hN.out
    rw[List.take_of_length_le (by omega)] at this
    unfold twice
    simp[this])
   have HF:=hid (show uC wo w.heap.size (arity p) by
    have h1:=hM.out
    have h2:=hN.out
    rw[List.take_of_length_le (by omega)] at h1 h2
    exact bOT h1 h2)
   go_wp2
   go_ret2
   exact⟨by rw[if_neg HX.out];exact⟨_,rfl,HF.out,aC _⟩,hL.out⟩
 obtain⟨a,pv,bv,rfl,hab,d0,d1,d2,eF,cZ⟩:=(HV.out.below (hL.out.mono hB)).at_ hlt
 obtain⟨o1,o2,o3,o4,o5⟩:=HO.out.2 _ (uI hlt)
 have HT:=hid (bIJ hlt)
 have HND:=hid (bHM hlt)
 obtain⟨Ap,cp,rfl,kX,-⟩:=eF
 clear cZ o3 o5
 generalize p.getD k bI=f at *
 obtain⟨kl,pB⟩:=keyOf_str f.name (by omega)
 by_cases cV:f.name∈(p.take k).map (·.name)
 · obtain⟨f',hf',FA⟩:=List.mem_map.1 cV
   obtain⟨v0,hv0⟩:∃v0,(Instr.lookup 170 (.map (some w.heap.size)) (.string f.name) true).run Tryz.prog wo=.ok (.tuple #[.int .i64 v0,.bool true]) wo:=by
    have key:∀q∈N4 (p.take k),q.1=.string f.name→q.2=.int .i64 (f'.ps.length:Int):=fun q hq e=>by
     obtain⟨f2,hf2,rfl⟩:=List.mem_map.1 hq
     injection e with e
     have:f2=f':=aY_ hN.out hf2 hf' (e.trans FA.symm)
     rw[this]
    exact⟨_,eC.hit (e:=3) hM.out YN Tryz.underlying170 pB key ⟨_,List.mem_map.2 ⟨f',hf',rfl⟩,by rw[FA]⟩ true⟩
   have HX:=hid (show twice p=true from bF (fun h=>((HND.out).1 (bJL h)).2 cV))
   have W7:=hid cV
   clear cV hf' FA HND HT pB
   go_wp2
   go_ret2
   exact⟨by rw[if_pos HX.out];rfl,hL.out⟩
 have aP9:∀q∈N4 (p.take k),q.1≠.string f.name:=fun q hq e=>by
  obtain⟨f2,hf2,rfl⟩:=List.mem_map.1 hq
  injection e with e
  exact cV (List.mem_map.2 ⟨f2,hf2,e⟩)
 have hrun:=eC.aQ2 (e:=3) hM.out YN Tryz.underlying170 (Tryz.zeroValue3 wo) pB aP9 true
 obtain⟨w5,hst,hM5,hG5⟩:=eC.store (w:=wo.drew) (e:=3) (v:=.int .i64 (f.ps.length:Int)) (hM.out.same rfl) YN Tryz.underlying170 pB aP9
 have HM5:=hid (show eC w5 Tryz.prog 9 w.heap.size (N4 (p.take (k+1))) by rw[HT.out];exact hM5)
 have HN5:=hid ((HND.out).2 ⟨hN.out,cV⟩)
 have iT:=hid ((below_drewN hL.out 1).grown hG5 hz (fun j e=>by cases e;exact aC _))
 clear hM5 hG5 aP9 cV HND HT pB
 go_upto_region 8 with fail
 go_still_tail 18,(by kernel_rfl)
 change wpList _ _ _ _ _ wo.drew
 clear hrun
 go_wp2
 go_roundg (p.length-(k+1))
 case rel=>exact⟨k+1,hlt,rfl,by go_num,HM5,HN5,iT⟩
 rw[Hq.out];omega
theorem bFW (ar:aA→Option Nat) (base g gm B K:Nat) (hK:K≤140737488355328) (cN:B≤g) (J4:gm<g) (dv ov iv:Value) (st:Sc) (w:World) (h:eI base g (.map (some gm)) dv ov iv st w) (hA:uC w gm ar)
 (a:Addr) (o:Nat) (f:Fc) (pv bv:Value) (hab:a.block<B) (d1:w.cell? ⟨(a.add o).block,(a.add o).off+1,none⟩=some pv) (d2:w.cell? ⟨(a.add o).block,(a.add o).off+2,none⟩=some bv)
 (eF:iF w B pv f.ps) (cZ:cM w B bv f.body) (hpl:f.ps.length≤140737488355328) (cX:Fo.cO K f.body) (hlen:f.body.len<K):
 Calls Tryz.prog 110 #[.pointer (some ⟨g,0,none⟩),.pointer (some (a.add o))] w (NQ base g (.map (some gm)) (scope ar f.body false (f.ps.foldl declares st)) w):=by
 have H:=hid h
 have HB:=hid (bF2 ar base g gm B K hK cN J4 f.body.cnt f.body bv w (aC _) cZ hA cX hlen).2
 have uA:=hid eF
 obtain⟨Ap,cp,rfl,kX,-⟩:=eF
 obtain⟨Ab,cb,rfl,hcb⟩:=cZ.form
 have sJ:=hid d2
 have hab2:(a.add o).block<B:=by rw[f_];exact hab
 clear h hA cZ cX
 go_enter Tryz.func110,Tryz.ntmps110
 go_wp2
 go_loopg [11] f.ps.length (fun q i wr=>∃(j:Nat) (iH fP iv':Value),j≤f.ps.length∧q=f.ps.length-j∧i=.int .i64 j∧Hid (eI base g (.map (some gm)) iH fP iv' ((f.ps.take j).foldl declares st) wr)∧Hid (Below g w wr))
 case atStart=>exact⟨0,_,_,_,Nat.zero_le _,rfl,rfl,H,hid (Below.refl _ _)⟩
 obtain⟨j,iH,fP,iv',hj,hq,rfl,hR,hL⟩:=hrel
 have Hq:=hid hq
 clear hq
 obtain⟨wx,rfl⟩:∃x:World,x=wr:=⟨_,rfl⟩
 by_cases hlt:j<f.ps.length
 rotate_left
 · rw[List.take_of_length_le (show f.ps.length≤j by omega)] at hR
   have FE:=(hL.out.cell (p:=⟨(a.add o).block,(a.add o).off+2,none⟩) (by show (a.add o).block<g;omega)).trans sJ.out
   clear d2 d1
   go_wp2_with fail
   refine (HB.out wx _ iH fP iv' hL.out hR.out).mono ?_
   rintro e1 w5 ⟨rfl,dv5,ov5,iv5,hs5,aQ⟩
   have R5:=hid hs5
   have L5:=hid (hL.out.trans aQ)
   clear hs5 aQ
   go_wp2
   go_end0
   exact⟨rfl,_,_,_,R5.out,L5.out⟩
 obtain⟨ap,hap,-,V8⟩:=FV (show Reads wx B 1 Ap f.ps.length (f.ps.map .string) by
  obtain⟨A',c',e',-,kC⟩:=uA.out
  cases e'
  exact kC.below (hL.out.mono cN)) hlt
 subst hap
 have HT:=hid (show (f.ps.take (j+1)).foldl declares st=declares ((f.ps.take j).foldl declares st) (f.ps.getD j ByteArray.empty) by
  rw[List.take_succ_eq_append_getElem hlt,List.foldl_append,dR,bX hlt]
  rfl)
 generalize f.ps.getD j ByteArray.empty=px at *
 generalize (f.ps.take j).foldl declares st=lC at *
 have HD:=hid (aDK base g (.map (some gm)) iH fP iv' lC px wx hR.out)
 clear d2
 go_wp2_with fail
 refine HD.out.mono ?_
 rintro e1 w4 ⟨rfl,AK,zU,zV,cU,hb4⟩
 have R:=hid cU
 have LR:=hid (hL.out.trans hb4)
 clear cU hb4
 go_wp2
 go_roundg (f.ps.length-(j+1))
 case rel=>exact⟨j+1,AK,zU,zV,hlt,rfl,by go_num,by rw[HT.out];exact R,LR⟩
 rw[Hq.out];omega
def dJ:aA:=⟨#[109,97,105,110]⟩
theorem aYJ {p:List Fc} {g:Fc→Nat} {k:Nat} (hk:k<p.length):EF ((p.drop k).map g)=if g (p.getD k bI)=0 then EF ((p.drop (k+1)).map g) else g (p.getD k bI):=by
 rw[List.drop_eq_getElem_cons hk,List.map_cons,dR,bX hk]
 simp only[Option.getD_some]
 cases h:g p[k] with
 |zero=>rw[if_pos rfl];rfl
 |succ n=>rw[if_neg (by omega)];rfl
theorem bKD (K:Nat) (hK:K≤140737488355328) (p:List Fc) (v:Value) (B:Nat) (w:World) (hv:eO w B v p) (hB:B≤w.heap.size) (hs:nodes p≤1000000) (hp:p.length≤1000000) (ho:oU K p):
 Calls Tryz.prog 68 #[.agg #[v]] w fun e w'=>e=.returned (.int .i64 (NP nm op un dJ p))∧Below w.heap.size w w':=by
 obtain⟨A,cap,rfl,cB⟩:=hv.form
 have HV:=hid hv
 have HO:=hid ho
 clear hv ho
 have HA:=hid ((Below.refl w.heap.size w).alloc (aC _) (.cells #[.slice A p.length cap] 24))
 have bN:=hid (aG.new w 24 #[.slice A p.length cap])
 have HR:=hid (show NP nm op un dJ p=if FX nm op un p≠0 then FX nm op un p else if twice p then 6 else
  match arity p dJ with
  |none=>5
  |some n=>if 0<n then 1 else EF (p.map (NK p)) from rfl)
 have r7:(w.alloc (.cells #[.slice A p.length cap] 24)).cell? ⟨w.heap.size,0,none⟩=some (.slice A p.length cap):=bN.out.cell 0
 go_enter Tryz.func68,Tryz.ntmps68
 go_upto_region 1 with fail
 generalize w.alloc (.cells #[.slice A p.length cap] 24)=w0 at *
 have hz0:w.heap.size<w0.heap.size:=bN.out.lt
 have IB:=hid (aZ3 K hK p (.slice A p.length cap) B w0 (HV.out.below (HA.out.mono hB)) (by omega) hs hp HO.out)
 generalize FX nm op un p=sh at *
 go_wp2_with fail
 refine IB.out.mono ?_
 rintro e1 w1 ⟨rfl,hb1⟩
 have aT:=hid (HA.out.trans (hb1.mono (by omega)))
 have jM:=hid (bN.out.below hb1 hz0)
 have hz1:w.heap.size<w1.heap.size:=jM.out.lt
 clear hb1 r7 IB
 by_cases lS:sh=0
 rotate_left
 · have d_:=hid (HR.out.trans (if_pos lS))
   have b1:((sh:Int) != 0)=true:=bne_iff_ne.2 (by omega)
   clear HR lS
   go_wp2
   go_ret
   exact⟨dC (by rw[d_.out]),aT.out⟩
 have d_:=hid (HR.out.trans (if_neg (by simp[lS])))
 subst lS
 have HAr:=hid (bGS p A cap w.heap.size B K hK w1 jM.out (HV.out.below (aT.out.mono hB)) (by omega) hp HO.out)
 have S8:w1.cell? ⟨w.heap.size,0,none⟩=some (.slice A p.length cap):=jM.out.cell 0
 clear HR
 go_wp2_with fail
 refine HAr.out.mono ?_
 rintro e1 w2 ⟨UU,hb2⟩
 have bY:=hid (aT.out.trans (hb2.mono (by omega)))
 have BR:=hid (jM.out.below hb2 hz1)
 have hz2:w.heap.size<w2.heap.size:=BR.out.lt
 have a6S:=hb2.size
 clear hb2 HAr S8
 by_cases V7:twice p=true
 · have cY:=hid (d_.out.trans (if_pos V7))
   rw[if_pos V7] at UU
   subst UU
   clear V7
   go_wp2
   go_ret
   exact⟨dC (by rw[cY.out];rfl),bY.out⟩
 have cY:=hid (d_.out.trans (if_neg V7))
 rw[if_neg V7] at UU
 obtain⟨gm,rfl,AG,J4⟩:=UU
 have nR:=hid AG
 have bQZ:gm<w2.heap.size:=by obtain⟨M,hM,-⟩:=AG;exact eC.lt hM
 clear AG V7 d_
 cases WJ:arity p dJ with
 |none=>
  have iJ:=hid (cY.out.trans (by rw[WJ]))
  have hrun:=nR.out.none_ (x:=dJ) (by decide) WJ
  have bPB:(Instr.lookup 170 (.map (some gm)) (.string ⟨#[109,97,105,110]⟩) true).run Tryz.prog w2=.ok (.tuple #[.int .i64 0,.bool false]) w2:=hrun
  clear hrun WJ cY
  go_wp2
  go_ret
  exact⟨dC (by rw[iJ.out];rfl),bY.out⟩
 |some m=>
  have iJ:=hid (cY.out.trans (by rw[WJ]))
  have hrun:=nR.out.some_ (x:=dJ) (by decide) WJ
  have bPB:(Instr.lookup 170 (.map (some gm)) (.string ⟨#[109,97,105,110]⟩) true).run Tryz.prog w2=.ok (.tuple #[.int .i64 (m:Int),.bool true]) w2:=hrun
  clear hrun WJ cY
  by_cases hm:0<m
  · have nN:=hid (iJ.out.trans (if_pos hm))
    have b1:decide ((m:Int) > 0)=true:=bF (by omega)
    have b2:decide (0<m)=true:=bF hm
    go_wp2
    go_ret
    exact⟨dC (by rw[nN.out];rfl),bY.out⟩
  have nN:=hid (iJ.out.trans (if_neg hm))
  have b1:decide ((m:Int) > 0)=false:=bP (by omega)
  have b2:decide (0<m)=false:=bP hm
  have c02:w2.cell? ⟨w.heap.size,0,none⟩=some (.slice A p.length cap):=BR.out.cell 0
  clear iJ hm
  go_wp2
  go_loopg [34] p.length (fun q i wr=>∃k:Nat,k≤p.length∧q=p.length-k∧i=.int .i64 k∧Hid (EF (p.map (NK p))=EF ((p.drop k).map (NK p)))∧Hid (Below w2.heap.size w2 wr))
  case atStart=>exact⟨0,Nat.zero_le _,rfl,rfl,hid rfl,hid (Below.refl _ _)⟩
  obtain⟨k,hk,hq,rfl,he,hb⟩:=hrel
  have Hq:=hid hq
  clear hq
  obtain⟨wo,rfl⟩:∃x:World,x=wr:=⟨_,rfl⟩
  have hz:=hb.out.size
  have HB:=hid (bY.out.trans (hb.out.mono (by omega)))
  have co:wo.cell? ⟨w.heap.size,0,none⟩=some (.slice A p.length cap):=(BR.out.below hb.out hz2).cell 0
  by_cases hlt:k<p.length
  rotate_left
  · have jD:=hid (nN.out.trans (he.out.trans (by rw[show k=p.length by omega,List.drop_length])))
    clear he
    go_wp2
    go_ret
    exact⟨dC (by rw[jD.out];rfl),HB.out⟩
  obtain⟨a,pv,bv,ML,hab,d0,d1,d2,eF,cZ⟩:=(HV.out.below (HB.out.mono hB)).at_ hlt
  subst ML
  obtain⟨o1,o2,o3,o4,o5⟩:=HO.out.2 _ (uI hlt)
  have HE:=hid (he.out.trans (aYJ hlt))
  have CB:=hid (aG.new wo 176 #[.map (some gm),.slice none 0 0,.slice none 0 0,.slice none 0 0,.bool false,.int .i64 0,.nilFunc,.bool false])
  have dG:=hid ((Below.refl wo.heap.size wo).alloc (aC _) (.cells #[.map (some gm),.slice none 0 0,.slice none 0 0,.slice none 0 0,.bool false,.int .i64 0,.nilFunc,.bool false] 176))
  have bS0:=hid (show uC (wo.alloc (.cells #[.map (some gm),.slice none 0 0,.slice none 0 0,.slice none 0 0,.bool false,.int .i64 0,.nilFunc,.bool false] 176)) gm (arity p) from (nR.out.same (hb.out.block gm bQZ)).same (Below.heap_alloc wo _ gm (by omega)))
  have HF:=hid (show NK p (p.getD k bI)=(scope (arity p) (p.getD k bI).body false ((p.getD k bI).ps.foldl declares E4)).fault from rfl)
  generalize p.getD k bI=f at *
  have jS:(a.add (k*3)).block<wo.heap.size:=by rw[f_];omega
  have HD1:=hid ((World.cell?_alloc_lt wo (.cells #[.map (some gm),.slice none 0 0,.slice none 0 0,.slice none 0 0,.bool false,.int .i64 0,.nilFunc,.bool false] 176) ⟨(a.add (k*3)).block,(a.add (k*3)).off+1,none⟩ jS).trans d1)
  have sJ:=hid ((World.cell?_alloc_lt wo (.cells #[.map (some gm),.slice none 0 0,.slice none 0 0,.slice none 0 0,.bool false,.int .i64 0,.nilFunc,.bool false] 176) ⟨(a.add (k*3)).block,(a.add (k*3)).off+2,none⟩ jS).trans d2)
  have uA:=hid (eF.below (dG.out.mono (show B≤wo.heap.size by omega)))
  have iU:=hid (cZ.below (dG.out.mono (show B≤wo.heap.size by omega)))
  have Ho5:=hid o5
  clear eF cZ o3 o5 he d0 d1 d2
  have co2:(wo.alloc (.cells #[.map (some gm),.slice none 0 0,.slice none 0 0,.slice none 0 0,.bool false,.int .i64 0,.nilFunc,.bool false] 176)).cell? ⟨w.heap.size,0,none⟩=some (.slice (some a) p.length cap):=(World.cell?_alloc_lt wo _ _ (show w.heap.size<wo.heap.size by omega)).trans co
  go_upto_region 16 with fail
  generalize wo.alloc (.cells #[.map (some gm),.slice none 0 0,.slice none 0 0,.slice none 0 0,.bool false,.int .i64 0,.nilFunc,.bool false] 176)=w3 at *
  have hz3:wo.heap.size<w3.heap.size:=CB.out.lt
  have eA:=hid (show eI (wo.heap.size+1) wo.heap.size (.map (some gm)) (.slice none 0 0) (.slice none 0 0) (.slice none 0 0) E4 w3 from⟨CB.out,aF.nil _ _ rfl rfl,aF.nil _ _ rfl rfl,aF.nil _ _ rfl rfl,fS.nil _,fS.nil _,fS.nil _,Nat.lt_succ_self _,hz3,by simp[E4]⟩)
  have HFn:=hid (bFW (arity p) (wo.heap.size+1) wo.heap.size gm B K hK (by omega) (by omega) _ _ _ E4 w3 eA.out bS0.out a (k*3) f pv bv hab HD1.out sJ.out uA.out iU.out (by have:f.ps.length<K:=o2;omega) Ho5.out o4)
  clear CB eA HD1 sJ uA iU Ho5
  generalize scope (arity p) f.body false (f.ps.foldl declares E4)=stf at *
  go_wp2_with fail
  refine HFn.out.mono ?_
  rintro e1 w4 ⟨rfl,AK,zU,zV,cU,hb4⟩
  obtain⟨q0,q1,q2,q3,q4,q5,q6,q7⟩:=EA cU.blk
  have bC:=hid (hb.out.trans ((dG.out.trans hb4).mono hz))
  clear cU hb4 HFn co2
  by_cases hf:stf.fault=0
  · have bM:=hid (HE.out.trans (if_pos (HF.out.trans hf)))
    have b3:((stf.fault:Int) != 0)=false:=by rw[hf];rfl
    clear HE HF hf
    go_wp2
    go_roundg (p.length-(k+1))
    case rel=>exact⟨k+1,hlt,rfl,by go_num,bM,bC⟩
    rw[Hq.out];omega
  have bM:=hid (HE.out.trans (if_neg (by rw[HF.out];exact hf)))
  have b3:((stf.fault:Int) != 0)=true:=bne_iff_ne.2 (by omega)
  have jD:=hid ((nN.out.trans bM.out).trans HF.out)
  have a_:=hid (bY.out.trans (bC.out.mono (by omega)))
  clear HE HF hf bM
  go_wp2
  go_ret
  exact⟨dC (by rw[jD.out]),a_.out⟩
end
end Go.Proofs.YtdlndhbkcgmkkaaGreatDoor
