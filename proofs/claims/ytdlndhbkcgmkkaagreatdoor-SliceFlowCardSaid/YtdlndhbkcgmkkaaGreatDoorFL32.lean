/-
 Part 32 of 35 of a proof about the given program: facts on which the last part stands.
-/
import Derived.Test.YtdlndhbkcgmkkaaGreatDoorFL25
import Derived.Test.YtdlndhbkcgmkkaaGreatDoorFL26
import Derived.Test.YtdlndhbkcgmkkaaGreatDoorFL31
set_option maxHeartbeats 12800000
set_option linter.unusedVariables false
set_option linter.unusedSimpArgs false
set_option maxRecDepth 100000
namespace Go.Proofs.YtdlndhbkcgmkkaaGreatDoor
section
open Go.RowKit
open Sl
open Go.Lib (hid)
namespace Sl
theorem eT.aQT {W:World} {B g base:Nat} {pv zv xv:Value} {Z:List Int} {w:World} {tv:Value} {L:List bO} {f:Nat} (h:eT W B g base pv zv xv Z w tv L f) (u:Value):eT W B g base pv zv u Z (w.setCell ⟨g,3,none⟩ u) tv L f where
 blk:=h.blk.cS 3 u
 tab:=cP.imp (aF.kept h.tab (dH w _ _) (fun k e=>by cases e;exact aF.ne h.tab h.blk (by decide))) fun _ _ hc=>fU.kept hc (lO.lA h.blk 3 _)
 aL:=lO.lA h.blk 3 _ _ _ _ _ _ _ (by decide) (by decide) h.aL
 low:=h.low
 size:=by simpa[World.setCell] using h.size
theorem bKT {p:List Fc} {Z:List Int} (h:Z=(jY p).map fun n:Nat=>(n:Int)):FJ Z 0 (jY p):=⟨[],by rw[h,List.drop_zero,List.append_nil]⟩
end Sl
namespace Sl
noncomputable def rK (p:List Fc):List bO:=(all p).map fun r=>⟨r.nd,(r.fn:Nat),(r.unit:Nat),r.parent,r.follow,r.cD,r.body,r.els,Fo.own r.nd.s,eV r.nd,sR p (Fo.heads (Fo.own r.nd.s)),fC p.length (oX p.length ((all p).map (E0 p))) (E0 p r)⟩
theorem pM.bO5 {W:World} {B g base:Nat} {pv zv xv:Value} {Z:List Int} {w w':World} {L1 L2:List (bO×Value)} {f tb ct N d:Nat} {p:bO×Value} {gH:Value} {y:Nat} (hN:N=(L1++p::L2).length) (hd:L1.length=d)
 (h:pM W B g base pv zv xv Z w (.slice (some ⟨tb,0,none⟩) N ct) (L1++p::L2) f) (hc:aW w' base gH ((p.1.calls++[y]).map fun n=>((n:Nat):Int))) (hg:w.grownBy w' p.2.ownBlock) (hat:gH.ownBlock=p.2.ownBlock∨gH.ownBlock=some w.heap.size):
 pM W B g base pv zv xv Z (w'.setCell ⟨tb,d*18+16,none⟩ gH) (.slice (some ⟨tb,0,none⟩) N ct) (L1++(⟨p.1.nd,p.1.fn,p.1.unit,p.1.parent,p.1.follow,p.1.cD,p.1.body,p.1.els,p.1.own,p.1.reads,p.1.calls++[y],p.1.cW⟩,gH)::L2) f:=by
 subst hN hd
 exact h.push hc hg hat
def JA (p:List Fc) (x:bO):bO:=⟨x.nd,x.fn,x.unit,x.parent,x.follow,x.cD,x.body,x.els,x.own,x.reads,sR p (Fo.heads x.own),x.cW⟩
theorem aZX (p:List Fc) (r:Sm):gX p.length (JA p (jL eV r))=E0 p r:=by
 have h:(if ((r.unit:Nat):Int)<(p.length:Int) then ((r.unit:Nat):Int).toNat else p.length)=if r.unit<p.length then r.unit else p.length:=by
  by_cases h:r.unit<p.length
  · rw[if_pos h,if_pos (by omega)];simp
  rw[if_neg h,if_neg (by omega)]
 show Ts.mk (if ((r.unit:Nat):Int)<(p.length:Int) then ((r.unit:Nat):Int).toNat else p.length) _ _ _=_
 rw[h]
 rfl
theorem bL8 (p:List Fc):(((all p).map (jL eV)).map (JA p)).map (fun x=>nX (fC p.length (pP p.length ((((all p).map (jL eV)).map (JA p)).map (gX p.length)) (p.length+2) (fun _=>false)) (gX p.length x)) x)=rK p:=by
 have h1:(((all p).map (jL eV)).map (JA p)).map (gX p.length)=(all p).map (E0 p):=by
  rw[List.map_map,List.map_map]
  exact List.map_congr_left fun r _=>aZX p r
 rw[h1,bG1 (fun s hs=>by
  obtain⟨r,-,rfl⟩:=List.mem_map.1 hs
  show (if r.unit<p.length then r.unit else p.length)≤p.length
  split<;>omega),List.map_map,List.map_map]
 refine List.map_congr_left fun r _=>?_
 show nX (fC p.length _ (gX p.length (JA p (jL eV r)))) (JA p (jL eV r))=_
 rw[aZX]
 rfl
theorem a0A {K:Nat} {p:List Fc} (ho:oU K p) (hs:nodes p≤90000) {r:Sm} (hr:r∈all p):(jL eV r).own.len≤1000000:=by
 obtain⟨f,hf,-,h1,-⟩:=aMT (K:=K) p.length p 0 0 0 (fun f hf=>(ho.2 f hf).2.2.2.2) r hr
 have h2:=Fo.KU r.nd.s
 have h3:=a0G hf
 show (Fo.own r.nd.s).len≤1000000
 omega
end Sl
theorem bJH (K:Nat) (hK:K≤140737488355328) (hK4:4<K) (p:List Fc) (v:Value) (B:Nat) (w:World) (hv:eO w B v p) (hB:B≤w.heap.size) (hBe:B=w.heap.size) (hs:nodes p≤90000) (hp:p.length≤90000) (oT:∀f∈p,f.body.aX≤100000) (ho:oU K p):
 Calls Tryz.prog 13 #[.agg #[v]] w fun e w'=>Below w.heap.size w w'∧((dD p≠0∧e=.returned (.tuple #[.pointer none,.int .i64 (dD p)]))∨(dD p=0∧∃g,e=.returned (.tuple #[.pointer (some ⟨g,0,none⟩),.int .i64 0])∧FT w' g p.length (rK p))):=by
 obtain⟨A,cap,rfl,cB⟩:=hv.form
 have HV:=hid hv
 have HO:=hid ho
 have HPa:=hid oT
 have HA:=hid ((Below.refl w.heap.size w).alloc (aC _) (.cells #[.slice A p.length cap] 24))
 have bN:=hid (aG.new w 24 #[.slice A p.length cap])
 have HS:=hid (fun (X:World) (hX:Below w.heap.size w X)=>bG_ K hK p (.slice A p.length cap) B X (hv.below (hX.mono hB)) (by have:=hX.size;omega) (by omega) (by omega) ho)
 have dG:=hid (fun (X:World) (hX:Below w.heap.size w X)=>bNM p (.slice A p.length cap) B X (hv.below (hX.mono hB)) (by have:=hX.size;omega) (by omega) (by omega))
 have hz1:w.heap.size<(w.alloc (.cells #[.slice A p.length cap] 24)).heap.size:=by simp
 obtain⟨sc,hsc⟩:∃z,z=dD p:=⟨_,rfl⟩
 rw[←hsc] at HS ⊢
 have CB:=hid hsc
 have HBe:=hid hBe
 clear hv ho oT hsc hBe
 go_enter Tryz.func13,Tryz.ntmps13
 have DI:=bN.out.cell 0
 go_wp2_with fail
 refine (HS.out _ HA.out).mono ?_
 rintro e1 w1 ⟨rfl,hb1⟩
 have aT:=hid (HA.out.trans (hb1.mono (Nat.le_of_lt hz1)))
 have cQ:=hid (bN.out.below hb1 hz1)
 clear hb1 HS DI
 by_cases h0:sc=0
 rotate_left
 · have b0:((sc:Int) != 0)=true:=bne_iff_ne.2 (by omega)
   have HZ:=hid h0
   clear h0
   go_wp2
   go_ret2
   exact⟨aT.out,.inl ⟨HZ.out,rfl⟩⟩
 have b0:((sc:Int) != 0)=false:=by rw[h0];rfl
 have HZ:=hid h0
 clear h0
 have DI:w1.cell? ⟨w.heap.size,0,none⟩=some (.slice A p.length cap):=cQ.out.cell 0
 go_upto_region 5 with fail
 have HKg:=hid (aG.new w1 45 #[.slice A p.length cap,.slice none 0 0,.slice none 0 0,.int .i64 0,.int .i64 0])
 have aSQ:=(Below.refl w1.heap.size w1).alloc (aC _) (.cells #[.slice A p.length cap,.slice none 0 0,.slice none 0 0,.int .i64 0,.int .i64 0] 45)
 have bY:=hid (aT.out.trans (aSQ.mono aT.out.size))
 have HKp:=hid (cQ.out.below aSQ cQ.out.lt)
 have qO:(w1.alloc (.cells #[.slice A p.length cap,.slice none 0 0,.slice none 0 0,.int .i64 0,.int .i64 0] 45)).heap.size=w1.heap.size+1:=by simp
 obtain⟨g,hg⟩:∃g,g=w1.heap.size:=⟨_,rfl⟩
 have bR3:=aT.out.size
 have aRV:=cQ.out.lt
 generalize w1.alloc (.cells #[.slice A p.length cap,.slice none 0 0,.slice none 0 0,.int .i64 0,.int .i64 0] 45)=w2 at *
 rw[←hg] at HKg qO bR3 aRV ⊢
 clear aSQ DI hg cQ
 have GN:w2.cell? ⟨w.heap.size,0,none⟩=some (.slice A p.length cap):=HKp.out.cell 0
 go_wp2_with fail
 refine (dG.out _ bY.out).mono ?_
 rintro e3 w3 ⟨sv,rfl,hsv,hb3⟩
 obtain⟨As,cs,ns,rfl,hcs,-⟩:=aF.src hsv
 have HSv:=hid hsv
 have b7:=hid (bY.out.trans (hb3.mono bY.out.size))
 have jU:=hid (HKg.out.below hb3 (by omega))
 have IA:=hid ((dB.refl w2.heap.size g w2).below hb3)
 have hz3:g+1≤w3.heap.size:=by have:=hb3.size;omega
 have hszl:=a1E p
 clear hb3 dG hsv GN
 go_wp2
 go_loopg [7] (jY p).length (fun q i wr=>∃(k:Nat) (zv:Value),k≤(jY p).length∧q=(jY p).length-k∧i=.int .i64 k∧Hid (aG wr g 45 #[.slice A p.length cap,.slice none 0 0,zv,.int .i64 0,.int .i64 0])∧Hid (aW wr (g+1) zv (((jY p).take k).map fun n:Nat=>(n:Int)))∧Hid (FI wr w2.heap.size (.slice As (jY p).length cs) (jY p))∧Hid (dB w2.heap.size g w2 wr)∧Hid (g+1≤wr.heap.size))
 case atStart=>exact⟨0,.slice none 0 0,Nat.zero_le _,rfl,rfl,jU,hid (by rw[List.take_zero];exact World.ownsRow_nil _ _ _ _),HSv,IA,hid hz3⟩
 obtain⟨k,zv,hk,hq,rfl,eH,jP,hso,hx,rR⟩:=hrel
 have Hq:=hid hq
 clear hq jU HSv IA hz3
 obtain⟨wo,rfl⟩:∃z:World,z=wr:=⟨_,rfl⟩
 by_cases hlt:k<(jY p).length
 · obtain⟨n,hn⟩:∃n,(jY p)[k]?=some n:=⟨(jY p)[k],bX hlt⟩
   obtain⟨gs,c9,cs9,R6,-,-,a7I,-,a7U,a5B,-⟩:=cP.at_ hso.out (fun _ _ h=>h.len) hn
   injection R6 with hA9 PA aRE
   subst hA9 aRE
   clear PA
   have aRN:wo.cell? ⟨gs,k*13+7+5,none⟩=some (.int .i64 (n:Nat)):=by
    have:=a5B 12 (by decide)
    rw[a7U.size] at this
    exact this
   obtain⟨ZL,hZL⟩:∃z:List Int,z=((jY p).take k).map fun n:Nat=>(n:Int):=⟨_,rfl⟩
   have hZLl:ZL.length≤100000:=by rw[hZL,cL];have:=List.length_take_le k (jY p);omega
   have HZL:=hid (show ZL++[(n:Int)]=((jY p).take (k+1)).map fun n:Nat=>(n:Int) by rw[hZL,List.take_add_one,hn];simp)
   have OC:=jP.out
   rw[←hZL] at OC
   have HZo:=hid OC
   obtain⟨Az,cz,hzv,-,-,-⟩:=jJ OC
   subst hzv
   clear jP OC hZL a5B a7U hn
   go_upto_region 9 with fail
   have bG:wo.drew.cell? ⟨g,2,none⟩=some (.slice Az ZL.length cz)∧wo.drew.cell? ⟨gs,k*13+7+5,none⟩=some (.int .i64 (n:Nat)):=⟨eH.out.cell 2,aRN⟩
   refine NA (fun w'=>w'.cell? ⟨g,2,none⟩=some (.slice Az ZL.length cz)∧w'.cell? ⟨gs,k*13+7+5,none⟩=some (.int .i64 (n:Nat))) 15 (by kernel_rfl) ?_
   refine zqA 0 29 ?_ rfl rfl (by kernel_rfl) (fun _ _ _ h=>h) bG (by rfl) (by rintro w⟨bR,bB⟩;go_simp;rfl) ?_
   simp only[Act.put,aJ,aO,aN]
   refine zqA 1 30 ?_ rfl rfl (by kernel_rfl) (fun _ _ _ h=>h) bG (by rfl) (by rintro w⟨bR,bB⟩;go_simp;rfl) ?_
   simp only[Act.put,aJ,aO,aN]
   refine zqA 2 31 ?_ rfl rfl (by kernel_rfl) (fun _ _ _ h=>h) bG (by rfl) (by rintro w⟨bR,bB⟩;go_simp;rfl) ?_
   simp only[Act.put,aJ,aO,aN]
   refine zqA 3 32 ?_ rfl rfl (by kernel_rfl) (fun _ _ _ h=>h) bG (by rfl) (by rintro w⟨bR,bB⟩;go_simp;rfl) ?_
   simp only[Act.put,aJ,aO,aN]
   refine zqA 4 33 ?_ rfl rfl (by kernel_rfl) (fun _ _ _ h=>h) bG (by rfl) (by rintro w⟨bR,bB⟩;go_simp;rfl) ?_
   simp only[Act.put,aJ,aO,aN]
   refine zqA 5 34 ?_ rfl rfl (by kernel_rfl) (fun _ _ _ h=>h) bG (by rfl) (by rintro w⟨bR,bB⟩;go_simp;rfl) ?_
   simp only[Act.put,aJ,aO,aN]
   refine zqA 6 35 ?_ rfl rfl (by kernel_rfl) (fun _ _ _ h=>h) bG (by rfl) (by rintro w⟨bR,bB⟩;go_simp;rfl) ?_
   simp only[Act.put,aJ,aO,aN]
   refine zqA 7 36 ?_ rfl rfl (by kernel_rfl) (fun _ _ _ h=>h) bG (by rfl) (by rintro w⟨bR,bB⟩;go_simp;rfl) ?_
   simp only[Act.put,aJ,aO,aN]
   refine zqA 8 37 ?_ rfl rfl (by kernel_rfl) (fun _ _ _ h=>h) bG (by rfl) (by rintro w⟨bR,bB⟩;go_simp;rfl) ?_
   simp only[Act.put,aJ,aO,aN]
   refine zqA 9 38 ?_ rfl rfl (by kernel_rfl) (fun _ _ _ h=>h) bG (by rfl) (by rintro w⟨bR,bB⟩;go_simp;rfl) ?_
   simp only[Act.put,aJ,aO,aN]
   refine zqA 10 39 ?_ rfl rfl (by kernel_rfl) (fun _ _ _ h=>h) bG (by rfl) (by rintro w⟨bR,bB⟩;go_simp;rfl) ?_
   simp only[Act.put,aJ,aO,aN]
   refine gM (i:=11) rfl (by kernel_rfl) (by rfl) (fun K hK=>?_)
   go_simp
   have rZ:Below wo.heap.size wo (wo.drew.alloc (.cells #[.int .i64 (n:Nat)] 3)):=(Below.refl wo.heap.size wo).drew.alloc (aC _) _
   have hb2:=eH.out.below rZ eH.out.lt
   have hz2:=gW HZo.out rZ (aC _)
   have hs2:=aF.below hso.out rZ (aC _)
   have DR:=hx.out.below (rZ.mono (show w2.heap.size≤wo.heap.size from hx.out.size))
   have hS1:(wo.drew.alloc (.cells #[.int .i64 (n:Nat)] 3)).cell? ⟨g,2,none⟩=some (.slice Az ZL.length cz)∧(wo.drew.alloc (.cells #[.int .i64 (n:Nat)] 3)).cell? ⟨gs,k*13+7+5,none⟩=some (.int .i64 (n:Nat)):=⟨hb2.cell 2,(rZ.cell (p:=⟨gs,k*13+7+5,none⟩) a7I).trans aRN⟩
   refine hK _ _ (fun _=>hS1) ?_
   clear hK K
   try simp only[Act.put,aJ]
   refine gM (i:=12) rfl (by kernel_rfl) (by rfl) (fun K hK=>?_)
   refine aNR _ _ rfl (g+1) _ ZL (n:Nat) (by rfl) hz2 _ _ 1 (by rfl) uD (by omega) (Nat.le_trans rR.out rZ.size) ?_
   intro v4 w4 iO hg4 LI
   obtain⟨Z4,hZ4⟩:∃z:List Int,z=ZL++[(n:Int)]:=⟨_,rfl⟩
   rw[←hZ4] at iO HZL
   have hb4:aG w4 g 45 _:=hb2.grown hg4 (fun e=>eB hz2 hb2 (by decide) e.symm)
   have cU:=aF.kept hs2 hg4 (fun k hk=>by obtain⟨xs,hx1,-⟩:=hs2;exact kL hz2 hx1 (by decide) hk)
   have hrow:=World.ownsRow.lt hz2
   have GX:dB w2.heap.size g w2 w4:=DR.grown hg4 (Nat.le_trans hx.out.size rZ.size) (fun j hj=>by have:=(hrow j hj).1;omega)
   have a52:w4.cell? ⟨gs,k*13+7+5,none⟩=some (.int .i64 (n:Nat)):=(aDS (p:=⟨gs,k*13+7+5,none⟩) hg4 (Nat.lt_of_lt_of_le a7I rZ.size) (fun e=>by obtain⟨xs,hx1,-⟩:=hs2;exact kL hz2 hx1 (by decide) e.symm rfl)).trans hS1.2
   have kY:w4.cell? ⟨g,2,none⟩=some (.slice Az ZL.length cz)∧w4.cell? ⟨gs,k*13+7+5,none⟩=some (.int .i64 (n:Nat)):=⟨hb4.cell 2,a52⟩
   have q2:=kY.1
   have f2:=hb4.frozen 2
   obtain⟨A4,c4,hv4,-,-,-⟩:=jJ iO
   subst hv4
   have a_:=hid (show aG (w4.setCell ⟨g,2,none⟩ (.slice A4 Z4.length c4)) g 45 #[.slice A p.length cap,.slice none 0 0,.slice A4 Z4.length c4,.int .i64 0,.int .i64 0] from hb4.cS 2 _)
   have HZ5:=hid (fA iO (dH w4 ⟨g,2,none⟩ (.slice A4 Z4.length c4)) (fun k e=>by cases e;exact eB iO hb4 (by decide)))
   have jC:=hid (aF.kept cU (dH w4 ⟨g,2,none⟩ (.slice A4 Z4.length c4)) (fun k e=>by cases e;exact aF.ne cU hb4 (by decide)))
   have P3:=hid (GX.lA 2 (.slice A4 Z4.length c4))
   have nM:=hid (show g+1≤(w4.setCell ⟨g,2,none⟩ (.slice A4 Z4.length c4)).heap.size by simp only[World.setCell,Array.size_modify];exact Nat.le_trans (Nat.le_trans rR.out rZ.size) hg4.size)
   have HZ4:=hid hZ4
   refine hK _ _ (fun _=>kY) ?_
   clear hK K iO hg4 LI hz2 hs2 cU DR GX hrow hZ4 hb4 hb2 a52 aRN
   try simp only[Act.put,aJ]
   refine gM (i:=13) rfl (by kernel_rfl) (by rfl) (fun K hK=>?_)
   go_simp
   refine hK _ _ (fun _=>kY) ?_
   clear hK K
   refine gM (i:=14) rfl (by kernel_rfl) (by rfl) (fun K hK=>?_)
   go_simp
   refine hK _ _ (fun _=>kY) ?_
   clear hK K
   refine gM (i:=15) rfl (by kernel_rfl) (by rfl) (fun K hK=>?_)
   go_simp
   refine hK _ _ (fun h=>absurd rfl h) ?_
   clear hK K
   refine NJ (by kernel_rfl) ?_ _
   clear bG hS1 kY q2 f2 rZ
   go_wp2
   go_roundg ((jY p).length-(k+1))
   case rel=>exact⟨k+1,_,hlt,rfl,by go_num,a_,hid (by rw[←HZL.out];exact HZ5.out),jC,P3,nM⟩
   rw[Hq.out];omega
 have ME:k=(jY p).length:=by omega
 obtain⟨Z,hZ⟩:∃z:List Int,z=(jY p).map fun n:Nat=>(n:Int):=⟨_,rfl⟩
 have OC:=jP.out
 rw[ME,List.take_length,←hZ] at OC
 have hZl:Z.length≤100000:=by rw[hZ,cL];omega
 have a8U:=hid (bKT hZ)
 have HB:=hid (show eT w B g (g+1) (.slice A p.length cap) zv (.int .i64 0) Z wo (.slice none 0 0) [] 0 from⟨eH.out,aF.nil _ _ rfl rfl,OC,Nat.lt_succ_self _,rR.out⟩)
 have hwo:=rR.out
 have HQp:=hid (fun (X:World) (hX:dA wo X g none)=>(show X.cell? ⟨w.heap.size,0,none⟩=some (.slice A p.length cap) from
  (World.cell?_of_block (w:=wo) (hX.block w.heap.size (by omega) (by omega) (by simp))).trans ((hx.out.cell (p:=⟨w.heap.size,0,none⟩) (show w.heap.size<w2.heap.size by omega) (show w.heap.size≠g by omega)).trans (HKp.out.cell 0))))
 have HWX:=hid (fun (X:World) (hX:dA wo X g none)=>(show Below B w X from (bY.out.mono hB).trans ((hx.out.to (show B≤g by omega) (show B≤w2.heap.size by omega)).trans (hX.toBelow (show B≤g by omega) (fun j hj=>by cases hj) (by omega)))))
 have hc0:mY nm op un dJ p=0:=by
  have h1:=CB.out.symm.trans HZ.out
  unfold dD at h1
  by_cases h2:mY nm op un dJ p=0
  · exact h2
  rw[if_pos h2] at h1;exact absurd h1 h2
 have M0:=hid hc0
 have HFm:=hid (fun f (hf:f∈p)=>(by
  have h1:=(aD6 nm op un (aD_ hc0).1).2.2.2 f hf
  unfold h_ at h1
  simp only[LM] at h1
  exact h1.2:bE (dK nm op un) f.body false false=true))
 clear ME hZ jP OC eH hso rR hc0 HKp
 go_wp2
 go_loopg [8,9] p.length (fun q atv iv wr=>∃(k num f:Nat) (tv:Value) (Lk:List bO),k≤p.length∧q=p.length-k∧atv=.int .i64 num∧iv=.int .i64 k∧Hid ((Sl.all p).map (jL eV)=Lk++(lN p.length (p.drop k) k num f).map (jL eV))∧Hid (Lk.length=num∧num+nodes (p.drop k)≤90000∧f+nodes (p.drop k)≤90000∧f+fns (p.drop k)=fns p)∧Hid (FJ Z num (jY (p.drop k)))∧Hid (eT w B g (g+1) (.slice A p.length cap) zv (.int .i64 0) Z wr tv Lk f)∧Hid (dA wo wr g none)∧Hid (∀j,tv.ownBlock=some j→wo.heap.size≤j))
 case atStart=>exact⟨0,0,0,.slice none 0 0,[],Nat.zero_le _,rfl,rfl,rfl,hid (by rw[List.drop_zero];rfl),hid ⟨rfl,by rw[List.drop_zero];omega,by rw[List.drop_zero];omega,by rw[List.drop_zero];omega⟩,hid (by rw[List.drop_zero];exact a8U.out),HB,hid (dA.refl _ _ _),hid (fun j hj=>by (simp[Value.ownBlock] at hj))⟩
 obtain⟨k,num,f,tv,Lk,hk,hq,rfl,rfl,he,sZ,hsk,eH,nG,zX⟩:=hrel
 have Hq:=hid hq
 clear hq
 obtain⟨wi,rfl⟩:∃z:World,z=wr:=⟨_,rfl⟩
 have qp:=HQp.out wi nG.out
 have V6:=nG.out.size
 by_cases hlt:k<p.length
 · obtain⟨a,pv,bv,rfl,hab,-,-,c2,-,cZ⟩:=HV.out.at_ hlt
   have hW:=HWX.out wi nG.out
   have hb1:(a.add (k*3)).block<B:=by rw[f_];exact hab
   have d2:=(hW.cell (p:=⟨(a.add (k*3)).block,(a.add (k*3)).off+2,none⟩) hb1).trans c2
   have hdr:p.drop k=p.getD k bI::p.drop (k+1):=by
    rw[List.drop_eq_getElem_cons hlt,dR,bX hlt];rfl
   obtain⟨E9,MB,PH,PG⟩:=sZ.out
   rw[hdr] at MB PH PG
   have lF:nodes (p.getD k bI::p.drop (k+1))=(p.getD k bI).body.cnt+nodes (p.drop (k+1)):=by unfold nodes;rw[List.map_cons,List.sum_cons]
   have MH:fns (p.getD k bI::p.drop (k+1))=Fo.aK (p.getD k bI).body false+fns (p.drop (k+1)):=by unfold fns;rw[List.map_cons,List.sum_cons]
   rw[lF] at MB PH
   rw[MH] at PG
   have HE:=hid (he.out.trans (by rw[hdr,lN,List.map_append,←dZ]))
   have GC:=hsk.out
   rw[aZY hlt] at GC
   have hfm:=uI hlt
   have HSl:=hid GC.left
   have hsr:=GC.right
   rw[Fo.oO] at hsr
   have HSr:=hid hsr
   have hFi:=HFm.out _ hfm
   have hOk:=(HO.out.2 _ hfm).2.2.2
   have hPr:=HPa.out _ hfm
   generalize p.getD k bI=fc at *
   obtain⟨Ab,cb,rfl,hcb⟩:=cZ.form
   have iU:=hid cZ
   have hs1:=Fo.jX fc.body false
   have hs2:=nU fc.body false
   have D6:=hid (bLC K hK hK4 w B g (g+1) p.length cap (some a) zv (.int .i64 0) Z (show B≤g by omega) (by omega) hZl fc.body.cnt fc.body (.slice Ab fc.body.len cb) num f 0 ⟨k,k,-1,-1,-1,-1,0,Fo.cJ fc.body num⟩ false tv Lk wi (aC _) (by omega) hFi cZ hOk.2 hOk.1 hPr hW eH.out E9 GC.left (by omega))
   clear hdr lF MH cZ he sZ hsk GC hsr hfm hFi hOk hPr c2
   go_wp2_with fail
   refine D6.out.mono ?_
   rintro e5 w5 ⟨rfl,tv5,ZV,aR3,a5Z⟩
   have aJL:dA wo w5 g none:=nG.out.trans aR3 (.inr zX.out)
   have WK:=HWX.out w5 aJL
   have qp5:=HQp.out w5 aJL
   have d5:=(WK.cell (p:=⟨(a.add (k*3)).block,(a.add (k*3)).off+2,none⟩) hb1).trans ((hW.cell (p:=⟨(a.add (k*3)).block,(a.add (k*3)).off+2,none⟩) hb1).symm.trans d2)
   have oC:wi.heap.size≤w5.heap.size:=aR3.size
   have HTo:=hid (aM6 g _ _ _ (.int .i64 0) _ Z fc.body (.slice Ab fc.body.len cb) num w5.heap.size w5 ZV.blk (aW.reads ZV.aL (by omega)) ((iU.out.below WK).more (by omega)) (by omega) (by omega) (by omega) HSl.out)
   obtain⟨L5,hL5⟩:∃z,z=Lk++(recs p.length fc.body false num f 0 ⟨k,k,-1,-1,-1,-1,0,Fo.cJ fc.body num⟩).map (jL eV):=⟨_,rfl⟩
   have a8H:L5.length=num+Fo.aD fc.body false:=by rw[hL5,bL,cL,eU,E9]
   rw[←hL5] at ZV
   have sH:=hid (HE.out.trans (by rw[←hL5]))
   have JT:=hid ZV
   have bSO:=hid aJL
   have bSE:=hid (show ∀j,tv5.ownBlock=some j→wo.heap.size≤j from fun j hj=>by
    rcases a5Z with h|h
    · exact zX.out j (h▸hj)
    exact Nat.le_trans V6 (h j hj))
   clear ZV aR3 aJL a5Z hL5 HE D6 qp d2 hW WK eH nG zX
   go_wp2_with fail
   refine HTo.out.mono ?_
   rintro e6 w6 ⟨rfl,rfl⟩
   clear HTo
   have iT:=hid a8H
   clear a8H
   go_wp2
   go_roundg (p.length-(k+1))
   case rel=>exact⟨k+1,num+Fo.aD fc.body false,f+Fo.aK fc.body false,tv5,L5,hlt,rfl,by go_num,by go_num,sH,hid ⟨iT.out,by omega,by omega,by omega⟩,HSr,JT,bSO,bSE⟩
   rw[Hq.out];omega
 have LS:=hid (show (Sl.all p).map (jL eV)=Lk by rw[he.out,List.drop_of_length_le (by omega),lN,List.map_nil,List.append_nil])
 have z_:f=fns p:=by
  have:=sZ.out.2.2.2
  rw[List.drop_of_length_le (by omega)] at this
  unfold fns at this ⊢
  simpa using this
 subst z_
 have WM:Lk.length≤90000:=by have:=sZ.out.2.1;have:=sZ.out.1;omega
 have hfp:fns p≤90000:=by have:=sZ.out.2.2.1;omega
 have hxi:dB (g+1) g w2 wi:=by
  have h1:=hx.out
  rw[qO] at h1
  exact h1.trans ⟨nG.out.os,nG.out.tape,nG.out.output,nG.out.size,fun k h1 h2=>nG.out.block k (by omega) h2 (by simp)⟩
 have HXi:=hid hxi
 have HQi:=hid qp
 obtain⟨At,ct,nt,rfl,AE,-⟩:=aF.src eH.out.tab
 clear he sZ hsk a8U nG zX hxi hwo
 go_upto_region 16 with fail
 obtain⟨-,-,-,g3,g4⟩:=pN eH.out.blk
 have f3:=eH.out.blk.frozen 3
 go_still_tail 9,(by kernel_rfl)
 go_upto_region 17 with fail
 have hbj:=(eH.out.aQT (.int .i64 ((p.length:Int)+(fns p:Int)))).below ((Below.refl _ _).drew)
 obtain⟨wj,zW⟩:∃z:World,z=(wi.setCell ⟨g,3,none⟩ (.int .i64 ((p.length:Int)+(fns p:Int)))).drew:=⟨_,rfl⟩
 have HXj:=hid (show dB (g+1) g w2 wj by rw[zW];exact (HXi.out.lA 3 _).below ((Below.refl _ _).drew))
 have HQj:=hid (show ∀X:World,dB (g+1) g wj X→X.cell? ⟨w.heap.size,0,none⟩=some (.slice A p.length cap) from fun X hX=>
  (hX.cell (p:=⟨w.heap.size,0,none⟩) (show w.heap.size<g+1 by omega) (show w.heap.size≠g by omega)).trans (by
   rw[zW]
   exact ((((dB.refl (g+1) g wi).lA 3 _).below ((Below.refl _ _).drew)).cell (p:=⟨w.heap.size,0,none⟩) (show w.heap.size<g+1 by omega) (show w.heap.size≠g by omega)).trans HQi.out))
 have HWj:=hid (show ∀X:World,dB (g+1) g wj X→Below B w X from fun X hX=>(bY.out.mono hB).trans ((HXj.out.trans hX).to (show B≤g by omega) (show B≤g+1 by omega)))
 rw[←zW] at hbj ⊢
 obtain⟨N,hNn⟩:∃N,N=Lk.length:=⟨_,rfl⟩
 rw[←hNn] at hbj WM
 obtain⟨xu,RY⟩:∃z,z=Value.int .i64 ((p.length:Int)+(fns p:Int)):=⟨_,rfl⟩
 rw[←RY] at hbj
 have dL:∀x∈Lk,x.calls=[]:=fun x hx=>by
  rw[←LS.out] at hx
  obtain⟨r,-,rfl⟩:=List.mem_map.1 hx
  rfl
 have gR:∀x∈Lk,x.own.len≤1000000:=fun x hx=>by
  rw[←LS.out] at hx
  obtain⟨r,hr,rfl⟩:=List.mem_map.1 hx
  exact a0A HO.out hs hr
 have sG:=hid gR
 have fY:=pM.of hbj dL
 have HNn:=hid hNn
 clear hbj eH zW g3 g4 f3 qp HXi HQi hNn gR
 obtain⟨LC,hLC⟩:∃z:List (bO×Value),z=Lk.map fun x=>(x,Value.slice none 0 0):=⟨_,rfl⟩
 have HLC:=hid (show LC.map (·.1)=Lk by rw[hLC,List.map_map];exact (List.map_congr_left fun x _=>rfl).trans (List.map_id _))
 rw[←hLC] at fY
 have XF:=hid fY
 have HCn:=hid (show ∀q∈LC,q.1.calls=[]∧q.1.own.len≤1000000 from fun q hq=>by
  have h1:q.1∈Lk:=by rw[←HLC.out];exact List.mem_map_of_mem hq
  exact⟨dL _ h1,sG.out _ h1⟩)
 have HNC:=hid (show LC.length=N by rw[HNn.out,←HLC.out,cL])
 clear fY hLC dL sG
 go_wp2
 go_loopg [10] N (fun q i wr=>∃(d:Nat) (D R:List (bO×Value)),d≤N∧q=N-d∧i=.int .i64 d∧Hid (D.length=d∧d+R.length=N)∧Hid (LC.map (fun q=>JA p q.1)=D.map (·.1)++R.map fun q=>JA p q.1)∧Hid (∀q∈R,q.1.calls=[]∧q.1.own.len≤1000000)∧Hid (pM w B g (g+1) (.slice A p.length cap) zv xu Z wr (.slice At N ct) (D++R) (fns p))∧Hid (dB (g+1) g wj wr))
 case atStart=>exact⟨0,[],LC,Nat.zero_le _,rfl,rfl,hid ⟨rfl,by rw[HNC.out];omega⟩,hid rfl,HCn,XF,hid (dB.refl _ _ _)⟩
 obtain⟨d,D,R,hd,hq,rfl,hlen,he,hnil,fY,GL⟩:=hrel
 have Hq:=hid hq
 obtain⟨wk,rfl⟩:∃z:World,z=wr:=⟨_,rfl⟩
 have q1:wk.cell? ⟨g,1,none⟩=some (.slice At N ct):=fY.out.blk.cell 1
 clear hq
 by_cases hlt:d<N
 rotate_left
 · have HR:=hid (show R=[] from List.eq_nil_of_length_eq_zero (by have:=hlen.out.2;omega))
   obtain⟨LW,hLW⟩:∃z:List bO,z=((Sl.all p).map (jL eV)).map (JA p):=⟨_,rfl⟩
   have hDW:(D++R).map (·.1)=LW:=by
    have h1:=he.out
    rw[HR.out,List.map_nil,List.append_nil] at h1
    rw[HR.out,List.append_nil,←h1,hLW,LS.out,←HLC.out,List.map_map];rfl
   have hbr:=fY.out.to
   rw[hDW] at hbr
   have aSH:LW.length=N:=by rw[hLW,cL,LS.out,HNn.out]
   have hmw:∀x∈LW,∃r∈Sl.all p,x=JA p (jL eV r):=fun x hx=>by
    rw[hLW,List.map_map] at hx
    obtain⟨r,hr,rfl⟩:=List.mem_map.1 hx
    exact⟨r,hr,rfl⟩
   have FO:=hid (bFD w B g (g+1) p.length N (fns p) A At cap ct zv xu Z LW wk hbr aSH (by omega) (by omega)
    (fun x hx c hc=>by obtain⟨r,-,rfl⟩:=hmw x hx;exact a05 hc)
    (fun x hx=>by obtain⟨r,-,rfl⟩:=hmw x hx;exact Int.natCast_nonneg _)
    (fun x hx=>by obtain⟨r,hr,rfl⟩:=hmw x hx;exact a0A HO.out hs hr)
    (fun x hx=>by
     obtain⟨r,-,rfl⟩:=hmw x hx
     show (sR p (Fo.heads (Fo.own r.nd.s))).length≤1000000
     have h1:=List.length_filter_le (fun i=>(Fo.heads (Fo.own r.nd.s)).any fun h=>decide (h.1=5)&&decide (h.2=(p.getD i bI).name)) (List.range p.length)
     rw[List.length_range] at h1
     exact Nat.le_trans h1 (by omega)))
   have P_:=hid (show (LW.map fun x=>nX (fC p.length (pP p.length (LW.map (gX p.length)) (p.length+2) (fun _=>false)) (gX p.length x)) x)=rK p by rw[hLW];exact bL8 p)
   have HXk:=hid GL.out
   have HLl:=hid (show (rK p).length≤100000 by
    rw[←P_.out,cL,aSH];omega)
   clear hLW hDW hbr aSH hmw he hlen hnil fY GL
   go_wp2_with fail
   refine FO.out.mono ?_
   rintro e9 w9 ⟨rfl,pC,PA⟩
   rw[P_.out] at pC
   have CG:=hid pC
   have HX9:=hid PA
   clear pC PA FO
   go_wp2
   go_ret2
   exact⟨bY.out.trans (((HXj.out.trans HXk.out).trans HX9.out).to (show w.heap.size≤g by omega) (show w.heap.size≤g+1 by omega)),.inr ⟨HZ.out,g,rfl,⟨⟨w,B,g+1,A,cap,zv,xu,Z,_,fns p,CG.out⟩,HLl.out,by omega⟩⟩⟩
 cases R with
 |nil=>exact absurd hlen.out.2 (by simp;omega)
 |cons pp R=>
 obtain⟨⟨nd,fn,unit,parent,follow,cD,body,els,own,reads,calls,cW⟩,J_⟩:=pp
 obtain⟨hc0,gR⟩:=hnil.out _ (List.mem_cons_self ..)
 have bRG:calls=[]:=hc0
 subst bRG
 have hol':own.len≤1000000:=gR
 have tA:=hid (fun q hq=>hnil.out q (kS _ hq))
 obtain⟨hit,a7G⟩:∃z:Nat→Bool,z=fun i=>(Fo.heads own).any fun h=>decide (h.1=5)&&decide (h.2=(p.getD i bI).name):=⟨_,rfl⟩
 have a84:=hid a7G
 have a9B:=hid (show pM w B g (g+1) (.slice A p.length cap) zv xu Z wk (.slice At N ct) (D++(⟨nd,fn,unit,parent,follow,cD,body,els,own,reads,[],cW⟩,J_)::R) (fns p) from fY.out)
 have HE:=hid he.out
 have oB:=hid (show D.length=d∧d+(R.length+1)=N from hlen.out)
 clear hc0 gR hnil a7G fY he hlen
 go_wp2
 go_loopg [11] p.length (fun q i wr=>∃(f:Nat) (C:List Nat) (cv:Value),f≤p.length∧q=p.length-f∧i=.int .i64 f∧Hid (C=(List.range f).filter hit)∧Hid (pM w B g (g+1) (.slice A p.length cap) zv xu Z wr (.slice At N ct) (D++(⟨nd,fn,unit,parent,follow,cD,body,els,own,reads,C,cW⟩,cv)::R) (fns p))∧Hid (dB (g+1) g wj wr))
 case atStart=>exact⟨0,[],J_,Nat.zero_le _,rfl,rfl,hid rfl,a9B,GL⟩
 obtain⟨f,C,cv,hf,hq,rfl,hC,fY,U7⟩:=hrel
 have MS:=hid hq
 clear hq a9B GL q1
 obtain⟨wl,rfl⟩:∃z:World,z=wr:=⟨_,rfl⟩
 have qp:=HQj.out wl U7.out
 by_cases V_:f<p.length
 rotate_left
 · have HCC:=hid (show sR p (Fo.heads own)=C by rw[hC.out,show f=p.length by omega,a84.out];rfl)
   clear hC
   go_wp2
   go_roundg (N-(d+1))
   case rel=>
    refine⟨d+1,D++[(⟨nd,fn,unit,parent,follow,cD,body,els,own,reads,C,cW⟩,cv)],R,hlt,rfl,by go_num,hid ?_,hid ?_,tA,hid ?_,U7⟩
    · have:=oB.out;exact⟨by rw[bL,this.1];rfl,by omega⟩
    · rw[HE.out,List.map_append,List.map_cons,dZ,←HCC.out];rfl
    rw[dZ];exact fY.out
   rw[Hq.out];omega
 obtain⟨a,pv0,bv0,ML,hab,c0n,-,-,-,-⟩:=HV.out.at_ V_
 subst ML
 have hNm:=((HWj.out wl U7.out).cell (p:=a.add (f*3)) (by rw[f_];exact hab)).trans c0n
 obtain⟨BV,rV⟩:∃z,z=(p.getD f bI).name:=⟨_,rfl⟩
 rw[←rV] at hNm
 have hi:(D++(⟨nd,fn,unit,parent,follow,cD,body,els,own,reads,C,cW⟩,cv)::R)[d]?=some (⟨nd,fn,unit,parent,follow,cD,body,els,own,reads,C,cW⟩,cv):=by
  rw[List.getElem?_append_right (by have:=oB.out.1;omega),oB.out.1,Nat.sub_self];rfl
 obtain⟨tb,ct',cs,hv,-,hgb,z7,-,bR1,cC,-⟩:=cP.at_ fY.out.tab aNU hi
 injection hv with SV G7 hc1
 subst SV hc1
 obtain⟨sv,pv,bv,ev,ov,rv,hcs,J3,eG,BX⟩:=bR1
 subst hcs
 have c14:wl.cell? ⟨tb,d*18+14,none⟩=some ov:=cC 14 (by decide)
 have c16:wl.cell? ⟨tb,d*18+16,none⟩=some cv:=cC 16 (by decide)
 have IJ:=hid eG
 obtain⟨Ao,co,no,a61,jB,-⟩:=aF.src eG
 have bPC:ov=.slice Ao own.len co:=a61
 subst bPC
 obtain⟨hf',hhf⟩:∃z,z=hit f:=⟨_,rfl⟩
 have HHf:=hid (show hf'=(Fo.heads own).any fun h=>decide (h.1=5)&&decide (h.2=BV) by rw[hhf,a84.out,rV])
 have HCf:=hid (show (List.range (f+1)).filter hit=C++if hf' then [f] else [] by
  rw[List.range_succ,List.filter_append,hC.out,hhf]
  congr 1
  by_cases h:hit f<;>simp[h])
 have q1:wl.cell? ⟨g,1,none⟩=some (.slice (some ⟨tb,0,none⟩) N ct):=fY.out.blk.cell 1
 have KG:=hid G7
 have D6:=hid (show C.length≤90000 by
  rw[hC.out]
  have h1:=List.length_filter_le hit (List.range f)
  rw[List.length_range] at h1
  omega)
 have MG:f<p.length:=V_
 clear G7 hC cC J3 eG BX a61 hi c0n rV hhf
 go_upto_block 7 with fail
 go_cut [] (fun wx=>∃(C':List Nat) (gH:Value),Hid (C'=(List.range (f+1)).filter hit)∧Hid (pM w B g (g+1) (.slice (some a) p.length cap) zv xu Z wx (.slice (some ⟨tb,0,none⟩) N ct) (D++(⟨nd,fn,unit,parent,follow,cD,body,els,own,reads,C',cW⟩,gH)::R) (fns p))∧Hid (dB (g+1) g wj wx))
 case first=>
  go_wp2
  go_loopg [12] own.len (fun m i wr=>∃(k q:Nat),k≤own.len∧m=own.len-k∧i=.int .i64 k∧wr=wl.drewN q∧Hid (hf'=(Fo.heads (Fo.drop k own)).any fun h=>decide (h.1=5)&&decide (h.2=BV)))
  case atStart=>exact⟨0,0,Nat.zero_le _,rfl,rfl,rfl,hid (by rw[Fo.drop];exact HHf.out)⟩
  obtain⟨k,q,hk,hm,rfl,rfl,hh⟩:=hrel
  have Hm:=hid hm
  clear hm
  by_cases hlk:k<own.len
  rotate_left
  · have HF:=hid (show hf'=false by rw[hh.out,show k=own.len by omega,gB];rfl)
    clear hh
    go_wp2
    go_meet
    exact⟨C,cv,hid (by rw[HCf.out,HF.out];simp),hid (fY.out.below (below_drewN (Below.refl _ _) q)),hid (U7.out.below ((below_drewN (Below.refl _ _) q)))⟩
  obtain⟨ao,c3,kk,t,nn,s,ps,b',e,r,zT,l7,mD,AH,hv,aI,-,-,x0,x1,-⟩:=lX.at_ IJ.out hlk
  injection hv with AG hx2 hx3
  subst AG
  have bM:=hid (hh.out.trans (by rw[aZL aI,List.any_cons]))
  clear aI hh hx2 hx3
  by_cases h5:kk=5
  rotate_left
  · have b1:((kk:Int)==5)=false:=aP (by omega)
    have HT:=hid (show hf'=(Fo.heads (Fo.drop (k+1) own)).any fun h=>decide (h.1=5)&&decide (h.2=BV) by rw[bM.out];simp[h5])
    clear h5
    go_wp2
    go_quiet (fail)
    go_wp2
    go_roundg (own.len-(k+1))
    case rel=>exact⟨k+1,_,hlk,rfl,by go_num,rfl,HT⟩
    rw[Hm.out];omega
  subst h5
  by_cases ht:t=BV
  rotate_left
  · have b2:(t.toList==BV.toList)=false:=(Lib.bytes_beq_false_iff _ _).2 ht
    have HT:=hid (show hf'=(Fo.heads (Fo.drop (k+1) own)).any fun h=>decide (h.1=5)&&decide (h.2=BV) by rw[bM.out];simp[ht])
    clear ht
    go_wp2
    go_quiet (fail)
    go_wp2
    go_roundg (own.len-(k+1))
    case rel=>exact⟨k+1,_,hlk,rfl,by go_num,rfl,HT⟩
    rw[Hm.out];omega
  have b2:(t.toList==BV.toList)=true:=(Lib.bytes_beq_iff _ _).2 ht
  have HT:=hid (show hf'=true by rw[bM.out];simp[ht])
  clear ht
  go_wp2
  go_quiet (fail)
  go_upto_region 27 with fail
  generalize hwm:World.drewN (World.drewN wl q) _=wm
  have hBm:Below wl.heap.size wl wm:=by rw[←hwm];exact below_drewN (below_drewN (Below.refl _ _) _) _
  have aRH:g+1≤wl.heap.size:=fY.out.size
  have hbm:=fY.out.below hBm
  have TB:=hid (U7.out.below (hBm.mono aRH))
  have ZM:(⟨nd,fn,unit,parent,follow,cD,body,els,own,reads,C,cW⟩,cv)∈D++(⟨nd,fn,unit,parent,follow,cD,body,els,own,reads,C,cW⟩,cv)::R:=iZ _ (List.mem_cons_self ..)
  obtain⟨CI,hCI⟩:∃z:List Int,z=C.map fun n=>((n:Nat):Int):=⟨_,rfl⟩
  have hrw:aW wm (g+1) cv CI:=by rw[hCI];exact hbm.rows _ ZM
  have hCIl:CI.length≤90000:=by rw[hCI,cL];exact D6.out
  have HCI:=hid hCI
  obtain⟨Ac,cc,hcv,hccl,-⟩:=jJ hrw
  subst hcv
  have hsm:wl.heap.size≤wm.heap.size:=hBm.size
  have hc1:wm.cell? ⟨g,1,none⟩=some (.slice (some ⟨tb,0,none⟩) N ct):=hbm.blk.cell 1
  have aR7:wm.cell? ⟨tb,d*18+16,none⟩=some (.slice Ac CI.length cc):=(hBm.cell (p:=⟨tb,d*18+16,none⟩) z7).trans c16
  have bG:wm.drew.cell? ⟨g,1,none⟩=some (.slice (some ⟨tb,0,none⟩) N ct)∧wm.drew.cell? ⟨tb,d*18+16,none⟩=some (.slice Ac CI.length cc):=⟨hc1,aR7⟩
  have HBm:=hid hbm
  clear hwm hbm hCI hBm c14 q1 x0 x1
  refine NA (fun w'=>w'.cell? ⟨g,1,none⟩=some (.slice (some ⟨tb,0,none⟩) N ct)∧w'.cell? ⟨tb,d*18+16,none⟩=some (.slice Ac CI.length cc)) 18 (by kernel_rfl) ?_
  refine zqA 0 147 ?_ rfl rfl (by kernel_rfl) (fun _ _ _ h=>h) bG (by rfl) (by rintro w⟨bR,bB⟩;go_simp;rfl) ?_
  simp only[Act.put,aJ,aO,aN]
  refine zqA 1 148 ?_ rfl rfl (by kernel_rfl) (fun _ _ _ h=>h) bG (by rfl) (by rintro w⟨bR,bB⟩;go_simp;rfl) ?_
  simp only[Act.put,aJ,aO,aN]
  refine zqA 2 149 ?_ rfl rfl (by kernel_rfl) (fun _ _ _ h=>h) bG (by rfl) (by rintro w⟨bR,bB⟩;go_simp;rfl) ?_
  simp only[Act.put,aJ,aO,aN]
  refine zqA 3 150 ?_ rfl rfl (by kernel_rfl) (fun _ _ _ h=>h) bG (by rfl) (by rintro w⟨bR,bB⟩;go_simp;rfl) ?_
  simp only[Act.put,aJ,aO,aN]
  refine zqA 4 151 ?_ rfl rfl (by kernel_rfl) (fun _ _ _ h=>h) bG (by rfl) (by rintro w⟨bR,bB⟩;go_simp;rfl) ?_
  simp only[Act.put,aJ,aO,aN]
  refine zqA 5 152 ?_ rfl rfl (by kernel_rfl) (fun _ _ _ h=>h) bG (by rfl) (by rintro w⟨bR,bB⟩;go_simp;rfl) ?_
  simp only[Act.put,aJ,aO,aN]
  refine zqA 6 153 ?_ rfl rfl (by kernel_rfl) (fun _ _ _ h=>h) bG (by rfl) (by rintro w⟨bR,bB⟩;go_simp;rfl) ?_
  simp only[Act.put,aJ,aO,aN]
  refine zqA 7 154 ?_ rfl rfl (by kernel_rfl) (fun _ _ _ h=>h) bG (by rfl) (by rintro w⟨bR,bB⟩;go_simp;rfl) ?_
  simp only[Act.put,aJ,aO,aN]
  refine zqA 8 155 ?_ rfl rfl (by kernel_rfl) (fun _ _ _ h=>h) bG (by rfl) (by rintro w⟨bR,bB⟩;go_simp;rfl) ?_
  simp only[Act.put,aJ,aO,aN]
  refine zqA 9 156 ?_ rfl rfl (by kernel_rfl) (fun _ _ _ h=>h) bG (by rfl) (by rintro w⟨bR,bB⟩;go_simp;rfl) ?_
  simp only[Act.put,aJ,aO,aN]
  refine zqA 10 157 ?_ rfl rfl (by kernel_rfl) (fun _ _ _ h=>h) bG (by rfl) (by rintro w⟨bR,bB⟩;go_simp;rfl) ?_
  simp only[Act.put,aJ,aO,aN]
  refine zqA 11 158 ?_ rfl rfl (by kernel_rfl) (fun _ _ _ h=>h) bG (by rfl) (by rintro w⟨bR,bB⟩;go_simp;rfl) ?_
  simp only[Act.put,aJ,aO,aN]
  refine zqA 12 159 ?_ rfl rfl (by kernel_rfl) (fun _ _ _ h=>h) bG (by rfl) (by rintro w⟨bR,bB⟩;go_simp;rfl) ?_
  simp only[Act.put,aJ,aO,aN]
  refine zqA 13 160 ?_ rfl rfl (by kernel_rfl) (fun _ _ _ h=>h) bG (by rfl) (by rintro w⟨bR,bB⟩;go_simp;rfl) ?_
  simp only[Act.put,aJ,aO,aN]
  refine gM (i:=14) rfl (by kernel_rfl) (by rfl) (fun K hK=>?_)
  go_simp
  have rZ:Below wm.heap.size wm (wm.drew.alloc (.cells #[.int .i64 (f:Nat)] 3)):=(Below.refl wm.heap.size wm).drew.alloc (aC _) _
  have gU:=HBm.out.below rZ
  have j1:=gW hrw rZ (aC _)
  have htm:tb<wm.heap.size:=by omega
  have hS1:(wm.drew.alloc (.cells #[.int .i64 (f:Nat)] 3)).cell? ⟨g,1,none⟩=some (.slice (some ⟨tb,0,none⟩) N ct)∧(wm.drew.alloc (.cells #[.int .i64 (f:Nat)] 3)).cell? ⟨tb,d*18+16,none⟩=some (.slice Ac CI.length cc):=⟨gU.blk.cell 1,(rZ.cell (p:=⟨tb,d*18+16,none⟩) htm).trans aR7⟩
  refine hK _ _ (fun _=>hS1) ?_
  clear hK K
  try simp only[Act.put,aJ]
  refine gM (i:=15) rfl (by kernel_rfl) (by rfl) (fun K hK=>?_)
  refine aNR _ _ rfl (g+1) _ CI (f:Nat) (by rfl) j1 _ _ 1 (by rfl) uD (by omega) gU.size ?_
  intro v4 w4 iO hg4 LI
  have tY:CI++[((f:Nat):Int)]=(C++[f]).map fun n=>((n:Nat):Int):=by rw[HCI.out,List.map_append];rfl
  rw[tY] at iO
  have hpu:=pM.bO5 KG.out oB.out.1 gU (p:=(⟨nd,fn,unit,parent,follow,cD,body,els,own,reads,C,cW⟩,.slice Ac CI.length cc)) (y:=f) iO hg4 LI
  obtain⟨ts,DG,rT⟩:=gU.tab
  have ht4:=fA DG hg4 (fun k hk=>kL j1 DG (by decide) hk)
  have hi4:(D++(⟨nd,fn,unit,parent,follow,cD,body,els,own,reads,C,cW⟩,Value.slice Ac CI.length cc)::R)[d]?=some (⟨nd,fn,unit,parent,follow,cD,body,els,own,reads,C,cW⟩,Value.slice Ac CI.length cc):=by
   rw[List.getElem?_append_right (by have:=oB.out.1;omega),oB.out.1,Nat.sub_self];rfl
  obtain⟨tb4,ct4,cs4,hv4,-,-,-,-,-,-,oG⟩:=cP.at_ (cP.imp ⟨ts,ht4,rT⟩ fun _ _ hc=>EZ.kept hc (CP.ints j1 hg4)) aNU hi4
  injection hv4 with SU pE hD4
  clear pE hD4
  injection SU with SU
  injection SU with SU _ _
  subst SU
  have hb4:aG w4 g 45 _:=gU.blk.grown hg4 (fun e=>eB j1 gU.blk (by decide) e.symm)
  have q16:w4.cell? ⟨tb,d*18+16,none⟩=some (.slice Ac CI.length cc):=(aDS (p:=⟨tb,d*18+16,none⟩) hg4 (Nat.lt_of_lt_of_le htm rZ.size) (fun e=>kL j1 DG (by decide) e.symm rfl)).trans hS1.2
  have f16:=oG (d*18+16)
  have GX:dB (g+1) g wj w4:=(TB.out.below (rZ.mono (by omega))).grown hg4 gU.size (fun j hj=>(World.ownsRow.lt j1 j hj).1)
  have hX5:dB (g+1) g wj (w4.setCell ⟨tb,d*18+16,none⟩ v4):=GX.grown (dH w4 ⟨tb,d*18+16,none⟩ v4) (Nat.le_trans gU.size hg4.size) (fun j hj=>by cases hj;exact hgb)
  have kY:w4.cell? ⟨g,1,none⟩=some (.slice (some ⟨tb,0,none⟩) N ct)∧w4.cell? ⟨tb,d*18+16,none⟩=some (.slice Ac CI.length cc):=⟨hb4.cell 1,q16⟩
  obtain⟨A4,c4,hv5,-,-⟩:=jJ iO
  subst hv5
  generalize ((C++[f]).map fun n=>((n:Nat):Int)).length=n4 at *
  have HPu:=hid hpu
  have P3:=hid hX5
  refine hK _ _ (fun _=>kY) ?_
  clear hK K iO hg4 LI tY hpu DG rT ht4 hi4 oG hb4 GX hX5 gU j1 rZ
  try simp only[Act.put,aJ]
  refine gM (i:=16) rfl (by kernel_rfl) (by rfl) (fun K hK=>?_)
  go_simp
  refine hK _ _ (fun _=>kY) ?_
  clear hK K
  refine gM (i:=17) rfl (by kernel_rfl) (by rfl) (fun K hK=>?_)
  go_simp
  refine hK _ _ (fun _=>kY) ?_
  clear hK K
  refine gM (i:=18) rfl (by kernel_rfl) (by rfl) (fun K hK=>?_)
  go_simp
  refine hK _ _ (fun h=>absurd rfl h) ?_
  clear hK K
  refine NJ (by kernel_rfl) ?_ _
  clear bG hS1 kY q16 f16 hc1 aR7
  go_wp2
  go_meet
  exact⟨C++[f],_,hid (by rw[HCf.out,HT.out];rfl),HPu,P3⟩
 obtain⟨C',gH,hC',bRL,bQB⟩:=hcut
 clear fY U7 qp q1 c14 c16 hNm
 go_wp2
 go_roundg (p.length-(f+1))
 case rel=>exact⟨f+1,C',gH,MG,rfl,by go_num,hC',bRL,bQB⟩
 rw[MS.out];omega
end
end Go.Proofs.YtdlndhbkcgmkkaaGreatDoor
