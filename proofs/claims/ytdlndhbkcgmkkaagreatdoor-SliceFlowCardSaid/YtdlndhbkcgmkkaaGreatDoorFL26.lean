/-
 Part 26 of 35 of a proof about the given program: facts on which the last part stands.
-/
import Derived.Test.YtdlndhbkcgmkkaaGreatDoorFL21
set_option maxHeartbeats 12800000
set_option linter.unusedVariables false
set_option linter.unusedSimpArgs false
set_option maxRecDepth 100000
namespace Go.Proofs.YtdlndhbkcgmkkaaGreatDoor
section
open Go.RowKit
namespace Sl
def EZ (W:World) (B:Nat) (w:World) (base:Nat) (cs:List Value) (p:bO×Value):Prop:=
 ∃sv pv bv ev ov rv,cs=[.int .u8 p.1.nd.k,.string p.1.nd.t,.int .i64 p.1.nd.n,sv,pv,bv,ev,.int .i64 p.1.fn,.int .i64 p.1.unit,.int .i64 p.1.parent,.int .i64 p.1.follow,.int .i64 p.1.cD,.int .i64 p.1.body,.int .i64 p.1.els,ov,rv,p.2,.bool p.1.cW]∧
  lY W B sv pv bv ev p.1.nd.s p.1.nd.ps p.1.nd.b p.1.nd.e∧lX W B w base ov p.1.own∧aM w base rv p.1.reads
theorem aNU {W:World} {B:Nat} {w:World} {base:Nat}:∀cs x,EZ W B w base cs x→cs.length=18:=fun cs x ⟨sv,pv,bv,ev,ov,rv,h,_⟩=>by rw[h];rfl
def CP (w w':World):Prop:=∀(base:Nat) (e:TypeId) (s n:Nat) (v:Value) (xs:List Value),(e=69∨e=9)→w.ownsRow base e s v n xs→w'.ownsRow base e s v n xs
theorem CP.below {w w':World} (h:Below w.heap.size w w'):CP w w':=fun _ _ _ _ _ _ _ h3=>gW h3 h (aC _)
theorem CP.ints {w w':World} {base n s:Nat} {v:Value} {xs:List Value} (ho:w.ownsRow base 3 s v n xs) (hg:w.grownBy w' v.ownBlock):CP w w':=fun _ _ _ _ _ _ h1 h3=>fA h3 hg (fun _ hk=>kL ho h3 (by rcases h1 with rfl|rfl<;>decide) hk)
theorem CP.tab {w:World} {b base n s:Nat} {v:Value} {xs:List Value} (ho:w.ownsRow base 71 s v n xs) (hb:v.ownBlock=some b) (j:Nat) (u:Value):CP w (w.setCell ⟨b,j,none⟩ u):=fun _ _ _ _ _ _ h1 h3=>fA h3 (dH w _ u) (fun k e=>by cases e;exact kL ho h3 (by rcases h1 with rfl|rfl<;>decide) hb)
theorem EZ.kept {W:World} {B:Nat} {w w':World} {base:Nat} {cs:List Value} {x:bO×Value} (h:EZ W B w base cs x) (hk:CP w w'):EZ W B w' base cs x:=by
 obtain⟨sv,pv,bv,ev,ov,rv,h,hn,⟨os,ho,tU⟩,⟨rs,hr,hr2⟩⟩:=h
 exact⟨sv,pv,bv,ev,ov,rv,h,hn,⟨os,hk _ _ _ _ _ _ (.inl rfl) ho,tU⟩,⟨rs,hk _ _ _ _ _ _ (.inr rfl) hr,hr2⟩⟩
structure pM (W:World) (B g base:Nat) (pv zv xv:Value) (Z:List Int) (w:World) (tv:Value) (L:List (bO×Value)) (f:Nat):Prop where
 blk:aG w g 45 #[pv,tv,zv,xv,.int .i64 (f:Nat)]
 tab:cP 71 18 (EZ W B w base) w base tv L
 rows:∀p∈L,aW w base p.2 (p.1.calls.map fun n=>((n:Nat):Int))
 QV:∀p∈L,p.1.calls=[]→p.2=.slice none 0 0
 apart:L.Pairwise fun p q=>∀k,p.2.ownBlock=some k→q.2.ownBlock≠some k
 aL:aW w base zv Z
 OZ:∀p∈L,∀k,p.2.ownBlock=some k→zv.ownBlock≠some k
 low:g<base
 size:base≤w.heap.size
section
variable {W:World} {B g base:Nat} {pv zv xv:Value} {Z:List Int} {w w':World} {tv:Value} {L L1 L2:List (bO×Value)} {f:Nat}
theorem pM.below (h:pM W B g base pv zv xv Z w tv L f) (hb:Below w.heap.size w w'):pM W B g base pv zv xv Z w' tv L f where
 blk:=h.blk.below hb h.blk.lt
 tab:=cP.imp (aF.below h.tab hb (aC _)) fun _ _ hc=>EZ.kept hc (CP.below hb)
 rows:=fun p hp=>gW (h.rows p hp) hb (aC _)
 QV:=h.QV
 apart:=h.apart
 aL:=gW h.aL hb (aC _)
 OZ:=h.OZ
 low:=h.low
 size:=Nat.le_trans h.size hb.size
theorem aX9 {W:World} {B:Nat} {w:World} {base:Nat}:∀{L:List bO} {xs:List Value},gC (fU W B w base) xs L→(∀x∈L,x.calls=[])→gC (EZ W B w base) xs (L.map fun x=>(x,.slice none 0 0))
 | [],_,h,_=>h
 |x::_,_,⟨cs,ys,h1,⟨sv,pv,bv,ev,ov,rv,cv,h2,h3,h4,h5,_,h7⟩,h8⟩,hn=>by
   refine⟨cs,ys,h1,⟨sv,pv,bv,ev,ov,rv,?_,h3,h4,h5⟩,aX9 h8 fun y hy=>hn y (kS _ hy)⟩
   rw[h2,h7 (hn x (List.mem_cons_self ..))]
theorem aYZ {W:World} {B:Nat} {w:World} {base:Nat}:∀{L:List (bO×Value)} {xs:List Value},gC (EZ W B w base) xs L→(∀p∈L,aW w base p.2 (p.1.calls.map fun n=>((n:Nat):Int)))→(∀p∈L,p.1.calls=[]→p.2=.slice none 0 0)→gC (fU W B w base) xs (L.map (·.1))
 | [],_,h,_,_=>h
 |p::_,_,⟨cs,ys,h1,⟨sv,pv,bv,ev,ov,rv,h2,h3,h4,h5⟩,h8⟩,hr,hn=>
  ⟨cs,ys,h1,⟨sv,pv,bv,ev,ov,rv,p.2,h2,h3,h4,h5,hr p (List.mem_cons_self ..),hn p (List.mem_cons_self ..)⟩,aYZ h8 (fun q hq=>hr q (kS _ hq)) fun q hq=>hn q (kS _ hq)⟩
theorem pM.of {L:List bO} (h:eT W B g base pv zv xv Z w tv L f) (hn:∀x∈L,x.calls=[]):pM W B g base pv zv xv Z w tv (L.map fun x=>(x,.slice none 0 0)) f where
 blk:=h.blk
 tab:=by
  obtain⟨xs,h1,h2⟩:=h.tab
  exact⟨xs,by rw[cL];exact h1,aX9 h2 hn⟩
 rows:=fun p hp=>by
  obtain⟨x,hx,rfl⟩:=List.mem_map.1 hp
  rw[hn x hx]
  exact World.ownsRow_nil _ _ _ _
 QV:=fun p hp _=>by
  obtain⟨x,hx,rfl⟩:=List.mem_map.1 hp
  rfl
 apart:=by
  rw[List.pairwise_map]
  exact List.pairwise_of_forall fun x y k hk=>by simp[Value.ownBlock] at hk
 aL:=h.aL
 OZ:=fun p hp k hk=>by
  obtain⟨x,hx,rfl⟩:=List.mem_map.1 hp
  simp[Value.ownBlock] at hk
 low:=h.low
 size:=h.size
theorem pM.to (h:pM W B g base pv zv xv Z w tv L f):eT W B g base pv zv xv Z w tv (L.map (·.1)) f where
 blk:=h.blk
 tab:=by
  obtain⟨xs,h1,h2⟩:=h.tab
  exact⟨xs,by rw[cL];exact h1,aYZ h2 h.rows h.QV⟩
 aL:=h.aL
 low:=h.low
 size:=h.size
theorem pM.push {tb ct:Nat} {p:bO×Value} {gH:Value} {y:Nat} (h:pM W B g base pv zv xv Z w (.slice (some ⟨tb,0,none⟩) (L1++p::L2).length ct) (L1++p::L2) f)
 (hc:aW w' base gH ((p.1.calls++[y]).map fun n=>((n:Nat):Int))) (hg:w.grownBy w' p.2.ownBlock) (hat:gH.ownBlock=p.2.ownBlock∨gH.ownBlock=some w.heap.size):
 pM W B g base pv zv xv Z (w'.setCell ⟨tb,L1.length*18+16,none⟩ gH) (.slice (some ⟨tb,0,none⟩) (L1++p::L2).length ct) (L1++(⟨p.1.nd,p.1.fn,p.1.unit,p.1.parent,p.1.follow,p.1.cD,p.1.body,p.1.els,p.1.own,p.1.reads,p.1.calls++[y],p.1.cW⟩,gH)::L2) f:=by
 have hpm:p∈L1++p::L2:=iZ _ (List.mem_cons_self ..)
 have hrow:=h.rows p hpm
 obtain⟨ts,DG,rT⟩:=h.tab
 have aJD:(Value.slice (some ⟨tb,0,none⟩) (L1++p::L2).length ct).ownBlock=some tb:=rfl
 have hb':aG w' g 45 _:=h.blk.grown hg (fun e=>eB hrow h.blk (by decide) e.symm)
 have U8:w'.ownsRow base 71 18 (.slice (some ⟨tb,0,none⟩) (L1++p::L2).length ct) (L1++p::L2).length ts:=fA DG hg (fun k hk=>kL hrow DG (by decide) hk)
 have qN:CP w w':=CP.ints hrow hg
 have hk2:CP w' (w'.setCell ⟨tb,L1.length*18+16,none⟩ gH):=CP.tab U8 aJD _ _
 have hne:tb≠g:=fun e=>eB U8 hb' (by decide) (by rw[e];rfl)
 have hap:=h.apart
 rw[List.pairwise_append,List.pairwise_cons] at hap
 obtain⟨ha1,⟨ha2,ha3⟩,ha4⟩:=hap
 have hold:∀q∈L1++L2,(∀k,p.2.ownBlock=some k→q.2.ownBlock≠some k):=fun q hq k hk e=>by
  rcases List.mem_append.1 hq with hq|hq
  · exact ha4 q hq p (List.mem_cons_self ..) k e hk
  exact ha2 q hq k hk e
 have JE:∀q∈L1++L2,aW (w'.setCell ⟨tb,L1.length*18+16,none⟩ gH) base q.2 (q.1.calls.map fun n=>((n:Nat):Int)):=fun q hq=>by
  have hq':q∈L1++p::L2:=by
   rcases List.mem_append.1 hq with hq|hq
   · exact rN _ hq
   exact iZ _ (kS _ hq)
  have h1:=fA (h.rows q hq') hg (fun k hk=>hold q hq k hk)
  exact fA h1 (dH w' _ gH) (fun k e=>by cases e;exact kL U8 h1 (by decide) aJD)
 have ZJ:∀q∈L1++L2,∀k,gH.ownBlock=some k→q.2.ownBlock≠some k:=fun q hq k hk e=>by
  have hq':q∈L1++p::L2:=by
   rcases List.mem_append.1 hq with hq|hq
   · exact rN _ hq
   exact iZ _ (kS _ hq)
  rcases hat with hat|hat
  · exact hold q hq k (hat▸hk) e
  rw[hat] at hk;injection hk with hk
  have:=(World.ownsRow.lt (h.rows q hq') k e).2
  omega
 exact
 { blk:=hb'.far (p:=⟨tb,L1.length*18+16,none⟩) (Ne.symm hne) gH
   tab:=by
    have h1:cP 71 18 (EZ W B w' base) w' base (.slice (some ⟨tb,0,none⟩) (L1++p::L2).length ct) (L1++p::L2):=cP.imp ⟨ts,U8,rT⟩ fun _ _ hc=>EZ.kept hc qN
    have h2:=cP.cS (i:=L1.length) (j:=16) (x:=p) (x':=(⟨p.1.nd,p.1.fn,p.1.unit,p.1.parent,p.1.follow,p.1.cD,p.1.body,p.1.els,p.1.own,p.1.reads,p.1.calls++[y],p.1.cW⟩,gH)) (u:=gH) h1 aNU (by rw[List.getElem?_append_right (aC _),Nat.sub_self];rfl) (by decide) (fun cs ⟨sv,pv,bv,ev,ov,rv,e1,e2,e3,e4⟩=>⟨sv,pv,bv,ev,ov,rv,by rw[e1];rfl,e2,e3,e4⟩)
    rw[show (L1++p::L2).set L1.length (⟨p.1.nd,p.1.fn,p.1.unit,p.1.parent,p.1.follow,p.1.cD,p.1.body,p.1.els,p.1.own,p.1.reads,p.1.calls++[y],p.1.cW⟩,gH)=L1++(⟨p.1.nd,p.1.fn,p.1.unit,p.1.parent,p.1.follow,p.1.cD,p.1.body,p.1.els,p.1.own,p.1.reads,p.1.calls++[y],p.1.cW⟩,gH)::L2 by simp] at h2
    exact cP.imp h2 fun _ _ hc=>EZ.kept hc hk2
   rows:=fun q hq=>by
    rcases List.mem_append.1 hq with hq|hq
    · exact JE q (rN _ hq)
    rcases List.mem_cons.1 hq with rfl|hq
    · exact fA hc (dH w' _ gH) (fun k e=>by cases e;exact kL U8 hc (by decide) aJD)
    exact JE q (iZ _ hq)
   QV:=fun q hq he=>by
    rcases List.mem_append.1 hq with hq|hq
    · exact h.QV q (rN _ hq) he
    rcases List.mem_cons.1 hq with rfl|hq
    · simp at he
    exact h.QV q (iZ _ (kS _ hq)) he
   apart:=by
    rw[List.pairwise_append,List.pairwise_cons]
    refine⟨ha1,⟨fun q hq k hk=>ZJ q (iZ _ hq) k hk,ha3⟩,fun q hq r hr k hk=>?_⟩
    rcases List.mem_cons.1 hr with rfl|hr
    · exact fun e=>ZJ q (rN _ hq) k e hk
    exact ha4 q hq r (kS _ hr) k hk
   aL:=by
    have h1:=fA h.aL hg (fun k hk=>h.OZ p hpm k hk)
    exact fA h1 (dH w' _ gH) (fun k e=>by cases e;exact kL U8 h1 (by decide) aJD)
   OZ:=fun q hq k hk=>by
    rcases List.mem_append.1 hq with hq|hq
    · exact h.OZ q (rN _ hq) k hk
    rcases List.mem_cons.1 hq with rfl|hq
    · rcases hat with hat|hat
      · exact h.OZ p hpm k (hat▸hk)
      intro e
      have ME:gH.ownBlock=some k:=hk
      rw[hat] at ME;injection ME with ME
      have:=(World.ownsRow.lt h.aL k e).2
      omega
    exact h.OZ q (iZ _ (kS _ hq)) k hk
   low:=h.low
   size:=by simpa[World.setCell] using Nat.le_trans h.size hg.size }
end
end Sl
end
section
open Go.RowKit
open Go.Lib (hid)
namespace Sl
def nX (b:Bool) (x:bO):bO:=⟨x.nd,x.fn,x.unit,x.parent,x.follow,x.cD,x.body,x.els,x.own,x.reads,x.calls,b⟩
theorem bFZ {W:World} {B:Nat} {w:World} {base:Nat} {SL:List Value} {x:bO} {y:Bool} (h:fU W B w base SL x):fU W B w base (SL.set 17 (.bool y)) (nX y x):=by
 obtain⟨sv,pv,bv,ev,ov,rv,cv,rfl,h1,h2,h3,h4⟩:=h
 exact⟨sv,pv,bv,ev,ov,rv,cv,rfl,h1,h2,h3,h4⟩
theorem eT.a6L {W:World} {B g base:Nat} {pv zv xv:Value} {Z:List Int} {w:World} {D R:List bO} {x:bO} {f tb ct N d:Nat} (hN:N=(D++x::R).length) (hd:D.length=d)
 (h:eT W B g base pv zv xv Z w (.slice (some ⟨tb,0,none⟩) N ct) (D++x::R) f) (b:Bool):
 eT W B g base pv zv xv Z (w.setCell ⟨tb,d*18+17,none⟩ (.bool b)) (.slice (some ⟨tb,0,none⟩) N ct) (D++nX b x::R) f:=by
 subst hN hd
 have h1:=eT.put (i:=D.length) (j:=17) (x:=x) (x':=nX b x) (u:=.bool b) h (by rw[List.getElem?_append_right (aC _),Nat.sub_self];rfl) (by decide) (fun cs hc=>bFZ hc)
 rw[show (D++x::R).set D.length (nX b x)=D++nX b x::R by simp] at h1
 exact h1
end Sl
open Sl
theorem bFD (W:World) (B g base F N f:Nat) (Ap At:Option Addr) (cp ct:Nat) (zv xv:Value) (Z:List Int) (L:List bO) (w:World) (hb:eT W B g base (.slice Ap F cp) zv xv Z w (.slice At N ct) L f) (hN:L.length=N) (G5:N≤100000) (hF:F≤100000)
 (UY:∀x∈L,∀c∈x.calls,c<F) (qK:∀x∈L,0≤x.unit) (gR:∀x∈L,x.own.len≤1000000) (cC:∀x∈L,x.calls.length≤1000000):
 Calls Tryz.prog 57 #[.pointer (some ⟨g,0,none⟩)] w fun e w'=>e=.returned (.tuple #[])∧eT W B g base (.slice Ap F cp) zv xv Z w' (.slice At N ct) (L.map fun x=>nX (fC F (pP F (L.map (gX F)) (F+2) (fun _=>false)) (gX F x)) x) f∧dB base g w w':=by
 have HT:=hid (bEY g F L w ⟨⟨W,B,base,Ap,cp,zv,xv,Z,.slice At N ct,f,hb⟩,by omega,hF⟩ UY qK gR cC)
 obtain⟨fin,OL⟩:∃fin,fin=pP F (L.map (gX F)) (F+2) (fun _=>false):=⟨_,rfl⟩
 rw[←OL] at HT ⊢
 have HB:=hid hb
 have XE:=hid UY
 have sG:=hid gR
 have D6:=hid cC
 have HN:=hid hN
 have kQ:=hb.low
 have hsize:=hb.size
 obtain⟨T,hT⟩:∃T:bO→bO,T=fun x=>nX (fC F fin (gX F x)) x:=⟨_,rfl⟩
 have HTT:=hid (fun x=>(congrFun hT x:T x=nX (fC F fin (gX F x)) x))
 rw[←hT]
 clear hb UY qK gR cC OL hN hT
 go_enter Tryz.func57,Tryz.ntmps57
 go_wp2_with fail
 refine HT.out.mono ?_
 rintro e1 w1 ⟨v,rfl,hv,hb1⟩
 obtain⟨Av,J_,nw,lR,-⟩:=aF.src hv
 have a6U:v=.slice Av (iB F fin).length J_:=lR
 rw[CM] at a6U
 subst a6U
 have HV:=hid hv
 have aT:=hid (HB.out.below hb1)
 have TC:=hid ((dB.refl base g w).below (hb1.mono hsize))
 have hsz1:=hb1.size
 clear hv lR hb1 HT HB
 go_wp2
 go_loopg [4] N (fun q i wr=>∃(n:Nat) (D R:List bO),n≤N∧q=N-n∧i=.int .i64 n∧Hid (D.length=n∧n+R.length=N)∧Hid (L.map T=D++R.map T)∧Hid (∀x∈R,x∈L)∧Hid (eT W B g base (.slice Ap F cp) zv xv Z wr (.slice At N ct) (D++R) f)∧Hid (dB base g w wr)∧Hid (sS wr w.heap.size (.slice Av F J_) (iB F fin)))
 case atStart=>exact⟨0,[],L,Nat.zero_le _,rfl,rfl,hid ⟨rfl,by have:=HN.out;omega⟩,hid rfl,hid (fun x h=>h),aT,TC,HV⟩
 obtain⟨n,D,R,hn,hq,rfl,hlen,he,aRI,eH,cH,jS⟩:=hrel
 have Hq:=hid hq
 obtain⟨wo,rfl⟩:∃z:World,z=wr:=⟨_,rfl⟩
 have q1:wo.cell? ⟨g,1,none⟩=some (.slice At N ct):=eH.out.blk.cell 1
 clear hq aT TC HV
 by_cases hlt:n<N
 rotate_left
 · have HR:=hid (show R=[] from List.eq_nil_of_length_eq_zero (by have:=hlen.out.2;omega))
   clear hlen
   go_wp2
   go_end0
   have h1:=he.out
   have h2:=eH.out
   rw[HR.out] at h1 h2
   rw[h1]
   exact⟨rfl,h2,cH.out⟩
 cases R with
 |nil=>exact absurd hlen.out.2 (by simp;omega)
 |cons x R=>
 have hxL:=aRI.out x (List.mem_cons_self ..)
 have HSub:=hid (fun y hy=>aRI.out y (kS _ hy))
 have oB:=hid (show D.length=n∧n+(R.length+1)=N from hlen.out)
 have hi:(D++x::R)[n]?=some x:=by
  rw[List.getElem?_append_right (by have:=oB.out.1;omega),oB.out.1,Nat.sub_self];rfl
 obtain⟨tb,ct',CL,hv,-,hgb,z7,-,hC,cC,oG⟩:=cP.at_ eH.out.tab uG hi
 injection hv with SV G7 hc1
 subst SV hc1
 obtain⟨r6,e0,-,-,-,-,-,-,-,-,FD,Ao,co,Ar,cr,Ac,cc,-,-,AJ,-,-,PV,-,-,-⟩:=KR hC
 have c0:wo.cell? ⟨tb,n*18,none⟩=some (.int .u8 x.nd.k):=(cC 0 (by decide)).trans e0
 have c17:wo.cell? ⟨tb,n*18+17,none⟩=some (.bool x.cW):=(cC 17 (by decide)).trans FD
 have a88:=hid (show wo.cell? ⟨tb,n*18+16,none⟩=some (.slice Ac x.calls.length cc) from (cC 16 (by decide)).trans AJ)
 have f17:=oG (n*18+17)
 have GG:=hid (a2W g F n 6 x (D++x::R) wo ⟨⟨W,B,base,Ap,cp,zv,xv,Z,_,f,eH.out⟩,by rw[←G7];omega,hF⟩ hi (sG.out x hxL))
 have KG:=hid G7
 have QB:=hid PV
 have HE:=hid he.out
 obtain⟨jZ,R9⟩:∃z,z=(decide (x.nd.k=20)||(LJ x 6&&fin F)):=⟨_,rfl⟩
 have qX:=hid R9
 have VP:=hid (show fC F fin (gX F x)=(jZ||x.calls.any fin) by rw[R9];rfl)
 have aTB:=hid (show eT W B g base (.slice Ap F cp) zv xv Z (wo.setCell ⟨tb,n*18+17,none⟩ (.bool jZ)) (.slice (some ⟨tb,0,none⟩) N ct) (D++nX jZ x::R) f∧dB base g w (wo.setCell ⟨tb,n*18+17,none⟩ (.bool jZ))∧sS (wo.setCell ⟨tb,n*18+17,none⟩ (.bool jZ)) w.heap.size (.slice Av F J_) (iB F fin) from
  ⟨eH.out.a6L G7 oB.out.1 jZ,cH.out.grown (dH wo ⟨tb,n*18+17,none⟩ _) eH.out.size (fun j hj=>by cases hj;exact hgb),by
   obtain⟨ts,DG,-⟩:=eH.out.tab
   obtain⟨bs,hb1,hb2⟩:=jS.out
   exact aF.kept jS.out (dH wo _ _) (fun k e=>by cases e;exact kL DG hb1 (by decide) rfl)⟩)
 clear hlen he aRI hi cC oG hC e0 AJ FD r6 PV G7 R9
 go_upto_region 5 with fail
 go_cut [] (fun wx=>wx=wo.setCell ⟨tb,n*18+17,none⟩ (.bool jZ))
 case first=>
  clear aTB QB VP a88
  by_cases jH:x.nd.k=20
  · have b1:((x.nd.k:Int)==20)=true:=beq_iff_eq.2 (by omega)
    have HM:=hid (show jZ=true by rw[qX.out,bF jH,Bool.true_or])
    clear jH
    go_wp2
    go_meet
    rw[HM.out]
  have b1:((x.nd.k:Int)==20)=false:=aP (by omega)
  have HM:=hid (show jZ=(LJ x 6&&fin F) by rw[qX.out,bP jH,Bool.false_or])
  clear jH
  cases hh:LJ x 6 with
  |false=>
   rw[hh] at GG
   have TM:=hid (show jZ=false by rw[HM.out,hh];rfl)
   clear hh
   go_wp2_with fail
   refine GG.out.mono ?_
   rintro e5 w5 ⟨rfl,rfl⟩
   go_wp2
   go_meet
   rw[TM.out]
  |true=>
   rw[hh] at GG
   have TM:=hid (show jZ=fin F by rw[HM.out,hh,Bool.true_and])
   clear hh
   go_wp2_with fail
   refine GG.out.mono ?_
   rintro e5 w5 ⟨rfl,rfl⟩
   go_wp2
   go_meet
   rw[TM.out]
 obtain⟨aSA,aR8,aR_⟩:=aTB.out
 rw[←hcut] at aSA aR8 aR_
 have BR:=hid aSA
 have a89:=hid aR8
 have a8_:=hid aR_
 have WH:=D6.out x hxL
 have IP:=XE.out x hxL
 obtain⟨cx,aR4⟩:∃z,z=x.calls:=⟨_,rfl⟩
 rw[←aR4] at VP WH IP
 have IP:=hid IP
 have bSV:=hid aR4
 obtain⟨w2,rfl⟩:∃z:World,z=wc:=⟨_,rfl⟩
 clear aSA aR8 aR_ hcut eH cH jS q1 c0 c17 f17 GG aTB QB a88 qX aR4
 go_wp2
 go_loopg [6] cx.length (fun q kv wr=>∃(k:Nat) (mb:Bool),k≤cx.length∧q=cx.length-k∧kv=.int .i64 k∧Hid (mb=(jZ||(cx.take k).any fin))∧Hid (eT W B g base (.slice Ap F cp) zv xv Z wr (.slice (some ⟨tb,0,none⟩) N ct) (D++nX mb x::R) f)∧Hid (dB base g w wr)∧Hid (sS wr w.heap.size (.slice Av F J_) (iB F fin)))
 case atStart=>exact⟨0,jZ,Nat.zero_le _,rfl,rfl,hid (by simp),BR,a89,a8_⟩
 obtain⟨k,mb,hk,hq,rfl,MC,eH,cH,jS⟩:=hrel
 have MS:=hid hq
 clear hq BR a89 a8_
 obtain⟨wl,rfl⟩:∃z:World,z=wr:=⟨_,rfl⟩
 have q1:wl.cell? ⟨g,1,none⟩=some (.slice (some ⟨tb,0,none⟩) N ct):=eH.out.blk.cell 1
 have hi:(D++nX mb x::R)[n]?=some (nX mb x):=by
  rw[List.getElem?_append_right (by have:=oB.out.1;omega),oB.out.1,Nat.sub_self];rfl
 obtain⟨tb2,ct2,CL,hv,-,-,-,-,hC,cC,oG⟩:=cP.at_ eH.out.tab uG hi
 injection hv with AG G6 hc2
 injection AG with AG
 injection AG with AG hA3 SU
 subst AG hc2
 obtain⟨-,-,-,-,-,-,-,-,-,-,FD,-,-,-,-,Ac,cc,-,-,AJ,-,-,PV,-,-,-⟩:=KR hC
 have c17:wl.cell? ⟨tb,n*18+17,none⟩=some (.bool mb):=(cC 17 (by decide)).trans FD
 have hlc:(nX mb x).calls=cx:=bSV.out.symm
 have c16:wl.cell? ⟨tb,n*18+16,none⟩=some (.slice Ac cx.length cc):=(cC 16 (by decide)).trans (by rw[AJ,hlc])
 have oK:=hid (aW.reads PV (by rw[cL,hlc];omega))
 have f17:=oG (n*18+17)
 rw[hlc] at oK
 clear hC cC oG AJ FD PV hlc hA3 SU G6
 by_cases pB:k<cx.length
 rotate_left
 · have HMf:=hid (show T x=nX mb x by rw[HTT.out,VP.out,MC.out,List.take_of_length_le (by omega)])
   clear MC oK hi
   go_wp2
   go_roundg (N-(n+1))
   case rel=>
    refine⟨n+1,D++[nX mb x],R,hlt,rfl,by go_num,hid ?_,hid ?_,HSub,hid ?_,cH,jS⟩
    · have:=oB.out;exact⟨by rw[bL,this.1];rfl,by omega⟩
    · rw[HE.out,List.map_cons,dZ,HMf.out];rfl
    rw[dZ];exact eH.out
   rw[Hq.out];omega
 obtain⟨Ad,cd,eqc,-,-,nB⟩:=oK.out
 rw[cL] at eqc
 injection eqc with eq1 _ eq3
 subst eq1 eq3
 obtain⟨ad,rfl,-,hcell⟩:=ints_at nB (k:=k) (by rw[cL];exact pB)
 have J7:(cx.map fun n=>((n:Nat):Int)).getD k 0=((cx[k]:Nat):Int):=by rw[dR,lZ,bX pB];rfl
 rw[J7] at hcell
 have hcF:=IP.out cx[k] (Q1 pB)
 have HMb:=hid (show (mb||fin cx[k])=(jZ||(cx.take (k+1)).any fin) by
  rw[MC.out,List.take_succ_eq_append_getElem pB,List.any_append,List.any_cons,List.any_nil,Bool.or_false,Bool.or_assoc])
 generalize cx[k]=ck at *
 obtain⟨gf,cf,clf,hvf,-,-,-,-,PX,OM,-⟩:=cP.at_ jS.out M_ (I0 (f:=fin) hcF)
 injection hvf with lR hx2 hx3
 subst lR
 have DM:=OM 0 (by decide)
 rw[show clf=[.bool (fin ck)] from PX] at DM
 simp only[Nat.mul_one,Nat.add_zero,List.getElem?_cons_zero] at DM
 have P5:=hid (fun b:Bool=>(show eT W B g base (.slice Ap F cp) zv xv Z (wl.setCell ⟨tb,n*18+17,none⟩ (.bool b)) (.slice (some ⟨tb,0,none⟩) N ct) (D++nX b x::R) f∧dB base g w (wl.setCell ⟨tb,n*18+17,none⟩ (.bool b))∧sS (wl.setCell ⟨tb,n*18+17,none⟩ (.bool b)) w.heap.size (.slice (some ⟨gf,0,none⟩) F J_) (iB F fin) from
  ⟨eT.a6L (x:=nX mb x) (by have:=oB.out;simp;omega) oB.out.1 eH.out b,cH.out.grown (dH wl ⟨tb,n*18+17,none⟩ _) eH.out.size (fun j hj=>by cases hj;exact hgb),by
   obtain⟨ts,DG,-⟩:=eH.out.tab
   obtain⟨bs,hb1,hb2⟩:=jS.out
   exact aF.kept jS.out (dH wl _ _) (fun k e=>by cases e;exact kL DG hb1 (by decide) rfl)⟩))
 clear OM PX J7 MC hx2 hx3 nB oK eH cH jS hi
 generalize fin ck=q0 at *
 cases mb with
 |true=>
  obtain⟨s1,s2,s3⟩:=P5.out true
  have S1:=hid s1
  have S2:=hid s2
  have S3:=hid s3
  have jT:=hid (show true=(jZ||(cx.take (k+1)).any fin) by rw[←HMb.out];rfl)
  clear s1 s2 s3
  go_wp2
  go_roundg (cx.length-(k+1))
  case rel=>exact⟨k+1,true,pB,rfl,by go_num,jT,S1,S2,S3⟩
  rw[MS.out];omega
 |false=>
  obtain⟨s1,s2,s3⟩:=P5.out q0
  have S1:=hid s1
  have S2:=hid s2
  have S3:=hid s3
  have jT:=hid (show q0=(jZ||(cx.take (k+1)).any fin) by rw[←HMb.out];rfl)
  clear s1 s2 s3
  go_wp2
  go_roundg (cx.length-(k+1))
  case rel=>exact⟨k+1,q0,pB,rfl,by go_num,jT,S1,S2,S3⟩
  rw[MS.out];omega
end
section
open Go.RowKit
open Sl
open Go.Lib (hid)
theorem aYK (g F n:Nat) (x:bO) (y:aA) (L:List bO) (w:World) (h:FT w g F L) (hn:L[n]?=some x):
 Calls Tryz.prog 65 #[.pointer (some ⟨g,0,none⟩),.int .i64 (n:Nat),.string y] w fun e w'=>e=.returned (.bool (BO x y))∧w=w':=by
 obtain⟨⟨W,B,base,Ap,cp,zv,xv,Z,tv,f,hb⟩,WM,-⟩:=h
 obtain⟨-,g1,-,-,-⟩:=pN hb.blk
 have qL:=(mK.1 hn).1
 obtain⟨b,c,CL,rfl,hc,-,hbl,-,hC,cC,-⟩:=cP.at_ hb.tab uG hn
 obtain⟨r6,e0,e1,-⟩:=KR hC
 have y0:=(cC 0 (by decide)).trans e0
 have y1:=(cC 1 (by decide)).trans e1
 simp only[Nat.add_zero] at y0
 clear hC hb hn e0 e1 r6 cC
 obtain⟨q,hq⟩:∃q,q=BO x y:=⟨_,rfl⟩
 rw[←hq]
 have HQ:=hid (hq.trans (by unfold BO;rfl))
 clear hq
 have MT:=hid (fun (h:x.nd.t=y)=>(show (x.nd.t.toList==y.toList)=true by rw[h];exact beq_self_eq_true _))
 have mV:=hid (fun (h:¬x.nd.t=y)=>((Lib.bytes_beq_false_iff _ _).2 h:(x.nd.t.toList==y.toList)=false))
 by_cases gV:x.nd.k=14
 · have b1:((x.nd.k:Int)==14)=true:=beq_iff_eq.2 (by omega)
   by_cases ht:x.nd.t=y
   · have b2:=MT.out ht
     have HX:=hid (show q=true by rw[HQ.out];simp[gV,ht])
     clear gV ht HQ
     go_enter Tryz.func65,Tryz.ntmps65
     go_wp2
     go_ret
     exact⟨aR HX.out.symm,rfl⟩
   have b2:=mV.out ht
   have HX:=hid (show q=false by rw[HQ.out];simp[ht])
   clear gV ht HQ
   go_enter Tryz.func65,Tryz.ntmps65
   go_wp2
   go_ret
   exact⟨aR HX.out.symm,rfl⟩
 have b1:((x.nd.k:Int)==14)=false:=aP (by omega)
 by_cases j3:x.nd.k=15
 rotate_left
 · have b3:((x.nd.k:Int)==15)=false:=aP (by omega)
   have HX:=hid (show q=false by rw[HQ.out];simp[gV,j3])
   clear gV j3 HQ
   go_enter Tryz.func65,Tryz.ntmps65
   go_wp2
   go_ret
   exact⟨aR HX.out.symm,rfl⟩
 have b3:((x.nd.k:Int)==15)=true:=beq_iff_eq.2 (by omega)
 by_cases ht:x.nd.t=y
 · have b2:=MT.out ht
   have HX:=hid (show q=true by rw[HQ.out];simp[j3,ht])
   clear gV j3 ht HQ
   go_enter Tryz.func65,Tryz.ntmps65
   go_wp2
   go_ret
   exact⟨aR HX.out.symm,rfl⟩
 have b2:=mV.out ht
 have HX:=hid (show q=false by rw[HQ.out];simp[ht])
 clear gV j3 ht HQ
 go_enter Tryz.func65,Tryz.ntmps65
 go_wp2
 go_ret
 exact⟨aR HX.out.symm,rfl⟩
end
section
open Go.RowKit
open Go.Lib (hid)
namespace Sl
def yC (L:List bO) (d:Nat) (y:aA) (i:Int):List Int:=
 if i<0 then [] else match L[i.toNat]? with
 |none=>[]
 |some r=>(if i=(d:Int)∨BO r y=false then fB r else [])++lQ r
def EJ (sn:List Bool) (x:Int):Bool:=decide (0≤x)&&sn.getD x.toNat false
theorem bI1 {sn:List Bool} {n:Nat} (hn:n<sn.length) (y:Int):EJ (sn.set n true) y=true↔y=(n:Int)∨EJ sn y=true:=by
 unfold EJ
 by_cases hy:y<0
 · simp only[show decide (0≤y)=false from bP (by omega),Bool.false_and,Bool.false_eq_true,or_false,false_iff]
   omega
 rw[show decide (0≤y)=true from bF (by omega),Bool.true_and,Bool.true_and,dR,dR,List.getElem?_set]
 by_cases h:n=y.toNat
 · subst h
   rw[if_pos rfl,if_pos hn]
   simp;omega
 rw[if_neg h]
 constructor
 · exact fun h1=>.inr h1
 rintro (h1|h1)
 · omega
 exact h1
theorem count_set:∀{sn:List Bool} {n:Nat},n<sn.length→sn.getD n false=false→(sn.set n true).count false+1=sn.count false
 | [],_,h,_=>by simp at h
 |b::l,0,_,h=>by
   simp at h
   subst h
   simp
 |b::l,n+1,h,h2=>by
   have:=count_set (sn:=l) (n:=n) (by simpa using h) (by simpa using h2)
   simp only[aN,List.count_cons]
   omega
theorem aN3 (x:bO):(fB x).length≤2:=by
 unfold fB Gr.mJ
 repeat' split
 all_goals simp
theorem a1C (x:bO):(lQ x).length≤1:=by
 unfold lQ
 split<;>simp
end Sl
open Sl
theorem XY:(Tryz.prog.info? 3).map (fun i=>(i.zero,i.size,i.bytes))=some (some (.int .i64 0),1,8):=by kernel_rfl
theorem bF7 (g F d:Nat) (s:Int) (y:aA) (x:bO) (L:List bO) (w:World) (h:FT w g F L) (hd:L[d]?=some x) (hs:0≤s)
 (hr:∀(i:Nat) (r:bO),L[i]?=some r→∀z∈fB r++lQ r,-1≤z∧z<(L.length:Int)):
 Calls Tryz.prog 66 #[.pointer (some ⟨g,0,none⟩),.int .i64 (d:Nat),.int .i64 s,.string y] w fun e w'=>e=.returned (.bool (BU (yC L d y) (fB x) s))∧Below w.heap.size w w':=by
 have H:=hid h
 have HD:=hid hd
 have CE:=hid hr
 have WM:=h.len
 obtain⟨⟨W,B,base,Ap,cp,zv,xv,Z,tv,f,hb⟩,-,-⟩:=h
 obtain⟨-,g1,-,-,-⟩:=pN hb.blk
 obtain⟨At,ct,nt,rfl,AE,-⟩:=aF.src hb.tab
 clear hb hd hr
 obtain⟨q,hq⟩:∃q,q=BU (yC L d y) (fB x) s:=⟨_,rfl⟩
 rw[←hq]
 have HQ:=hid hq
 clear hq
 go_enter Tryz.func66,Tryz.ntmps66
 go_wp2_with (refine aXQ rfl _ _ (by rfl) L.length (by rfl) (by rfl) (by omega) w.heap.size (aC _) ?_)
 intro w1 hs1 hg1
 have sF:=hid hs1
 have fD:Below w.heap.size w w1:=⟨hg1.os,hg1.tape,hg1.output,hg1.size,fun k hk=>hg1.block k hk (by simp)⟩
 have aT:=hid fD
 have aRV:w.heap.size<w1.heap.size:=(hs1.lt w.heap.size rfl).2
 have HC:=hid (aNF g F d x L w1 (H.out.below fD) HD.out)
 clear hs1 hg1 fD g1
 go_wp2_with fail
 refine HC.out.mono ?_
 rintro e2 w2 ⟨v1,v2,rfl,kD,-,hb2⟩
 have FQ:=hid (kT.of kD)
 have bY:=hid (aT.out.trans (hb2.mono (by omega)))
 have gI:=hid (aF.below sF.out hb2 (aC _))
 have hz2:=hb2.size
 clear kD hb2 HC sF
 have l_:(s:Int)≠-1:=by omega
 go_wp2
 go_loopg [10] ((fB x).length+4*(List.replicate L.length false).count false) (fun m o wr=>∃(v:Value) (xs:List Int) (sn:List Bool),v=o∧m=xs.length+4*sn.count false∧Hid (sn.length=L.length)∧xs.length+4*sn.count false≤1000000∧(∀z∈xs,-1≤z∧z<(L.length:Int))∧
  Hid (mW (yC L d y) (fB x) s xs (EJ sn))∧Hid (kT wr w1.heap.size v xs)∧Hid (sS wr w.heap.size (.slice (some ⟨w.heap.size,0,none⟩) L.length L.length) sn)∧Hid (Below w.heap.size w wr)∧w1.heap.size≤wr.heap.size)
 case atStart=>
  have gR:=aN3 x
  refine⟨_,fB x,List.replicate L.length false,rfl,rfl,hid List.length_replicate,by rw[List.count_replicate_self];omega,fun z hz=>CE.out d x HD.out z (rN _ hz),hid ?_,FQ,gI,bY,hz2⟩
  rw[show EJ (List.replicate L.length false)=fun _=>false from funext fun z=>by
   unfold EJ
   rw[dR,List.getElem?_replicate]
   split<;>simp]
  exact mW.start _ _ _
 obtain⟨v,xs,sn,rfl,hm,kW,J8,hrg,iP,hq,tS,hb,L6⟩:=hrel
 have Hm:=hid hm
 have HRx:=hid hrg
 clear hm hrg
 obtain⟨wo,rfl⟩:∃z:World,z=wr:=⟨_,rfl⟩
 have hz:=hb.out.size
 cases xs with
 |nil=>
  have HX:=hid (show q=false by
   rw[HQ.out]
   cases hc:BU (yC L d y) (fB x) s with
   |false=>rfl
   |true=>exact absurd (aEB.1 hc) (iP.out.done (by unfold yC;rw[if_pos (by omega)]) l_))
  obtain⟨Aq,cq,hv,-⟩:=hq.out.form
  subst hv
  go_wp2
  go_ret
  exact⟨aR HX.out.symm,hb.out⟩
 |cons x0 xs=>
  have lL:=hid (show xs.length+1+4*sn.count false≤1000000 from J8)
  have jT:=hid (Hm.out.trans (show (x0::xs).length+4*sn.count false=xs.length+1+4*sn.count false from rfl))
  clear J8 Hm
  obtain⟨gq,off,cap,hv,cB,hgq,hcell⟩:=hq.out.at_ (i:=0) (by simp)
  subst hv
  simp only[Nat.add_zero,List.getD_cons_zero] at hcell
  have AX:=hid (hq.out.cut)
  obtain⟨n,hn⟩:∃n,n=xs.length:=⟨_,rfl⟩
  have hlc:(x0::xs).length=n+1:=by rw[hn];rfl
  rw[hlc] at *
  have Hn:=hid hn
  clear hn hlc
  go_upto_region 6 with fail
  rw[←Hn.out] at AX
  obtain⟨v3,hv3⟩:∃z,z=Value.slice (if cap=1 then some { block:=gq,off:=off } else some { block:=gq,off:=off+1 }) n (cap-1):=⟨_,rfl⟩
  rw[←hv3] at AX ⊢
  clear hv3 hq hcell
  have IE:=hid (fun z (hz:z∈xs)=>HRx.out z (kS _ hz))
  obtain⟨hx1,hx2⟩:=HRx.out x0 (by simp)
  by_cases j0:x0=s
  · have b1:(x0==s)=true:=beq_iff_eq.2 j0
    have HX:=hid (show q=true by rw[HQ.out];subst j0;exact aEB.2 iP.out.found)
    clear j0
    go_wp2
    go_ret
    exact⟨aR HX.out.symm,hb.out⟩
  have b1:(x0==s)=false:=aP j0
  by_cases hx0:x0=-1
  · have b2:(x0==-1)=true:=beq_iff_eq.2 hx0
    have MU:=hid (iP.out.skip (.inl hx0))
    clear j0 hx0
    go_wp2
    go_roundg (n+4*sn.count false)
    case rel=>exact⟨v3,xs,sn,rfl,by rw[Hn.out],kW,by have:=lL.out;omega,IE.out,MU,AX,tS,hb,L6⟩
    rw[jT.out,Hn.out];omega
  have b2:(x0==-1)=false:=aP hx0
  obtain⟨xn,rfl⟩:∃k:Nat,x0=(k:Int):=⟨x0.toNat,by omega⟩
  have O9:xn<L.length:=by omega
  have J1:xn<sn.length:=by rw[kW.out];exact O9
  obtain⟨gs,cs',cl,hv,-,-,qO,-,hCb,a7X,a7P⟩:=cP.at_ tS.out M_ (bX J1)
  injection hv with lR hv2 hv3
  injection lR with lR
  injection lR with lR _ _
  subst lR
  have hcb:=a7X 0 (by decide)
  rw[show cl=[.bool sn[xn]] from hCb] at hcb
  simp only[Nat.mul_one,Nat.add_zero] at hcb
  have fW:=a7P xn
  obtain⟨bb,hbb⟩:∃bb,bb=sn[xn]:=⟨_,rfl⟩
  rw[←hbb] at hcb
  have bZ:sn.getD xn false=bb:=by rw[dR,bX J1,hbb];rfl
  simp only[List.getElem?_cons_zero] at hcb
  clear a7X a7P hCb hv2 hv3 hbb
  cases bb with
  |true=>
   have MU:=hid (iP.out.skip (.inr (show EJ sn (xn:Int)=true by unfold EJ;simp;rw[←dR];exact bZ)))
   clear j0 hx0 bZ
   go_wp2
   go_roundg (n+4*sn.count false)
   case rel=>exact⟨v3,xs,sn,rfl,by rw[Hn.out],kW,by have:=lL.out;omega,IE.out,MU,AX,tS,hb,L6⟩
   rw[jT.out,Hn.out];omega
  |false=>
   obtain⟨r0,hr0⟩:∃r,L[xn]?=some r:=⟨L[xn],bX O9⟩
   have eA:=hid hr0
   have HLq:=hid (fun k hk=>(AX.out.lt k hk:w1.heap.size≤k∧k<wo.heap.size))
   have fG:=hid (show sS (wo.setCell ⟨w.heap.size,xn,none⟩ (.bool true)) w.heap.size (.slice (some ⟨w.heap.size,0,none⟩) L.length L.length) (sn.set xn true) by
    have:=cP.cS (i:=xn) (j:=0) (x':=true) (u:=.bool true) (show cP 4 1 LD wo w.heap.size (.slice (some ⟨w.heap.size,0,none⟩) sn.length L.length) sn by rw[kW.out];exact tS.out) M_ (bX J1) (by decide) (fun cs h=>by rw[show cs=[.bool sn[xn]] from h];rfl)
    rw[kW.out] at this
    simpa only[Nat.mul_one,Nat.add_zero] using this)
   have b7:=hid (hb.out.setCell (p:=⟨w.heap.size,xn,none⟩) (aC _) (.bool true))
   have II:=hid (AX.out.kept (dH wo ⟨w.heap.size,xn,none⟩ (.bool true)) (fun k e=>by cases e;exact fun e2=>by have h1:w1.heap.size≤w.heap.size:=(HLq.out _ e2).1;omega))
   have hz3:w1.heap.size≤(wo.setCell ⟨w.heap.size,xn,none⟩ (.bool true)).heap.size:=by simpa[World.setCell] using L6
   have ZR:=count_set J1 bZ
   have TK:=hid (fun more hm=>iP.out.mark (more:=more) (seen':=EJ (sn.set xn true)) j0 hm (fun z=>bI1 J1 z))
   have HSl:=hid (show (sn.set xn true).length=L.length by rw[List.length_set];exact kW.out)
   go_upto_region 10 with fail
   generalize wo.setCell ⟨w.heap.size,xn,none⟩ (.bool true)=w3 at *
   generalize sn.set xn true=LX at *
   clear hcb fW tS hb iP bZ J1 kW j0 hx0 hr0 AX L6
   have gR:=aN3 r0
   have PB:=a1C r0
   have HC:=hid (aNF g F xn r0 L w3 (H.out.below b7.out) eA.out)
   go_wp2_with fail
   refine HC.out.mono ?_
   rintro e4 w4 ⟨va,vt,rfl,ha,ht,hb4⟩
   have gY:=hb4.size
   have bC:=hid (b7.out.trans (hb4.mono (by omega)))
   have CF:=hid (II.out.below hb4 (aC _))
   have eY:=hid (aF.below fG.out hb4 (aC _))
   have LN:=hid (fun k hk=>(II.out.lt k hk:w1.heap.size≤k∧k<w3.heap.size))
   have nQ:=hid ha
   have tZ:=hid ht
   obtain⟨Aa,ca,rfl,hca,-⟩:=jJ ha
   obtain⟨At2,ct2,rfl,hct2,-⟩:=jJ ht
   have hAr:=hid (jJ ha)
   have KF:=hid (show yC L d y (xn:Int)=(if (xn:Int)=(d:Int)∨BO r0 y=false then fB r0 else [])++lQ r0 by unfold yC;rw[if_neg (by omega)];simp only[Int.toNat_natCast];rw[eA.out])
   have KC:=hid (CE.out xn r0 eA.out)
   have sK:=hid (aYK g F xn r0 y L w4 (H.out.below bC.out) eA.out)
   clear ha ht hb4 HC b7 II fG
   by_cases O_:xn=d
   · have b3:((xn:Int)==(d:Int))=true:=beq_iff_eq.2 (by omega)
     have GH:=hid (show (xn:Int)=(d:Int)∨BO r0 y=false from .inl (by omega))
     clear O_
     have IH:=hid (aW.reads nQ.out (by omega))
     obtain⟨Aa2,ca2,S5,-,-,j1⟩:=IH.out
     injection S5 with aSV aSU aST
     subst aSV aST
     have H7:=hid j1
     clear j1 IH aSU
     obtain⟨q4,mP⟩:∃z,z=fB r0:=⟨_,rfl⟩
     rw[←mP] at H7 gR ⊢
     have W6:=hid mP
     clear mP
     go_wp2_with (at_builtin;go_must (refine M5 _ rfl _ _ 39 rfl w1.heap.size Tryz.underlying39 XY _ xs rfl CF.out _ _ q4 _ rfl H7.out (by have:=lL.out;have:=Hn.out;omega) (by omega) ?_))
     intro v5 w5 aZ aU kR
     obtain⟨eK,oQ⟩:∃z,z=xs++q4:=⟨_,rfl⟩
     have hl5:eK.length≤n+2:=by rw[oQ,bL,←Hn.out];omega
     rw[←oQ] at aZ
     have yF:=hid oQ
     have t_:=hid aZ
     have HT5:=hid (show aW w5 w3.heap.size _ (lQ r0) from fA tZ.out aU (fun k hk hk2=>by have h1:=(LN.out k hk).2;have h2:=(World.ownsRow.lt tZ.out k hk2).1;omega))
     have jC:=hid (aF.kept eY.out aU (fun k hk hk2=>by have h1:=(LN.out k hk).1;simp only[Value.ownBlock,Option.some.injEq] at hk2;omega))
     have a_:=hid (bC.out.grown aU bC.out.size (fun k hk=>by have h1:=(LN.out k hk).1;omega))
     have oC:=aU.size
     clear aZ aU kR oQ CF eY bC tZ
     have IG:=hid (aW.reads HT5.out (by omega))
     obtain⟨At3,ct3,S0,-,-,hrt⟩:=IG.out
     injection S0 with Z8 Z7 Z6
     subst Z8 Z6
     have H6:=hid hrt
     clear hrt IG Z7
     have CW:=hid (fun k hk=>(t_.out.lt k hk:w1.heap.size≤k∧k<w5.heap.size))
     obtain⟨q5,oD⟩:∃z,z=lQ r0:=⟨_,rfl⟩
     rw[←oD] at H6 PB ⊢
     have P2:=hid oD
     clear oD
     go_wp2_with (at_builtin;go_must (refine M5 _ rfl _ _ 39 rfl w1.heap.size Tryz.underlying39 XY _ eK rfl t_.out _ _ q5 _ rfl H6.out (by have:=lL.out;have:=Hn.out;omega) (by omega) ?_))
     intro v6 w6 iC gG EU
     have DZ:=hid iC
     have CC:=hid (aF.kept jC.out gG (fun k hk hk2=>by have h1:=(CW.out k hk).1;simp only[Value.ownBlock,Option.some.injEq] at hk2;omega))
     have fZ:=hid (a_.out.grown gG a_.out.size (fun k hk=>by have h1:=(CW.out k hk).1;omega))
     have mN:=gG.size
     have hl6:(eK++q5).length≤n+3:=by rw[bL];omega
     have rB:=hid (show mW (yC L d y) (fB x) s (eK++q5) (EJ LX) by
      rw[yF.out,P2.out,W6.out,dZ]
      exact TK.out _ (fun z=>by rw[KF.out,if_pos GH.out]))
     have ID:=hid (show ∀z∈eK++q5,-1≤z∧z<(L.length:Int) from fun z hz=>by
      rw[show eK++q5=xs++(fB r0++lQ r0) by rw[yF.out,P2.out,W6.out,dZ]] at hz
      rcases List.mem_append.1 hz with hz|hz
      · exact IE.out z hz
      exact KC.out z hz)
     clear iC gG EU
     go_wp2
     go_roundg ((eK++q5).length+4*LX.count false)
     case rel=>exact⟨v6,eK++q5,LX,rfl,rfl,HSl,by have:=lL.out;have:=Hn.out;omega,ID.out,rB,DZ,CC,fZ,by omega⟩
     rw[jT.out];have:=Hn.out;omega
   have b3:((xn:Int)==(d:Int))=false:=aP (by omega)
   cases qP:BO r0 y with
   |false=>
    have GH:=hid (show (xn:Int)=(d:Int)∨BO r0 y=false from .inr qP)
    rw[qP] at sK
    clear O_ qP
    go_wp2_with fail
    refine sK.out.mono ?_
    rintro e5 w5' ⟨rfl,rfl⟩
    have IH:=hid (aW.reads nQ.out (by omega))
    obtain⟨Aa2,ca2,S5,-,-,j1⟩:=IH.out
    injection S5 with aSV aSU aST
    subst aSV aST
    have H7:=hid j1
    clear j1 IH aSU
    obtain⟨q4,mP⟩:∃z,z=fB r0:=⟨_,rfl⟩
    rw[←mP] at H7 gR ⊢
    have W6:=hid mP
    clear mP
    go_wp2_with (at_builtin;go_must (refine M5 _ rfl _ _ 39 rfl w1.heap.size Tryz.underlying39 XY _ xs rfl CF.out _ _ q4 _ rfl H7.out (by have:=lL.out;have:=Hn.out;omega) (by omega) ?_))
    intro v5 w5 aZ aU kR
    obtain⟨eK,oQ⟩:∃z,z=xs++q4:=⟨_,rfl⟩
    have hl5:eK.length≤n+2:=by rw[oQ,bL,←Hn.out];omega
    rw[←oQ] at aZ
    have yF:=hid oQ
    have t_:=hid aZ
    have HT5:=hid (show aW w5 w3.heap.size _ (lQ r0) from fA tZ.out aU (fun k hk hk2=>by have h1:=(LN.out k hk).2;have h2:=(World.ownsRow.lt tZ.out k hk2).1;omega))
    have jC:=hid (aF.kept eY.out aU (fun k hk hk2=>by have h1:=(LN.out k hk).1;simp only[Value.ownBlock,Option.some.injEq] at hk2;omega))
    have a_:=hid (bC.out.grown aU bC.out.size (fun k hk=>by have h1:=(LN.out k hk).1;omega))
    have oC:=aU.size
    clear aZ aU kR oQ CF eY bC tZ
    have IG:=hid (aW.reads HT5.out (by omega))
    obtain⟨At3,ct3,S0,-,-,hrt⟩:=IG.out
    injection S0 with Z8 Z7 Z6
    subst Z8 Z6
    have H6:=hid hrt
    clear hrt IG Z7
    have CW:=hid (fun k hk=>(t_.out.lt k hk:w1.heap.size≤k∧k<w5.heap.size))
    obtain⟨q5,oD⟩:∃z,z=lQ r0:=⟨_,rfl⟩
    rw[←oD] at H6 PB ⊢
    have P2:=hid oD
    clear oD
    go_wp2_with (at_builtin;go_must (refine M5 _ rfl _ _ 39 rfl w1.heap.size Tryz.underlying39 XY _ eK rfl t_.out _ _ q5 _ rfl H6.out (by have:=lL.out;have:=Hn.out;omega) (by omega) ?_))
    intro v6 w6 iC gG EU
    have DZ:=hid iC
    have CC:=hid (aF.kept jC.out gG (fun k hk hk2=>by have h1:=(CW.out k hk).1;simp only[Value.ownBlock,Option.some.injEq] at hk2;omega))
    have fZ:=hid (a_.out.grown gG a_.out.size (fun k hk=>by have h1:=(CW.out k hk).1;omega))
    have mN:=gG.size
    have hl6:(eK++q5).length≤n+3:=by rw[bL];omega
    have rB:=hid (show mW (yC L d y) (fB x) s (eK++q5) (EJ LX) by
     rw[yF.out,P2.out,W6.out,dZ]
     exact TK.out _ (fun z=>by rw[KF.out,if_pos GH.out]))
    have ID:=hid (show ∀z∈eK++q5,-1≤z∧z<(L.length:Int) from fun z hz=>by
     rw[show eK++q5=xs++(fB r0++lQ r0) by rw[yF.out,P2.out,W6.out,dZ]] at hz
     rcases List.mem_append.1 hz with hz|hz
     · exact IE.out z hz
     exact KC.out z hz)
    clear iC gG EU
    go_wp2
    go_roundg ((eK++q5).length+4*LX.count false)
    case rel=>exact⟨v6,eK++q5,LX,rfl,rfl,HSl,by have:=lL.out;have:=Hn.out;omega,ID.out,rB,DZ,CC,fZ,by omega⟩
    rw[jT.out];have:=Hn.out;omega
   |true=>
    have GH:=hid (show ¬((xn:Int)=(d:Int)∨BO r0 y=false) from fun h=>h.elim (fun h=>by omega) (fun h=>by rw[qP] at h;cases h))
    rw[qP] at sK
    clear O_ qP
    go_wp2_with fail
    refine sK.out.mono ?_
    rintro e5 w5' ⟨rfl,rfl⟩
    obtain⟨eK,oQ⟩:∃z,z=xs++[]:=⟨_,rfl⟩
    have hl5:eK.length≤n+2:=by rw[oQ,bL,←Hn.out];simp
    rw[←List.append_nil xs,←oQ] at CF
    have yF:=hid oQ
    clear oQ
    have IG:=hid (aW.reads tZ.out (by omega))
    obtain⟨At3,ct3,S0,-,-,hrt⟩:=IG.out
    injection S0 with Z8 Z7 Z6
    subst Z8 Z6
    have H6:=hid hrt
    clear hrt IG Z7
    have CW:=hid (fun k hk=>(CF.out.lt k hk:w1.heap.size≤k∧k<w4.heap.size))
    obtain⟨q5,oD⟩:∃z,z=lQ r0:=⟨_,rfl⟩
    rw[←oD] at H6 PB ⊢
    have P2:=hid oD
    clear oD
    go_wp2_with (at_builtin;go_must (refine M5 _ rfl _ _ 39 rfl w1.heap.size Tryz.underlying39 XY _ eK rfl CF.out _ _ q5 _ rfl H6.out (by have:=lL.out;have:=Hn.out;omega) (by omega) ?_))
    intro v6 w6 iC gG EU
    have DZ:=hid iC
    have CC:=hid (aF.kept eY.out gG (fun k hk hk2=>by have h1:=(CW.out k hk).1;simp only[Value.ownBlock,Option.some.injEq] at hk2;omega))
    have fZ:=hid (bC.out.grown gG bC.out.size (fun k hk=>by have h1:=(CW.out k hk).1;omega))
    have mN:=gG.size
    have hl6:(eK++q5).length≤n+3:=by rw[bL];omega
    have rB:=hid (show mW (yC L d y) (fB x) s (eK++q5) (EJ LX) by
     rw[yF.out,P2.out,List.append_nil]
     exact TK.out _ (fun z=>by rw[KF.out,if_neg GH.out,List.nil_append]))
    have ID:=hid (show ∀z∈eK++q5,-1≤z∧z<(L.length:Int) from fun z hz=>by
     rw[show eK++q5=xs++lQ r0 by rw[yF.out,P2.out,List.append_nil]] at hz
     rcases List.mem_append.1 hz with hz|hz
     · exact IE.out z hz
     exact KC.out z (iZ _ hz))
    clear iC gG EU
    go_wp2
    go_roundg ((eK++q5).length+4*LX.count false)
    case rel=>exact⟨v6,eK++q5,LX,rfl,rfl,HSl,by have:=lL.out;have:=Hn.out;omega,ID.out,rB,DZ,CC,fZ,by omega⟩
    rw[jT.out];have:=Hn.out;omega
end
section
open Go.RowKit
open Sl
open Go.Lib (hid)
theorem XV {w:World} {t:TypeId} {u:Value}:Go.Proofs.YtdlndhbkcgmkkaaGreatDoor.Reads (w.alloc (.cells #[u] t)) (w.heap.size+1) 1 (some ⟨w.heap.size,0,none⟩) 1 [u]:=M9 (n:=1) (size:=1) (cs:=#[u]) (aG.new w t #[u]) (Nat.lt_succ_self _) rfl
theorem bIO {W:World} {B g base F:Nat} {pv fv:Value} {clos:Bool} (cN:B≤g) (c:Nat) (hwk:∀c',c'<c→aJX W B g base F pv fv clos c') (cV:∀c',c'<c→aJY W B g base F pv fv clos c'):aJX W B g base F pv fv clos c:=by
 intro l lv fM f0 p r8 dT w0 hc hl hW hgr jR lF MH
 obtain⟨A,cap,rfl,cB⟩:=hl.form
 have HL:=hid hl
 have HK:=hid hwk
 have HI:=hid cV
 have fQ:=hid hW
 have TP:=hid hgr
 have qO:=hgr.size
 have z7:=hgr.low
 have qM:=Fo.k7 l
 have eA:=hid (aF.lt hgr.all)
 have Hbs:=hid jR
 obtain⟨cE,punit,dW,fR,dU,fJ,fK,iG⟩:=p
 dsimp only at *
 clear hl hwk cV hW hgr jR
 go_enter Tryz.func115,Tryz.ntmps115
 go_wp2
 go_loopg [13,14,22] l.len (fun q o h i wr=>∃(k num f:Nat) (av ov hv:Value) (outs:List Nat) (G:List (Px×List Px)),k≤l.len∧q=l.len-k∧ov=o∧hv=h∧i=.int .i64 k∧
  Hid (∀X,recs F l false fM f0 0 (E5 ⟨cE,punit,dW,fR,dU,fJ,fK,iG⟩ X)=EM X G++recs F (Fo.drop k l) false num f k (E5 ⟨cE,punit,dW,fR,dU,fJ,fK,iG⟩ X))∧Hid (Fo.cJ l fM=outs++Fo.cJ (Fo.drop k l) num)∧Hid (dT.length+(gN G).length=num∧outs.length=k∧G.length=k)∧
  Hid (num+(Fo.drop k l).cnt≤100000∧f+(Fo.drop k l).cnt≤100000∧f+Fo.aK (Fo.drop k l) false=f0+Fo.aK l false)∧
  Hid (iD W B g base pv fv clos cE w0 r8.ownBlock dT ov.ownBlock wr av ov hv (gN G) (G.map (·.1.b)) outs (F+f)))
 case atStart=>exact⟨0,fM,f0,r8,.slice none 0 0,.slice none 0 0,[],[],Nat.zero_le _,rfl,rfl,rfl,rfl,hid (fun X=>by rw[Fo.drop];rfl),hid (by rw[Fo.drop];rfl),hid ⟨by simpa[gN] using Hbs.out,rfl,rfl⟩,hid (by rw[Fo.drop];exact⟨lF,MH,rfl⟩),hid ⟨by simpa[gN] using TP.out,World.ownsRow_nil _ _ _ _,aF.nil _ _ rfl rfl,fun x hx=>by (cases hx),fun x hx=>by (cases hx),List.Pairwise.nil,fun k hk=>by (simp[Value.ownBlock] at hk),dA.refl _ _ _,.inl rfl⟩⟩
 obtain⟨k,num,f,av,ov,hv,outs,G,hk,hq,rfl,rfl,rfl,he,hno,hlen,hsz,hwr⟩:=hrel
 have Hq:=hid hq
 clear hq
 obtain⟨wo,rfl⟩:∃x:World,x=wr:=⟨_,rfl⟩
 have hz:=hwr.out.fr.size
 have pD:=hid (fQ.out.trans (hwr.out.fr.toBelow cN (fun j hj=>by have:=(eA.out j hj).1;omega) (by omega)))
 by_cases hlt:k<l.len
 rotate_left
 · have HE:=hid (fun X=>(he.out X).trans (show _=EM X G by rw[show k=l.len by omega,gB,recs,List.append_nil]))
   have HNo:=hid (show Fo.cJ l fM=outs by rw[hno.out,show k=l.len by omega,gB,Fo.cJ,List.append_nil])
   have z_:F+f=F+(f0+Fo.aK l false):=by
    have:=hsz.out.2.2
    rw[show k=l.len by omega,gB,Fo.aK] at this
    omega
   have JI:=hwr.out.free
   rw[z_] at JI
   obtain⟨-,-,DJ⟩:=hlen.out
   obtain⟨U,hU⟩:∃U,U=F+(f0+Fo.aK l false):=⟨_,rfl⟩
   rw[←hU] at JI
   have HU:=hid hU
   have HR:=hid JI
   obtain⟨Ah,ch,nh,hvh,hch,-⟩:=aF.src JI.here
   rw[cL] at hvh hch
   subst hvh
   obtain⟨Ao,co,hvo,-,-,-⟩:=jJ JI.out
   subst hvo
   have hGl:G.length≤100000:=by omega
   clear he hno JI z_ hwr hsz hU hlen DJ
   go_wp2
   go_loopg [100] G.length (fun q i wr=>∃(j:Nat),j≤G.length∧q=G.length-j∧i=.int .i64 j∧Hid (iD W B g base pv fv clos cE w0 r8.ownBlock dT none wr av (.slice Ao (ints outs).length co) (.slice Ah G.length ch) (gN ((G.take j).map (NV outs)++G.drop j)) (G.map (·.1.b)) outs U))
   case atStart=>exact⟨0,Nat.zero_le _,rfl,rfl,hid (by rw[List.take_zero,List.drop_zero];exact HR.out)⟩
   obtain⟨j,hj,hq,rfl,hwr⟩:=hrel
   have MS:=hid hq
   clear hq HR
   obtain⟨wi,rfl⟩:∃x:World,x=wr:=⟨_,rfl⟩
   by_cases lG:j<G.length
   rotate_left
   · have GM:=hwr.out
     rw[List.take_of_length_le (by omega),List.drop_of_length_le (by omega),List.append_nil] at GM
     have FN:=hid GM
     clear GM hwr
     go_wp2
     go_ret
     refine⟨_,rfl,by rw[HNo.out];exact FN.out.out,av,gN (G.map (NV outs)),by rw[←HU.out];exact FN.out.gr,?_,FN.out.dS,FN.out.eQ,FN.out.inc,FN.out.fr,FN.out.row⟩
     rw[a1_,HNo.out]
     exact (HE.out outs).symm
   obtain⟨x,M,SN⟩:∃x M,G[j]?=some (x,M):=⟨_,_,bX lG⟩
   have hdr:G.drop j=(x,M)::G.drop (j+1):=by
    rw[List.drop_eq_getElem_cons lG]
    rw[bX lG] at SN
    injection SN with SN
    rw[SN]
   have E7:G.take (j+1)=G.take j++[(x,M)]:=by
    rw[List.take_add_one,SN]
    rfl
   have hN:gN ((G.take j).map (NV outs)++G.drop j)=gN ((G.take j).map (NV outs))++x::(M++gN (G.drop (j+1))):=by rw[hdr,X0,gN]
   have GM:=hwr.out
   rw[hN] at GM
   have hst:=GM.dS x (iZ _ (List.mem_cons_self ..))
   have J5:=GM.eQ x (iZ _ (List.mem_cons_self ..))
   have OE:=hst.bPZ (l:=outs) GM.out (sT.none_ _)
   have hw2:=GM.cS OE J5 rfl
   have G6:gN ((G.take j).map (NV outs))++(⟨x.b,x.ad,{ x.sm with eP:=outs },x.ef,x.nw⟩:Px)::(M++gN (G.drop (j+1)))=gN ((G.take (j+1)).map (NV outs)++G.drop (j+1)):=by
    rw[E7,List.map_append,dZ,X0]
    rfl
   rw[G6] at hw2
   have hHj:(G.map (·.1.b))[j]?=some x.b:=by rw[lZ,SN];rfl
   obtain⟨gb,c',cs',hv',-,-,-,-,JL,hcell,-⟩:=cP.at_ GM.here aD7 hHj
   rw[cL] at hv'
   injection hv' with hA' _ hC'
   subst hA' hC'
   have q0:=hcell 0 Nat.one_pos
   rw[show cs'=[.pointer (some ⟨x.b,0,none⟩)] from JL,Nat.mul_one,Nat.add_zero] at q0
   have q0':wi.cell? ⟨gb,j,none⟩=some (.pointer (some ⟨x.b,0,none⟩)):=q0
   obtain⟨cs7,dI⟩:=hst.blk
   have f14:=dI.frozen 14
   obtain⟨VV,q14⟩:=hst.cellAt 14 (by decide)
   have kI:=hid hw2
   clear GM hst J5 OE hw2 hN G6 hcell JL dI q0 hwr SN hdr E7 hHj
   go_wp2
   go_roundg (G.length-(j+1))
   case rel=>exact⟨j+1,lG,rfl,by go_num,kI⟩
   rw[MS.out];omega
 obtain⟨a,kk,t,nn,s,ps,b,e,r,sv,l7,bv,ev,rfl,aI,NW⟩:=HL.out.at_ hlt
 have dL:=kN aI
 obtain⟨As,cs,rfl,hcs⟩:=NW.vals.subs.form
 obtain⟨Ab,cb,rfl,hcb⟩:=NW.vals.body.form
 obtain⟨Ae,ce,rfl,hce⟩:=NW.vals.els.form
 have HN:=hid NW.vals
 have hab:(a.add (k*7)).block<B:=by rw[f_];exact NW.lt
 obtain⟨-,-,-,d3,-,d5,d6⟩:=NW.cells
 have HC:=hid (fun (X:World) (hX:Below B W X)=>And.intro ((hX.cell (p:=⟨(a.add (k*7)).block,(a.add (k*7)).off+3,none⟩) hab).trans d3) (And.intro ((hX.cell (p:=⟨(a.add (k*7)).block,(a.add (k*7)).off+5,none⟩) hab).trans d5) ((hX.cell (p:=⟨(a.add (k*7)).block,(a.add (k*7)).off+6,none⟩) hab).trans d6)))
 have jI:=hid (eD aI)
 have U9:=hsz.out
 rw[aI,Fo.cnt,Fo.aK] at U9
 have aRR:=hno.out
 rw[aI,Fo.cJ] at aRR
 have bR7:=hid aRR
 obtain⟨fo,mU,el,kU,ct,nB⟩:=bJB F kk t nn s ps b e r num f k ⟨cE,punit,dW,fR,dU,fJ,fK,iG⟩
 have HE:=hid (fun X=>(he.out X).trans (by rw[aI,nB X]))
 have W_:=hid (show a8N W B (a.add (k*7)) ⟨kk,t,nn,s,ps,b,e⟩ from⟨a,k*7,_,_,_,_,rfl,NW⟩)
 obtain⟨BZ,hl2,DJ⟩:=hlen.out
 have bQK:=Fo.jX s true
 have bQJ:=nU s true
 have bRN:=Fo.jX b false
 have bRM:=nU b false
 have he1l:=Fo.jX e false
 have he2l:=nU e false
 clear aI NW d3 d5 d6 he hsz hno aRR nB hlen
 obtain⟨Aa,ca,rfl,hca⟩:=aOR (num:=num) hwr.out.gr (by rw[bL,cL];exact BZ)
 obtain⟨g0,g1,g2,g3,g4,g5,gf⟩:=I1 hwr.out.gr
 go_upto_region 7 with fail
 go_still_tail 14,(by kernel_rfl)
 change wpList _ _ _ _ _ wo.drew
 clear g0 g1 g2 g3 g4 g5 gf
 go_upto_region 8 with fail
 obtain⟨x0,hx0⟩:∃x:Px,x=⟨wo.heap.size,a.add (k*7),⟨⟨kk,t,nn,s,ps,b,e⟩,cE,punit,dW,fo,dU,mU,el,k,fJ,fK,[],[],[]⟩,MN,true⟩:=⟨_,rfl⟩
 have hWa:=hwr.out.below (((Below.refl wo.heap.size wo).alloc (aC _) (.cells #[.int .i64 (punit:Nat),.int .i64 dW,.slice none 0 0,.string ⟨#[]⟩,.bool false,.bool false,.bool false,.bool false,.slice none 0 0,.bool false,.bool false,.bool false,.pointer (some (a.add (k*7))),.int .i64 (cE:Nat),.slice none 0 0,.int .i64 (k:Nat),.int .i64 fJ,.int .i64 (fK:Nat),.slice none 0 0,.slice none 0 0] 133)).drew)
 have hXa:cF W B ((wo.alloc (.cells #[.int .i64 (punit:Nat),.int .i64 dW,.slice none 0 0,.string ⟨#[]⟩,.bool false,.bool false,.bool false,.bool false,.slice none 0 0,.bool false,.bool false,.bool false,.pointer (some (a.add (k*7))),.int .i64 (cE:Nat),.slice none 0 0,.int .i64 (k:Nat),.int .i64 fJ,.int .i64 (fK:Nat),.slice none 0 0,.slice none 0 0] 133)).drew) w0.heap.size ov.ownBlock x0:=by
  rw[hx0]
  exact⟨⟨.slice none 0 0,.slice none 0 0,.slice none 0 0,.slice none 0 0,.slice none 0 0,aG.new wo 133 #[.int .i64 (punit:Nat),.int .i64 dW,.slice none 0 0,.string ⟨#[]⟩,.bool false,.bool false,.bool false,.bool false,.slice none 0 0,.bool false,.bool false,.bool false,.pointer (some (a.add (k*7))),.int .i64 (cE:Nat),.slice none 0 0,.int .i64 (k:Nat),.int .i64 fJ,.int .i64 (fK:Nat),.slice none 0 0,.slice none 0 0],aF.nil _ _ rfl rfl,World.ownsRow_nil _ _ _ _,World.ownsRow_nil _ _ _ _,World.ownsRow_nil _ _ _ _,World.ownsRow_nil _ _ _ _,fun k _ h=>by (simp[Value.ownBlock] at h),fun k _ h=>by (simp[Value.ownBlock] at h),fun k _ h=>by (simp[Value.ownBlock] at h),fun k _ h=>by (simp[Value.ownBlock] at h),fun _=>⟨rfl,rfl⟩⟩,W_.out,hz⟩
 have hz1:wo.heap.size<((wo.alloc (.cells #[.int .i64 (punit:Nat),.int .i64 dW,.slice none 0 0,.string ⟨#[]⟩,.bool false,.bool false,.bool false,.bool false,.slice none 0 0,.bool false,.bool false,.bool false,.pointer (some (a.add (k*7))),.int .i64 (cE:Nat),.slice none 0 0,.int .i64 (k:Nat),.int .i64 fJ,.int .i64 (fK:Nat),.slice none 0 0,.slice none 0 0] 133)).drew).heap.size:=by simp
 have VF:x0.b=wo.heap.size:=by rw[hx0]
 have aS4:=hid (show x0.ef=MN∧x0.nw=true by rw[hx0];exact⟨rfl,rfl⟩)
 have bSC:=hid (show x0.sm=⟨⟨kk,t,nn,s,ps,b,e⟩,cE,punit,dW,fo,dU,mU,el,k,fJ,fK,[],[],[]⟩ by rw[hx0])
 have bSN:=hid (show ∀y∈gN G,y.b<x0.b from fun y hy=>by rw[VF];exact (hwr.out.dS y hy).lt)
 generalize (wo.alloc (.cells #[.int .i64 (punit:Nat),.int .i64 dW,.slice none 0 0,.string ⟨#[]⟩,.bool false,.bool false,.bool false,.bool false,.slice none 0 0,.bool false,.bool false,.bool false,.pointer (some (a.add (k*7))),.int .i64 (cE:Nat),.slice none 0 0,.int .i64 (k:Nat),.int .i64 fJ,.int .i64 (fK:Nat),.slice none 0 0,.slice none 0 0] 133)).drew=w1 at *
 have eR:=hid hWa
 have FL:=hid hXa
 clear hWa hXa hx0 hwr pD W_
 obtain⟨-,g1,-,-,-,-,gf⟩:=I1 eR.out.gr
 have dG:=hid ((Below.refl w1.heap.size w1).alloc (aC _) (.cells #[.pointer (some ⟨wo.heap.size,0,none⟩)] 130))
 have TD:=hid (eR.out.below dG.out)
 have HXb:=hid (FL.out.below dG.out)
 have VI:(dT++(gN G).map (·.b)).length≤999999999:=by rw[bL,cL];omega
 have lH:base≤(w1.alloc (.cells #[.pointer (some ⟨wo.heap.size,0,none⟩)] 130)).heap.size:=TD.out.gr.size
 clear gf eR FL dG
 go_wp2_with (at_builtin;go_must (refine aDL a1Q rfl _ _ 127 rfl base Tryz.underlying127 a17 (by decide) _ (dT++(gN G).map (·.b)) rfl TD.out.gr.all _ _ 1 _ [wo.heap.size] _ rfl rfl XV (gC.F_ rfl) (Nat.succ_le_succ VI) (by decide) lH ?_))
 intro v2 w2 tU hg2 CT
 rw[←VF,←dZ] at tU
 have hWc:=TD.out.bMG HXb.out aS4.out bSN.out tU hg2 (by simpa using CT)
 obtain⟨A2,c2,hv2,-⟩:∃A c,v2=.slice A (num+1) c∧num+1≤c:=by
  obtain⟨A2,c2,n2,h2,h3,-⟩:=aF.src tU
  have h4:((dT++(gN G).map (·.b))++[x0.b]).length=num+1:=by rw[bL,bL,cL,BZ];rfl
  rw[h4] at h2 h3
  exact⟨A2,c2,h2,h3⟩
 subst hv2
 have hbg:aG w2 g 129 _:=TD.out.gr.blk.grown hg2 (fun e=>aF.ne TD.out.gr.all TD.out.gr.blk (by decide) e.symm)
 have f1:=hbg.frozen 1
 have q1:w2.cell? ⟨g,1,none⟩=some (.slice Aa num ca):=hbg.cell 1
 have HWc:=hid hWc
 clear hWc tU hg2 CT hbg TD HXb VI lH g1
 go_upto_region 9 with fail
 clear f1 q1
 generalize w2.setCell ⟨g,1,none⟩ (.slice A2 (num+1) c2)=w3 at *
 have hz3:w0.heap.size≤w3.heap.size:=HWc.out.fr.size
 have a9F:=hid ((Below.refl w3.heap.size w3).alloc (aC _) (.cells #[.int .i64 (num:Nat)] 3))
 have HWd:=hid (HWc.out.below a9F.out)
 have PT:(ints outs).length≤1000000000:=by unfold ints;rw[cL];omega
 have OD:w0.heap.size≤(w3.alloc (.cells #[.int .i64 (num:Nat)] 3)).heap.size:=HWd.out.fr.size
 clear HWc a9F
 go_wp2_with (at_builtin;go_must (refine aMI rfl _ _ rfl w0.heap.size _ (ints outs) (num:Nat) rfl HWd.out.out _ _ _ rfl XV PT OD ?_))
 intro v4 w4 iO hg4 LI
 have HWe:=hid (HWd.out.bMF (outs':=outs++[num]) (by unfold ints at iO ⊢;rw[List.map_append];exact iO) hg4 (by simpa using LI))
 clear iO hg4 LI HWd PT OD
 have a9E:=hid ((Below.refl w4.heap.size w4).alloc (aC _) (.cells #[.pointer (some ⟨wo.heap.size,0,none⟩)] 130))
 have HWf:=hid (HWe.out.below a9E.out)
 have hLh:(G.map (·.1.b)).length+1≤1000000000:=by rw[cL];omega
 have a6R:w0.heap.size≤(w4.alloc (.cells #[.pointer (some ⟨wo.heap.size,0,none⟩)] 130)).heap.size:=HWf.out.fr.size
 clear HWe a9E
 go_wp2_with (at_builtin;go_must (refine aDL a1Q rfl _ _ 127 rfl w0.heap.size Tryz.underlying127 a17 (by decide) hv (G.map (·.1.b)) rfl HWf.out.here _ _ 1 _ [wo.heap.size] _ rfl rfl XV (gC.F_ rfl) hLh (by decide) a6R ?_))
 intro v5 w5 aZ aU kR
 rw[←VF] at aZ
 have HWg:=hid (HWf.out.bK3 aZ aU (by simpa using kR))
 clear aZ aU kR HWf hLh a6R
 go_upto_region 10 with fail
 have oC:=HWg.out.fr.size
 have aSL:=hid (fQ.out.trans (HWg.out.fr.toBelow cN (fun j hj=>by have:=(eA.out j hj).1;omega) (by omega)))
 obtain⟨c3,-,-⟩:=HC.out w5 aSL.out
 have FR:=hid (HI.out s.cnt (by omega) s (.slice As s.len cs) (num+1) f 0 ⟨cE,punit,(num:Nat),-1,-1,-1,0,[]⟩ (.slice A2 (num+1) c2) (dT++(gN G++[x0]).map (·.b)) w5 (aC _) HN.out.subs aSL.out HWg.out.gr (by rw[bL,cL,bL,List.length_singleton];omega) (by omega) (by omega))
 clear aSL
 go_wp2_with fail
 refine FR.out.mono ?_
 rintro e6 w6 ⟨rfl,av6,N1,gG,hN6,eX,he6,hi6,hf6,hr6⟩
 have W9:=hid (HWg.out.call (.inr rfl) gG eX he6 hi6 hf6 hr6)
 have aJS:N1.length=Fo.aD s true:=by rw[←eU F s true (num+1) f 0 ⟨cE,punit,(num:Nat),-1,-1,-1,0,[]⟩,←hN6,cL]
 have KG:=hid hN6
 clear FR HWg gG hN6 eX he6 hi6 hf6 hr6 c3
 have mN:=W9.out.fr.size
 have aSK:=hid (fQ.out.trans (W9.out.fr.toBelow cN (fun j hj=>by have:=(eA.out j hj).1;omega) (by omega)))
 obtain⟨-,c5,-⟩:=HC.out w6 aSK.out
 have HC6:=hid (HK.out b.cnt (by omega) b (.slice Ab b.len cb) (num+1+Fo.aD s true) (f+Fo.aK s true) ⟨cE,punit,(num:Nat),kU,ct,(num:Nat),1,[]⟩ av6 (dT++(gN G++[x0]++N1).map (·.b)) w6 (aC _) HN.out.body aSK.out W9.out.gr (by rw[bL,cL,bL,bL,List.length_singleton];omega) (by omega) (by omega))
 clear aSK
 go_wp2_with fail
 refine HC6.out.mono ?_
 rintro e7 w7 ⟨v7,rfl,hn7,av7,N2,eM,hN7,J2,he7,hi7,hf7,hr7⟩
 have hW7:=W9.out.call (.inr rfl) eM J2 he7 hi7 hf7 hr7
 have aSG:N2.length=Fo.aD b false:=by rw[←eU F b false (num+1+Fo.aD s true) (f+Fo.aK s true) 0 (E5 ⟨cE,punit,(num:Nat),kU,ct,(num:Nat),1,[]⟩ (Fo.cJ b (num+1+Fo.aD s true))),←hN7,cL]
 have HN2:=hid hN7
 rw[show gN G++[x0]++N1++N2=gN G++x0::(N1++N2) by simp] at hW7
 have aJF:=hW7.dS x0 (iZ _ (List.mem_cons_self ..))
 obtain⟨A7,c7,hv7,-,-,-⟩:=jJ hn7
 subst hv7
 obtain⟨x1,hx1⟩:∃x:Px,x=⟨x0.b,x0.ad,{ x0.sm with bl:=Fo.cJ b (num+1+Fo.aD s true) },x0.ef,x0.nw⟩:=⟨_,rfl⟩
 have aRJ:=cF.lA (l:=Fo.cJ b (num+1+Fo.aD s true)) aJF (uH hn7 mN) (aW.JG hn7 fun k hk=>.inl (World.ownsRow.lt W9.out.out k hk).2)
 rw[←hx1] at aRJ
 have hW8:=hW7.cS aRJ (by rw[hx1];exact aS4.out) (by rw[hx1])
 obtain⟨cs7,dI⟩:=aJF.blk
 rw[VF] at dI hW8
 have aSC:x1.b=wo.heap.size:=by rw[hx1];exact VF
 have bSB:=hid (show x1.ef=MN∧x1.nw=true by rw[hx1];exact aS4.out)
 have bSA:=hid (show x1.sm={ x0.sm with bl:=Fo.cJ b (num+1+Fo.aD s true) } by rw[hx1])
 have f18:=dI.frozen 18
 obtain⟨u18,q18⟩:=aJF.cellAt 18 (by decide)
 rw[VF] at q18
 have W8:=hid hW8
 clear HC6 W9 eM hN7 J2 he7 hi7 hf7 hr7 hW7 aJF aRJ hW8 dI hn7 hx1 c5
 go_upto_region 12 with fail
 generalize w7.setCell ⟨wo.heap.size,18,none⟩ (.slice A7 (ints (Fo.cJ b (num+1+Fo.aD s true))).length c7)=w8 at *
 clear f18 q18
 have hz8:=W8.out.fr.size
 have aSJ:=hid (fQ.out.trans (W8.out.fr.toBelow cN (fun j hj=>by have:=(eA.out j hj).1;omega) (by omega)))
 obtain⟨-,-,c6⟩:=HC.out w8 aSJ.out
 have HC8:=hid (HK.out e.cnt (by omega) e (.slice Ae e.len ce) (num+1+Fo.aD s true+Fo.aD b false) (f+Fo.aK s true+Fo.aK b false) ⟨cE,punit,(num:Nat),fo,dU,(num:Nat),2,[]⟩ av7 (dT++(gN G++x1::(N1++N2)).map (·.b)) w8 (aC _) HN.out.els aSJ.out W8.out.gr (by rw[bL,cL,bL,List.length_cons,bL];omega) (by omega) (by omega))
 clear aSJ
 go_wp2_with fail
 refine HC8.out.mono ?_
 rintro e9 w9 ⟨v9,rfl,hn9,av9,N3,hg9,hN9,hs9,he9,hi9,hf9,hr9⟩
 have hW9:=W8.out.call (.inr rfl) hg9 hs9 he9 hi9 hf9 hr9
 have bRZ:N3.length=Fo.aD e false:=by rw[←eU F e false (num+1+Fo.aD s true+Fo.aD b false) (f+Fo.aK s true+Fo.aK b false) 0 (E5 ⟨cE,punit,(num:Nat),fo,dU,(num:Nat),2,[]⟩ (Fo.cJ e (num+1+Fo.aD s true+Fo.aD b false))),←hN9,cL]
 have MV:=hid hN9
 rw[show gN G++x1::(N1++N2)++N3=gN G++x1::(N1++N2++N3) by simp] at hW9
 have aJE:=hW9.dS x1 (iZ _ (List.mem_cons_self ..))
 obtain⟨A9,c9,R6,-,-,-⟩:=jJ hn9
 subst R6
 obtain⟨x2,hx2⟩:∃x:Px,x=⟨x1.b,x1.ad,{ x1.sm with ol:=Fo.cJ e (num+1+Fo.aD s true+Fo.aD b false) },x1.ef,x1.nw⟩:=⟨_,rfl⟩
 have aP4:=cF.bPY (l:=Fo.cJ e (num+1+Fo.aD s true+Fo.aD b false)) aJE (uH hn9 hz8) (aW.JG hn9 fun k hk=>.inl (World.ownsRow.lt W8.out.out k hk).2)
 rw[←hx2] at aP4
 have aSD:=hW9.cS aP4 (by rw[hx2];exact bSB.out) (by rw[hx2])
 obtain⟨cs9,pC⟩:=aJE.blk
 rw[aSC] at pC aSD
 have bRU:x2.b=wo.heap.size:=by rw[hx2];exact aSC
 have bR_:=hid (show x2.sm={ x1.sm with ol:=Fo.cJ e (num+1+Fo.aD s true+Fo.aD b false) } by rw[hx2])
 have f19:=pC.frozen 19
 obtain⟨RJ,q19⟩:=aJE.cellAt 19 (by decide)
 rw[aSC] at q19
 have a8T:=hid aSD
 clear HC8 W8 hg9 hN9 hs9 he9 hi9 hf9 hr9 hW9 aJE aP4 aSD pC hn9 hx2 c6
 go_upto_region 13 with fail
 generalize w9.setCell ⟨wo.heap.size,19,none⟩ (.slice A9 (ints (Fo.cJ e (num+1+Fo.aD s true+Fo.aD b false))).length c9)=tC at *
 clear f19 q19
 have HE4:=hid (fun X=>(HE.out X).trans (show _=EM X (G++[(x2,N1++N2++N3)])++recs F (Fo.drop (k+1) l) false (num+1+Fo.aD s true+Fo.aD b false+Fo.aD e false) (f+Fo.aK s true+Fo.aK b false+Fo.aK e false) (k+1) (E5 ⟨cE,punit,dW,fR,dU,fJ,fK,iG⟩ X) by
  rw[jI.out,a0T,EM,EM,bR_.out,bSA.out,bSC.out,List.map_append,List.map_append,KG.out,HN2.out,MV.out]
  simp[E5]))
 have bSM:=hid (show Fo.cJ l fM=(outs++[num])++Fo.cJ (Fo.drop (k+1) l) (num+1+Fo.aD s true+Fo.aD b false+Fo.aD e false) by
  rw[bR7.out,jI.out,dZ,show num+(1+Fo.aD s true+Fo.aD b false+Fo.aD e false)=num+1+Fo.aD s true+Fo.aD b false+Fo.aD e false by omega]
  rfl)
 have bSD:=hid (show iD W B g base pv fv clos cE w0 r8.ownBlock dT v4.ownBlock tC av9 v4 v5 (gN (G++[(x2,N1++N2++N3)])) ((G++[(x2,N1++N2++N3)]).map (·.1.b)) (outs++[num]) (F+(f+Fo.aK s true+Fo.aK b false+Fo.aK e false)) by
  rw[X0,show gN [(x2,N1++N2++N3)]=x2::(N1++N2++N3) by simp[gN],List.map_append,show [(x2,N1++N2++N3)].map (fun x=>x.1.b)=[wo.heap.size] by simp[bRU]]
  exact a8T.out)
 have bQ0:(gN (G++[(x2,N1++N2++N3)])).length=(gN G).length+1+Fo.aD s true+Fo.aD b false+Fo.aD e false:=by
  rw[X0,bL]
  simp[gN,aJS,aSG,bRZ]
  omega
 clear HE a8T
 go_wp2
 go_roundg (l.len-(k+1))
 case rel=>exact⟨k+1,num+1+Fo.aD s true+Fo.aD b false+Fo.aD e false,f+Fo.aK s true+Fo.aK b false+Fo.aK e false,av9,v4,v5,outs++[num],G++[(x2,N1++N2++N3)],hlt,rfl,rfl,rfl,by go_num,HE4,bSM,hid ⟨by rw[bQ0];omega,by rw[bL,hl2];rfl,by rw[bL,DJ];rfl⟩,hid (by rw[jI.out];omega),bSD⟩
 rw[Hq.out];omega
theorem bKR {W:World} {B g base F:Nat} {pv fv:Value} {clos:Bool} (cN:B≤g) (hF:F≤100000):∀c,aJX W B g base F pv fv clos c∧aJY W B g base F pv fv clos c:=fun c=>by
 induction c using Nat.strongRecOn with
 |ind c ih=>exact⟨bIO cN c (fun d h=>(ih d h).1) (fun d h=>(ih d h).2),bGH cN hF c (fun d h=>(ih d h).1) (fun d h=>(ih d h).2)⟩
end
end Go.Proofs.YtdlndhbkcgmkkaaGreatDoor
