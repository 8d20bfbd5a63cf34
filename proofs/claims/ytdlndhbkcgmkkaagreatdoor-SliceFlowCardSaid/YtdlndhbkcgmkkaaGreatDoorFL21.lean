/-
 Part 21 of 35 of a proof about the given program: facts on which the last part stands.
-/
import Derived.Test.YtdlndhbkcgmkkaaGreatDoorFL20
import Derived.Deep.RegionHeld
set_option maxHeartbeats 12800000
set_option linter.unusedVariables false
set_option linter.unusedSimpArgs false
set_option maxRecDepth 100000
namespace Go.Proofs.YtdlndhbkcgmkkaaGreatDoor
section
namespace Sl
open Fo
def sQ (ix:aA→Int) (e:Ef) (h:Nat×aA):Ef:=
 if h.1=8 then { e with loads:=true } else if h.1=11 then { e with inputs:=true } else if h.1=12 then { e with aIF:=true } else if h.1=6 then { e with NI:=true } else if h.1=5 then { e with calls:=e.calls++[ix h.2] } else e
def eQ (ix:aA→Int) (hs:List (Nat×aA)) (e:Ef):Ef:=hs.foldl (sQ ix) e
theorem bM_ (ix:aA→Int) (e:Ef):eQ ix [] e=e:=rfl
theorem a2B (ix:aA→Int) (h:Nat×aA) (hs:List (Nat×aA)) (e:Ef):eQ ix (h::hs) e=eQ ix hs (sQ ix e h):=rfl
theorem bNA (ix:aA→Int) (a b:List (Nat×aA)) (e:Ef):eQ ix (a++b) e=eQ ix b (eQ ix a e):=List.foldl_append
def anyK (hs:List (Nat×aA)) (k:Nat):Bool:=hs.any fun y=>decide (y.1=k)
theorem aPH (ix:aA→Int):∀(hs:List (Nat×aA)) (e:Ef),eQ ix hs e=⟨e.reads,e.sets,e.loads||anyK hs 8,e.stores,e.inputs||anyK hs 11,e.aIF||anyK hs 12,e.calls++(hs.filter fun h=>decide (h.1=5)).map fun h=>ix h.2,e.NI||anyK hs 6,e.jumps,e.cW⟩
 | [],e=>by simp[eQ,anyK]
 |h::hs,e=>by
   rw[a2B,aPH ix hs]
   obtain⟨k,t⟩:=h
   unfold sQ anyK
   by_cases h8:k=8
   · subst h8;simp
   by_cases h11:k=11
   · subst h11;simp
   by_cases PZ:k=12
   · subst PZ;simp
   by_cases h6:k=6
   · subst h6;simp
   by_cases h5:k=5
   · subst h5;simp
   simp[h8,h11,PZ,h6,h5]
theorem aXX (ix:aA→Int) (hs:List (Nat×aA)) (e:Ef):(eQ ix hs e).calls.length≤e.calls.length+hs.length:=by
 rw[aPH]
 simp only[bL,cL]
 have:=List.length_filter_le (fun h:Nat×aA=>decide (h.1=5)) hs
 omega
theorem bFX {ix:aA→Int} {l:Fo} {i k:Nat} {t:aA} {n:Int} {s:Fo} {ps:List aA} {b e r:Fo} (h:Fo.drop i l=.cons k t n s ps b e r) (E:Ef):
 eQ ix (heads (own (Fo.drop i l))) E=eQ ix (heads (own (Fo.drop (i+1) l))) (eQ ix (heads (own s)) (sQ ix E (k,t))):=by
 rw[eD h,h,own,heads,aNJ,a2B,bNA]
def mC (p:List Fc) (nd:Nd):Ef:=
 ⟨NG nd,if nd.k=14∨nd.k=15∨nd.k=21 then nd.t else ByteArray.empty,anyK (heads (own nd.s)) 8,decide (nd.k=16),anyK (heads (own nd.s)) 11,anyK (heads (own nd.s)) 12,NS (aIG p (heads (own nd.s))),anyK (heads (own nd.s)) 6,decide (nd.k=19∨nd.k=20),false⟩
end Sl
end
section
open Go.RowKit
open Sl
open Go.Lib (hid)
structure dB (base b:Nat) (w w':World):Prop where
 os:w'.os=w.os
 tape:w'.tape=w.tape
 output:w'.output=w.output
 size:w.heap.size≤w'.heap.size
 block:∀k,k<base→k≠b→w'.heap[k]?=w.heap[k]?
section
variable {base b:Nat} {a w w':World}
theorem dB.refl (base b:Nat) (w:World):dB base b w w:=⟨rfl,rfl,rfl,aC _,fun _ _ _=>rfl⟩
theorem dB.trans (h:dB base b a w) (k:dB base b w w'):dB base b a w':=⟨k.os.trans h.os,k.tape.trans h.tape,k.output.trans h.output,Nat.le_trans h.size k.size,fun i h1 h2=>(k.block i h1 h2).trans (h.block i h1 h2)⟩
theorem dB.below (h:dB base b a w) (k:Below base w w'):dB base b a w':=h.trans ⟨k.os,k.tape,k.output,k.size,fun i h1 _=>k.block i h1⟩
theorem dB.grown {row:Option Nat} (h:dB base b a w) (k:w.grownBy w' row) (hs:base≤w.heap.size) (hr:∀j,row=some j→base≤j):dB base b a w':=h.below ((Below.refl base w).grown k hs hr)
theorem dB.lA (h:dB base b a w) (j:Nat) (u:Value):dB base b a (w.setCell ⟨b,j,none⟩ u):=h.trans ⟨rfl,rfl,rfl,by simp[World.setCell],fun i _ h2=>Below.heap_setCell _ _ _ _ h2⟩
theorem dB.to {B:Nat} (h:dB base b a w) (hb:B≤b) (hB:B≤base):Below B a w:=⟨h.os,h.tape,h.output,h.size,fun i hi=>h.block i (by omega) (by omega)⟩
theorem dB.cell {p:Addr} (h:dB base b a w) (hp:p.block<base) (hn:p.block≠b):w.cell? p=a.cell? p:=by
 have:=h.block p.block hp hn
 simp only[World.cell?,this]
theorem dB.grownBy (h:dB a.heap.size b a w):a.grownBy w (some b):=⟨h.os,h.tape,h.output,h.size,fun i h1 h2=>h.block i h1 (fun e=>h2 (by rw[e]))⟩
end
structure qW (base:Nat) (x:Px) (rv lv bv ov:Value) (w:World) (cv:Value) (ef:Ef):Prop where
 blk:aG w x.b 133 (FW ⟨x.b,x.ad,x.sm,ef,x.nw⟩ rv cv lv bv ov)
 calls:aW w base cv ef.calls
 low:x.b<base
 size:base≤w.heap.size
section
variable {base:Nat} {x:Px} {rv lv bv ov cv:Value} {w w':World} {ef:Ef}
theorem qW.below (h:qW base x rv lv bv ov w cv ef) (hb:Below w.heap.size w w'):qW base x rv lv bv ov w' cv ef:=⟨h.blk.below hb h.blk.lt,gW h.calls hb (aC _),h.low,Nat.le_trans h.size hb.size⟩
theorem qW.cS (h:qW base x rv lv bv ov w cv ef) {j:Nat} {u:Value} {ef':Ef} (he:(FW ⟨x.b,x.ad,x.sm,ef,x.nw⟩ rv cv lv bv ov).setIfInBounds j u=FW ⟨x.b,x.ad,x.sm,ef',x.nw⟩ rv cv lv bv ov) (hc:ef'.calls=ef.calls):qW base x rv lv bv ov (w.setCell ⟨x.b,j,none⟩ u) cv ef':=
 ⟨he▸h.blk.cS j u,by rw[hc];exact fA h.calls (dH w _ u) (fun k e=>by cases e;exact eB h.calls h.blk (by decide)),h.low,by simpa[World.setCell] using h.size⟩
theorem qW.push {gH:Value} {l:List Int} (h:qW base x rv lv bv ov w cv ef) (hc:aW w' base gH l) (hg:w.grownBy w' cv.ownBlock):qW base x rv lv bv ov (w'.setCell ⟨x.b,8,none⟩ gH) gH { ef with calls:=l }:=by
 have hb:aG w' x.b 133 _:=h.blk.grown hg (fun e=>eB h.calls h.blk (by decide) e.symm)
 exact⟨hb.cS 8 gH,fA hc (dH w' _ gH) (fun k e=>by cases e;exact eB hc hb (by decide)),h.low,by simpa[World.setCell] using Nat.le_trans h.size hg.size⟩
end
theorem aDS {w w':World} {row:Option Nat} {p:Addr} (h:w.grownBy w' row) (hp:p.block<w.heap.size) (hn:some p.block≠row):w'.cell? p=w.cell? p:=by
 have:=h.block p.block hp hn
 simp only[World.cell?,this]
theorem aNI:∀l:Fo,(Fo.heads l).length=l.len
 |.nil=>rfl
 |.cons _ _ _ _ _ _ _ r=>by rw[Fo.heads,List.length_cons,aNI r,Fo.len]
theorem aNR {w:World} {o:Oper} {a:Act} {K:Act→World→Prop} {Q:Exit→Act→World→Prop} (s x:Operand)
 (ho:o.op=.call { callee:=.builtin .append,args:=#[s,x],argTypes:=#[39,39] })
 (base:Nat) (v:Value) (l:List Int) (y:Int) (hs:a.eval s=v) (hown:aW w base v l)
 (B:Nat) (A:Option Addr) (c:Nat) (hx:a.eval x=.slice A 1 c) (hr:Go.Proofs.YtdlndhbkcgmkkaaGreatDoor.Reads w B 1 A 1 [.int .i64 y])
 (hlen:l.length≤1000000000) (hbase:base≤w.heap.size)
 (h:∀v' w',aW w' base v' (l++[y])→w.grownBy w' v.ownBlock→(v'.ownBlock=v.ownBlock∨v'.ownBlock=some w.heap.size)→K (a.put o.dst v') w'):Oper.wp Tryz.prog o a w K Q:=by
 obtain⟨i,kD,hz0,hsz,hby⟩:=info_parts a0P
 refine aDI w s x 39 ho base 3 i _ 1 8 Tryz.underlying39 kD hz0 hsz hby rfl (by decide) v l.length _ hs hown B A 1 c _ hx hr (by simp[Value.oneCell']) (by unfold maxLen;omega) (by omega) hbase (fun v' w' h3 h4 h5=>h v' w' ?_ h4 h5)
 unfold aW
 simpa using h3
theorem bMK (W:World) (B g base:Nat) (x:Px) (rv lv bv ov pv:Value) (p:List Fc) (hB:B≤x.b) (hgb:g<base) (hgx:g≠x.b) (WE:eO W B pv p) (hN:p.length≤1000000):∀(c:Nat) (l:Fo) (v:Value) (ef:Ef) (cv:Value) (w:World),
 l.cnt≤c→cM W B v l→Below B W w→w.cell? ⟨g,0,none⟩=some pv→qW base x rv lv bv ov w cv ef→ef.calls.length+l.cnt≤100000000→
 Calls Tryz.prog 163 #[.pointer (some ⟨g,0,none⟩),v,.pointer (some ⟨x.b,0,none⟩)] w fun e w'=>e=.returned (.tuple #[])∧∃gH,qW base x rv lv bv ov w' gH (eQ (fun t=>dQ (fun f:Fc=>decide (f.name=t)) p 0) (Fo.heads (Fo.own l)) ef)∧dB base x.b w w':=fun c=>by
 obtain⟨ix,MF⟩:∃ix:aA→Int,ix=fun t=>dQ (fun f:Fc=>decide (f.name=t)) p 0:=⟨_,rfl⟩
 rw[←MF]
 have HIx:=hid MF
 obtain⟨XJ,WS,rfl,hcfn⟩:=WE.form
 have HFu:=hid WE
 clear MF WE
 induction c using Nat.strongRecOn with
 |ind c ih=>
 intro l v ef cv w hc hl hW hg pA cC
 obtain⟨A,cap,rfl,cB⟩:=hl.form
 have HL:=hid hl
 have HI:=hid ih
 have HW:=hid hW
 have HG:=hid hg
 have HO:=hid pA
 have kQ:=pA.low
 have hsz:=pA.size
 have qM:=Fo.k7 l
 clear hl ih hW hg pA
 go_enter Tryz.func163,Tryz.ntmps163
 go_wp2
 go_loopg [10] l.len (fun q i wr=>∃(k:Nat) (E:Ef) (cu:Value),k≤l.len∧q=l.len-k∧i=.int .i64 k∧Hid (eQ ix (Fo.heads (Fo.own l)) ef=eQ ix (Fo.heads (Fo.own (Fo.drop k l))) E)∧Hid (E.calls.length+(Fo.drop k l).cnt≤100000000)∧Hid (qW base x rv lv bv ov wr cu E)∧Hid (dB base x.b w wr))
 case atStart=>exact⟨0,ef,cv,Nat.zero_le _,rfl,rfl,hid (by rw[Fo.drop]),hid (by rw[Fo.drop];exact cC),HO,hid (dB.refl _ _ _)⟩
 obtain⟨k,E,cu,hk,hq,rfl,he,JM,pA,hb⟩:=hrel
 have Hq:=hid hq
 clear hq
 obtain⟨wo,rfl⟩:∃z:World,z=wr:=⟨_,rfl⟩
 have jP:=pA.out.size
 have pD:=hid (HW.out.trans (hb.out.to hB (by omega)))
 by_cases hlt:k<l.len
 rotate_left
 · have HE:=hid (show eQ ix (Fo.heads (Fo.own l)) ef=E by rw[he.out,show k=l.len by omega,gB,Fo.own,Fo.heads,bM_])
   clear he
   go_wp2
   go_end0
   exact⟨rfl,cu,by rw[HE.out];exact pA.out,hb.out⟩
 obtain⟨a,kk,t,nn,s,ps,b,e,r,sv,l7,mD,ev,rfl,aI,hno⟩:=HL.out.at_ hlt
 have dL:=kN aI
 obtain⟨As,cs,rfl,hcs⟩:=hno.vals.subs.form
 obtain⟨Ab,cb,rfl,hcb⟩:=hno.vals.body.form
 obtain⟨Ae,ce,rfl,hce⟩:=hno.vals.els.form
 have HN:=hid hno.vals
 obtain⟨Ap,cp,rfl,kX,-⟩:=hno.vals.aX
 obtain⟨x0,x1,x2,x3,x4,x5,x6⟩:=hno.cells
 have hab:(a.add (k*7)).block<B:=by rw[f_];exact hno.lt
 have c0:=(pD.out.cell hab).trans x0
 have c1:=(pD.out.cell (p:=⟨(a.add (k*7)).block,(a.add (k*7)).off+1,none⟩) hab).trans x1
 have c2:=(pD.out.cell (p:=⟨(a.add (k*7)).block,(a.add (k*7)).off+2,none⟩) hab).trans x2
 have c3:=(pD.out.cell (p:=⟨(a.add (k*7)).block,(a.add (k*7)).off+3,none⟩) hab).trans x3
 have c4:=(pD.out.cell (p:=⟨(a.add (k*7)).block,(a.add (k*7)).off+4,none⟩) hab).trans x4
 have c5:=(pD.out.cell (p:=⟨(a.add (k*7)).block,(a.add (k*7)).off+5,none⟩) hab).trans x5
 have c6:=(pD.out.cell (p:=⟨(a.add (k*7)).block,(a.add (k*7)).off+6,none⟩) hab).trans x6
 have HE:=hid (he.out.trans (bFX aI E))
 have bRD:=JM.out
 rw[aI,Fo.cnt] at bRD
 have hDr:=eD aI
 have nB:(Fo.drop (k+1) l).cnt=r.cnt:=by rw[hDr]
 obtain⟨NC,hNC⟩:∃z:Array Value,z=#[.int .u8 kk,.string t,.int .i64 nn,.slice As s.len cs,.slice Ap ps.length cp,.slice Ab b.len cb,.slice Ae e.len ce]:=⟨_,rfl⟩
 have pL:=hid ((Below.refl wo.heap.size wo).alloc (aC _) (.cells NC 69))
 have dV:=hid (pA.out.below pL.out)
 have FL:=hid (hb.out.below (pL.out.mono jP))
 have eR:=hid (pD.out.trans (pL.out.mono (by omega)))
 have XA:=hid (aG.new wo 69 NC)
 have HGa:=hid ((FL.out.cell (p:=⟨g,0,none⟩) hgb hgx).trans HG.out)
 rw[hNC] at pL dV FL eR XA HGa
 have O8:wo.heap.size<(wo.alloc (.cells #[.int .u8 kk,.string t,.int .i64 nn,.slice As s.len cs,.slice Ap ps.length cp,.slice Ab b.len cb,.slice Ae e.len ce] 69)).heap.size:=by simp
 clear aI hno x0 x1 x2 x3 x4 x5 x6 he JM pA hb pD hNC hDr
 go_upto_region 3 with fail
 generalize wo.alloc (.cells #[.int .u8 kk,.string t,.int .i64 nn,.slice As s.len cs,.slice Ap ps.length cp,.slice Ab b.len cb,.slice Ae e.len ce] 69)=w1 at *
 clear c0 c1 c2 c3 c4 c5 c6
 have n0:w1.cell? ⟨wo.heap.size,0,none⟩=some (.int .u8 kk):=XA.out.cell 0
 have MV:=hid (show w1.cell? ⟨wo.heap.size,3,none⟩=some (.slice As s.len cs) from XA.out.cell 3)
 have KG:=hid (show w1.cell? ⟨wo.heap.size,1,none⟩=some (.string t) from XA.out.cell 1)
 go_upto_block 2 with fail
 go_cut [] (fun wx=>∃cv2,Hid (qW base x rv lv bv ov wx cv2 (sQ ix E (kk,t)))∧Hid (dB base x.b w wx)∧Hid (wx.cell? ⟨wo.heap.size,3,none⟩=some (.slice As s.len cs))∧Hid ((sQ ix E (kk,t)).calls.length≤E.calls.length+1))
 case first=>
  by_cases h8:kk=8
  · subst h8
    have q4:w1.cell? ⟨x.b,4,none⟩=some (.bool E.loads):=dV.out.blk.cell 4
    have f4:=dV.out.blk.frozen 4
    go_wp2
    go_meet
    exact⟨cu,hid (dV.out.cS (ef':=sQ ix E (8,t)) rfl rfl),hid (FL.out.lA 4 _),hid ((World.cell?_setCell_far w1 ⟨x.b,4,none⟩ ⟨wo.heap.size,3,none⟩ _ (show x.b≠wo.heap.size by omega)).trans MV.out),hid (Nat.le_succ _)⟩
  have b8:((kk:Int)==8)=false:=aP (by omega)
  by_cases h11:kk=11
  · subst h11
    have q6:w1.cell? ⟨x.b,6,none⟩=some (.bool E.inputs):=dV.out.blk.cell 6
    have f6:=dV.out.blk.frozen 6
    go_wp2
    go_meet
    exact⟨cu,hid (dV.out.cS (ef':=sQ ix E (11,t)) rfl rfl),hid (FL.out.lA 6 _),hid ((World.cell?_setCell_far w1 ⟨x.b,6,none⟩ ⟨wo.heap.size,3,none⟩ _ (show x.b≠wo.heap.size by omega)).trans MV.out),hid (Nat.le_succ _)⟩
  have b11:((kk:Int)==11)=false:=aP (by omega)
  by_cases PZ:kk=12
  · subst PZ
    have q7:w1.cell? ⟨x.b,7,none⟩=some (.bool E.aIF):=dV.out.blk.cell 7
    have f7:=dV.out.blk.frozen 7
    go_wp2
    go_meet
    exact⟨cu,hid (dV.out.cS (ef':=sQ ix E (12,t)) rfl rfl),hid (FL.out.lA 7 _),hid ((World.cell?_setCell_far w1 ⟨x.b,7,none⟩ ⟨wo.heap.size,3,none⟩ _ (show x.b≠wo.heap.size by omega)).trans MV.out),hid (Nat.le_succ _)⟩
  have b12:((kk:Int)==12)=false:=aP (by omega)
  by_cases h6:kk=6
  · subst h6
    have q9:w1.cell? ⟨x.b,9,none⟩=some (.bool E.NI):=dV.out.blk.cell 9
    have f9:=dV.out.blk.frozen 9
    go_wp2
    go_meet
    exact⟨cu,hid (dV.out.cS (ef':=sQ ix E (6,t)) rfl rfl),hid (FL.out.lA 9 _),hid ((World.cell?_setCell_far w1 ⟨x.b,9,none⟩ ⟨wo.heap.size,3,none⟩ _ (show x.b≠wo.heap.size by omega)).trans MV.out),hid (Nat.le_succ _)⟩
  have b6:((kk:Int)==6)=false:=aP (by omega)
  by_cases h5:kk=5
  · subst h5
    obtain⟨Ac,cc,hcu,hcc,-⟩:=jJ dV.out.calls
    subst hcu
    go_upto_region 13 with fail
    have bG:w1.drew.cell? ⟨x.b,8,none⟩=some (.slice Ac E.calls.length cc)∧w1.drew.cell? ⟨g,0,none⟩=some (.slice XJ p.length WS):=⟨dV.out.blk.cell 8,HGa.out⟩
    refine NA (fun w'=>w'.cell? ⟨x.b,8,none⟩=some (.slice Ac E.calls.length cc)∧w'.cell? ⟨g,0,none⟩=some (.slice XJ p.length WS)) 16 (by kernel_rfl) ?_
    refine EE (i:=0) (v:=?_) rfl (by kernel_rfl) (by kernel_rfl) (by kernel_rfl) (fun _ _ _ h=>h) (by kernel_rfl) (by decide) bG (by rfl) (by intro w hSw;obtain⟨bR,bB⟩:=hSw;go_simp;rfl) ?_
    refine EE (i:=1) (v:=?_) rfl (by kernel_rfl) (by kernel_rfl) (by kernel_rfl) (fun _ _ _ h=>h) (by kernel_rfl) (by decide) bG (by rfl) (by intro w hSw;obtain⟨bR,bB⟩:=hSw;go_simp;rfl) ?_
    refine EE (i:=2) (v:=?_) rfl (by kernel_rfl) (by kernel_rfl) (by kernel_rfl) (fun _ _ _ h=>h) (by kernel_rfl) (by decide) bG (by rfl) (by intro w hSw;obtain⟨bR,bB⟩:=hSw;go_simp;rfl) ?_
    refine EE (i:=3) (v:=?_) rfl (by kernel_rfl) (by kernel_rfl) (by kernel_rfl) (fun _ _ _ h=>h) (by kernel_rfl) (by decide) bG (by rfl) (by intro w hSw;obtain⟨bR,bB⟩:=hSw;go_simp;rfl) ?_
    refine EE (i:=4) (v:=?_) rfl (by kernel_rfl) (by kernel_rfl) (by kernel_rfl) (fun _ _ _ h=>h) (by kernel_rfl) (by decide) bG (by rfl) (by intro w hSw;obtain⟨bR,bB⟩:=hSw;go_simp;rfl) ?_
    refine EE (i:=5) (v:=?_) rfl (by kernel_rfl) (by kernel_rfl) (by kernel_rfl) (fun _ _ _ h=>h) (by kernel_rfl) (by decide) bG (by rfl) (by intro w hSw;obtain⟨bR,bB⟩:=hSw;go_simp;rfl) ?_
    refine EE (i:=6) (v:=?_) rfl (by kernel_rfl) (by kernel_rfl) (by kernel_rfl) (fun _ _ _ h=>h) (by kernel_rfl) (by decide) bG (by rfl) (by intro w hSw;obtain⟨bR,bB⟩:=hSw;go_simp;rfl) ?_
    refine EE (i:=7) (v:=?_) rfl (by kernel_rfl) (by kernel_rfl) (by kernel_rfl) (fun _ _ _ h=>h) (by kernel_rfl) (by decide) bG (by rfl) (by intro w hSw;obtain⟨bR,bB⟩:=hSw;go_simp;rfl) ?_
    refine EE (i:=8) (v:=?_) rfl (by kernel_rfl) (by kernel_rfl) (by kernel_rfl) (fun _ _ _ h=>h) (by kernel_rfl) (by decide) bG (by rfl) (by intro w hSw;obtain⟨bR,bB⟩:=hSw;go_simp;rfl) ?_
    refine EE (i:=9) (v:=?_) rfl (by kernel_rfl) (by kernel_rfl) (by kernel_rfl) (fun _ _ _ h=>h) (by kernel_rfl) (by decide) bG (by rfl) (by intro w hSw;obtain⟨bR,bB⟩:=hSw;go_simp;rfl) ?_
    refine EE (i:=10) (v:=?_) rfl (by kernel_rfl) (by kernel_rfl) (by kernel_rfl) (fun _ _ _ h=>h) (by kernel_rfl) (by decide) bG (by rfl) (by intro w hSw;obtain⟨bR,bB⟩:=hSw;go_simp;rfl) ?_
    try simp only[Act.put,aJ]
    refine gM (i:=11) rfl (by kernel_rfl) (by rfl) (fun K hK=>?_)
    go_simp
    have HCi:=bHW ⟨wo.heap.size,0,none⟩ t p (.slice (XJ) p.length WS) B w1.drew KG.out O8 (HFu.out.below eR.out.drew) (by have:=dV.out.size;show B≤w1.heap.size;omega) hN
    refine HCi.mono ?_
    rintro e1 w2 ⟨rfl,JN⟩
    have hb2:Below w1.heap.size w1 w2:=⟨JN.os,JN.tape,JN.output,JN.size,JN.block⟩
    have hS2:w2.cell? ⟨x.b,8,none⟩=some (.slice Ac E.calls.length cc)∧w2.cell? ⟨g,0,none⟩=some (.slice XJ p.length WS):=⟨(dV.out.below hb2).blk.cell 8,(hb2.cell (p:=⟨g,0,none⟩) (by have:=dV.out.size;show g<w1.heap.size;omega)).trans HGa.out⟩
    refine hK _ _ (fun _=>hS2) ?_
    clear hK K
    try simp only[Act.put,aJ]
    refine gM (i:=12) rfl (by kernel_rfl) (by rfl) (fun K hK=>?_)
    go_simp
    obtain⟨fi,kE⟩:∃z:Int,z=dQ (fun f:Fc=>decide (f.name=t)) p 0:=⟨_,rfl⟩
    try rw[←kE]
    have hb3:Below w1.heap.size w1 (w2.alloc (.cells #[.int .i64 fi] 3)):=hb2.alloc hb2.size _
    have gK:=dV.out.below hb3
    have nH:(w2.alloc (.cells #[.int .i64 fi] 3)).cell? ⟨x.b,8,none⟩=some (.slice Ac E.calls.length cc)∧(w2.alloc (.cells #[.int .i64 fi] 3)).cell? ⟨g,0,none⟩=some (.slice XJ p.length WS):=⟨gK.blk.cell 8,(hb3.cell (p:=⟨g,0,none⟩) (by have:=dV.out.size;show g<w1.heap.size;omega)).trans HGa.out⟩
    refine hK _ _ (fun _=>nH) ?_
    clear hK K
    try simp only[Act.put,aJ]
    refine gM (i:=13) rfl (by kernel_rfl) (by rfl) (fun K hK=>?_)
    refine aNR _ _ rfl base _ E.calls fi (by rfl) gK.calls _ _ 1 (by rfl) uD (by omega) gK.size ?_
    intro v4 w4 iO hg4 LI
    obtain⟨C4,tY⟩:∃z:List Int,z=E.calls++[fi]:=⟨_,rfl⟩
    have bR0:C4.length≤E.calls.length+1:=by rw[tY,bL];exact aC _
    rw[←tY] at iO
    have D7:=hid tY
    clear tY
    have cK:=gK.push iO hg4
    have pE:aG w4 x.b 133 _:=gK.blk.grown hg4 (fun e=>eB gK.calls gK.blk (by decide) e.symm)
    have q8:w4.cell? ⟨x.b,8,none⟩=some (.slice Ac E.calls.length cc):=pE.cell 8
    have f8:=pE.frozen 8
    have hrow:∀j,(Value.slice Ac E.calls.length cc).ownBlock=some j→base≤j∧j<w1.heap.size:=World.ownsRow.lt dV.out.calls
    have kY:w4.cell? ⟨x.b,8,none⟩=some (.slice Ac E.calls.length cc)∧w4.cell? ⟨g,0,none⟩=some (.slice XJ p.length WS):=⟨q8,(aDS (p:=⟨g,0,none⟩) hg4 (by have h1:=dV.out.size;have h2:=hb3.size;show g<_;omega) (fun e=>by have:=(hrow g e.symm).1;omega)).trans nH.2⟩
    have PG:w4.cell? ⟨wo.heap.size,3,none⟩=some (.slice As s.len cs):=(aDS (p:=⟨wo.heap.size,3,none⟩) hg4 (by have h2:=hb3.size;show wo.heap.size<_;omega) (fun e=>eB dV.out.calls XA.out (by decide) e.symm)).trans ((hb3.cell (p:=⟨wo.heap.size,3,none⟩) O8).trans MV.out)
    have GX:dB base x.b w w4:=(FL.out.below (hb3.mono dV.out.size)).grown hg4 gK.size (fun j hj=>(hrow j hj).1)
    obtain⟨A4,c4,hv4,-,-⟩:=jJ iO
    subst hv4
    refine hK _ _ (fun _=>kY) ?_
    clear hK K
    try simp only[Act.put,aJ]
    refine gM (i:=14) rfl (by kernel_rfl) (by rfl) (fun K hK=>?_)
    go_simp
    refine hK _ _ (fun _=>kY) ?_
    clear hK K
    refine gM (i:=15) rfl (by kernel_rfl) (by rfl) (fun K hK=>?_)
    go_simp
    refine hK _ _ (fun _=>kY) ?_
    clear hK K
    refine gM (i:=16) rfl (by kernel_rfl) (by rfl) (fun K hK=>?_)
    go_simp
    refine hK _ _ (fun h=>absurd rfl h) ?_
    clear hK K
    refine NJ (by kernel_rfl) ?_ _
    have he5:sQ ix E (5,t)={ E with calls:=C4 }:=by rw[D7.out,kE,show dQ (fun f:Fc=>decide (f.name=t)) p 0=ix t by rw[HIx.out]];rfl
    have gJ:=hid cK
    have FM:=hid (GX.lA 8 (.slice A4 C4.length c4))
    have HN6:=hid ((World.cell?_setCell_far w4 ⟨x.b,8,none⟩ ⟨wo.heap.size,3,none⟩ (.slice A4 C4.length c4) (show x.b≠wo.heap.size by omega)).trans PG)
    have sH:=hid he5
    clear iO hg4 LI cK gK bG hS2 nH kY GX PG he5 pE hrow kE D7
    go_wp2
    go_meet
    exact⟨_,by rw[sH.out];exact gJ,FM,HN6,by rw[sH.out];exact hid bR0⟩
  have b5:((kk:Int)==5)=false:=aP (by omega)
  have hE0:sQ ix E (kk,t)=E:=by unfold sQ;simp only[if_neg h8,if_neg h11,if_neg PZ,if_neg h6,if_neg h5]
  have HE0:=hid hE0
  clear hE0 h8 h11 PZ h6 h5
  go_wp2
  go_meet
  exact⟨cu,by rw[HE0.out];exact dV,FL,MV,by rw[HE0.out];exact hid (Nat.le_succ _)⟩
 obtain⟨cv2,SJ,DR,PH,hl2⟩:=hcut
 obtain⟨w2,rfl⟩:∃z:World,z=wc:=⟨_,rfl⟩
 have hz2:=SJ.out.size
 have hW2:=hid (HW.out.trans (DR.out.to hB (by omega)))
 have d3:=PH.out
 have bRC:=hl2.out
 have HC:=hid (HI.out s.cnt (by omega) s (.slice As s.len cs) (sQ ix E (kk,t)) cv2 w2 (aC _) HN.out.subs hW2.out ((DR.out.cell (p:=⟨g,0,none⟩) hgb hgx).trans HG.out) SJ.out (by omega))
 obtain⟨E2,DU⟩:∃z:Ef,z=eQ ix (Fo.heads (Fo.own s)) (sQ ix E (kk,t)):=⟨_,rfl⟩
 have hE2l:E2.calls.length≤E.calls.length+1+s.cnt:=by
  have h1:=aXX ix (Fo.heads (Fo.own s)) (sQ ix E (kk,t))
  have h2:=Fo.KU s
  rw[←DU,aNI] at h1
  omega
 have bM:=hid (show eQ ix (Fo.heads (Fo.own l)) ef=eQ ix (Fo.heads (Fo.own (Fo.drop (k+1) l))) E2 by rw[DU];exact HE.out)
 rw[←DU] at HC
 clear HE DU PH hl2 bRC dV FL eR XA HGa MV KG pL
 go_wp2_with fail
 refine HC.out.mono ?_
 rintro e1 w3 ⟨rfl,cv3,G4,hX3⟩
 have gK:=hid G4
 have IA:=hid (DR.out.trans hX3)
 clear G4 hX3 HC SJ DR d3
 go_wp2
 go_roundg (l.len-(k+1))
 case rel=>exact⟨k+1,E2,cv3,hlt,rfl,by go_num,bM,hid (by omega),gK,IA⟩
 rw[Hq.out];omega
end
section
open Go.RowKit
namespace Sl
def lO (w w':World):Prop:=∀(base:Nat) (e:TypeId) (s n:Nat) (v:Value) (xs:List Value),e≠71→e≠45→w.ownsRow base e s v n xs→w'.ownsRow base e s v n xs
theorem lO.below {w w':World} (h:Below w.heap.size w w'):lO w w':=fun _ _ _ _ _ _ _ _ h3=>gW h3 h (aC _)
theorem lO.grown {w w':World} {base n:Nat} {v:Value} {xs:List Value} (ho:w.ownsRow base 71 18 v n xs) (hg:w.grownBy w' v.ownBlock):lO w w':=fun _ _ _ _ _ _ h1 _ h3=>fA h3 hg (fun _ hk=>kL ho h3 (Ne.symm h1) hk)
theorem lO.lA {w:World} {g:Nat} {cs:Array Value} (hb:aG w g 45 cs) (j:Nat) (u:Value):lO w (w.setCell ⟨g,j,none⟩ u):=fun _ _ _ _ _ _ _ h2 h3=>fA h3 (dH w _ u) (fun k e=>by cases e;exact eB h3 hb h2)
theorem lO.Y_ {w:World} {b base n:Nat} {v:Value} {xs:List Value} (ho:w.ownsRow base 71 18 v n xs) (hb:v.ownBlock=some b) (j:Nat) (u:Value):lO w (w.setCell ⟨b,j,none⟩ u):=fun _ _ _ _ _ _ h1 _ h3=>fA h3 (dH w _ u) (fun k e=>by cases e;exact kL ho h3 (Ne.symm h1) hb)
def bOX (w:World) (base:Nat) (cv:Value) (calls:List Nat):Prop:=aW w base cv (calls.map fun n=>((n:Nat):Int))∧(calls=[]→cv=.slice none 0 0)
def fU (W:World) (B:Nat) (w:World) (base:Nat) (cs:List Value) (x:bO):Prop:=
 ∃sv pv bv ev ov rv cv,cs=[.int .u8 x.nd.k,.string x.nd.t,.int .i64 x.nd.n,sv,pv,bv,ev,.int .i64 x.fn,.int .i64 x.unit,.int .i64 x.parent,.int .i64 x.follow,.int .i64 x.cD,.int .i64 x.body,.int .i64 x.els,ov,rv,cv,.bool x.cW]∧
  lY W B sv pv bv ev x.nd.s x.nd.ps x.nd.b x.nd.e∧lX W B w base ov x.own∧aM w base rv x.reads∧bOX w base cv x.calls
theorem uG {W:World} {B:Nat} {w:World} {base:Nat}:∀cs x,fU W B w base cs x→cs.length=18:=fun cs x ⟨sv,pv,bv,ev,ov,rv,cv,h,_⟩=>by rw[h];rfl
theorem row_one {w:World} {base:Nat} {e:TypeId} {s n:Nat} {v:Value} {xs:List Value} (h:w.ownsRow base e s v n xs):v.oneCell'=true:=by
 rcases h.2 with⟨rfl,-⟩|⟨g,cap,cur,rfl,-⟩<;>rfl
theorem aD4 {W:World} {B:Nat} {w:World} {base:Nat}:∀cs x,fU W B w base cs x→∀u∈cs,u.oneCell'=true:=fun cs x ⟨sv,pv,bv,ev,ov,rv,cv,h,hn,ho,hr,hc⟩ u hu=>by
 obtain⟨As,cs',rfl,-⟩:=hn.subs.form
 obtain⟨Ab,cb,rfl,-⟩:=hn.body.form
 obtain⟨Ae,ce,rfl,-⟩:=hn.els.form
 obtain⟨Ap,cp,rfl,-⟩:=hn.aX
 obtain⟨os,ho,-⟩:=ho
 obtain⟨rs,hr,-⟩:=hr
 have h1:=row_one ho
 have h2:=row_one hr
 have h3:=row_one hc.1
 rw[h] at hu
 simp only[List.mem_cons,List.mem_nil_iff,or_false] at hu
 rcases hu with rfl|rfl|rfl|rfl|rfl|rfl|rfl|rfl|rfl|rfl|rfl|rfl|rfl|rfl|rfl|rfl|rfl|rfl
 all_goals first|rfl|assumption
theorem KR {W:World} {B:Nat} {w:World} {base:Nat} {cs:List Value} {x:bO} (h:fU W B w base cs x):
 cs.length=18∧cs[0]?=some (.int .u8 x.nd.k)∧cs[1]?=some (.string x.nd.t)∧cs[7]?=some (.int .i64 x.fn)∧cs[8]?=some (.int .i64 x.unit)∧cs[9]?=some (.int .i64 x.parent)∧cs[10]?=some (.int .i64 x.follow)∧cs[11]?=some (.int .i64 x.cD)∧
 cs[12]?=some (.int .i64 x.body)∧cs[13]?=some (.int .i64 x.els)∧cs[17]?=some (.bool x.cW)∧∃Ao co Ar cr Ac cc,cs[14]?=some (.slice Ao x.own.len co)∧cs[15]?=some (.slice Ar x.reads.length cr)∧cs[16]?=some (.slice Ac x.calls.length cc)∧
  lX W B w base (.slice Ao x.own.len co) x.own∧aM w base (.slice Ar x.reads.length cr) x.reads∧aW w base (.slice Ac x.calls.length cc) (x.calls.map fun n=>((n:Nat):Int))∧x.own.len≤co∧x.reads.length≤cr∧x.calls.length≤cc:=by
 obtain⟨sv,pv,bv,ev,ov,rv,cv,rfl,hn,ho,hr,hc⟩:=h
 obtain⟨Ao,co,no,rfl,h1,-⟩:=aF.src ho
 obtain⟨Ar,cr,nr,rfl,h2,-⟩:=aF.src hr
 obtain⟨Ac,cc,hcv,h3,-⟩:=jJ hc.1
 rw[cL] at hcv h3
 subst hcv
 exact⟨rfl,rfl,rfl,rfl,rfl,rfl,rfl,rfl,rfl,rfl,rfl,Ao,co,Ar,cr,Ac,cc,rfl,rfl,rfl,ho,hr,hc.1,h1,h2,h3⟩
theorem fU.kept {W:World} {B:Nat} {w w':World} {base:Nat} {cs:List Value} {x:bO} (h:fU W B w base cs x) (hk:lO w w'):fU W B w' base cs x:=by
 obtain⟨sv,pv,bv,ev,ov,rv,cv,h,hn,⟨os,ho,tU⟩,⟨rs,hr,hr2⟩,hc⟩:=h
 exact⟨sv,pv,bv,ev,ov,rv,cv,h,hn,⟨os,hk _ _ _ _ _ _ (by decide) (by decide) ho,tU⟩,⟨rs,hk _ _ _ _ _ _ (by decide) (by decide) hr,hr2⟩,hk _ _ _ _ _ _ (by decide) (by decide) hc.1,hc.2⟩
abbrev aAB (W:World) (B:Nat) (w:World) (base:Nat) (v:Value) (l:List bO):Prop:=cP 71 18 (fU W B w base) w base v l
structure eT (W:World) (B g base:Nat) (pv zv xv:Value) (Z:List Int) (w:World) (tv:Value) (L:List bO) (f:Nat):Prop where
 blk:aG w g 45 #[pv,tv,zv,xv,.int .i64 (f:Nat)]
 tab:aAB W B w base tv L
 aL:aW w base zv Z
 low:g<base
 size:base≤w.heap.size
section
variable {W:World} {B g base:Nat} {pv zv xv:Value} {Z:List Int} {w w':World} {tv:Value} {L:List bO} {f:Nat}
theorem eT.below (h:eT W B g base pv zv xv Z w tv L f) (hb:Below w.heap.size w w'):eT W B g base pv zv xv Z w' tv L f where
 blk:=h.blk.below hb h.blk.lt
 tab:=cP.imp (aF.below h.tab hb (aC _)) fun _ _ hc=>fU.kept hc (lO.below hb)
 aL:=gW h.aL hb (aC _)
 low:=h.low
 size:=Nat.le_trans h.size hb.size
theorem eT.alloc (h:eT W B g base pv zv xv Z w tv L f) (o:Obj):eT W B g base pv zv xv Z (w.alloc o) tv L f:=h.below ((Below.refl w.heap.size w).alloc (aC _) o)
theorem eT.count (h:eT W B g base pv zv xv Z w tv L f) (f':Nat):eT W B g base pv zv xv Z (w.setCell ⟨g,4,none⟩ (.int .i64 (f':Nat))) tv L f' where
 blk:=h.blk.cS 4 _
 tab:=cP.imp (aF.kept h.tab (dH w _ _) (fun k e=>by cases e;exact aF.ne h.tab h.blk (by decide))) fun _ _ hc=>fU.kept hc (lO.lA h.blk 4 _)
 aL:=lO.lA h.blk 4 _ _ _ _ _ _ _ (by decide) (by decide) h.aL
 low:=h.low
 size:=by simpa[World.setCell] using h.size
theorem eT.push {BS:Value} {L':List bO} (h:eT W B g base pv zv xv Z w tv L f) (ht:cP 71 18 (fU W B w base) w' base BS L') (hg:w.grownBy w' tv.ownBlock):
 eT W B g base pv zv xv Z (w'.setCell ⟨g,1,none⟩ BS) BS L' f:=by
 obtain⟨xs,hx,-⟩:=h.tab
 have hk:=lO.grown hx hg
 have hb':aG w' g 45 #[pv,tv,zv,xv,.int .i64 (f:Nat)]:=h.blk.grown hg (fun e=>aF.ne h.tab h.blk (by decide) e.symm)
 exact
 { blk:=hb'.cS 1 BS
   tab:=cP.imp (aF.kept ht (dH w' _ _) (fun k e=>by cases e;exact aF.ne ht hb' (by decide))) fun _ _ hc=>fU.kept (fU.kept hc hk) (lO.lA hb' 1 _)
   aL:=lO.lA hb' 1 _ _ _ _ _ _ _ (by decide) (by decide) (hk _ _ _ _ _ _ (by decide) (by decide) h.aL)
   low:=h.low
   size:=by simpa[World.setCell] using Nat.le_trans h.size hg.size }
theorem eT.put {b c i j:Nat} {x x':bO} {u:Value} (h:eT W B g base pv zv xv Z w (.slice (some ⟨b,0,none⟩) L.length c) L f) (hi:L[i]?=some x) (hj:j<18) (hx:∀cs,fU W B w base cs x→fU W B w base (cs.set j u) x'):
 eT W B g base pv zv xv Z (w.setCell ⟨b,i*18+j,none⟩ u) (.slice (some ⟨b,0,none⟩) L.length c) (L.set i x') f:=by
 obtain⟨xs,hx1,-⟩:=h.tab
 have hk:lO w (w.setCell ⟨b,i*18+j,none⟩ u):=lO.Y_ hx1 rfl _ _
 have hne:b≠g:=fun e=>aF.ne h.tab h.blk (by decide) (by rw[e];rfl)
 exact
 { blk:=h.blk.far (p:=⟨b,i*18+j,none⟩) (Ne.symm hne) u
   tab:=by
    have:=cP.imp (cP.cS h.tab uG hi hj hx) fun _ _ hc=>fU.kept hc hk
    exact this
   aL:=hk _ _ _ _ _ _ (by decide) (by decide) h.aL
   low:=h.low
   size:=by simpa[World.setCell] using h.size }
end
structure iI (W:World) (B g base nb bs:Nat) (qJ qI:Array Value) (pv zv xv:Value) (Z:List Int) (w0:World) (eW:Option Nat) (w:World) (tv:Value) (L:List bO) (f:Nat):Prop where
 bk:eT W B g base pv zv xv Z w tv L f
 nb:aG w nb 69 qJ
 st:aG w bs 71 qI
 ne:tv.ownBlock≠some bs
 fr:dA w0 w g eW
 row:tv.ownBlock=eW∨∀j,tv.ownBlock=some j→w0.heap.size≤j
section
variable {W:World} {B g base nb bs:Nat} {qJ qI:Array Value} {pv zv xv:Value} {Z:List Int} {w0:World} {eW:Option Nat} {w w':World} {tv BS:Value} {L L':List bO} {f f':Nat}
theorem iI.below (h:iI W B g base nb bs qJ qI pv zv xv Z w0 eW w tv L f) (hb:Below w.heap.size w w'):iI W B g base nb bs qJ qI pv zv xv Z w0 eW w' tv L f where
 bk:=h.bk.below hb
 nb:=h.nb.below hb h.nb.lt
 st:=h.st.below hb h.st.lt
 ne:=h.ne
 fr:=h.fr.below hb
 row:=h.row
theorem iI.call (h:iI W B g base nb bs qJ qI pv zv xv Z w0 eW w tv L f) (hk:eT W B g base pv zv xv Z w' BS L' f') (hf:dA w w' g tv.ownBlock) (hr:BS.ownBlock=tv.ownBlock∨∀j,BS.ownBlock=some j→w.heap.size≤j):
 iI W B g base nb bs qJ qI pv zv xv Z w0 eW w' BS L' f' where
 bk:=hk
 nb:=hf.blk h.nb (h.nb.rQ h.bk.blk (by decide)) (fun e=>aF.ne h.bk.tab h.nb (by decide) e.symm)
 st:=hf.blk h.st (h.st.rQ h.bk.blk (by decide)) (fun e=>h.ne e.symm)
 ne:=fun e=>by
  rcases hr with hr|hr
  · exact h.ne (hr▸e)
  have h1:=hr _ e
  have h2:=h.st.lt
  omega
 fr:=h.fr.trans hf (h.row.imp id fun h1=>h1)
 row:=by
  rcases hr with hr|hr
  · rw[hr];exact h.row
  exact .inr fun j hj=>Nat.le_trans h.fr.size (hr j hj)
theorem iI.count (h:iI W B g base nb bs qJ qI pv zv xv Z w0 eW w tv L f) (f':Nat):iI W B g base nb bs qJ qI pv zv xv Z w0 eW (w.setCell ⟨g,4,none⟩ (.int .i64 (f':Nat))) tv L f' where
 bk:=h.bk.count f'
 nb:=h.nb.far (p:=⟨g,4,none⟩) (h.nb.rQ h.bk.blk (by decide)) _
 st:=h.st.far (p:=⟨g,4,none⟩) (h.st.rQ h.bk.blk (by decide)) _
 ne:=h.ne
 fr:=h.fr.QR 4 _
 row:=h.row
theorem iI.put {b c i j:Nat} {x x':bO} {u:Value} (h:iI W B g base nb bs qJ qI pv zv xv Z w0 eW w (.slice (some ⟨b,0,none⟩) L.length c) L f) (hi:L[i]?=some x) (hj:j<18) (hx:∀cs,fU W B w base cs x→fU W B w base (cs.set j u) x'):
 iI W B g base nb bs qJ qI pv zv xv Z w0 eW (w.setCell ⟨b,i*18+j,none⟩ u) (.slice (some ⟨b,0,none⟩) L.length c) (L.set i x') f where
 bk:=h.bk.put hi hj hx
 nb:=h.nb.far (p:=⟨b,i*18+j,none⟩) (fun e=>aF.ne h.bk.tab h.nb (by decide) (by rw[e];rfl)) _
 st:=h.st.far (p:=⟨b,i*18+j,none⟩) (fun e=>h.ne (by rw[e];rfl)) _
 ne:=h.ne
 fr:=h.fr.setRow (by
  rcases h.row with hr|hr
  · exact .inl hr
  exact .inr (hr b rfl)) _ _
 row:=h.row
theorem eT.far {b:Nat} {cs:Array Value} (h:eT W B g base pv zv xv Z w tv L f) (hb:aG w b 71 cs) (hne:tv.ownBlock≠some b) (j:Nat) (u:Value):eT W B g base pv zv xv Z (w.setCell ⟨b,j,none⟩ u) tv L f:=by
 have hk:lO w (w.setCell ⟨b,j,none⟩ u):=fun _ _ _ _ _ _ h1 _ h3=>fA h3 (dH w _ u) (fun k e=>by cases e;exact eB h3 hb h1)
 exact
 { blk:=h.blk.far (p:=⟨b,j,none⟩) (h.blk.rQ hb (by decide)) u
   tab:=cP.imp (aF.kept h.tab (dH w ⟨b,j,none⟩ u) (fun k e=>by cases e;exact hne)) fun _ _ hc=>fU.kept hc hk
   aL:=hk _ _ _ _ _ _ (by decide) (by decide) h.aL
   low:=h.low
   size:=by simpa[World.setCell] using h.size }
theorem iI.bO3 (h:iI W B g base nb bs qJ qI pv zv xv Z w0 eW w tv L f) (jR:w0.heap.size≤bs) (j:Nat) (u:Value):iI W B g base nb bs qJ (qI.setIfInBounds j u) pv zv xv Z w0 eW (w.setCell ⟨bs,j,none⟩ u) tv L f where
 bk:=h.bk.far h.st h.ne j u
 nb:=h.nb.far (p:=⟨bs,j,none⟩) (h.nb.rQ h.st (by decide)) _
 st:=h.st.cS j u
 ne:=h.ne
 fr:=h.fr.setRow (.inr jR) j u
 row:=h.row
theorem iI.push (h:iI W B g base nb bs qJ qI pv zv xv Z w0 eW w tv L f) (ht:cP 71 18 (fU W B w base) w' base BS L') (hg:w.grownBy w' tv.ownBlock) (hat:BS.ownBlock=tv.ownBlock∨BS.ownBlock=some w.heap.size):
 iI W B g base nb bs qJ qI pv zv xv Z w0 eW (w'.setCell ⟨g,1,none⟩ BS) BS L' f:=by
 have h1:aG w' nb 69 qJ:=h.nb.grown hg (fun e=>aF.ne h.bk.tab h.nb (by decide) e.symm)
 have h2:aG w' bs 71 qI:=h.st.grown hg (fun e=>h.ne e.symm)
 have h3:aG w' g 45 _:=h.bk.blk.grown hg (fun e=>aF.ne h.bk.tab h.bk.blk (by decide) e.symm)
 have hs:=h.st.lt
 exact
 { bk:=h.bk.push ht hg
   nb:=h1.far (p:=⟨g,1,none⟩) (h1.rQ h3 (by decide)) _
   st:=h2.far (p:=⟨g,1,none⟩) (h2.rQ h3 (by decide)) _
   ne:=fun e=>by
    rcases hat with hat|hat
    · exact h.ne (hat▸e)
    rw[hat] at e;injection e with e;omega
   fr:=(h.fr.grown hg (h.row.imp id fun h1=>h1)).QR 1 _
   row:=by
    rcases hat with hat|hat
    · rw[hat];exact h.row
    exact .inr fun j hj=>by rw[hat] at hj;injection hj with hj;have:=h.fr.size;omega }
theorem iI.old (h:iI W B g base nb bs qJ qI pv zv xv Z w0 eW w tv L f) (hW:Below B W w0) (cN:B≤g) (hr:∀j,eW=some j→B≤j) (hB:B≤w0.heap.size):Below B W w:=hW.trans (h.fr.toBelow cN hr hB)
theorem iI.nodes {W':World} {B' base':Nat} {cv:Value} {cl:Fo} (h:iI W B g base nb bs qJ qI pv zv xv Z w0 eW w tv L f) (hc:lX W' B' w base' cv cl) (hf:dA w w' g tv.ownBlock):lX W' B' w' base' cv cl:=
 hf.BN hc (aF.ne hc h.bk.blk (by decide)) (fun k hk hk2=>aF.apart h.bk.tab hc (by decide) k hk hk2)
theorem iI.bK7 {W':World} {B' base':Nat} {cv:Value} {cl:Fo} (h:iI W B g base nb bs qJ qI pv zv xv Z w0 eW w tv L f) (hc:lX W' B' w base' cv cl) (j:Nat) (u:Value):lX W' B' (w.setCell ⟨g,j,none⟩ u) base' cv cl:=
 aF.kept hc (dH w _ u) (fun k e=>by cases e;exact aF.ne hc h.bk.blk (by decide))
end
theorem pN {w:World} {g:Nat} {T:TypeId} {a b c d e:Value} (x:aG w g T #[a,b,c,d,e]):
 w.cell? ⟨g,0,none⟩=some a∧w.cell? ⟨g,1,none⟩=some b∧w.cell? ⟨g,2,none⟩=some c∧w.cell? ⟨g,3,none⟩=some d∧w.cell? ⟨g,4,none⟩=some e:=⟨x.cell 0,x.cell 1,x.cell 2,x.cell 3,x.cell 4⟩
theorem aAB.at_ {W:World} {B:Nat} {w:World} {base:Nat} {v:Value} {L:List bO} (h:aAB W B w base v L) {i:Nat} {x:bO} (hi:L[i]?=some x):
 ∃b c sv pv bv ev ov rv cv,v=.slice (some ⟨b,0,none⟩) L.length c∧L.length≤c∧b<w.heap.size∧base≤b∧lY W B sv pv bv ev x.nd.s x.nd.ps x.nd.b x.nd.e∧lX W B w base ov x.own∧aM w base rv x.reads∧aW w base cv (x.calls.map fun n=>((n:Nat):Int))∧
  (∀j,j<18→w.cell? ⟨b,i*18+j,none⟩=([.int .u8 x.nd.k,.string x.nd.t,.int .i64 x.nd.n,sv,pv,bv,ev,.int .i64 x.fn,.int .i64 x.unit,.int .i64 x.parent,.int .i64 x.follow,.int .i64 x.cD,.int .i64 x.body,.int .i64 x.els,ov,rv,cv,.bool x.cW]:List Value)[j]?)∧∀j,w.frozen? ⟨b,j,none⟩=false:=by
 obtain⟨b,c,cs,h1,h2,h3,h4,h5,⟨sv,pv,bv,ev,ov,rv,cv,h6,h7,h8,h9,h10⟩,h11,PZ⟩:=cP.at_ h uG hi
 subst h6
 exact⟨b,c,sv,pv,bv,ev,ov,rv,cv,h1,h2,h4,h3,h7,h8,h9,h10.1,h11,PZ⟩
end Sl
end
section
open Go.RowKit
open Go.Lib (hid)
namespace Sl
structure FT (w:World) (g F:Nat) (L:List bO):Prop where
 ex:∃W B base Ap cp zv xv Z tv f,eT W B g base (.slice Ap F cp) zv xv Z w tv L f
 len:L.length≤100000
 bR4:F≤100000
theorem FT.below {w w':World} {g F:Nat} {L:List bO} (h:FT w g F L) (hb:Below w.heap.size w w'):FT w' g F L:=by
 obtain⟨⟨W,B,base,Ap,cp,zv,xv,Z,tv,f,h1⟩,h2,h3⟩:=h
 exact⟨⟨W,B,base,Ap,cp,zv,xv,Z,tv,f,h1.below hb⟩,h2,h3⟩
theorem FT.lt {w:World} {g F:Nat} {L:List bO} (h:FT w g F L):g<w.heap.size:=by
 obtain⟨⟨W,B,base,Ap,cp,zv,xv,Z,tv,f,h1⟩,-⟩:=h
 exact h1.blk.lt
def LJ (x:bO) (k:Nat):Bool:=(Fo.heads x.own).any fun y=>decide (y.1=k)
def fB (x:bO):List Int:=
 if x.nd.k=17 then Gr.mJ x.body x.els else if x.nd.k=18 then Gr.mJ x.body x.follow else if x.nd.k=21 then [x.body] else if x.nd.k=19 then [-1] else if x.nd.k=20 then [] else [x.follow]
def lQ (x:bO):List Int:=if x.cW then [x.cD] else []
def BO (x:bO) (y:aA):Bool:=(decide (x.nd.k=14)||decide (x.nd.k=15))&&decide (x.nd.t=y)
theorem aZL {i:Nat} {l:Fo} {k:Nat} {t:aA} {n:Int} {s:Fo} {ps:List aA} {b e r:Fo} (h:Fo.drop i l=.cons k t n s ps b e r):Fo.heads (Fo.drop i l)=(k,t)::Fo.heads (Fo.drop (i+1) l):=by rw[eD h,h,Fo.heads]
theorem IX (w:World) (base:Nat) (x:Int) (hb:base≤w.heap.size):aW (w.alloc (.cells #[.int .i64 x] 3)) base (.slice (some ⟨w.heap.size,0,none⟩) 1 1) [x]:=
 ⟨by simp,.inr ⟨w.heap.size,1,#[.int .i64 x],rfl,hb,heap_alloc_new w _,aC _,by unfold maxLen;omega,rfl,by simp⟩⟩
theorem aDQ (w:World) (base:Nat) (x y:Int) (hb:base≤w.heap.size):aW (w.alloc (.cells #[.int .i64 x,.int .i64 y] 3)) base (.slice (some ⟨w.heap.size,0,none⟩) 2 2) [x,y]:=
 ⟨by simp,.inr ⟨w.heap.size,2,#[.int .i64 x,.int .i64 y],rfl,hb,heap_alloc_new w _,aC _,by unfold maxLen;omega,rfl,by simp⟩⟩
theorem EB (w:World) (base:Nat):aW w base (.slice none 0 0) []:=World.ownsRow_nil _ _ _ _
end Sl
open Sl
theorem a2W (g F n k:Nat) (x:bO) (L:List bO) (w:World) (h:FT w g F L) (hn:L[n]?=some x) (gR:x.own.len≤1000000):
 Calls Tryz.prog 31 #[.pointer (some ⟨g,0,none⟩),.int .i64 (n:Nat),.int .u8 (k:Nat)] w fun e w'=>e=.returned (.bool (LJ x k))∧w=w':=by
 obtain⟨⟨W,B,base,Ap,cp,zv,xv,Z,tv,f,hb⟩,-,-⟩:=h
 obtain⟨g0,g1,g2,g3,g4⟩:=pN hb.blk
 have qL:=(mK.1 hn).1
 obtain⟨b,c,sv,pv,bv,ev,ov,rv,cv,rfl,hc,hbl,-,J3,eG,-,-,cC,-⟩:=aAB.at_ hb.tab hn
 have c14:=cC 14 (by decide)
 simp at c14
 have HO:=hid eG
 obtain⟨A,c',news,rfl,hc',-⟩:=aF.src eG
 obtain⟨q,hq⟩:∃q,q=LJ x k:=⟨_,rfl⟩
 rw[←hq]
 have HQ:=hid hq
 clear hq cC J3 eG hb g0 g2 g3 g4
 go_enter Tryz.func31,Tryz.ntmps31
 go_wp2
 go_loopg [7] x.own.len (fun m i wr=>∃(j:Nat),j≤x.own.len∧m=x.own.len-j∧i=.int .i64 j∧w=wr∧Hid (q=(Fo.heads (Fo.drop j x.own)).any fun y=>decide (y.1=k)))
 case atStart=>exact⟨0,Nat.zero_le _,rfl,rfl,rfl,hid (by rw[Fo.drop];exact HQ.out)⟩
 obtain⟨j,hj,hm,rfl,rfl,he⟩:=hrel
 have Hm:=hid hm
 clear hm
 by_cases hlt:j<x.own.len
 rotate_left
 · have HX:=hid (show q=false by rw[he.out,show j=x.own.len by omega,gB];rfl)
   clear he
   go_wp2
   go_ret
   exact⟨aR HX.out.symm,rfl⟩
 obtain⟨a,c3,kk,t,nn,s,ps,b',e,r,zT,l7,mD,AH,hv,aI,-,-,x0,-⟩:=lX.at_ HO.out hlt
 injection hv with hA hx hx2
 subst hA
 have HE:=hid (he.out.trans (by rw[aZL aI,List.any_cons]))
 clear aI he hx hx2
 by_cases hk:kk=k
 · have b1:((kk:Int)==(k:Int))=true:=beq_iff_eq.2 (by omega)
   have HX:=hid (show q=true by rw[HE.out];simp[hk])
   clear hk
   go_wp2
   go_ret
   exact⟨aR HX.out.symm,rfl⟩
 have b1:((kk:Int)==(k:Int))=false:=aP (by omega)
 have HX:=hid (show q=(Fo.heads (Fo.drop (j+1) x.own)).any fun y=>decide (y.1=k) by rw[HE.out];simp[hk])
 clear hk
 go_wp2
 go_roundg (x.own.len-(j+1))
 case rel=>exact⟨j+1,hlt,rfl,by go_num,rfl,HX⟩
 rw[Hm.out];omega
theorem bMA (a b:Int) (w:World):
 Calls Tryz.prog 64 #[.int .i64 a,.int .i64 b] w fun e w'=>∃v,e=.returned v∧aW w' w.heap.size v (Gr.mJ a b)∧Below w.heap.size w w':=by
 by_cases h:a=b
 · subst h
   have H1:=hid (IX w w.heap.size a (aC _))
   have H2:=hid ((Below.refl w.heap.size w).alloc (aC _) (.cells #[.int .i64 a] 3))
   go_enter Tryz.func64,Tryz.ntmps64
   go_wp2
   go_ret
   exact⟨_,rfl,by unfold Gr.mJ;rw[if_pos rfl];exact H1.out,H2.out⟩
 have b1:(a==b)=false:=aP h
 rcases Int.lt_or_lt_of_ne h with hlt|hlt
 · have HS:=hid (show Gr.mJ a b=[a,b] by unfold Gr.mJ;rw[if_neg h,Int.min_eq_left (by omega),Int.max_eq_right (by omega)])
   have H1:=hid (aDQ w w.heap.size a b (aC _))
   have H2:=hid ((Below.refl w.heap.size w).alloc (aC _) (.cells #[.int .i64 a,.int .i64 b] 3))
   have hle:¬b<a:=by omega
   clear h
   go_enter Tryz.func64,Tryz.ntmps64
   go_wp2
   all_goals first
    |(go_ret;exact⟨_,rfl,by rw[HS.out];exact H1.out,H2.out⟩)
    |(exfalso;omega)
 have HS:=hid (show Gr.mJ a b=[b,a] by unfold Gr.mJ;rw[if_neg h,Int.min_eq_right (by omega),Int.max_eq_left (by omega)])
 have H1:=hid (aDQ w w.heap.size b a (aC _))
 have H2:=hid ((Below.refl w.heap.size w).alloc (aC _) (.cells #[.int .i64 b,.int .i64 a] 3))
 have hle:¬a<b:=by omega
 clear h
 go_enter Tryz.func64,Tryz.ntmps64
 go_wp2
 all_goals first
  |(go_ret;exact⟨_,rfl,by rw[HS.out];exact H1.out,H2.out⟩)
  |(exfalso;omega)
end
section
open Go.RowKit
open Sl
open Go.Lib (hid)
theorem aMY:(Tryz.prog.info? 71).map (·.size)=some 18:=by kernel_rfl
theorem aNF (g F n:Nat) (x:bO) (L:List bO) (w:World) (h:FT w g F L) (hn:L[n]?=some x):
 Calls Tryz.prog 21 #[.pointer (some ⟨g,0,none⟩),.int .i64 (n:Nat)] w fun e w'=>∃v1 v2,e=.returned (.tuple #[v1,v2])∧aW w' w.heap.size v1 (fB x)∧aW w' w.heap.size v2 (lQ x)∧Below w.heap.size w w':=by
 obtain⟨⟨W,B,base,Ap,cp,zv,xv,Z,tv,f,hb⟩,WM,-⟩:=h
 obtain⟨-,g1,-,-,-⟩:=pN hb.blk
 have qL:=(mK.1 hn).1
 obtain⟨b,c,CL,rfl,hc,-,hbl,-,hC,cC,-⟩:=cP.at_ hb.tab uG hn
 obtain⟨r6,e0,-,-,-,-,B9,e11,MP,G_,FD,-⟩:=KR hC
 have JM:∀j u,CL[j]?=some u→w.cell? ((⟨b,n*18,none⟩:Addr).add j)=some u:=fun j u hu=>by
  rw[Addr.add_lit,cC j (by rw[←r6];exact (mK.1 hu).1)]
  exact hu
 have OG:CL.toArray.all (·.oneCell')=true:=by
  rw[Array.all_eq_true_iff_forall_mem]
  intro u hu
  exact aD4 _ _ hC u (by simpa using hu)
 have aR1:(Tryz.prog.info? 71).map (·.size)=some CL.length:=by rw[r6];exact aMY
 have a55:(Tryz.prog.info? 71).map (·.size)=some CL.toArray.size:=by rw[List.size_toArray];exact aR1
 have a5X:18=CL.toArray.size:=by rw[List.size_toArray,r6]
 have jV:=hid ((Below.refl w.heap.size w).alloc (aC _) (.cells CL.toArray 71))
 have cQ:=hid (aG.new w 71 CL.toArray)
 have hz1:w.heap.size<(w.alloc (.cells CL.toArray 71)).heap.size:=by simp
 have E:=hid (And.intro e0 (And.intro B9 (And.intro e11 (And.intro MP (And.intro G_ FD)))))
 clear hC hb hn e0 B9 e11 MP G_ FD r6 cC
 have H18:=hid a5X
 have aJ0:=hid aR1
 have aI4:=hid a55
 clear a5X aR1 a55
 go_enter Tryz.func21,Tryz.ntmps21
 go_upto_region 2 with (first|(refine aMC rfl 71 _ _ (by rfl) _ CL.toArray (by rfl) (by rfl) aI4.out H18.out OG ?_)|(refine aMD rfl 71 _ (by rfl) _ (by rfl) CL _ JM Tryz.underlying71 rfl aJ0.out ?_))
 generalize w.alloc (.cells CL.toArray 71)=w1 at *
 obtain⟨e0,B9,e11,MP,G_,FD⟩:=E.out
 have k11:=(cQ.out.cell 11).trans (by simpa using e11)
 have k17:=(cQ.out.cell 17).trans (by simpa using FD)
 have q0:=hid ((cQ.out.cell 0).trans (by simpa using e0))
 have V3:=hid ((cQ.out.cell 10).trans (by simpa using B9))
 have RN:=hid ((cQ.out.cell 12).trans (by simpa using MP))
 have q13:=hid ((cQ.out.cell 13).trans (by simpa using G_))
 clear e0 B9 e11 MP G_ FD E JM OG g1
 go_upto_if 16 with fail
 go_cut [7] (fun v7 wx=>∃v,v7=v∧Hid (aW wx w1.heap.size v (lQ x))∧Hid (Below w1.heap.size w1 wx))
 case first=>
  cases DF:x.cW with
  |true=>
   have HT:=hid (show lQ x=[x.cD] by unfold lQ;rw[DF,if_pos rfl])
   rw[DF] at k17
   clear DF
   go_wp2
   go_meet
   exact⟨_,rfl,hid (by rw[HT.out];exact IX w1 w1.heap.size x.cD (aC _)),hid ((Below.refl _ _).alloc (aC _) _)⟩
  |false=>
   have HT:=hid (show lQ x=[] by unfold lQ;rw[DF];rfl)
   rw[DF] at k17
   clear DF
   go_wp2
   go_meet
   exact⟨_,rfl,hid (by rw[HT.out];exact EB _ _),hid (Below.refl _ _)⟩
 obtain⟨v7,rfl,hI,hB⟩:=hcut
 obtain⟨w2,rfl⟩:∃z:World,z=wc:=⟨_,rfl⟩
 have hz2:=hB.out.size
 have bY:=hid (jV.out.trans (hB.out.mono (by omega)))
 have m0:=(hB.out.cell (p:=⟨w.heap.size,0,none⟩) hz1).trans q0.out
 have m4:=(hB.out.cell (p:=⟨w.heap.size,10,none⟩) hz1).trans V3.out
 have m5:=(hB.out.cell (p:=⟨w.heap.size,12,none⟩) hz1).trans RN.out
 have m6:=(hB.out.cell (p:=⟨w.heap.size,13,none⟩) hz1).trans q13.out
 have HI:=hid (uH hI.out (show w.heap.size≤w1.heap.size by omega))
 clear hI hB k11 k17 cQ jV q0 V3 RN q13
 have HS:=hid (fun (a b:Int)=>bMA a b w2)
 by_cases lI:x.nd.k=17
 · have b17:((x.nd.k:Int)==17)=true:=beq_iff_eq.2 (by omega)
   have HO:=hid (show fB x=Gr.mJ x.body x.els by unfold fB;rw[if_pos lI])
   clear lI
   go_wp2_with fail
   refine (HS.out x.body x.els).mono ?_
   rintro e3 w3 ⟨v3,rfl,PK,hb3⟩
   have H3:=hid (show aW w3 w.heap.size v3 (fB x) by rw[HO.out];exact uH PK (by omega))
   have H4:=hid (gW HI.out hb3 (aC _))
   have H5:=hid (bY.out.trans (hb3.mono (by omega)))
   clear PK hb3
   go_wp2
   go_ret2
   exact⟨_,_,rfl,H3.out,H4.out,H5.out⟩
 have b17:((x.nd.k:Int)==17)=false:=aP (by omega)
 by_cases oI:x.nd.k=18
 · have b18:((x.nd.k:Int)==18)=true:=beq_iff_eq.2 (by omega)
   have HO:=hid (show fB x=Gr.mJ x.body x.follow by unfold fB;rw[if_neg lI,if_pos oI])
   clear lI oI
   go_wp2_with fail
   refine (HS.out x.body x.follow).mono ?_
   rintro e3 w3 ⟨v3,rfl,PK,hb3⟩
   have H3:=hid (show aW w3 w.heap.size v3 (fB x) by rw[HO.out];exact uH PK (by omega))
   have H4:=hid (gW HI.out hb3 (aC _))
   have H5:=hid (bY.out.trans (hb3.mono (by omega)))
   clear PK hb3
   go_wp2
   go_ret2
   exact⟨_,_,rfl,H3.out,H4.out,H5.out⟩
 have b18:((x.nd.k:Int)==18)=false:=aP (by omega)
 by_cases iR:x.nd.k=21
 · have b21:((x.nd.k:Int)==21)=true:=beq_iff_eq.2 (by omega)
   have HO:=hid (show fB x=[x.body] by unfold fB;rw[if_neg lI,if_neg oI,if_pos iR])
   clear lI oI iR
   go_wp2
   go_ret2
   exact⟨_,_,rfl,by rw[HO.out];exact IX w2 w.heap.size x.body (by omega),gW HI.out ((Below.refl w2.heap.size w2).alloc (aC _) _) (aC _),bY.out.trans ((Below.refl w.heap.size w2).alloc (by omega) _)⟩
 have b21:((x.nd.k:Int)==21)=false:=aP (by omega)
 by_cases qU:x.nd.k=19
 · have b19:((x.nd.k:Int)==19)=true:=beq_iff_eq.2 (by omega)
   have HO:=hid (show fB x=[-1] by unfold fB;rw[if_neg lI,if_neg oI,if_neg iR,if_pos qU])
   clear lI oI iR qU
   go_wp2
   go_ret2
   exact⟨_,_,rfl,by rw[HO.out];exact IX w2 w.heap.size (-1) (by omega),gW HI.out ((Below.refl w2.heap.size w2).alloc (aC _) _) (aC _),bY.out.trans ((Below.refl w.heap.size w2).alloc (by omega) _)⟩
 have b19:((x.nd.k:Int)==19)=false:=aP (by omega)
 by_cases jH:x.nd.k=20
 · have b20:((x.nd.k:Int)==20)=true:=beq_iff_eq.2 (by omega)
   have HO:=hid (show fB x=[] by unfold fB;rw[if_neg lI,if_neg oI,if_neg iR,if_neg qU,if_pos jH])
   clear lI oI iR qU jH
   go_wp2
   go_ret2
   exact⟨_,_,rfl,by rw[HO.out];exact EB _ _,HI.out,bY.out⟩
 have b20:((x.nd.k:Int)==20)=false:=aP (by omega)
 have HO:=hid (show fB x=[x.follow] by unfold fB;rw[if_neg lI,if_neg oI,if_neg iR,if_neg qU,if_neg jH])
 clear lI oI iR qU jH
 go_wp2
 go_ret2
 exact⟨_,_,rfl,by rw[HO.out];exact IX w2 w.heap.size x.follow (by omega),gW HI.out ((Below.refl w2.heap.size w2).alloc (aC _) _) (aC _),bY.out.trans ((Below.refl w.heap.size w2).alloc (by omega) _)⟩
end
section
open Go.RowKit
open Go.Lib (hid)
namespace Sl
def gX (F:Nat) (x:bO):Ts:=⟨if x.unit<(F:Int) then x.unit.toNat else F,decide (x.nd.k=20),LJ x 6,x.calls⟩
def iB (F:Nat) (f:Nat→Bool):List Bool:=(List.range F).map f
theorem CM (F:Nat) (f:Nat→Bool):(iB F f).length=F:=by simp[iB]
theorem I0 {F:Nat} {f:Nat→Bool} {k:Nat} (h:k<F):(iB F f)[k]?=some (f k):=by simp[iB,h]
theorem a1M {F:Nat} {f:Nat→Bool} {k:Nat}:(iB F f).set k true=iB F (fun j=>decide (j=k)||f j):=by
 apply List.ext_getElem?
 intro j
 rw[List.getElem?_set]
 by_cases hj:j<F
 · rw[I0 hj]
   by_cases h:k=j
   · subst h;rw[if_pos rfl,if_pos (by rw[CM];exact hj),I0 hj,bF rfl,Bool.true_or]
   rw[if_neg h,I0 hj]
   have hjk:¬j=k:=fun e=>h e.symm
   rw[bP hjk,Bool.false_or]
 have h1:(iB F f)[j]?=none:=aAA (by rw[CM];omega)
 have h2:(iB F fun j=>decide (j=k)||f j)[j]?=none:=aAA (by rw[CM];omega)
 rw[h1,h2,CM]
 split
 · rw[if_neg (by omega)]
 rfl
theorem aY1 {F:Nat} {f f':Nat→Bool} (h:∀k,k<F→f k=f' k):iB F f=iB F f':=by
 unfold iB
 exact List.map_congr_left fun k hk=>h k (List.mem_range.1 hk)
theorem a1N (F:Nat):List.replicate F false=iB F (fun _=>false):=by
 unfold iB
 rw[List.map_const',List.length_range]
end Sl
open Sl
theorem bEY (g F:Nat) (L:List bO) (w:World) (h:FT w g F L) (UY:∀x∈L,∀c∈x.calls,c<F) (qK:∀x∈L,0≤x.unit) (gR:∀x∈L,x.own.len≤1000000) (cC:∀x∈L,x.calls.length≤1000000):
 Calls Tryz.prog 29 #[.pointer (some ⟨g,0,none⟩)] w fun e w'=>∃v,e=.returned (.tuple #[v,.bool (pP F (L.map (gX F)) (F+2) (fun _=>false) F)])∧sS w' w.heap.size v (iB F (pP F (L.map (gX F)) (F+2) (fun _=>false)))∧Below w.heap.size w w':=by
 have H:=hid h
 have WM:=h.len
 have hFl:=h.bR4
 have XE:=hid UY
 have HUn:=hid qK
 have sG:=hid gR
 have D6:=hid cC
 obtain⟨fin,OL⟩:∃fin,fin=pP F (L.map (gX F)) (F+2) (fun _=>false):=⟨_,rfl⟩
 rw[←OL]
 have LP:=hid OL
 obtain⟨⟨W,B,base,Ap,cp,zv,xv,Z,tv,f,hb⟩,-,-⟩:=h
 obtain⟨g0,g1,-,-,-⟩:=pN hb.blk
 obtain⟨At,ct,nt,rfl,AE,-⟩:=aF.src hb.tab
 have HG:=hid (fun (X:World) (hX:Below w.heap.size w X)=>And.intro ((hX.cell (p:=⟨g,0,none⟩) hb.blk.lt).trans g0) ((hX.cell (p:=⟨g,1,none⟩) hb.blk.lt).trans g1))
 have HTb:=hid (fun (X:World) (hX:Below w.heap.size w X)=>(hb.below hX).tab)
 clear hb UY qK gR cC OL
 go_enter Tryz.func29,Tryz.ntmps29
 go_wp2_with (refine aXQ rfl _ _ (by rfl) F (by rfl) (by rfl) (by omega) w.heap.size (aC _) ?_)
 intro w1 hs1 hg1
 have sF:=hid hs1
 have fD:Below w.heap.size w w1:=⟨hg1.os,hg1.tape,hg1.output,hg1.size,fun k hk=>hg1.block k hk (by simp)⟩
 have aT:=hid fD
 have aRV:w.heap.size<w1.heap.size:=(hs1.lt w.heap.size rfl).2
 clear hs1 hg1 fD g0 g1
 go_wp2
 go_loopg [5,6] (F+2) (fun m cv rv wr=>∃(r:Nat) (fl:Nat→Bool),r≤F+2∧m=F+2-r∧cv=.bool (fl F)∧rv=.int .i64 r∧Hid (fin=pP F (L.map (gX F)) (F+2-r) fl)∧Hid (sS wr w.heap.size (.slice (some ⟨w.heap.size,0,none⟩) F F) (iB F fl))∧Hid (Below w.heap.size w wr))
 case atStart=>exact⟨0,fun _=>false,Nat.zero_le _,rfl,rfl,rfl,hid LP.out,hid (by rw[←a1N];exact sF.out),aT⟩
 obtain⟨r,fl,hr,hm,rfl,rfl,kE,hrow,hb⟩:=hrel
 have Hm:=hid hm
 clear hm sF aT
 obtain⟨wo,rfl⟩:∃z:World,z=wr:=⟨_,rfl⟩
 by_cases hlt:r<F+2
 rotate_left
 · have aRY:¬(r:Int)≤(F:Int)+1:=by omega
   have bQU:decide ((r:Int)≤(F:Int)+1)=false:=bP aRY
   have HX:=hid (show fin=fl by rw[kE.out,show F+2-r=0 by omega,pP])
   clear kE
   go_wp2
   go_ret2
   exact⟨.slice (some ⟨w.heap.size,0,none⟩) F F,by rw[HX.out];rfl,by rw[HX.out];exact hrow.out,hb.out⟩
 have jD:=hid (show fin=pP F (L.map (gX F)) (F+2-(r+1)) (FY F (L.map (gX F)) fl) by rw[kE.out,show F+2-r=(F+2-(r+1))+1 by omega,pP])
 have aRY:(r:Int)≤(F:Int)+1:=by omega
 have bQU:decide ((r:Int)≤(F:Int)+1)=true:=bF aRY
 generalize hcb:fl F=cb0 at *
 have Hcb:=hid hcb
 clear hcb kE
 go_wp2
 go_loopg [5,7] L.length (fun m cv nv wr=>∃(n:Nat) (fm:Nat→Bool),n≤L.length∧m=L.length-n∧cv=.bool (fm F)∧nv=.int .i64 n∧Hid (FY F (L.map (gX F)) fl=((L.drop n).map (gX F)).foldl (Sl.stepT F) fm)∧Hid (sS wr w.heap.size (.slice (some ⟨w.heap.size,0,none⟩) F F) (iB F fm))∧Hid (Below w.heap.size w wr))
 case atStart=>exact⟨0,fl,Nat.zero_le _,rfl,by rw[Hcb.out],rfl,hid (by rw[List.drop_zero];rfl),hrow,hb⟩
 obtain⟨n,fm,hn,mA,rfl,rfl,GS,hrow2,hb2⟩:=hrel
 have Hm2:=hid mA
 clear mA hrow hb
 obtain⟨wi,rfl⟩:∃z:World,z=wr:=⟨_,rfl⟩
 have hz2:=hb2.out.size
 by_cases oF:n<L.length
 rotate_left
 · have bSQ:=hid (show fin=pP F (L.map (gX F)) (F+2-(r+1)) fm by
    rw[jD.out,GS.out,show n=L.length by omega,List.drop_length];rfl)
   obtain⟨gg0,gg1⟩:=HG.out wi hb2.out
   clear GS
   go_wp2
   go_roundg (F+2-(r+1))
   case rel=>exact⟨r+1,fm,hlt,rfl,rfl,by go_num,bSQ,hrow2,hb2⟩
   rw[Hm.out];omega
 obtain⟨x,hx⟩:∃x,L[n]?=some x:=⟨L[n],bX oF⟩
 have kB:x∈L:=List.mem_of_getElem? hx
 obtain⟨gg0,gg1⟩:=HG.out wi hb2.out
 obtain⟨b,c,CL,hv,-,-,hbl,-,hC,cC,-⟩:=cP.at_ (HTb.out wi hb2.out) uG hx
 injection hv with lR _ hv3
 subst lR hv3
 obtain⟨r6,e0,-,-,e8,-,-,-,-,-,-,Ao,co,Ar,cr,Ac,cc,-,-,AJ,-,-,PV,-,-,-⟩:=KR hC
 have JM:∀j u,CL[j]?=some u→wi.cell? ((⟨b,n*18,none⟩:Addr).add j)=some u:=fun j u hu=>by
  rw[Addr.add_lit,cC j (by rw[←r6];exact (mK.1 hu).1)]
  exact hu
 have a81:=hid (show CL.toArray.all (·.oneCell')=true by
  rw[Array.all_eq_true_iff_forall_mem]
  intro u hu
  exact aD4 _ _ hC u (by simpa using hu))
 have aJ0:=hid (show (Tryz.prog.info? 71).map (·.size)=some CL.length by rw[r6];exact aMY)
 have aI4:=hid (show (Tryz.prog.info? 71).map (·.size)=some CL.toArray.size by rw[List.size_toArray,r6];exact aMY)
 have H18:=hid (show 18=CL.toArray.size by rw[List.size_toArray,r6])
 have hA:=((Below.refl wi.heap.size wi).alloc (aC _) (.cells CL.toArray 71))
 have HA:=hid hA
 have HK:=hid (aG.new wi 71 CL.toArray)
 have QB:=hid (gW PV hA (aC _))
 have cY:=hid (aF.below hrow2.out hA (aC _))
 have bY:=hid (hb2.out.trans (hA.mono hz2))
 have E:=hid (And.intro e0 (And.intro e8 AJ))
 have HX:=hid hx
 have TB:=hid kB
 clear hC e0 e8 AJ r6 cC hA PV hx kB hrow2 hb2
 go_upto_region 10 with (first|(refine aMC rfl 71 _ _ (by rfl) _ CL.toArray (by rfl) (by rfl) aI4.out H18.out a81.out ?_)|(refine aMD rfl 71 _ (by rfl) _ (by rfl) CL _ JM Tryz.underlying71 rfl aJ0.out ?_))
 generalize wi.alloc (.cells CL.toArray 71)=w2 at *
 obtain⟨e0,e8,AJ⟩:=E.out
 have m0:=(HK.out.cell 0).trans (by simpa using e0)
 have m8:=(HK.out.cell 8).trans (by simpa using e8)
 have m16:=(HK.out.cell 16).trans (by simpa using AJ)
 obtain⟨gg0,gg1⟩:=HG.out w2 bY.out
 have GG:=hid (a2W g F n 6 x L w2 (H.out.below bY.out) HX.out (sG.out x TB.out))
 have hu0:=HUn.out x TB.out
 have oK:=hid (aW.reads QB.out (by have:=D6.out x TB.out;simp;omega))
 have dL:=D6.out x TB.out
 obtain⟨cx,WH⟩:∃z,z=x.calls:=⟨_,rfl⟩
 have IP:=hid (show ∀c∈cx,c<F from by rw[WH];exact XE.out x TB.out)
 rw[←WH] at oK dL m16
 obtain⟨jZ,R9⟩:∃z,z=(decide (x.nd.k=20)||(LJ x 6&&fm F)):=⟨_,rfl⟩
 have qX:=hid R9
 have VP:=hid (show fC F fm (gX F x)=(jZ||cx.any fm) by rw[R9,WH];rfl)
 have QC:=hid (show FY F (L.map (gX F)) fl=((L.drop (n+1)).map (gX F)).foldl (Sl.stepT F) (Sl.stepT F fm (gX F x)) by
  rw[GS.out,List.drop_eq_getElem_cons oF,List.map_cons,List.foldl_cons]
  have:L[n]=x:=Option.some.inj ((bX oF).symm.trans HX.out)
  rw[this])
 clear e0 e8 AJ E aJ0 aI4 H18 a81 JM R9 WH GS QB
 simp only[Act.put]
 go_cut [9] (fun v9 wx=>v9=.bool jZ∧w2=wx)
 case first=>
  by_cases jH:x.nd.k=20
  · have b1:((x.nd.k:Int)==20)=true:=beq_iff_eq.2 (by omega)
    have HM:=hid (show jZ=true by rw[qX.out,bF jH,Bool.true_or])
    clear jH
    go_wp2
    go_meet
    exact⟨by rw[HM.out],rfl⟩
  have b1:((x.nd.k:Int)==20)=false:=aP (by omega)
  have HM:=hid (show jZ=(LJ x 6&&fm F) by rw[qX.out,bP jH,Bool.false_or])
  clear jH
  cases hh:LJ x 6 with
  |false=>
   rw[hh] at GG
   have TM:=hid (show jZ=false by rw[HM.out,hh];rfl)
   clear hh
   go_wp2_with fail
   refine GG.out.mono ?_
   rintro e5 w5 ⟨rfl,rfl⟩
   go_wp2
   go_meet
   exact⟨by rw[TM.out],rfl⟩
  |true=>
   rw[hh] at GG
   have TM:=hid (show jZ=fm F by rw[HM.out,hh,Bool.true_and])
   clear hh
   go_wp2_with fail
   refine GG.out.mono ?_
   rintro e5 w5 ⟨rfl,rfl⟩
   go_wp2
   go_meet
   exact⟨by rw[TM.out],rfl⟩
 obtain⟨rfl,rfl⟩:=hcut
 obtain⟨Ad,cd,eqc,-,-,nB⟩:=oK.out
 rw[cL] at eqc
 injection eqc with eq1 _ eq3
 subst eq1 eq3
 have Hrc:=hid nB
 clear nB GG qX
 go_wp2
 go_loopg [9,10] cx.length (fun q mv kv wr=>∃(k:Nat) (mb:Bool),k≤cx.length∧q=cx.length-k∧mv=.bool mb∧kv=.int .i64 k∧Hid (mb=(jZ||(cx.take k).any fm))∧w2=wr)
 case atStart=>exact⟨0,jZ,Nat.zero_le _,rfl,rfl,rfl,hid (by simp),rfl⟩
 obtain⟨k,mb,hk,hq,rfl,rfl,MC,rfl⟩:=hrel
 have Hq:=hid hq
 clear hq
 by_cases pB:k<cx.length
 · obtain⟨ad,rfl,-,hcell⟩:=ints_at Hrc.out (k:=k) (by rw[cL];exact pB)
   have J7:(cx.map fun n=>((n:Nat):Int)).getD k 0=((cx[k]:Nat):Int):=by rw[dR,lZ,bX pB];rfl
   rw[J7] at hcell
   have hcF:=IP.out cx[k] (Q1 pB)
   have HMb:=hid (show (mb||fm cx[k])=(jZ||(cx.take (k+1)).any fm) by
    rw[MC.out,List.take_succ_eq_append_getElem pB,List.any_append,List.any_cons,List.any_nil,Bool.or_false,Bool.or_assoc])
   generalize cx[k]=ck at *
   obtain⟨gf,cf,clf,hvf,-,-,-,-,PX,OM,-⟩:=cP.at_ cY.out M_ (I0 (f:=fm) hcF)
   injection hvf with lR hx2 hx3
   injection lR with lR
   injection lR with lR _ _
   subst lR
   have DM:=OM 0 (by decide)
   rw[show clf=[.bool (fm ck)] from PX] at DM
   simp only[Nat.mul_one,Nat.add_zero,List.getElem?_cons_zero] at DM
   clear OM PX J7 MC hx2 hx3
   cases mb with
   |true=>
    have jT:=hid (show true=(jZ||(cx.take (k+1)).any fm) by rw[←HMb.out];rfl)
    go_wp2
    go_roundg (cx.length-(k+1))
    case rel=>exact⟨k+1,true,pB,rfl,rfl,by go_num,jT,rfl⟩
    rw[Hq.out];omega
   |false=>
    generalize fm ck=q0 at *
    have jT:=hid (show q0=(jZ||(cx.take (k+1)).any fm) by rw[←HMb.out];rfl)
    go_wp2
    go_roundg (cx.length-(k+1))
    case rel=>exact⟨k+1,q0,pB,rfl,rfl,by go_num,jT,rfl⟩
    rw[Hq.out];omega
 have TL:=hid (show fC F fm (gX F x)=mb by rw[VP.out,MC.out,show k=cx.length by omega,List.take_length])
 clear MC VP
 cases mb with
 |false=>
  have aAJ:=hid (show FY F (L.map (gX F)) fl=((L.drop (n+1)).map (gX F)).foldl (Sl.stepT F) fm by rw[QC.out];congr 1;unfold Sl.stepT;rw[TL.out];rfl)
  go_wp2
  go_roundg (L.length-(n+1))
  case rel=>exact⟨n+1,fm,oF,rfl,rfl,by go_num,aAJ,cY,bY⟩
  rw[Hm2.out];omega
 |true=>
  by_cases RY:x.unit<(F:Int)
  rotate_left
  · have aAJ:=hid (show FY F (L.map (gX F)) fl=((L.drop (n+1)).map (gX F)).foldl (Sl.stepT F) (fun j=>decide (j=F)||fm j) by
     rw[QC.out];congr 1;unfold Sl.stepT;rw[TL.out,if_pos rfl];unfold gX;rw[if_neg RY])
    have iJ:=hid (show sS w2 w.heap.size (.slice (some ⟨w.heap.size,0,none⟩) F F) (iB F fun j=>decide (j=F)||fm j) by
     rw[←aY1 (f:=fm) (fun k hk=>by rw[bP (by omega),Bool.false_or])];exact cY.out)
    have b1:decide (x.unit<(F:Int))=false:=bP RY
    clear RY
    go_wp2
    go_roundg (L.length-(n+1))
    case rel=>exact⟨n+1,_,oF,rfl,by simp,by go_num,aAJ,iJ,bY⟩
    rw[Hm2.out];omega
  obtain⟨un,qK⟩:∃un:Nat,x.unit=(un:Int):=⟨x.unit.toNat,by omega⟩
  have a6V:un<F:=by omega
  have aAJ:=hid (show FY F (L.map (gX F)) fl=((L.drop (n+1)).map (gX F)).foldl (Sl.stepT F) (fun j=>decide (j=un)||fm j) by
   rw[QC.out];congr 1;unfold Sl.stepT;rw[TL.out,if_pos rfl];unfold gX;rw[if_pos RY,qK];rfl)
  have HcF:=hid (show fm F=(decide (F=un)||fm F) by rw[bP (by omega),Bool.false_or])
  have iJ:=hid (show sS (w2.setCell ⟨w.heap.size,un,none⟩ (.bool true)) w.heap.size (.slice (some ⟨w.heap.size,0,none⟩) F F) (iB F fun j=>decide (j=un)||fm j) by
   have:=cP.cS (i:=un) (j:=0) (x':=true) (u:=.bool true) (show cP 4 1 LD w2 w.heap.size (.slice (some ⟨w.heap.size,0,none⟩) (iB F fm).length F) (iB F fm) by rw[CM];exact cY.out) M_ (I0 a6V) (by decide) (fun cs h=>by rw[show cs=[.bool (fm un)] from h];rfl)
   rw[CM,a1M] at this
   simpa only[Nat.mul_one,Nat.add_zero] using this)
  have b7:=hid (bY.out.setCell (p:=⟨w.heap.size,un,none⟩) (aC _) (.bool true))
  obtain⟨gf,cf,clf,hvf,-,-,-,-,PX,OM,a7O⟩:=cP.at_ cY.out M_ (I0 (f:=fm) a6V)
  injection hvf with lR hx2 hx3
  injection lR with lR
  injection lR with lR _ _
  subst lR
  have DM:=OM 0 (by decide)
  rw[show clf=[.bool (fm un)] from PX] at DM
  simp only[Nat.mul_one,Nat.add_zero,List.getElem?_cons_zero] at DM
  have z_:=a7O un
  rw[qK] at m8
  have b1:decide ((un:Int)<(F:Int))=true:=bF (by omega)
  clear OM a7O RY PX hx2 hx3
  go_wp2
  go_roundg (L.length-(n+1))
  case rel=>exact⟨n+1,_,oF,rfl,congrArg Value.bool HcF.out,by go_num,aAJ,iJ,b7⟩
  rw[Hm2.out];omega
end
end Go.Proofs.YtdlndhbkcgmkkaaGreatDoor
