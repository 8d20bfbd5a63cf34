/-
 Part 15 of 35 of a proof about the given program: facts on which the last part stands.
-/
import Derived.Test.YtdlndhbkcgmkkaaGreatDoorFL10
set_option maxHeartbeats 12800000
set_option linter.unusedVariables false
set_option linter.unusedSimpArgs false
set_option maxRecDepth 100000
namespace Go.Proofs.YtdlndhbkcgmkkaaGreatDoor
section
open Go.RowKit
open Go.Lib (hid)
namespace Sl
def iW:bQ→Int
 |.decl _=>1
 |.use _=>2
 |.opn=>3
 |.cls=>4
 |.call _ _=>5
def iX:bQ→aA
 |.decl x=>x
 |.use x=>x
 |.opn=>ByteArray.empty
 |.cls=>ByteArray.empty
 |.call x _=>x
def iY:bQ→Int
 |.call _ n=>(n:Int)
 |_=>0
def VN:List Value→List bQ→Prop
 |xs,[]=>xs=[]
 |xs,x::l=>∃b ys,xs=.int .i64 (iW x)::.string (iX x)::.int .i64 (iY x)::.bool b::ys∧VN ys l
theorem bL_:UO 4 VN List.length (fun l m=>l++m) where
 F_:=fun {xs l} h=>by
  induction l generalizing xs with
  |nil=>rw[show xs=[] from h];simp
  |cons x l ih=>
   obtain⟨b,ys,rfl,h2⟩:=h
   intro u hu
   simp only[List.mem_cons] at hu
   rcases hu with rfl|rfl|rfl|rfl|hu
   · rfl
   · rfl
   · rfl
   · rfl
   exact ih h2 u hu
 VL:=fun {xs ys l m} h1 h2=>by
  induction l generalizing xs with
  |nil=>rw[show xs=[] from h1];exact h2
  |cons x l ih=>
   obtain⟨b,zs,rfl,h3⟩:=h1
   exact⟨b,zs++ys,rfl,ih h3⟩
 len_:=fun l m=>bL
theorem I3 (x:bQ) (b:Bool):VN [.int .i64 (iW x),.string (iX x),.int .i64 (iY x),.bool b] [x]:=⟨b,[],rfl,rfl⟩
theorem I2:∀l:Fo,(way l).length≤3*l.cnt+l.aX
 |.nil=>by rw[way];exact Nat.zero_le _
 |.cons k t n s ps b e r=>by
   have h1:=I2 s
   have h2:=I2 b
   have h3:=I2 e
   have h4:=I2 r
   have a1:(fT k t s.len ps).length≤1+ps.length:=by unfold fT;split<;>(try split)<;>(try split)<;>simp<;>omega
   have a2:(mG k t).length≤1:=by unfold mG;split<;>(try split)<;>simp
   have a3:(sP k t).length≤1:=by unfold sP;split<;>(try split)<;>simp
   rw[way]
   simp only[bL,Fo.cnt,Fo.aX]
   omega
end Sl
open Sl
theorem bJX:(Tryz.prog.info? 224).map (fun i=>(i.zero,i.size,i.bytes))=some (some (.agg #[.int .i64 0,.string ByteArray.empty,.int .i64 0,.bool false]),4,40):=by kernel_rfl
abbrev Steps (w:World) (base:Nat) (v:Value) (l:List bQ):Prop:=aF 224 4 VN List.length w base v l
theorem A_ {w:World} {ops:Array Oper} {rest:List Oper} {o:Oper} {a:Act} {Q:Exit→Act→World→Prop} (hgd:o.guard=none) (s x:Operand)
 (ho:o.op=.call { callee:=.builtin .append,args:=#[s,x],argTypes:=#[222,222] })
 (base:Nat) (v:Value) (l:List bQ) (hs:a.eval s=v) (hown:Steps w base v l)
 (B:Nat) (A:Option Addr) (m c:Nat) (src:List bQ) (news:List Value) (hx:a.eval x=.slice A m c) (hm:m=src.length) (hr:Reads w B 4 A m news) (hR:VN news src)
 (hlen:l.length+m≤1000000000) (hbase:base≤w.heap.size)
 (h:∀v' w',Steps w' base v' (l++src)→w.grownBy w' v.ownBlock→wpList Tryz.prog ops Q rest (a.put o.dst v') w'):wpList Tryz.prog ops Q (o::rest) a w:=by
 obtain⟨i0,SC,hz0,hz1,hz2⟩:=info_parts bJX
 exact aDN bL_ hgd s x 222 ho base i0 _ 40 Tryz.underlying222 SC hz0 hz1 hz2 rfl (by decide) v l hs hown B A m c src news hx hm hr hR (by unfold maxLen;omega) (by omega) hbase (fun v' w' h1 h2 _=>h v' w' h1 h2)
structure mE (w:World) (g:Nat) (cs:Array Value) (vo:Value) (acc:List bQ) (wx:World):Prop where
 own:Steps wx w.heap.size vo acc
 blk:aG wx g 69 cs
 low:Below w.heap.size w wx
theorem mE.app {w wx w':World} {g:Nat} {cs:Array Value} {vo v':Value} {acc lB:List bQ} (h:mE w g cs vo acc wx) (ho:Steps w' w.heap.size v' lB) (hg:wx.grownBy w' vo.ownBlock):mE w g cs v' lB w':=
 ⟨ho,h.blk.grown hg (fun e=>h.own.ne h.blk (by decide) e.symm),h.own.grown h.low hg h.low.size⟩
theorem mE.step {w wx w':World} {g:Nat} {cs:Array Value} {vo:Value} {acc:List bQ} (h:mE w g cs vo acc wx) (hb:Below wx.heap.size wx w'):mE w g cs vo acc w':=
 ⟨h.own.below hb (aC _),h.blk.below hb h.blk.lt,h.low.trans (hb.mono h.low.size)⟩
theorem CH {w:World} {t:TypeId} {cs:Array Value} {n size:Nat} (hs:cs.size=n*size):Reads (w.alloc (.cells cs t)) (w.heap.size+1) size (some ⟨w.heap.size,0,none⟩) n cs.toList:=
 M9 (aG.new w t cs) (Nat.lt_succ_self _) hs
def bNQ (w:World) (l:Fo) (e:Ending) (w':World):Prop:=∃v',e=.returned v'∧Steps w' w.heap.size v' (way l)∧Below w.heap.size w w'
theorem bKQ {i:Nat} {l:Fo} {k:Nat} {t:aA} {n:Int} {s:Fo} {ps:List aA} {b e r:Fo} (h:Fo.drop i l=.cons k t n s ps b e r):way (Fo.drop i l)=fT k t s.len ps++way s++mG k t++way b++sP k t++way e++way r:=by rw[h,way]
theorem T5:∀{i:Nat} {l:Fo} {k:Nat} {t:aA} {n:Int} {s:Fo} {ps:List aA} {b e r:Fo},Fo.drop i l=.cons k t n s ps b e r→ps.length+s.aX+b.aX+e.aX+r.aX≤l.aX
 |0,_,_,_,_,_,_,_,_,_,h=>by
   unfold Fo.drop at h
   subst h
   simp only[Fo.aX]
   omega
 |i+1,.nil,_,_,_,_,_,_,_,_,h=>by simp[Fo.drop] at h
 |i+1,.cons ..,_,_,_,_,_,_,_,_,h=>by
   rw[Fo.drop] at h
   have:=T5 h
   simp only[Fo.aX]
   omega
theorem aOH (K:Nat) (hK:K≤140737488355328):∀(c:Nat) (l:Fo) (v:Value) (B:Nat) (w:World),l.cnt≤c→cM w B v l→B≤w.heap.size→Fo.cO K l→l.len<K→3*l.cnt+l.aX≤100000000→
 Calls Tryz.prog 159 #[v] w (bNQ w l):=fun c=>by
 induction c using Nat.strongRecOn with
 |ind c ih=>
 intro l v B w hc hl hB cX hlen J8
 obtain⟨A,cap,rfl,cB⟩:=hl.form
 have HL:=hid hl
 have HO:=hid cX
 clear hl cX
 have HI:=hid ih
 clear ih
 have hwl:=I2 l
 go_enter Tryz.func159,Tryz.ntmps159
 go_wp2
 go_loopg [3,4] l.len (fun g o i wr=>∃(vo:Value) (k:Nat) (acc:List bQ),vo=o∧k≤l.len∧g=l.len-k∧i=.int .i64 k∧Hid (way l=acc++way (Fo.drop k l))∧Hid (Steps wr w.heap.size vo acc)∧Hid (Below w.heap.size w wr))
 case atStart=>exact⟨_,0,[],rfl,Nat.zero_le _,rfl,rfl,hid (by rw[Fo.drop];rfl),hid (aF.nil w w.heap.size rfl rfl),hid (Below.refl _ _)⟩
 obtain⟨vo,k,acc,rfl,hk,hq,rfl,he,hown,hb⟩:=hrel
 have Hq:=hid hq
 clear hq
 obtain⟨wo,rfl⟩:∃x:World,x=wr:=⟨_,rfl⟩
 have hz:=hb.out.size
 by_cases hlt:k<l.len
 rotate_left
 · have HE:=hid (show way l=acc by rw[he.out,show k=l.len by omega,gB,way,List.append_nil])
   have HF:=hid (show Steps wo w.heap.size vo (way l) by rw[HE.out];exact hown.out)
   clear he hown
   go_wp2
   go_ret
   exact⟨_,rfl,HF.out,hb.out⟩
 obtain⟨a,kk,t,nn,s,ps,b,e,r,sv,pv,bv,ev,rfl,aI,hno⟩:=(HL.out.below (hb.out.mono hB)).at_ hlt
 have dL:=kN aI
 have nD:=T5 aI
 obtain⟨o1,-,o3,o4,-,j_,jO,kV,ZH,ZI,aJH,-⟩:Fo.cO K (.cons kk t nn s ps b e r):=aI▸IZ HO.out
 have oY:=hid ZH
 have tQ:=hid ZI
 have C9:=hid aJH
 clear ZH ZI aJH
 have hwd:=bKQ aI
 have oF:acc.length+(fT kk t s.len ps).length+(way s).length+(mG kk t).length+(way b).length+(sP kk t).length+(way e).length+(way r).length≤100000000:=by
  have h2:=congrArg List.length he.out
  rw[hwd] at h2
  simp only[bL] at h2
  omega
 have HE:=hid (he.out.trans (congrArg (acc++·) hwd))
 obtain⟨As,cs,rfl,hcs⟩:=hno.vals.subs.form
 obtain⟨Ab,cb,rfl,hcb⟩:=hno.vals.body.form
 obtain⟨Ae,ce,rfl,hce⟩:=hno.vals.els.form
 obtain⟨Ap,cp,rfl,kX,-⟩:=hno.vals.aX
 obtain⟨c0,c1,c2,c3,c4,c5,c6⟩:=hno.cells
 have Hd:=hid aI
 have lJ:=hid (show lY w B (.slice As s.len cs) (.slice Ap ps.length cp) (.slice Ab b.len cb) (.slice Ae e.len ce) s ps b e by
  obtain⟨a',k',t',n',s',C8,b',e',r',zT,l7,mD,AH,hA',WG,aRS⟩:=HL.out.at_ hlt
  cases hA'
  have bQ_:=Hd.out
  rw[bQ_] at WG
  cases WG
  obtain⟨q0,q1,q2,q3,q4,q5,q6⟩:=aRS.cells
  have keep:∀j,wo.cell? ⟨(a.add (k*7)).block,j,none⟩=w.cell? ⟨(a.add (k*7)).block,j,none⟩:=fun j=>hb.out.cell (by show (a.add (k*7)).block<_;rw[f_];have:=aRS.lt;omega)
  have x3:=(keep _).symm.trans c3
  rw[q3] at x3
  have x4:=(keep _).symm.trans c4
  rw[q4] at x4
  have x5:=(keep _).symm.trans c5
  rw[q5] at x5
  have x6:=(keep _).symm.trans c6
  rw[q6] at x6
  injection x3 with x3
  injection x4 with x4
  injection x5 with x5
  injection x6 with x6
  rw[←x3,←x4,←x5,←x6]
  exact aRS.vals)
 clear aI hno hwd he
 have fQ:=hid (show mE w wo.heap.size #[.int .u8 kk,.string t,.int .i64 nn,.slice As s.len cs,.slice Ap ps.length cp,.slice Ab b.len cb,.slice Ae e.len ce] vo acc (wo.alloc (.cells #[.int .u8 kk,.string t,.int .i64 nn,.slice As s.len cs,.slice Ap ps.length cp,.slice Ab b.len cb,.slice Ae e.len ce] 69)) from⟨hown.out.alloc _,aG.new wo _ _,hb.out.alloc hz _⟩)
 go_upto_region 6 with fail
 generalize wo.alloc (.cells #[.int .u8 kk,.string t,.int .i64 nn,.slice As s.len cs,.slice Ap ps.length cp,.slice Ab b.len cb,.slice Ae e.len ce] 69)=wc at *
 clear c0 c1 c2 c3 c4 c5 c6 hown hb
 obtain⟨a0,a1,a2,a3,a4,a5,a6⟩:=j5 fQ.out.blk
 go_upto_block 2 with fail
 go_cut [3] (fun x wx=>Hid (mE w wo.heap.size #[.int .u8 kk,.string t,.int .i64 nn,.slice As s.len cs,.slice Ap ps.length cp,.slice Ab b.len cb,.slice Ae e.len ce] x (acc++fT kk t s.len ps) wx))
 case first=>as_aux_lemma=>
  obtain⟨wx,rfl⟩:∃x:World,x=wc:=⟨_,rfl⟩
  by_cases k2:kk=2
  · subst k2
    have eR:=hid (fQ.out.step ((Below.refl _ _).alloc (aC _) (.cells #[.int .i64 (iW (.use t)),.string (iX (.use t)),.int .i64 (iY (.use t)),.bool false] 224)))
    have hP:=hid (CH (w:=wx) (t:=224) (cs:=#[.int .i64 (iW (.use t)),.string (iX (.use t)),.int .i64 (iY (.use t)),.bool false]) (n:=1) (size:=4) rfl)
    have o_:=fQ.out.low.size
    go_wp2_with (at_builtin;go_must (refine A_ rfl _ _ rfl w.heap.size _ (acc) rfl eR.out.own _ _ 1 _ [.use t] _ rfl rfl hP.out (I3 (.use t) false) (by first|omega|(simp only[bL];omega)) (by simp;omega) ?_))
    intro v5 w5 aZ aU
    have nM:=hid (show mE w wo.heap.size #[.int .u8 (2:Nat),.string t,.int .i64 nn,.slice As s.len cs,.slice Ap ps.length cp,.slice Ab b.len cb,.slice Ae e.len ce] v5 ((acc)++[.use t]) w5 by have:=eR.out.app aZ aU;simpa only[dZ] using this)
    clear aZ aU eR hP
    go_wp2
    go_meet
    exact nM
  by_cases k5:kk=5∨kk=13
  · have HT:=hid (show fT kk t s.len ps=[.call t s.len] by unfold fT;rw[if_neg k2,if_pos k5])
    rcases k5 with rfl|rfl
    · skip
      have eR:=hid (fQ.out.step ((Below.refl _ _).alloc (aC _) (.cells #[.int .i64 (iW (.call t s.len)),.string (iX (.call t s.len)),.int .i64 (iY (.call t s.len)),.bool false] 224)))
      have hP:=hid (CH (w:=wx) (t:=224) (cs:=#[.int .i64 (iW (.call t s.len)),.string (iX (.call t s.len)),.int .i64 (iY (.call t s.len)),.bool false]) (n:=1) (size:=4) rfl)
      have o_:=fQ.out.low.size
      go_wp2_with (at_builtin;go_must (refine A_ rfl _ _ rfl w.heap.size _ (acc) rfl eR.out.own _ _ 1 _ [.call t s.len] _ rfl rfl hP.out (I3 (.call t s.len) false) (by first|omega|(simp only[bL];omega)) (by simp;omega) ?_))
      intro v5 w5 aZ aU
      have nM:=hid (show mE w wo.heap.size #[.int .u8 (5:Nat),.string t,.int .i64 nn,.slice As s.len cs,.slice Ap ps.length cp,.slice Ab b.len cb,.slice Ae e.len ce] v5 ((acc)++[.call t s.len]) w5 by have:=eR.out.app aZ aU;simpa only[dZ] using this)
      clear aZ aU eR hP
      go_wp2
      go_meet
      rw[HT.out]
      exact nM
    skip
    have eR:=hid (fQ.out.step ((Below.refl _ _).alloc (aC _) (.cells #[.int .i64 (iW (.call t s.len)),.string (iX (.call t s.len)),.int .i64 (iY (.call t s.len)),.bool false] 224)))
    have hP:=hid (CH (w:=wx) (t:=224) (cs:=#[.int .i64 (iW (.call t s.len)),.string (iX (.call t s.len)),.int .i64 (iY (.call t s.len)),.bool false]) (n:=1) (size:=4) rfl)
    have o_:=fQ.out.low.size
    go_wp2_with (at_builtin;go_must (refine A_ rfl _ _ rfl w.heap.size _ (acc) rfl eR.out.own _ _ 1 _ [.call t s.len] _ rfl rfl hP.out (I3 (.call t s.len) false) (by first|omega|(simp only[bL];omega)) (by simp;omega) ?_))
    intro v5 w5 aZ aU
    have nM:=hid (show mE w wo.heap.size #[.int .u8 (13:Nat),.string t,.int .i64 nn,.slice As s.len cs,.slice Ap ps.length cp,.slice Ab b.len cb,.slice Ae e.len ce] v5 ((acc)++[.call t s.len]) w5 by have:=eR.out.app aZ aU;simpa only[dZ] using this)
    clear aZ aU eR hP
    go_wp2
    go_meet
    rw[HT.out]
    exact nM
  by_cases kA:kk=10
  rotate_left
  · have HT:=hid (show fT kk t s.len ps=[] by unfold fT;rw[if_neg k2,if_neg k5,if_neg kA])
    have e2:((kk:Int)==2)=false:=aP (by omega)
    have e5:((kk:Int)==5)=false:=aP (by omega)
    have G_:((kk:Int)==13)=false:=aP (by omega)
    have B9:((kk:Int)==10)=false:=aP (by omega)
    clear k2 k5 kA
    go_wp2
    go_meet
    rw[HT.out,List.append_nil]
    exact fQ
  subst kA
  have HT:=hid (show fT 10 t s.len ps=.opn::ps.map .decl from rfl)
  have hpl:(fT 10 t s.len ps).length=ps.length+1:=by rw[HT.out];simp
  rw[hpl] at oF
  clear hpl
  have eR:=hid (fQ.out.step ((Below.refl _ _).alloc (aC _) (.cells #[.int .i64 (iW (.opn)),.string (iX (.opn)),.int .i64 (iY (.opn)),.bool false] 224)))
  have hP:=hid (CH (w:=wx) (t:=224) (cs:=#[.int .i64 (iW (.opn)),.string (iX (.opn)),.int .i64 (iY (.opn)),.bool false]) (n:=1) (size:=4) rfl)
  have o_:=fQ.out.low.size
  go_wp2_with (at_builtin;go_must (refine A_ rfl _ _ rfl w.heap.size _ (acc) rfl eR.out.own _ _ 1 _ [.opn] _ rfl rfl hP.out (I3 (.opn) false) (by first|omega|(simp only[bL];omega)) (by simp;omega) ?_))
  intro v5 w5 aZ aU
  have nM:=hid (show mE w wo.heap.size #[.int .u8 (10:Nat),.string t,.int .i64 nn,.slice As s.len cs,.slice Ap ps.length cp,.slice Ab b.len cb,.slice Ae e.len ce] v5 ((acc)++[.opn]) w5 by have:=eR.out.app aZ aU;simpa only[dZ] using this)
  clear aZ aU eR hP
  go_wp2_with fail
  go_loopg [3,6] ps.length (fun g o i wr=>∃(vo:Value) (q:Nat),vo=o∧q≤ps.length∧g=ps.length-q∧i=.int .i64 q∧Hid (mE w wo.heap.size #[.int .u8 (10:Nat),.string t,.int .i64 nn,.slice As s.len cs,.slice Ap ps.length cp,.slice Ab b.len cb,.slice Ae e.len ce] vo (acc++.opn::(ps.take q).map .decl) wr))
  case atStart=>exact⟨_,0,rfl,Nat.zero_le _,rfl,rfl,nM⟩
  obtain⟨vo,q,rfl,hq,hg,rfl,SH⟩:=hrel
  have Hg:=hid hg
  clear hg
  obtain⟨wx,rfl⟩:∃x:World,x=wr:=⟨_,rfl⟩
  obtain⟨a0,a1,a2,a3,a4,a5,a6⟩:=j5 SH.out.blk
  by_cases LG:q<ps.length
  rotate_left
  · have mV:=hid (show acc++.opn::(ps.take q).map bQ.decl=acc++fT 10 t s.len ps by rw[HT.out,List.take_of_length_le (by omega)])
    rw[mV.out] at SH
    go_wp2
    go_meet
    exact SH
  have kQ:=SH.out.low
  obtain⟨ap,hap,-,V8⟩:=FV (show Reads wx B 1 Ap ps.length (ps.map .string) by
   obtain⟨A',c',e',-,kC⟩:=lJ.out.aX
   cases e'
   exact kC.below (kQ.mono hB)) LG
  subst hap
  have mV:=hid (show (ps.take (q+1)).map bQ.decl=(ps.take q).map bQ.decl++[.decl (ps.getD q ByteArray.empty)] by
   rw[List.take_succ_eq_append_getElem LG,List.map_append,dR,bX LG]
   rfl)
  clear kQ
  obtain⟨ac,DN⟩:∃z,z=acc++bQ.opn::(ps.take q).map bQ.decl:=⟨_,rfl⟩
  rw[←DN] at SH
  have bRS:ac.length≤acc.length+1+ps.length:=by rw[DN];simp;omega
  have Hac:=hid DN
  clear DN
  generalize ps.getD q ByteArray.empty=px at *
  have eR:=hid (SH.out.step ((Below.refl _ _).alloc (aC _) (.cells #[.int .i64 (iW (.decl px)),.string (iX (.decl px)),.int .i64 (iY (.decl px)),.bool false] 224)))
  have hP:=hid (CH (w:=wx) (t:=224) (cs:=#[.int .i64 (iW (.decl px)),.string (iX (.decl px)),.int .i64 (iY (.decl px)),.bool false]) (n:=1) (size:=4) rfl)
  have o_:=SH.out.low.size
  go_wp2_with (at_builtin;go_must (refine A_ rfl _ _ rfl w.heap.size _ (ac) rfl eR.out.own _ _ 1 _ [.decl px] _ rfl rfl hP.out (I3 (.decl px) false) (by first|omega|(simp only[bL];omega)) (by simp;omega) ?_))
  intro v5 w5 aZ aU
  have nM:=hid (show mE w wo.heap.size #[.int .u8 (10:Nat),.string t,.int .i64 nn,.slice As s.len cs,.slice (some ap) ps.length cp,.slice Ab b.len cb,.slice Ae e.len ce] v5 ((ac)++[.decl px]) w5 by have:=eR.out.app aZ aU;simpa only[dZ] using this)
  clear aZ aU eR hP
  go_wp2
  go_roundg (ps.length-(q+1))
  case rel=>exact⟨_,q+1,rfl,LG,rfl,by go_num,by rw[show acc++bQ.opn::(ps.take (q+1)).map bQ.decl=ac++[bQ.decl px] by rw[mV.out,Hac.out];simp];exact nM⟩
  rw[Hg.out];omega
 obtain⟨gZ,-⟩:_∧True:=⟨hcut,trivial⟩
 clear fQ hcut
 have o_:=gZ.out.low.size
 have HC:=hid (HI.out s.cnt (by omega) s _ B wc (aC _) (lJ.out.subs.below (gZ.out.low.mono hB)) (by omega) oY.out j_ (by omega))
 obtain⟨a0,a1,a2,a3,a4,a5,a6⟩:=j5 gZ.out.blk
 go_wp2_with fail
 refine HC.out.mono ?_
 rintro e1 w4 ⟨v4,rfl,cU,hb4⟩
 have DY:=hid (gZ.out.step hb4)
 have gY:=hb4.size
 obtain⟨A4,c4,n4,rfl,-,hr4,nI⟩:=cU.src
 have H8:=hid hr4
 have nN:=hid nI
 clear cU hb4 hr4 nI HC
 clear a0 a1 a2 a3 a4 a5 a6
 go_wp2_with (at_builtin;go_must (refine A_ rfl _ _ rfl w.heap.size _ (acc++fT kk t s.len ps) rfl DY.out.own _ A4 _ c4 (way s) n4 rfl rfl H8.out nN.out (by first|omega|(simp only[bL];omega)) (by omega) ?_))
 intro v5 w5 aZ aU
 have kI:=hid (show mE w wo.heap.size #[.int .u8 kk,.string t,.int .i64 nn,.slice As s.len cs,.slice Ap ps.length cp,.slice Ab b.len cb,.slice Ae e.len ce] v5 ((acc++fT kk t s.len ps)++way s) w5 by have:=DY.out.app aZ aU;simpa only[dZ] using this)
 clear aZ aU DY H8 nN gY
 clear gZ
 go_upto_region 19 with fail
 obtain⟨wc,rfl⟩:∃x:World,x=w5:=⟨_,rfl⟩
 obtain⟨a0,a1,a2,a3,a4,a5,a6⟩:=j5 kI.out.blk
 go_upto_block 5 with fail
 go_cut [3] (fun x wx=>Hid (mE w wo.heap.size #[.int .u8 kk,.string t,.int .i64 nn,.slice As s.len cs,.slice Ap ps.length cp,.slice Ab b.len cb,.slice Ae e.len ce] x (acc++fT kk t s.len ps++way s++mG kk t) wx))
 case first=>as_aux_lemma=>
  obtain⟨wx,rfl⟩:∃x:World,x=wc:=⟨_,rfl⟩
  by_cases RT:kk=14
  · subst RT
    have eR:=hid (kI.out.step ((Below.refl _ _).alloc (aC _) (.cells #[.int .i64 (iW (.decl t)),.string (iX (.decl t)),.int .i64 (iY (.decl t)),.bool false] 224)))
    have hP:=hid (CH (w:=wx) (t:=224) (cs:=#[.int .i64 (iW (.decl t)),.string (iX (.decl t)),.int .i64 (iY (.decl t)),.bool false]) (n:=1) (size:=4) rfl)
    have o_:=kI.out.low.size
    go_wp2_with (at_builtin;go_must (refine A_ rfl _ _ rfl w.heap.size _ (acc++fT 14 t s.len ps++way s) rfl eR.out.own _ _ 1 _ [.decl t] _ rfl rfl hP.out (I3 (.decl t) false) (by first|omega|(simp only[bL];omega)) (by simp;omega) ?_))
    intro v5 w5 aZ aU
    have nM:=hid (show mE w wo.heap.size #[.int .u8 (14:Nat),.string t,.int .i64 nn,.slice As s.len cs,.slice Ap ps.length cp,.slice Ab b.len cb,.slice Ae e.len ce] v5 ((acc++fT 14 t s.len ps++way s)++[.decl t]) w5 by have:=eR.out.app aZ aU;simpa only[dZ] using this)
    clear aZ aU eR hP
    go_wp2
    go_meet
    exact nM
  by_cases RR:kk=15
  · subst RR
    have eR:=hid (kI.out.step ((Below.refl _ _).alloc (aC _) (.cells #[.int .i64 (iW (.use t)),.string (iX (.use t)),.int .i64 (iY (.use t)),.bool true] 224)))
    have hP:=hid (CH (w:=wx) (t:=224) (cs:=#[.int .i64 (iW (.use t)),.string (iX (.use t)),.int .i64 (iY (.use t)),.bool true]) (n:=1) (size:=4) rfl)
    have o_:=kI.out.low.size
    go_wp2_with (at_builtin;go_must (refine A_ rfl _ _ rfl w.heap.size _ (acc++fT 15 t s.len ps++way s) rfl eR.out.own _ _ 1 _ [.use t] _ rfl rfl hP.out (I3 (.use t) true) (by first|omega|(simp only[bL];omega)) (by simp;omega) ?_))
    intro v5 w5 aZ aU
    have nM:=hid (show mE w wo.heap.size #[.int .u8 (15:Nat),.string t,.int .i64 nn,.slice As s.len cs,.slice Ap ps.length cp,.slice Ab b.len cb,.slice Ae e.len ce] v5 ((acc++fT 15 t s.len ps++way s)++[.use t]) w5 by have:=eR.out.app aZ aU;simpa only[dZ] using this)
    clear aZ aU eR hP
    go_wp2
    go_meet
    exact nM
  have HT:=hid (show mG kk t=[] by unfold mG;rw[if_neg RT,if_neg RR])
  have MO:((kk:Int)==14)=false:=aP (by omega)
  have e15:((kk:Int)==15)=false:=aP (by omega)
  clear RT RR
  go_wp2
  go_meet
  rw[HT.out,List.append_nil]
  exact kI
 obtain⟨gZ,-⟩:_∧True:=⟨hcut,trivial⟩
 clear kI hcut a0 a1 a2 a3 a4 a5 a6
 have o_:=gZ.out.low.size
 have HC:=hid (HI.out b.cnt (by omega) b _ B wc (aC _) (lJ.out.body.below (gZ.out.low.mono hB)) (by omega) tQ.out jO (by omega))
 obtain⟨a0,a1,a2,a3,a4,a5,a6⟩:=j5 gZ.out.blk
 go_wp2_with fail
 refine HC.out.mono ?_
 rintro e1 w4 ⟨v4,rfl,cU,hb4⟩
 have DY:=hid (gZ.out.step hb4)
 have gY:=hb4.size
 obtain⟨A4,c4,n4,rfl,-,hr4,nI⟩:=cU.src
 have H8:=hid hr4
 have nN:=hid nI
 clear cU hb4 hr4 nI HC
 clear a0 a1 a2 a3 a4 a5 a6
 go_wp2_with (at_builtin;go_must (refine A_ rfl _ _ rfl w.heap.size _ (acc++fT kk t s.len ps++way s++mG kk t) rfl DY.out.own _ A4 _ c4 (way b) n4 rfl rfl H8.out nN.out (by first|omega|(simp only[bL];omega)) (by omega) ?_))
 intro v5 w5 aZ aU
 have kI:=hid (show mE w wo.heap.size #[.int .u8 kk,.string t,.int .i64 nn,.slice As s.len cs,.slice Ap ps.length cp,.slice Ab b.len cb,.slice Ae e.len ce] v5 ((acc++fT kk t s.len ps++way s++mG kk t)++way b) w5 by have:=DY.out.app aZ aU;simpa only[dZ] using this)
 clear aZ aU DY H8 nN gY
 clear gZ
 go_upto_region 25 with fail
 obtain⟨wc,rfl⟩:∃x:World,x=w5:=⟨_,rfl⟩
 obtain⟨a0,a1,a2,a3,a4,a5,a6⟩:=j5 kI.out.blk
 go_upto_block 6 with fail
 go_cut [3] (fun x wx=>Hid (mE w wo.heap.size #[.int .u8 kk,.string t,.int .i64 nn,.slice As s.len cs,.slice Ap ps.length cp,.slice Ab b.len cb,.slice Ae e.len ce] x (acc++fT kk t s.len ps++way s++mG kk t++way b++sP kk t) wx))
 case first=>as_aux_lemma=>
  obtain⟨wx,rfl⟩:∃x:World,x=wc:=⟨_,rfl⟩
  by_cases RQ:kk=21
  · subst RQ
    have eR:=hid (kI.out.step ((Below.refl _ _).alloc (aC _) (.cells #[.int .i64 (iW (.decl t)),.string (iX (.decl t)),.int .i64 (iY (.decl t)),.bool false] 224)))
    have hP:=hid (CH (w:=wx) (t:=224) (cs:=#[.int .i64 (iW (.decl t)),.string (iX (.decl t)),.int .i64 (iY (.decl t)),.bool false]) (n:=1) (size:=4) rfl)
    have o_:=kI.out.low.size
    go_wp2_with (at_builtin;go_must (refine A_ rfl _ _ rfl w.heap.size _ (acc++fT 21 t s.len ps++way s++mG 21 t++way b) rfl eR.out.own _ _ 1 _ [.decl t] _ rfl rfl hP.out (I3 (.decl t) false) (by first|omega|(simp only[bL];omega)) (by simp;omega) ?_))
    intro v5 w5 aZ aU
    have nM:=hid (show mE w wo.heap.size #[.int .u8 (21:Nat),.string t,.int .i64 nn,.slice As s.len cs,.slice Ap ps.length cp,.slice Ab b.len cb,.slice Ae e.len ce] v5 ((acc++fT 21 t s.len ps++way s++mG 21 t++way b)++[.decl t]) w5 by have:=eR.out.app aZ aU;simpa only[dZ] using this)
    clear aZ aU eR hP
    go_wp2
    go_meet
    exact nM
  by_cases kA:kk=10
  · subst kA
    have eR:=hid (kI.out.step ((Below.refl _ _).alloc (aC _) (.cells #[.int .i64 (iW (.cls)),.string (iX (.cls)),.int .i64 (iY (.cls)),.bool false] 224)))
    have hP:=hid (CH (w:=wx) (t:=224) (cs:=#[.int .i64 (iW (.cls)),.string (iX (.cls)),.int .i64 (iY (.cls)),.bool false]) (n:=1) (size:=4) rfl)
    have o_:=kI.out.low.size
    go_wp2_with (at_builtin;go_must (refine A_ rfl _ _ rfl w.heap.size _ (acc++fT 10 t s.len ps++way s++mG 10 t++way b) rfl eR.out.own _ _ 1 _ [.cls] _ rfl rfl hP.out (I3 (.cls) false) (by first|omega|(simp only[bL];omega)) (by simp;omega) ?_))
    intro v5 w5 aZ aU
    have nM:=hid (show mE w wo.heap.size #[.int .u8 (10:Nat),.string t,.int .i64 nn,.slice As s.len cs,.slice Ap ps.length cp,.slice Ab b.len cb,.slice Ae e.len ce] v5 ((acc++fT 10 t s.len ps++way s++mG 10 t++way b)++[.cls]) w5 by have:=eR.out.app aZ aU;simpa only[dZ] using this)
    clear aZ aU eR hP
    go_wp2
    go_meet
    exact nM
  have HT:=hid (show sP kk t=[] by unfold sP;rw[if_neg RQ,if_neg kA])
  have S7:((kk:Int)==21)=false:=aP (by omega)
  have B9:((kk:Int)==10)=false:=aP (by omega)
  clear RQ kA
  go_wp2
  go_meet
  rw[HT.out,List.append_nil]
  exact kI
 obtain⟨gZ,-⟩:_∧True:=⟨hcut,trivial⟩
 clear kI hcut a0 a1 a2 a3 a4 a5 a6
 have o_:=gZ.out.low.size
 have HC:=hid (HI.out e.cnt (by omega) e _ B wc (aC _) (lJ.out.els.below (gZ.out.low.mono hB)) (by omega) C9.out kV (by omega))
 obtain⟨a0,a1,a2,a3,a4,a5,a6⟩:=j5 gZ.out.blk
 go_wp2_with fail
 refine HC.out.mono ?_
 rintro e1 w4 ⟨v4,rfl,cU,hb4⟩
 have DY:=hid (gZ.out.step hb4)
 have gY:=hb4.size
 obtain⟨A4,c4,n4,rfl,-,hr4,nI⟩:=cU.src
 have H8:=hid hr4
 have nN:=hid nI
 clear cU hb4 hr4 nI HC
 clear a0 a1 a2 a3 a4 a5 a6
 go_wp2_with (at_builtin;go_must (refine A_ rfl _ _ rfl w.heap.size _ (acc++fT kk t s.len ps++way s++mG kk t++way b++sP kk t) rfl DY.out.own _ A4 _ c4 (way e) n4 rfl rfl H8.out nN.out (by first|omega|(simp only[bL];omega)) (by omega) ?_))
 intro v5 w5 aZ aU
 have kI:=hid (show mE w wo.heap.size #[.int .u8 kk,.string t,.int .i64 nn,.slice As s.len cs,.slice Ap ps.length cp,.slice Ab b.len cb,.slice Ae e.len ce] v5 ((acc++fT kk t s.len ps++way s++mG kk t++way b++sP kk t)++way e) w5 by have:=DY.out.app aZ aU;simpa only[dZ] using this)
 clear aZ aU DY H8 nN gY
 clear gZ
 have HEq:=hid (show way l=(acc++fT kk t s.len ps++way s++mG kk t++way b++sP kk t++way e)++way r by rw[HE.out];simp only[dZ])
 go_wp2
 go_roundg (l.len-(k+1))
 case rel=>exact⟨_,k+1,_,rfl,hlt,rfl,by go_num,hid (by rw[eD Hd.out];exact HEq.out),hid kI.out.own,hid kI.out.low⟩
 rw[Hq.out];omega
end
end Go.Proofs.YtdlndhbkcgmkkaaGreatDoor
