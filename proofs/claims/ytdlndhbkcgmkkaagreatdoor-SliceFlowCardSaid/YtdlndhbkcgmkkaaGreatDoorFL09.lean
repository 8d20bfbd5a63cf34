/-
 Part 9 of 35 of a proof about the given program: facts on which the last part stands.
-/
import Derived.Test.YtdlndhbkcgmkkaaGreatDoorFL08
import Derived.OpenShut
import Derived.WalkMore
import Derived.Deep.CutBlock
import Derived.Deep.DeepCutAuto
import Derived.StillTailTactics
import Derived.Outline
import Derived.Deep.Slices
import Derived.Deep.Fields
import Derived.ChangeSame
import Derived.Lib.SmallJoins
import Derived.SizedLaws
import Derived.Lib.SlicesS
set_option maxHeartbeats 12800000
set_option linter.unusedVariables false
set_option linter.unusedSimpArgs false
set_option maxRecDepth 100000
namespace Go.Proofs.YtdlndhbkcgmkkaaGreatDoor
section
open Go.RowKit Go.ChangeShapes Go.WideShapes Go.Joins Go.Deep
namespace Sl
theorem mX {w:World} {p:Addr} {u:Value} (h:w.cell? p=some u):p.block<w.heap.size:=by
 rcases Nat.lt_or_ge p.block w.heap.size with hlt|hge
 · exact hlt
 unfold World.cell? at h
 rw[Array.getElem?_eq_none hge] at h
 cases h
def I64 (n:Int):Prop:=-9223372036854775808≤n∧n<9223372036854775808
def Fo.cO (K:Nat):Fo→Prop
 |.nil=>True
 |.cons k t n s ps b e r=>k<256∧I64 n∧t.size<K∧ps.length<K∧(∀x∈ps,x.size<K)∧s.len<K∧b.len<K∧e.len<K∧Fo.cO K s∧Fo.cO K b∧Fo.cO K e∧Fo.cO K r
theorem Fo.cO.small {K:Nat}:∀{l:Fo},Fo.cO K l→Fo.small K l
 |.nil,_=>trivial
 |.cons ..,h=>⟨h.2.2.1,h.2.2.2.1,Fo.cO.small h.2.2.2.2.2.2.2.2.1,Fo.cO.small h.2.2.2.2.2.2.2.2.2.1,Fo.cO.small h.2.2.2.2.2.2.2.2.2.2.1,Fo.cO.small h.2.2.2.2.2.2.2.2.2.2.2⟩
section
variable {H:Type} {enc:TypeId×Value→H} {P:Program} {W:World}
theorem aX8 {e:TypeId} {n:Nat}:∀{ds:List (DataW H)} {d:DataW H},d∈ds→n∈d.weights P e→n∈DataW.weightsAll P e ds
 |x::ds,d,h,hn=>by
   rw[DataW.weightsAll,List.mem_append]
   rcases List.mem_cons.1 h with rfl|h
   · exact .inl hn
   exact .inr (aX8 h hn)
 | [],_,h,_=>by cases h
theorem open_row {t e:TypeId} {fuel:Nat} {cs:List Value} {x:DataW H×List MemPlace} (ht:P.underlying t=some (.slice e)) (hb:1≤P.bytesOf e) (h:DataW.trod enc P W 0 (fun _=>true) true fuel t cs=some x)
 (hs:∀n∈x.1.weights P t,n≤reachBytes):
 cs=[.slice none 0 0]∨∃(a:Addr) (len cap n:Nat),fuel=n+1∧cs=[.slice (some a) len cap]∧len≤cap∧len≤reachBytes∧
  ∀i,i<len→∃cs' y,W.cells? 0 (a.add (i*P.cellsOf e)) (P.cellsOf e)=some cs'∧DataW.trod enc P W 0 (fun _=>true) true n e cs'=some y∧∀k∈y.1.weights P e,k≤reachBytes:=by
 rcases DataW.trod_slice ht h with⟨h0,-⟩|⟨a,len,cap,elems,rest,n,hf,hcs,hx,_,hl,_,hlen,AB,_,_⟩
 · exact .inl h0
 have hw:∀k,k∈((elems.map (·.1)).length+(rest.map (·.1)).length)*P.bytesOf e::(DataW.weightsAll P e (elems.map (·.1))++DataW.weightsAll P e (rest.map (·.1)))→k≤reachBytes:=fun k hk=>hs k (by
  rw[hx]
  simp only[DataW.weights,ht]
  exact hk)
 refine .inr ⟨a,len,cap,n,hf,hcs,hl,?_,fun i hi=>?_⟩
 · have:=hw _ (List.mem_cons_self ..)
   rw[cL,cL,hlen] at this
   refine Nat.le_trans ?_ this
   exact Nat.le_trans (Nat.le_add_right len rest.length) (Nat.le_mul_of_pos_right _ hb)
 have h1:=AB i hi
 have h2:elems[i]?=some (elems[i]'(by omega)):=bX (by omega)
 rw[h2] at h1
 obtain⟨cs',hc,hd⟩:=Option.bind_eq_some_iff.1 h1
 refine⟨cs',_,hc,hd,fun k hk=>hw k (kS _ (rN _ (aX8 (d:=(elems[i]'(by omega)).1) ?_ hk)))⟩
 exact List.mem_map.2 ⟨_,Q1 _,rfl⟩
theorem open_strs {t e:TypeId} {fuel:Nat} {cs:List Value} {x:DataW H×List MemPlace} (ht:P.underlying t=some (.slice e)) (he:P.underlying e=some .string) (hC:P.cellsOf e=1) (hb:1≤P.bytesOf e)
 (h:DataW.trod enc P W 0 (fun _=>true) true fuel t cs=some x) (hs:∀n∈x.1.weights P t,n≤reachBytes):
 ∃v ps,cs=[v]∧iF W W.heap.size v ps∧ps.length<reachBytes+1∧∀y∈ps,y.size<reachBytes+1:=by
 rcases open_row ht hb h hs with rfl|⟨a,len,cap,n,-,rfl,hl,hr,hi⟩
 · exact⟨_,[],rfl,⟨none,0,rfl,aC _,Reads.none_⟩,Nat.zero_lt_succ _,fun _ h=>by cases h⟩
 rw[hC] at hi
 have:∀m,m≤len→∃ps:List aA,ps.length=m∧(∀i s,ps[i]?=some s→W.cell? (a.add i)=some (.string s))∧∀y∈ps,y.size<reachBytes+1:=fun m=>by
  induction m with
  |zero=>exact fun _=>⟨[],rfl,fun i s h=>by simp at h,fun _ h=>by cases h⟩
  |succ m ih=>
   intro hm
   obtain⟨ps,h1,h2,h3⟩:=ih (by omega)
   obtain⟨cs',y,hc,hd,hw⟩:=hi m hm
   obtain⟨s,rfl,hy,-⟩:=DataW.trod_string he hd
   obtain⟨_,_,hat⟩:=World.cells?_some hc
   have hcell:=hat 0 (by omega)
   rw[Nat.mul_one,aM5,Nat.add_zero] at hcell
   refine⟨ps++[s],by simp[h1],fun i z hz=>?_,fun z hz=>?_⟩
   · rcases Nat.lt_or_ge i ps.length with hi'|hi'
     · rw[List.getElem?_append_left hi'] at hz
       exact h2 i z hz
     rw[List.getElem?_append_right hi'] at hz
     have SC:i-ps.length=0:=by
      have:=(mK.1 hz).1
      simp at this
      omega
     rw[SC] at hz
     simp only[List.getElem?_cons_zero,Option.some.injEq] at hz
     subst hz
     have:i=m:=by omega
     subst this
     simpa using hcell
   rcases List.mem_append.1 hz with hz|hz
   · exact h3 z hz
   simp only[List.mem_singleton] at hz
   subst hz
   have:=hw z.data.toList.length (by rw[hy];simp[DataW.weights])
   have e:z.size=z.data.toList.length:=Array.length_toList.symm
   omega
 obtain⟨ps,h1,h2,h3⟩:=this len (aC _)
 refine⟨_,ps,rfl,⟨some a,cap,by rw[h1],by omega,?_⟩,by omega,h3⟩
 refine⟨by simp,fun hn=>⟨a,rfl,?_,fun j u hj=>?_⟩⟩
 · have h0:ps[0]?=some (ps[0]'(by omega)):=bX (by omega)
   have:=mX (h2 0 _ h0)
   rwa [f_] at this
 rw[lZ] at hj
 obtain⟨s,hs',rfl⟩:=Option.map_eq_some_iff.1 hj
 exact h2 j s hs'
theorem aZR {B K:Nat} {a:Addr}:∀(m i0:Nat),(∀i,i0≤i→i<i0+m→∃k t n s ps b e sv pv bv ev,uM W B a (i*7) k t n s ps b e sv pv bv ev∧Fo.cO K (.cons k t n s ps b e .nil))→
 ∃l zs,l.len=m∧Flat W B l zs∧Fo.cO K l∧∀j u,zs[j]?=some u→W.cell? (a.add (i0*7+j))=some u
 |0,_,_=>⟨.nil,[],rfl,by unfold Flat;rfl,trivial,fun j u h=>by simp at h⟩
 |m+1,i0,h=>by
   obtain⟨l,zs,h1,h2,h3,h4⟩:=aZR m (i0+1) fun i hi hj=>h i (by omega) (by omega)
   obtain⟨k,t,n,s,ps,b,e,sv,pv,bv,ev,hn,hk⟩:=h i0 (aC _) (by omega)
   refine⟨.cons k t n s ps b e l,_,by rw[Fo.len,h1],UE hn.vals h2,?_,?_⟩
   · unfold Fo.cO at hk ⊢
     exact⟨hk.1,hk.2.1,hk.2.2.1,hk.2.2.2.1,hk.2.2.2.2.1,hk.2.2.2.2.2.1,hk.2.2.2.2.2.2.1,hk.2.2.2.2.2.2.2.1,hk.2.2.2.2.2.2.2.2.1,hk.2.2.2.2.2.2.2.2.2.1,hk.2.2.2.2.2.2.2.2.2.2.1,h3⟩
   intro j u hj
   match j,hj with
   |0,hj=>simp at hj;subst hj;exact hn.kind
   |1,hj=>simp at hj;subst hj;exact hn.text
   |2,hj=>simp at hj;subst hj;exact hn.num
   |3,hj=>simp at hj;subst hj;exact hn.subs
   |4,hj=>simp at hj;subst hj;exact hn.aX
   |5,hj=>simp at hj;subst hj;exact hn.body
   |6,hj=>simp at hj;subst hj;exact hn.els
   |j+7,hj=>
    simp only[List.getElem?_cons_succ] at hj
    have:=h4 j u hj
    rwa [show i0*7+(j+7)=(i0+1)*7+j by omega]
structure aPM (P:Program) (tl tn tk ti ts LV:TypeId):Prop where
 list:P.underlying tl=some (.slice tn)
 node:∃f0 f1 f2 f3 f4 f5 f6:Field,P.underlying tn=some (.struct #[f0,f1,f2,f3,f4,f5,f6])∧oneCellFields P #[f0,f1,f2,f3,f4,f5,f6]=true∧f0.type=tk∧f1.type=ts∧f2.type=ti∧f3.type=tl∧f4.type=LV∧f5.type=tl∧f6.type=tl
 cells:P.cellsOf tn=7
 bytes:1≤P.bytesOf tn
 kind:P.underlying tk=some (.int .u8)
 int:P.underlying ti=some (.int .i64)
 str:P.underlying ts=some .string
 strs:P.underlying LV=some (.slice ts)
 aO0:P.cellsOf ts=1
 aO1:1≤P.bytesOf ts
theorem bHK {tl tn tk ti ts LV:TypeId} (T:aPM P tl tn tk ti ts LV):∀(fuel:Nat) (cs:List Value) (x:DataW H×List MemPlace),DataW.trod enc P W 0 (fun _=>true) true fuel tl cs=some x→(∀n∈x.1.weights P tl,n≤reachBytes)→
 ∃v l,cs=[v]∧cM W W.heap.size v l∧Fo.cO (reachBytes+1) l∧l.len<reachBytes+1:=fun fuel=>by
 induction fuel using Nat.strongRecOn with
 |ind fuel ih=>
  intro cs x h hs
  rcases open_row T.list T.bytes h hs with rfl|⟨a,len,cap,n,hf,rfl,hl,hr,hi⟩
  · exact⟨_,.nil,rfl,⟨none,0,[],rfl,aC _,Reads.none_,by unfold Flat;rfl⟩,trivial,Nat.zero_lt_succ _⟩
  rw[T.cells] at hi
  obtain⟨f0,f1,f2,f3,f4,f5,f6,hn,OG,e0,e1,e2,e3,e4,e5,e6⟩:=T.node
  obtain⟨l,zs,h1,h2,h3,h4⟩:=aZR (W:=W) (B:=W.heap.size) (K:=reachBytes+1) (a:=a) len 0 fun i _ him=>by
   obtain⟨cs',y,hc,hd,hw⟩:=hi i (by omega)
   obtain⟨_,cC,hat⟩:=World.cells?_some hc
   obtain⟨ys,n',hn',hy,hlen,hyl,nE⟩:=DataW.trod_struct hn hd
   have I7:P.cellsOf tn=7:=T.cells
   rw[I7] at hlen
   have G9:∀(j:Nat) (f:Field),#[f0,f1,f2,f3,f4,f5,f6][j]?=some f→∃(v:Value) (z:DataW H×List MemPlace),W.cell? (a.add (i*7+j))=some v∧ys[j]?=some z∧DataW.trod enc P W 0 (fun _=>true) true n' f.type [v]=some z∧∀k∈z.1.weights P f.type,k≤reachBytes:=fun j f hj=>by
    obtain⟨ho,hk⟩:=hone_of OG j f hj
    have lG:j<7:=(Array.getElem?_eq_some_iff.1 hj).1
    have hcell:=hat j lG
    have h1:=nE j f hj
    rw[ho,hk] at h1
    have aP7:(cs'.drop j).take 1=[cs'[j]'(by omega)]:=by
     rw[List.drop_eq_getElem_cons (by omega)]
     rfl
    rw[aP7] at h1
    have bP_:ys.length=7:=hyl
    have L8:ys[j]?=some (ys[j]'(by omega)):=bX (by omega)
    refine⟨_,_,?_,L8,h1.trans L8,fun k hk=>hw k ?_⟩
    · have hv:cs'[j]?=some (cs'[j]'(by omega)):=bX (by omega)
      rw[←Go.Deep.add_add,hcell,hv]
    rw[hy]
    simp only[DataW.weights,hn]
    refine DataW.weights_mem_each (j:=j) ?_ ?_ k hk
    · rw[lZ,Array.getElem?_toList,hj];rfl
    rw[lZ,L8];rfl
   obtain⟨v0,z0,c0,-,t0,w0⟩:=G9 0 f0 rfl
   obtain⟨v1,z1,c1,-,t1,w1⟩:=G9 1 f1 rfl
   obtain⟨v2,z2,c2,-,t2,w2⟩:=G9 2 f2 rfl
   obtain⟨v3,z3,c3,-,t3,w3⟩:=G9 3 f3 rfl
   obtain⟨v4,z4,c4,-,t4,w4⟩:=G9 4 f4 rfl
   obtain⟨v5,z5,c5,-,t5,w5⟩:=G9 5 f5 rfl
   obtain⟨v6,z6,c6,-,t6,w6⟩:=G9 6 f6 rfl
   rw[e0] at t0;rw[e1] at t1 w1;rw[e2] at t2;rw[e3] at t3 w3;rw[e4] at t4 w4;rw[e5] at t5 w5;rw[e6] at t6 w6
   obtain⟨k,ek,-,wk⟩:=DataW.trod_int T.kind t0
   obtain⟨s,es,hs1,-⟩:=DataW.trod_string T.str t1
   obtain⟨m,em,-,wm⟩:=DataW.trod_int T.int t2
   obtain⟨v3',l3,ev3,y3,o3,b3⟩:=ih n' (by omega) _ _ t3 w3
   obtain⟨v4',p4,ev4,y4,b4,o4⟩:=open_strs T.strs T.str T.aO0 T.aO1 t4 w4
   obtain⟨v5',l5,ev5,y5,o5,b5⟩:=ih n' (by omega) _ _ t5 w5
   obtain⟨v6',l6,ev6,y6,o6,b6⟩:=ih n' (by omega) _ _ t6 w6
   obtain rfl:v0=.int .u8 k:=by simpa using ek
   obtain rfl:v1=.string s:=by simpa using es
   obtain rfl:v2=.int .i64 m:=by simpa using em
   obtain rfl:v3=v3':=by simpa using ev3
   obtain rfl:v4=v4':=by simpa using ev4
   obtain rfl:v5=v5':=by simpa using ev5
   obtain rfl:v6=v6':=by simpa using ev6
   have hk:0≤k∧k<256:=by
    simp[Lit.wf,IntKind.min,IntKind.max,IntKind.signed,IntKind.bits] at wk
    omega
   have hm:I64 m:=by
    unfold I64
    simp[Lit.wf,IntKind.min,IntKind.max,IntKind.signed,IntKind.bits] at wm
    omega
   obtain⟨kn,rfl⟩:∃kn:Nat,k=kn:=⟨k.toNat,by omega⟩
   have hlt:=mX c0
   rw[f_] at hlt
   have hsz:s.size<reachBytes+1:=by
    have:=w1 s.data.toList.length (by rw[hs1];simp[DataW.weights])
    have e:s.size=s.data.toList.length:=Array.length_toList.symm
    omega
   exact⟨kn,s,m,l3,p4,l5,l6,v3,v4,v5,v6,⟨c0,c1,c2,c3,c4,c5,c6,⟨y3,y4,y5,y6⟩,hlt⟩,⟨by omega,hm,hsz,b4,o4,b3,b5,b6,o3,o5,o6,trivial⟩⟩
  refine⟨_,l,rfl,⟨some a,cap,zs,by rw[h1],by omega,⟨?_,fun hn=>⟨a,rfl,?_,fun j u hj=>?_⟩⟩,h2⟩,h3,by omega⟩
  · exact h2.len
  · have h0:zs[0]?=some (zs[0]'(by rw[h2.len];omega)):=bX (by rw[h2.len];omega)
    have:=mX (h4 0 _ h0)
    rwa [f_] at this
  have:=h4 j u hj
  rwa [Nat.zero_mul,Nat.zero_add] at this
end
end Sl
end
section
namespace Sl
theorem kN:∀{i:Nat} {l:Fo} {k:Nat} {t:aA} {n:Int} {s:Fo} {ps:List aA} {b e r:Fo},Fo.drop i l=.cons k t n s ps b e r→s.cnt+b.cnt+e.cnt+r.cnt+1≤l.cnt
 |0,_,_,_,_,_,_,_,_,_,h=>by
   unfold Fo.drop at h
   subst h
   simp only[Fo.cnt]
   omega
 |i+1,.nil,_,_,_,_,_,_,_,_,h=>by simp[Fo.drop] at h
 |i+1,.cons ..,_,_,_,_,_,_,_,_,h=>by
   rw[Fo.drop] at h
   have:=kN h
   simp only[Fo.cnt]
   omega
theorem a03 {hd:Nat→aA→Int→Nat→List aA→Nat→Nat→Bool→Bool} {ex ins:Bool}:∀{i:Nat} {l:Fo},bE hd l ex ins=true→bE hd (Fo.drop i l) ex ins=true
 |0,_,h=>by unfold Fo.drop;exact h
 |i+1,.nil,_=>by unfold Fo.drop;rfl
 |i+1,.cons ..,h=>by
   unfold bE at h
   simp only[Bool.and_eq_true] at h
   rw[Fo.drop]
   exact a03 h.2
theorem bKP {i:Nat} {l:Fo} {k:Nat} {t:aA} {n:Int} {s:Fo} {ps:List aA} {b e r:Fo} (h:Fo.drop i l=.cons k t n s ps b e r) {d acc:Nat} (ha:acc<9000):
 Fo.gP (Fo.drop i l) d acc=Fo.gP r d (Fo.CU acc (1+t.size / 16+ps.length+Fo.weight s (d+1)) (Fo.weight b (d+1)) (Fo.weight e (d+1))):=by
 rw[h,Fo.gP,if_neg (by omega)]
 rfl
theorem bKO {l:Fo} {d acc:Nat} (h:9000≤acc):Fo.gP l d acc=acc:=by
 cases l with
 |nil=>rw[Fo.gP]
 |cons=>rw[Fo.gP,if_pos h]
end Sl
end
section
open Go.RowKit
open Sl
open Go.Lib (hid)
theorem IZ {K:Nat}:∀{i:Nat} {l:Fo},Fo.cO K l→Fo.cO K (Fo.drop i l)
 |0,_,h=>by unfold Fo.drop;exact h
 |i+1,.nil,_=>by unfold Fo.drop;exact trivial
 |i+1,.cons ..,h=>by
   rw[Fo.drop]
   exact IZ h.2.2.2.2.2.2.2.2.2.2.2
theorem XN {K:Nat} (hK:K≤140737488355328) {l:Fo} {d:Nat} (h:Fo.small K l):Fo.weight l d≤36028797018963968:=by
 have:=Fo.bIM K (d:=d) h
 omega
theorem bGV (K:Nat) (hK:K≤140737488355328):∀(c:Nat) (l:Fo) (v:Value) (d B:Nat) (w:World),l.cnt≤c→cM w B v l→Fo.cO K l→l.len<K→d≤61→
 Calls Tryz.prog 93 #[v,.int .i64 d] w fun e w'=>e=.returned (.int .i64 (Fo.weight l d))∧∃m,w'=w.drewN m:=fun c=>by
 induction c using Nat.strongRecOn with
 |ind c ih=>
 intro l v d B w hc hl hs hlen hd
 obtain⟨A,cap,rfl,cB⟩:=hl.form
 have HL:=hid hl
 clear hl
 have HS:=hid hs
 clear hs
 by_cases h6:60<d
 · have e1:Fo.weight l d=9000:=by unfold Fo.weight Fo.cut;rw[if_pos h6]
   rw[e1]
   go_enter Tryz.func93,Tryz.ntmps93
   go_wp2
   go_ret
   exact⟨rfl,0,rfl⟩
 have e1:Fo.weight l d=Fo.gP l d 0:=by unfold Fo.weight Fo.cut;rw[if_neg h6]
 rw[e1]
 have HI:=hid ih
 clear ih
 go_enter Tryz.func93,Tryz.ntmps93
 go_wp2
 go_loopg [5,6] l.len (fun g a i wr=>∃(k acc:Nat),k≤l.len∧g=l.len-k∧a=.int .i64 acc∧i=.int .i64 k∧Hid (Fo.gP l d 0=Fo.gP (Fo.drop k l) d acc)∧Hid (∃m,wr=w.drewN m))
 case atStart=>exact⟨0,0,Nat.zero_le _,rfl,rfl,rfl,hid (by rw[Fo.drop]),hid ⟨0,rfl⟩⟩
 obtain⟨k,acc,hk,hq,rfl,rfl,hw,hm⟩:=hrel
 have Hq:=hid hq
 clear hq
 obtain⟨wo,rfl⟩:∃x:World,x=wr:=⟨_,rfl⟩
 have tV:cM wo B (.slice A l.len cap) l:=HL.out.below (by obtain⟨m,rfl⟩:=hm.out;exact below_drewN (Below.refl B w) m)
 have hbound:acc≤36028797018963968:=Nat.le_trans (Nat.le_trans (Fo.aEH _ _ _) (Nat.le_of_eq hw.out.symm)) (by rw[←e1];exact XN hK HS.out.small)
 by_cases hlt:k<l.len
 rotate_left
 · have HR:=hid (hw.out.trans (show Fo.gP (Fo.drop k l) d acc=acc by rw[show k=l.len by omega,gB,Fo.gP]))
   clear hbound
   go_wp2
   go_ret
   exact⟨dC (by rw[HR.out]),hm.out⟩
 by_cases h9:acc<9000
 · obtain⟨a,kk,t,n,s,ps,b,e,r,sv,pv,bv,ev,rfl,aI,hn⟩:=tV.at_ hlt
   have dL:=kN aI
   obtain⟨-,-,hst,hsp,-,kW,hbl,AB,hss,hsb,hse,-⟩:Fo.cO K (.cons kk t n s ps b e r):=aI▸IZ HS.out
   obtain⟨As,cs,rfl,hcs⟩:=hn.vals.subs.form
   obtain⟨Ab,cb,rfl,hcb⟩:=hn.vals.body.form
   obtain⟨Ae,ce,rfl,hce⟩:=hn.vals.els.form
   obtain⟨Ap,cp,rfl,kX,-⟩:=hn.vals.aX
   obtain⟨-,c1,-,c3,c4,c5,c6⟩:=hn.cells
   have HC:=hid (fun (z:Fo) (vz:Value) (hz:z.cnt<c) (hv:cM wo B vz z) (hsm:Fo.cO K z) (oF:z.len<K) (W:World) (hW:∃n,W=wo.drewN n)=>(by
    have:=HI.out z.cnt hz z vz (d+1) B W (aC _) (hv.below (by obtain⟨n,rfl⟩:=hW;exact below_drewN (Below.refl B wo) n)) hsm oF (by omega)
    rwa [show ((d+1:Nat):Int)=(d:Int)+1 by omega] at this:Calls Tryz.prog 93 #[vz,.int .i64 ((d:Int)+1)] W fun e w'=>e=.returned (.int .i64 (Fo.weight z (d+1)))∧∃m,w'=W.drewN m))
   have HCs:=hid (HC.out s _ (by omega) hn.vals.subs hss kW)
   have HCb:=hid (HC.out b _ (by omega) hn.vals.body hsb hbl)
   have HCe:=hid (HC.out e _ (by omega) hn.vals.els hse AB)
   clear HC
   have Hn:=hid hn
   have Hd:=hid aI
   have Hc:=hid dL
   have Hl:=hid tV
   clear hn aI dL tV
   obtain⟨q,hq⟩:∃q:Nat,q=t.size / 16:=⟨_,rfl⟩
   have nC:q≤t.size:=by rw[hq];exact Nat.div_le_self _ _
   have lD:(t.size:Int) / 16=(q:Int):=by rw[hq];omega
   have hws:Fo.weight s (d+1)≤36028797018963968:=XN hK hss.small
   have HE:=hid (show Fo.gP (Fo.drop k l) d acc=Fo.gP r d (Fo.CU acc (1+q+ps.length+Fo.weight s (d+1)) (Fo.weight b (d+1)) (Fo.weight e (d+1))) by rw[bKP Hd.out h9,hq])
   have Hq1:=hid hq
   clear hq
   have w1:IntKind.i64.wrap (1+(q:Int))=1+(q:Int):=IntWalk.i64_in _ (by omega)
   have w2:IntKind.i64.wrap (1+(q:Int)+(ps.length:Int))=1+(q:Int)+(ps.length:Int):=IntWalk.i64_in _ (by omega)
   have w3:IntKind.i64.wrap (1+(q:Int)+(ps.length:Int)+(Fo.weight s (d+1):Int))=1+(q:Int)+(ps.length:Int)+(Fo.weight s (d+1):Int):=IntWalk.i64_in _ (by omega)
   have w4:IntKind.i64.wrap ((acc:Int)+(1+(q:Int)+(ps.length:Int)+(Fo.weight s (d+1):Int)))=(acc:Int)+(1+(q:Int)+(ps.length:Int)+(Fo.weight s (d+1):Int)):=IntWalk.i64_in _ (by omega)
   have w5:IntKind.i64.wrap ((d:Int)+1)=(d:Int)+1:=IntWalk.i64_in _ (by omega)
   have Hws:=hid hws
   have Hbd:=hid hbound
   clear hws hbound
   have hwb:Fo.weight b (d+1)≤36028797018963968:=XN hK hsb.small
   have hwe:Fo.weight e (d+1)≤36028797018963968:=XN hK hse.small
   have w6:IntKind.i64.wrap ((acc:Int)+(1+(q:Int)+(ps.length:Int)+(Fo.weight s (d+1):Int))+(Fo.weight b (d+1):Int))=(acc:Int)+(1+(q:Int)+(ps.length:Int)+(Fo.weight s (d+1):Int))+(Fo.weight b (d+1):Int):=IntWalk.i64_in _ (by have:=Hws.out;omega)
   have w7:IntKind.i64.wrap ((acc:Int)+(1+(q:Int)+(ps.length:Int)+(Fo.weight s (d+1):Int))+(Fo.weight b (d+1):Int)+(Fo.weight e (d+1):Int))=(acc:Int)+(1+(q:Int)+(ps.length:Int)+(Fo.weight s (d+1):Int))+(Fo.weight b (d+1):Int)+(Fo.weight e (d+1):Int):=IntWalk.i64_in _ (by have:=Hws.out;omega)
   have w8:IntKind.i64.wrap ((acc:Int)+(1+(q:Int)+(ps.length:Int)+(Fo.weight s (d+1):Int))+(Fo.weight e (d+1):Int))=(acc:Int)+(1+(q:Int)+(ps.length:Int)+(Fo.weight s (d+1):Int))+(Fo.weight e (d+1):Int):=IntWalk.i64_in _ (by have:=Hws.out;omega)
   clear hwb hwe
   have hW0:∃n,wo=wo.drewN n:=⟨0,rfl⟩
   by_cases hx:acc+(1+q+ps.length+Fo.weight s (d+1))<9000
   rotate_left
   · have b1:decide ((acc:Int)+(1+(q:Int)+(ps.length:Int)+(Fo.weight s (d+1):Int))<9000)=false:=by simp;omega
     have bM:=hid (HE.out.trans (by unfold Fo.CU;rw[if_neg hx,if_neg hx]))
     clear hx HE
     go_wp2_with fail
     go_quiet ((go_at_call 93;exact aDM (HCs.out _ ⟨_,rfl⟩)))
     go_wp2
     go_roundg (l.len-(k+1))
     case rel=>exact⟨k+1,acc+(1+q+ps.length+Fo.weight s (d+1)),hlt,rfl,by go_num,by go_num,hid (by rw[eD Hd.out,←bM.out];exact hw.out),hid (by obtain⟨m,hm⟩:=hm.out;rw[hm,World.drewN_drewN];exact⟨_,rfl⟩)⟩
     rw[Hq.out];omega
   have b1:decide ((acc:Int)+(1+(q:Int)+(ps.length:Int)+(Fo.weight s (d+1):Int))<9000)=true:=by simp;omega
   by_cases hy:acc+(1+q+ps.length+Fo.weight s (d+1))+Fo.weight b (d+1)<9000
   · have b2:decide ((acc:Int)+(1+(q:Int)+(ps.length:Int)+(Fo.weight s (d+1):Int))+(Fo.weight b (d+1):Int)<9000)=true:=by simp;omega
     have bM:=hid (HE.out.trans (by unfold Fo.CU;rw[if_pos hx,if_pos hy]))
     clear hx hy HE
     go_wp2_with fail
     go_quiet ((go_at_call 93;exact aDM (HCs.out _ ⟨_,rfl⟩)))
     go_wp2_with fail
     refine (HCb.out _ ⟨_,rfl⟩).mono ?_
     rintro e w' ⟨rfl,m1,rfl⟩
     go_wp2_with fail
     refine (HCe.out _ ⟨_,rfl⟩).mono ?_
     rintro e w' ⟨rfl,m2,rfl⟩
     go_wp2
     go_roundg (l.len-(k+1))
     case rel=>exact⟨k+1,acc+(1+q+ps.length+Fo.weight s (d+1))+Fo.weight b (d+1)+Fo.weight e (d+1),hlt,rfl,by go_num,by go_num,hid (by rw[eD Hd.out,←bM.out];exact hw.out),hid (by obtain⟨m,hm⟩:=hm.out;rw[hm,World.drewN_drewN];exact⟨_,rfl⟩)⟩
     rw[Hq.out];omega
   have b2:decide ((acc:Int)+(1+(q:Int)+(ps.length:Int)+(Fo.weight s (d+1):Int))+(Fo.weight b (d+1):Int)<9000)=false:=by simp;omega
   have bM:=hid (HE.out.trans (by unfold Fo.CU;rw[if_pos hx,if_neg hy]))
   clear hx hy HE
   go_wp2_with fail
   go_quiet ((go_at_call 93;exact aDM (HCs.out _ ⟨_,rfl⟩)))
   go_wp2_with fail
   refine (HCb.out _ ⟨_,rfl⟩).mono ?_
   rintro e w' ⟨rfl,m1,rfl⟩
   go_wp2
   go_roundg (l.len-(k+1))
   case rel=>exact⟨k+1,acc+(1+q+ps.length+Fo.weight s (d+1))+Fo.weight b (d+1),hlt,rfl,by go_num,by go_num,hid (by rw[eD Hd.out,←bM.out];exact hw.out),hid (by obtain⟨m,hm⟩:=hm.out;rw[hm,World.drewN_drewN];exact⟨_,rfl⟩)⟩
   rw[Hq.out];omega
 have b1:decide ((acc:Int)<9000)=false:=by simp;omega
 have HR:=hid (hw.out.trans (bKO (by omega)))
 clear hbound
 go_wp2
 go_ret
 exact⟨dC (by rw[HR.out]),hm.out⟩
end
section
open Go.RowKit
open Go.Lib (hid)
namespace Sl
def F9 (w:World) (B:Nat):List Fc→List Value→Prop
 | [],xs=>xs=[]
 |f::l,xs=>∃pv bv ys,xs=.string f.name::pv::bv::ys∧iF w B pv f.ps∧cM w B bv f.body∧F9 w B l ys
def eO (w:World) (B:Nat) (v:Value) (p:List Fc):Prop:=∃A c zs,v=.slice A p.length c∧p.length≤c∧Reads w B 3 A p.length zs∧F9 w B p zs
theorem F9.keep {w w':World} {B:Nat} (hk:∀p:Addr,p.block<B→w'.cell? p=w.cell? p):∀{l:List Fc} {xs:List Value},F9 w B l xs→F9 w' B l xs
 | [],_,h=>h
 |_::_,_,⟨pv,bv,ys,h1,h2,h3,h4⟩=>⟨pv,bv,ys,h1,h2.keep hk,h3.keep hk,h4.keep hk⟩
theorem eO.keep {w w':World} {B:Nat} {v:Value} {l:List Fc} (h:eO w B v l) (hk:∀p:Addr,p.block<B→w'.cell? p=w.cell? p):eO w' B v l:=by
 obtain⟨A,c,zs,h1,h2,h3,h4⟩:=h
 exact⟨A,c,zs,h1,h2,h3.keep hk,h4.keep hk⟩
theorem eO.below {w w':World} {B:Nat} {v:Value} {l:List Fc} (h:eO w B v l) (hb:Below B w w'):eO w' B v l:=h.keep fun _ hp=>hb.cell hp
theorem F9.more {w:World} {B B':Nat} (hB:B≤B'):∀{l:List Fc} {xs:List Value},F9 w B l xs→F9 w B' l xs
 | [],_,h=>h
 |_::_,_,⟨pv,bv,ys,h1,h2,h3,h4⟩=>⟨pv,bv,ys,h1,h2.more hB,h3.more hB,h4.more hB⟩
theorem eO.more {w:World} {B B':Nat} {v:Value} {l:List Fc} (h:eO w B v l) (hB:B≤B'):eO w B' v l:=by
 obtain⟨A,c,zs,h1,h2,h3,h4⟩:=h
 exact⟨A,c,zs,h1,h2,h3.more hB,h4.more hB⟩
theorem eO.form {w:World} {B:Nat} {v:Value} {l:List Fc} (h:eO w B v l):∃A c,v=.slice A l.length c∧l.length≤c:=by
 obtain⟨A',c',zs,h1,h2,h3,h4⟩:=h
 exact⟨A',c',h1,h2⟩
def bI:Fc:=⟨ByteArray.empty,[],.nil⟩
theorem F9.at_ {w:World} {B:Nat}:∀{l:List Fc} {xs:List Value} (i:Nat),F9 w B l xs→i<l.length→
 ∃pv bv,iF w B pv (l.getD i bI).ps∧cM w B bv (l.getD i bI).body∧xs[i*3]?=some (.string (l.getD i bI).name)∧xs[i*3+1]?=some pv∧xs[i*3+2]?=some bv
 | [],_,i,_,hi=>absurd hi (Nat.not_lt_zero _)
 |f::l,xs,0,⟨pv,bv,ys,h1,h2,h3,h4⟩,_=>by
   subst h1
   exact⟨pv,bv,h2,h3,rfl,rfl,rfl⟩
 |f::l,xs,i+1,⟨pv,bv,ys,h1,h2,h3,h4⟩,hi=>by
   subst h1
   obtain⟨l7,mD,a1,a2,a3,a4,a5⟩:=h4.at_ i (by simpa using hi)
   refine⟨l7,mD,a1,a2,?_,?_,?_⟩
   · rw[show (i+1)*3=i*3+3 by omega];exact a3
   · rw[show (i+1)*3+1=i*3+1+3 by omega];exact a4
   rw[show (i+1)*3+2=i*3+2+3 by omega];exact a5
theorem eO.at_ {w:World} {B:Nat} {A:Option Addr} {len c:Nat} {l:List Fc} (h:eO w B (.slice A len c) l) {i:Nat} (hi:i<len):
 ∃a pv bv,A=some a∧a.block<B∧w.cell? (a.add (i*3))=some (.string (l.getD i bI).name)∧w.cell? ⟨(a.add (i*3)).block,(a.add (i*3)).off+1,none⟩=some pv∧w.cell? ⟨(a.add (i*3)).block,(a.add (i*3)).off+2,none⟩=some bv∧iF w B pv (l.getD i bI).ps∧cM w B bv (l.getD i bI).body:=by
 obtain⟨A',c',zs,h1,h2,h3,h4⟩:=h
 injection h1 with e1 e2 e3
 subst e1 e2 e3
 obtain⟨pv,bv,x1,x2,x3,x4,x5⟩:=h4.at_ i hi
 obtain⟨a,rfl,hb,hc⟩:=h3.2 (by omega)
 exact⟨a,pv,bv,rfl,hb,hc _ _ x3,rE (by decide) (hc _ _ x4),rE (by decide) (hc _ _ x5),x1,x2⟩
def oU (K:Nat) (p:List Fc):Prop:=p.length<K∧∀f∈p,f.name.size<K∧f.ps.length<K∧(∀x∈f.ps,x.size<K)∧f.body.len<K∧Fo.cO K f.body
theorem uI {p:List Fc} {i:Nat} (h:i<p.length):p.getD i bI∈p:=by
 rw[dR,bX h]
 exact Q1 h
def pU:List Fc→Nat→Nat
 | [],acc=>acc
 |f::l,acc=>if 9000≤acc then acc else pU l (acc+(f.name.size / 16+f.ps.length+Fo.weight f.body 0))
def F2 (p:List Fc):Bool:=decide (2200<pU p p.length)
theorem aNL:∀(p:List Fc) (acc:Nat),acc≤pU p acc
 | [],_=>aC _
 |f::l,acc=>by
   rw[pU]
   split
   · exact aC _
   exact Nat.le_trans (Nat.le_add_right _ _) (aNL l _)
theorem bGN {p:List Fc} {k acc:Nat} (hk:k<p.length) (h:acc<9000):pU (p.drop k) acc=pU (p.drop (k+1)) (acc+((p.getD k bI).name.size / 16+(p.getD k bI).ps.length+Fo.weight (p.getD k bI).body 0)):=by
 rw[List.drop_eq_getElem_cons hk,pU,if_neg (by omega),dR,bX hk]
 rfl
theorem bGM {p:List Fc} {acc:Nat} (h:9000≤acc):pU p acc=acc:=by
 cases p with
 |nil=>rfl
 |cons=>rw[pU,if_pos h]
theorem aYC {p:List Fc} {g:Fc→Nat} {f:Fc} (h:f∈p):g f≤(p.map g).sum:=by
 induction p with
 |nil=>cases h
 |cons x l ih=>
  rw[List.map_cons,List.sum_cons]
  rcases List.mem_cons.1 h with rfl|h
  · omega
  have:=ih h;omega
end Sl
open Sl
theorem bH2 (K:Nat) (hK:K≤140737488355328) (p:List Fc) (v:Value) (B:Nat) (w:World) (hv:eO w B v p) (hB:B≤w.heap.size) (ho:oU K p):
 Calls Tryz.prog 51 #[.agg #[v]] w fun e w'=>e=.returned (.bool (F2 p))∧Below w.heap.size w w':=by
 obtain⟨A,cap,rfl,cB⟩:=hv.form
 have HV:=hid hv
 have HO:=hid ho
 have hlen:p.length<K:=ho.1
 clear hv ho
 have HA:=hid ((Below.refl w.heap.size w).alloc (aC _) (.cells #[.slice A p.length cap] 24))
 have c0:(w.alloc (.cells #[.slice A p.length cap] 24)).cell? ⟨w.heap.size,0,none⟩=some (.slice A p.length cap):=(aG.new w _ _).cell 0
 go_enter Tryz.func51,Tryz.ntmps51
 go_upto_region 2 with fail
 generalize w.alloc (.cells #[.slice A p.length cap] 24)=w0 at *
 go_wp2
 go_loopg [3,4] p.length (fun g a i wr=>∃(k acc:Nat),k≤p.length∧g=p.length-k∧a=.int .i64 acc∧i=.int .i64 k∧Hid (pU p p.length=pU (p.drop k) acc)∧Hid (acc≤9000+2*K+36028797018963968)∧Hid (∃m,wr=w0.drewN m))
 case atStart=>exact⟨0,p.length,Nat.zero_le _,rfl,rfl,rfl,hid rfl,hid (by omega),hid ⟨0,rfl⟩⟩
 obtain⟨k,acc,hk,hq,rfl,rfl,hw,J8,hm⟩:=hrel
 have Hq:=hid hq
 clear hq
 obtain⟨wo,rfl⟩:∃x:World,x=wr:=⟨_,rfl⟩
 have c1:wo.cell? ⟨w.heap.size,0,none⟩=some (.slice A p.length cap):=by obtain⟨m,rfl⟩:=hm.out;exact c0
 have HB:=hid (show Below w.heap.size w wo by obtain⟨m,rfl⟩:=hm.out;exact below_drewN HA.out m)
 have tV:eO wo B (.slice A p.length cap) p:=HV.out.below (HB.out.mono hB)
 by_cases hlt:k<p.length
 rotate_left
 · have HR:=hid (show F2 p=decide ((acc:Int) > 2200) by
    unfold F2;rw[hw.out,show k=p.length by omega,List.drop_length,pU];rw[decide_eq_decide];omega)
   clear tV
   cases hb2:decide ((acc:Int) > 2200)<;>
   (have HR':=hid (HR.out.trans hb2)
    go_wp2
    go_ret
    exact⟨aR HR'.out.symm,HB.out⟩)
 by_cases h9:acc<9000
 · obtain⟨a,pv,bv,rfl,hab,d0,d1,d2,eF,cZ⟩:=tV.at_ hlt
   obtain⟨o1,o2,o3,o4,o5⟩:=HO.out.2 _ (uI hlt)
   have HE:=hid (hw.out.trans (bGN hlt h9))
   generalize p.getD k bI=f at *
   obtain⟨Ap,cp,rfl,kX,-⟩:=eF
   have HC:=hid (fun (W:World) (hW:∃n,W=wo.drewN n)=>bGV K hK f.body.cnt f.body bv 0 B W (aC _) (cZ.below (by obtain⟨n,rfl⟩:=hW;exact below_drewN (Below.refl B wo) n)) o5 o4 (by omega))
   obtain⟨Ab,cb,rfl,hcb⟩:=cZ.form
   have hwb:Fo.weight f.body 0≤36028797018963968:=XN hK o5.small
   obtain⟨q,hq⟩:∃q:Nat,q=f.name.size / 16:=⟨_,rfl⟩
   have nC:q≤f.name.size:=by rw[hq];exact Nat.div_le_self _ _
   have lD:(f.name.size:Int) / 16=(q:Int):=by rw[hq];omega
   rw[←hq] at HE
   have w2:IntKind.i64.wrap ((q:Int)+(f.ps.length:Int))=(q:Int)+(f.ps.length:Int):=IntWalk.i64_in _ (by omega)
   have w3:IntKind.i64.wrap ((q:Int)+(f.ps.length:Int)+(Fo.weight f.body 0:Int))=(q:Int)+(f.ps.length:Int)+(Fo.weight f.body 0:Int):=IntWalk.i64_in _ (by omega)
   have w4:IntKind.i64.wrap ((acc:Int)+((q:Int)+(f.ps.length:Int)+(Fo.weight f.body 0:Int)))=(acc:Int)+((q:Int)+(f.ps.length:Int)+(Fo.weight f.body 0:Int)):=IntWalk.i64_in _ (by omega)
   have HX:=hid (show acc+(q+f.ps.length+Fo.weight f.body 0)≤9000+2*K+36028797018963968 by omega)
   have MS:=hid hq
   clear hq hwb o5 o3 tV cZ
   go_wp2_with fail
   go_quiet ((go_at_call 93;exact aDM (HC.out _ ⟨_,rfl⟩)))
   go_wp2
   go_roundg (p.length-(k+1))
   case rel=>exact⟨k+1,acc+(q+f.ps.length+Fo.weight f.body 0),hlt,rfl,by go_num,by go_num,HE,HX,hid (by obtain⟨m,hm⟩:=hm.out;rw[hm,World.drewN_drewN];exact⟨_,rfl⟩)⟩
   rw[Hq.out];omega
 have b1:decide ((acc:Int)<9000)=false:=by simp;omega
 have b2:decide ((acc:Int) > 2200)=true:=by simp;omega
 have HR:=hid (show F2 p=true by unfold F2;rw[hw.out,bGM (by omega)];exact bF (by omega))
 clear tV
 go_wp2
 go_ret
 exact⟨aR HR.out.symm,HB.out⟩
namespace Sl
def dO:Fo→Nat→Nat
 |.nil,_=>0
 |.cons _ _ _ s _ b e r,d=>max (max (max (max d (dO s (d+1))) (dO b (d+1))) (dO e (d+1))) (dO r d)
theorem UM:∀(l:Fo) (d:Nat),1≤d→(l.len=0→dO l d=0∧l.dep=0)∧(l.len≠0→dO l d=d-1+l.dep)
 |.nil,_,_=>⟨fun _=>⟨rfl,rfl⟩,fun h=>absurd rfl h⟩
 |.cons _ _ _ s _ b e r,d,hd=>by
   refine⟨fun h=>by simp[Fo.len] at h,fun _=>?_⟩
   obtain⟨a1,a2⟩:=UM s (d+1) (by omega)
   obtain⟨b1,b2⟩:=UM b (d+1) (by omega)
   obtain⟨e1,e2⟩:=UM e (d+1) (by omega)
   obtain⟨r1,r2⟩:=UM r d hd
   simp only[dO,Fo.dep]
   have key:∀(l:Fo) (x:Nat),(l.len=0→dO l x=0∧l.dep=0)→(l.len≠0→dO l x=x-1+l.dep)→(dO l x=0∧l.dep=0)∨dO l x=x-1+l.dep:=fun l x h1 h2=>by
    by_cases h:l.len=0
    · exact .inl (h1 h)
    exact .inr (h2 h)
   have ks:=key s _ a1 a2
   have kb:=key b _ b1 b2
   have ke:=key e _ e1 e2
   have kr:=key r _ r1 r2
   omega
theorem bNC (l:Fo):dO l 1=l.dep:=by
 obtain⟨a1,a2⟩:=UM l 1 (aC _)
 by_cases h:l.len=0
 · rw[(a1 h).1,(a1 h).2]
 rw[a2 h];omega
theorem aPJ (l:Fo) (d:Nat) (hd:1≤d):dO l d≤d+l.cnt:=by
 have h1:l.dep≤l.cnt:=by
  have:∀l:Fo,l.dep≤l.cnt:=fun l=>by
   induction l with
   |nil=>exact aC _
   |cons k t n s ps b e r h1 h2 h3 h4=>simp only[Fo.dep,Fo.cnt];omega
  exact this l
 obtain⟨a1,a2⟩:=UM l d hd
 by_cases h:l.len=0
 · rw[(a1 h).1];omega
 rw[a2 h];omega
def mM (j a b c:Nat):Nat:=if j=0 then 0 else if j=1 then a else if j=2 then a+b else a+b+c
def tR (j d a b c:Nat):Nat:=if j=0 then d else if j=1 then max d a else if j=2 then max (max d a) b else max (max (max d a) b) c
theorem a2E {i:Nat} {l:Fo} {k:Nat} {t:aA} {n:Int} {s:Fo} {ps:List aA} {b e r:Fo} (h:Fo.drop i l=.cons k t n s ps b e r):(Fo.drop i l).cnt=1+s.cnt+b.cnt+e.cnt+r.cnt:=by rw[h,Fo.cnt]
theorem bLU {i:Nat} {l:Fo} {k:Nat} {t:aA} {n:Int} {s:Fo} {ps:List aA} {b e r:Fo} (h:Fo.drop i l=.cons k t n s ps b e r) (d:Nat):dO (Fo.drop i l) d=max (max (max (max d (dO s (d+1))) (dO b (d+1))) (dO e (d+1))) (dO r d):=by rw[h,dO]
end Sl
open Sl
theorem bI9:∀(c:Nat) (l:Fo) (v:Value) (d bound B:Nat) (w:World),l.cnt≤c→cM w B v l→B≤w.heap.size→l.cnt≤bound→bound≤1073741824→d+l.cnt≤1073741824→
 Calls Tryz.prog 94 #[v,.int .i64 d,.int .i64 bound] w fun e w'=>e=.returned (.tuple #[.int .i64 l.cnt,.int .i64 (dO l d)])∧Below w.heap.size w w':=fun c=>by
 induction c using Nat.strongRecOn with
 |ind c ih=>
 intro l v d bound B w hc hl hB J8 bRK hd2
 obtain⟨A,cap,rfl,cB⟩:=hl.form
 have HL:=hid hl
 clear hl
 have hlc:=Fo.k7 l
 have HI:=hid ih
 clear ih
 go_enter Tryz.func94,Tryz.ntmps94
 go_wp2
 go_loopg [8,9,10] l.len (fun g a m i wr=>∃(k n dp:Nat),k≤l.len∧g=l.len-k∧a=.int .i64 n∧m=.int .i64 dp∧i=.int .i64 k∧n+(Fo.drop k l).cnt=l.cnt∧Hid (dO l d=max dp (dO (Fo.drop k l) d))∧Hid (Below w.heap.size w wr))
 case atStart=>exact⟨0,0,0,Nat.zero_le _,rfl,rfl,rfl,rfl,by rw[Fo.drop];omega,hid (by rw[Fo.drop];omega),hid (Below.refl _ _)⟩
 obtain⟨k,n,dp,hk,hq,rfl,rfl,rfl,hn,GW,hb⟩:=hrel
 have Hq:=hid hq
 clear hq
 obtain⟨wo,rfl⟩:∃x:World,x=wr:=⟨_,rfl⟩
 by_cases hlt:k<l.len
 rotate_left
 · have MB:n=l.cnt:=by
    have:Fo.drop k l=.nil:=by rw[show k=l.len by omega,gB]
    rw[this,Fo.cnt] at hn;omega
   have HD:=hid (show dO l d=dp by
    have:Fo.drop k l=.nil:=by rw[show k=l.len by omega,gB]
    have h2:=GW.out
    rw[this,dO] at h2;omega)
   subst MB
   clear hn
   go_wp2
   go_ret2
   exact⟨by rw[HD.out];rfl,hb.out⟩
 obtain⟨a,kk,t,nn,s,ps,b,e,r,sv,pv,bv,ev,rfl,aI,hno⟩:=(HL.out.below (hb.out.mono hB)).at_ hlt
 have dL:=kN aI
 have tX:=a2E aI
 have HDP:=hid (GW.out.trans (by rw[bLU aI]))
 obtain⟨As,cs,rfl,hcs⟩:=hno.vals.subs.form
 obtain⟨Ab,cb,rfl,hcb⟩:=hno.vals.body.form
 obtain⟨Ae,ce,rfl,hce⟩:=hno.vals.els.form
 obtain⟨-,-,-,c3,-,c5,c6⟩:=hno.cells
 have Hd:=hid aI
 have hnb:n≤bound:=by omega
 rw[tX] at hn
 clear tX aI
 obtain⟨mx,hmx⟩:∃mx:Nat,mx=max dp d:=⟨_,rfl⟩
 have hmi:(if dp<d then (d:Int) else (dp:Int))=(mx:Int):=by split<;>omega
 have Hmx:=hid hmx
 clear hmx
 go_wp2_with fail
 go_still_tail 15,(by kernel_rfl)
 change wpList _ _ _ _ _ wo.drew
 have lL:=hid (show Below w.heap.size w wo.drew from below_drewN hb.out 1)
 have hzd:w.heap.size≤wo.drew.heap.size:=lL.out.size
 have HV:=hid (show lY wo.drew B (.slice As s.len cs) pv (.slice Ab b.len cb) (.slice Ae e.len ce) s ps b e from hno.vals.below (below_drewN (Below.refl _ _) 1))
 clear hno
 generalize wo.drew=w2 at *
 have HA:=hid ((Below.refl w2.heap.size w2).alloc (aC _) (.cells #[.slice As s.len cs,.slice Ab b.len cb,.slice Ae e.len ce] 66))
 have bN:=hid (aG.new w2 66 #[.slice As s.len cs,.slice Ab b.len cb,.slice Ae e.len ce])
 go_upto_region 9 with fail
 generalize w2.alloc (.cells #[.slice As s.len cs,.slice Ab b.len cb,.slice Ae e.len ce] 66)=w3 at *
 have hz3:=HA.out.size
 go_wp2
 go_loopg [8,9,12] 3 (fun g a m j wr=>∃(jx nx dx:Nat),jx≤3∧g=3-jx∧a=.int .i64 nx∧m=.int .i64 dx∧j=.int .i64 jx∧Hid (nx=n+1+mM jx s.cnt b.cnt e.cnt)∧Hid (dx=tR jx mx (dO s (d+1)) (dO b (d+1)) (dO e (d+1)))∧Hid (Below w3.heap.size w3 wr))
 case atStart=>exact⟨0,n+1,mx,by omega,rfl,by go_num,rfl,rfl,hid rfl,hid rfl,hid (Below.refl _ _)⟩
 obtain⟨jx,nx,dx,hj,lD,rfl,rfl,rfl,zY,AD,cH⟩:=hrel
 have H9:=hid lD
 clear lD
 obtain⟨wx,rfl⟩:∃x:World,x=wr:=⟨_,rfl⟩
 have M0:=hid (fun (z:Fo) (vz:Value) (bz:Nat) (hz:z.cnt+1≤l.cnt) (hv:cM wx B vz z) (h1:z.cnt≤bz) (h2:bz≤bound)=>(by
  have:=HI.out z.cnt (by omega) z vz (d+1) bz B wx (aC _) hv (by have:=cH.out.size;omega) h1 (by omega) (by omega)
  rwa [show ((d+1:Nat):Int)=(d:Int)+1 by omega] at this:Calls Tryz.prog 94 #[vz,.int .i64 ((d:Int)+1),.int .i64 bz] wx fun e w'=>e=.returned (.tuple #[.int .i64 z.cnt,.int .i64 (dO z (d+1))])∧Below wx.heap.size wx w'))
 have TF:=hid (HV.out.below ((HA.out.trans (cH.out.mono hz3)).mono (show B≤w2.heap.size by omega)))
 have YR:jx=3∨jx=0∨jx=1∨jx=2:=by omega
 rcases YR with rfl|rfl|rfl|rfl
 · have hnz:nx=n+(1+s.cnt+b.cnt+e.cnt):=by rw[zY.out];unfold mM;simp;omega
   have HD:=hid (show dO l d=max dx (dO r d) by
    rw[HDP.out,AD.out]
    unfold tR
    have:=Hmx.out
    simp
    omega)
   have Hn2:nx+r.cnt=l.cnt:=by omega
   have D8:=hid (show Below w.heap.size w wx from lL.out.trans ((HA.out.trans (cH.out.mono hz3)).mono (by omega)))
   clear hnz
   go_wp2
   go_roundg (l.len-(k+1))
   case rel=>exact⟨k+1,nx,dx,hlt,rfl,rfl,rfl,by go_num,by rw[eD Hd.out];exact Hn2,hid (by rw[eD Hd.out];exact HD.out),D8⟩
   rw[Hq.out];omega
 · have cj:wx.cell? ⟨w2.heap.size,0,none⟩=some (.slice As s.len cs):=(bN.out.below cH.out bN.out.lt).cell 0
   have hnz:nx+s.cnt=n+1+mM 1 s.cnt b.cnt e.cnt:=by rw[zY.out];unfold mM;simp
   have ZK:nx+s.cnt≤bound:=by rw[hnz];unfold mM;simp;omega
   have GV:=aPJ s (d+1) (by omega)
   have HC:=hid (M0.out s _ (bound-nx) (by omega) (TF.out).subs (by omega) (by omega))
   have H_:=hid hnz
   have HD:=hid (show max dx (dO s (d+1))=tR 1 mx (dO s (d+1)) (dO b (d+1)) (dO e (d+1)) by rw[AD.out];unfold tR;simp)
   obtain⟨m2,mA⟩:∃m2:Nat,m2=max dx (dO s (d+1)):=⟨_,rfl⟩
   have VB:(if dx<dO s (d+1) then (dO s (d+1):Int) else (dx:Int))=(m2:Int):=by split<;>omega
   rw[←mA] at HD
   clear mA hnz GV
   rw[show ((bound-nx:Nat):Int)=(bound:Int)-(nx:Int) by omega] at HC
   go_wp2_with fail
   refine HC.out.mono ?_
   rintro e1 w4 ⟨rfl,hb4⟩
   have bC:=hid (cH.out.trans (hb4.mono (by have:=cH.out.size;omega)))
   clear hb4
   go_wp2
   go_roundg (3-1)
   case rel=>exact⟨1,nx+s.cnt,m2,by omega,rfl,by go_num,rfl,by go_num,H_,HD,bC⟩
   rw[H9.out];omega
 · have cj:wx.cell? ⟨w2.heap.size,1,none⟩=some (.slice Ab b.len cb):=(bN.out.below cH.out bN.out.lt).cell 1
   have hnz:nx+b.cnt=n+1+mM 2 s.cnt b.cnt e.cnt:=by rw[zY.out];unfold mM;simp;omega
   have ZK:nx+b.cnt≤bound:=by rw[hnz];unfold mM;simp;omega
   have GV:=aPJ b (d+1) (by omega)
   have HC:=hid (M0.out b _ (bound-nx) (by omega) (TF.out).body (by omega) (by omega))
   have H_:=hid hnz
   have HD:=hid (show max dx (dO b (d+1))=tR 2 mx (dO s (d+1)) (dO b (d+1)) (dO e (d+1)) by rw[AD.out];unfold tR;simp)
   obtain⟨m2,mA⟩:∃m2:Nat,m2=max dx (dO b (d+1)):=⟨_,rfl⟩
   have VB:(if dx<dO b (d+1) then (dO b (d+1):Int) else (dx:Int))=(m2:Int):=by split<;>omega
   rw[←mA] at HD
   clear mA hnz GV
   rw[show ((bound-nx:Nat):Int)=(bound:Int)-(nx:Int) by omega] at HC
   go_wp2_with fail
   refine HC.out.mono ?_
   rintro e1 w4 ⟨rfl,hb4⟩
   have bC:=hid (cH.out.trans (hb4.mono (by have:=cH.out.size;omega)))
   clear hb4
   go_wp2
   go_roundg (3-2)
   case rel=>exact⟨2,nx+b.cnt,m2,by omega,rfl,by go_num,rfl,by go_num,H_,HD,bC⟩
   rw[H9.out];omega
 have cj:wx.cell? ⟨w2.heap.size,2,none⟩=some (.slice Ae e.len ce):=(bN.out.below cH.out bN.out.lt).cell 2
 have hnz:nx+e.cnt=n+1+mM 3 s.cnt b.cnt e.cnt:=by rw[zY.out];unfold mM;simp;omega
 have ZK:nx+e.cnt≤bound:=by rw[hnz];unfold mM;simp;omega
 have GV:=aPJ e (d+1) (by omega)
 have HC:=hid (M0.out e _ (bound-nx) (by omega) (TF.out).els (by omega) (by omega))
 have H_:=hid hnz
 have HD:=hid (show max dx (dO e (d+1))=tR 3 mx (dO s (d+1)) (dO b (d+1)) (dO e (d+1)) by rw[AD.out];unfold tR;simp)
 obtain⟨m2,mA⟩:∃m2:Nat,m2=max dx (dO e (d+1)):=⟨_,rfl⟩
 have VB:(if dx<dO e (d+1) then (dO e (d+1):Int) else (dx:Int))=(m2:Int):=by split<;>omega
 rw[←mA] at HD
 clear mA hnz GV
 rw[show ((bound-nx:Nat):Int)=(bound:Int)-(nx:Int) by omega] at HC
 go_wp2_with fail
 refine HC.out.mono ?_
 rintro e1 w4 ⟨rfl,hb4⟩
 have bC:=hid (cH.out.trans (hb4.mono (by have:=cH.out.size;omega)))
 clear hb4
 go_wp2
 go_roundg (3-3)
 case rel=>exact⟨3,nx+e.cnt,m2,by omega,rfl,by go_num,rfl,by go_num,H_,HD,bC⟩
 rw[H9.out];omega
namespace Sl
def low (c:Nat):Bool:=decide (97≤c)&&decide (c≤122)
def wb (c:Nat):Bool:=low c||(decide (65≤c)&&decide (c≤90))||(decide (48≤c)&&decide (c≤57))||decide (c=95)
def l8:List aA:=[⟨#[102,117,110]⟩,⟨#[108,101,116]⟩,⟨#[105,102]⟩,⟨#[101,108,115,101]⟩,⟨#[119,104,105,108,101]⟩,⟨#[114,101,116,117,114,110]⟩,⟨#[116,104,114,111,119]⟩,⟨#[116,114,121]⟩,⟨#[99,97,116,99,104]⟩,⟨#[115,112,97,119,110]⟩,⟨#[106,111,105,110]⟩,⟨#[108,111,99,107]⟩,⟨#[117,110,108,111,99,107]⟩,⟨#[112,114,105,110,116]⟩,⟨#[97,115,115,101,114,116]⟩,⟨#[110,101,119]⟩,⟨#[108,101,110]⟩,⟨#[105,110,112,117,116]⟩,⟨#[99,108,111,99,107]⟩,⟨#[102,110]⟩]
def ops:List aA:=[⟨#[43]⟩,⟨#[45]⟩,⟨#[42]⟩,⟨#[47]⟩,⟨#[37]⟩,⟨#[61,61]⟩,⟨#[33,61]⟩,⟨#[60]⟩,⟨#[60,61]⟩,⟨#[62]⟩,⟨#[62,61]⟩,⟨#[38]⟩,⟨#[124]⟩]
def nm (s:aA):Bool:=decide (0<s.size)&&decide (s.size≤16)&&low (s.data.toList.getD 0 0).toNat&&!inL l8 s&&s.data.toList.all fun b=>wb b.toNat
def op (s:aA):Bool:=inL ops s
def un (s:aA):Bool:=decide (s=⟨#[45]⟩)||decide (s=⟨#[33]⟩)
theorem bFY (l:List aA) (x:aA):Lib.containsS l x=inL l x:=by
 rw[Bool.eq_iff_iff,Lib.containsS_iff,bMX]
theorem I4 (l:List aA) (x:aA):decide (0≤Lib.idxOfS l x)=inL l x:=bFY l x
def dQ {α:Type} (f:α→Bool):List α→Nat→Int
 | [],_=>-1
 |x::l,i=>if f x then (i:Int) else dQ f l (i+1)
theorem aOB {α:Type} {f:α→Bool} {d:α}:∀{l:List α} {k i:Nat},k<l.length→f (l.getD k d)=true→(∀j,j<k→f (l.getD j d)=false)→dQ f l i=((i+k:Nat):Int)
 | [],k,_,hk,_,_=>absurd hk (Nat.not_lt_zero _)
 |x::l,0,i,_,h,_=>by rw[dQ,if_pos (by simpa using h)];rfl
 |x::l,k+1,i,hk,h,hn=>by
   have h0:f x=false:=hn 0 (Nat.succ_pos _)
   rw[dQ,if_neg (by simp[h0]),aOB (k:=k) (by simpa using hk) h (fun j hj=>hn (j+1) (by omega))]
   congr 1
   omega
theorem aNN {α:Type} {f:α→Bool} {d:α}:∀{l:List α} {i:Nat},(∀j,j<l.length→f (l.getD j d)=false)→dQ f l i=-1
 | [],_,_=>rfl
 |x::l,i,h=>by
   have h0:f x=false:=h 0 (by simp)
   rw[dQ,if_neg (by simp[h0]),aNN (d:=d) (fun j hj=>h (j+1) (by simpa using hj))]
theorem aOC {α:Type} {f:α→Bool}:∀(l:List α) (i:Nat),decide (0≤dQ f l i)=l.any f
 | [],_=>rfl
 |x::l,i=>by
   rw[dQ,List.any_cons]
   cases h:f x with
   |true=>rw[if_pos rfl,Bool.true_or];exact bF (by omega)
   |false=>rw[if_neg (by simp),Bool.false_or];exact aOC l (i+1)
theorem bK9 {s:aA} (h0:0<s.size):low (s.data.toList.getD 0 0).toNat=low (s[0]'h0).toNat:=by
 have:s.data.toList.getD 0 0=s[0]'h0:=by
  rw[dR,bX (by simpa using h0)]
  rfl
 rw[this]
theorem a2I {s:aA} {k:Nat} (h:k<s.size) (f:UInt8→Bool):(s.data.toList.take (k+1)).all f=((s.data.toList.take k).all f&&f (s[k]'h)):=by
 rw[List.take_succ_eq_append_getElem (by simpa using h),List.all_append]
 simp
 rfl
theorem a3G {s:aA} {k:Nat} (h:k<s.size) {f:UInt8→Bool} (hf:f (s[k]'h)=false):s.data.toList.all f=false:=by
 rw[List.all_eq_false]
 exact⟨s[k]'h,Q1 (by simpa using h),by simp[hf]⟩
end Sl
open Sl
theorem FV {w:World} {B:Nat} {A:Option Addr} {ps:List aA} (h:Reads w B 1 A ps.length (ps.map .string)) {k:Nat} (hk:k<ps.length):
 ∃ad,A=some ad∧ad.block<B∧w.cell? (ad.add k)=some (.string (ps.getD k ByteArray.empty)):=by
 obtain⟨ad,u,e,hb,hx,hc⟩:=h.at_ hk
 refine⟨ad,e,hb,?_⟩
 rw[hc]
 rw[lZ,bX hk] at hx
 simp at hx
 rw[←hx,dR,bX hk]
 rfl
theorem aZE (c:Nat) (w:World):Calls Tryz.prog 166 #[.int .u8 c] w fun e w'=>e=.returned (.bool (low c))∧w=w':=by
 cases h1:decide ((c:Int)≥97)<;>cases h2:decide ((c:Int)≤122)<;>
 (have HE:Hid (low c=(decide ((c:Int)≥97)&&decide ((c:Int)≤122))):=hid (by unfold low;congr 1<;>rw[decide_eq_decide]<;>omega)
  go_enter Tryz.func166,Tryz.ntmps166
  go_wp2
  go_ret
  exact⟨aR (by rw[HE.out,h1,h2];rfl),rfl⟩)
theorem aYY (c:Nat) (w:World):Calls Tryz.prog 177 #[.int .u8 c] w fun e w'=>e=.returned (.bool (low c))∧w=w':=by
 cases h1:decide ((c:Int)≥97)<;>cases h2:decide ((c:Int)≤122)<;>
 (have HE:Hid (low c=(decide ((c:Int)≥97)&&decide ((c:Int)≤122))):=hid (by unfold low;congr 1<;>rw[decide_eq_decide]<;>omega)
  go_enter Tryz.func177,Tryz.ntmps177
  go_wp2
  go_ret
  exact⟨aR (by rw[HE.out,h1,h2];rfl),rfl⟩)
theorem bG9 (c:Nat) (w:World):Calls Tryz.prog 219 #[.int .u8 c] w fun e w'=>e=.returned (.bool (decide (48≤c)&&decide (c≤57)))∧w=w':=by
 cases h1:decide ((c:Int)≥48)<;>cases h2:decide ((c:Int)≤57)<;>
 (have HE:Hid ((decide (48≤c)&&decide (c≤57))=(decide ((c:Int)≥48)&&decide ((c:Int)≤57))):=hid (by congr 1<;>rw[decide_eq_decide]<;>omega)
  go_enter Tryz.func219,Tryz.ntmps219
  go_wp2
  go_ret
  exact⟨aR (by rw[HE.out,h1,h2];rfl),rfl⟩)
theorem a3I (c:Nat):wb c=(low c||(decide ((c:Int)≥65)&&decide ((c:Int)≤90))||(decide ((c:Int)≥48)&&decide ((c:Int)≤57))||((c:Int)==95)):=by
 unfold wb
 have e1:decide (65≤c)=decide ((c:Int)≥65):=by rw[decide_eq_decide];omega
 have e2:decide (c≤90)=decide ((c:Int)≤90):=by rw[decide_eq_decide];omega
 have e3:decide (48≤c)=decide ((c:Int)≥48):=by rw[decide_eq_decide];omega
 have e4:decide (c≤57)=decide ((c:Int)≤57):=by rw[decide_eq_decide];omega
 have e5:decide (c=95)=((c:Int)==95):=by rw[Bool.eq_iff_iff,beq_iff_eq,decide_eq_true_eq];omega
 rw[e1,e2,e3,e4,e5]
theorem bFC (c:Nat) (w:World):Calls Tryz.prog 168 #[.int .u8 c] w fun e w'=>e=.returned (.bool (wb c))∧w=w':=by
 have HE:=hid (a3I c)
 have HL:=hid (aZE c w)
 cases h0:low c<;>cases h1:decide ((c:Int)≥65)<;>cases h2:decide ((c:Int)≤90)<;>cases h3:decide ((c:Int)≥48)<;>cases h4:decide ((c:Int)≤57)<;>cases h5:((c:Int)==95)<;>
 first
 |(exfalso;unfold low at h0;simp at h0 h1 h2 h3 h4 h5;omega)
 |(have TR:=hid (HE.out.trans (by rw[h0,h1,h2,h3,h4,h5]))
   have HL':=hid (h0▸HL.out)
   clear HE HL
   go_enter Tryz.func168,Tryz.ntmps168
   go_wp2_with (go_at_call 166;refine HL'.out.mono ?_;rintro e w' ⟨rfl,rfl⟩)
   go_ret
   exact⟨aR (TR.out.trans (by rfl)).symm,rfl⟩)
theorem a0R (v:Value) (ps:List aA) (x:aA) (B:Nat) (w:World) (hv:iF w B v ps) (hN:ps.length≤140737488355328):
 Calls Tryz.prog 249 #[v,.string x] w fun e w'=>e=.returned (.int .i64 (Lib.idxOfS ps x))∧w=w':=by
 obtain⟨A,c,rfl,hc,hr⟩:=hv
 have HR:=hid hr
 clear hr
 go_enter Tryz.func249,Tryz.ntmps249
 go_wp2
 go_loop [8] (fun i=>∃k:Nat,k≤ps.length∧i=.int .i64 k∧Hid (∀j,j<k→ps.getD j ByteArray.empty≠x)) (fun i=>ps.length-(intOf i).toNat)
 case atStart=>exact⟨0,Nat.zero_le _,rfl,hid fun j h=>absurd h (Nat.not_lt_zero _)⟩
 obtain⟨k,hk,rfl,he⟩:=hrel
 by_cases hlt:k<ps.length
 rotate_left
 · have Hr:=hid (show Lib.idxOfS ps x=-1 by
    have:=Lib.idxOfS_miss ps ps.length x (fun j hj=>he.out j (by omega))
    rwa [List.take_length] at this)
   clear he
   go_wp2
   go_ret
   exact⟨dC Hr.out.symm,rfl⟩
 obtain⟨ad,rfl,_,hcell⟩:=FV HR.out hlt
 by_cases hx:ps.getD k ByteArray.empty=x
 · have Hr:=hid (show Lib.idxOfS ps x=k by
    have:=Lib.idxOfS_hit ps ps.length k x hlt (aC _) hx he.out
    rwa [List.take_length] at this)
   have hb:(x.toList==(ps.getD k ByteArray.empty).toList)=true:=(Lib.bytes_beq_iff _ _).2 hx.symm
   clear he hx
   generalize ps.getD k ByteArray.empty=y at *
   go_wp2
   go_ret
   exact⟨dC Hr.out.symm,rfl⟩
 have He:=hid (show ∀j,j<k+1→ps.getD j ByteArray.empty≠x from fun j hj=>by
  by_cases e:j=k
  · rw[e];exact hx
  exact he.out j (by omega))
 have hb:(x.toList==(ps.getD k ByteArray.empty).toList)=false:=(Lib.bytes_beq_false_iff _ _).2 (fun e=>hx e.symm)
 clear he hx
 generalize ps.getD k ByteArray.empty=y at *
 go_wp2
 go_round
 case rel=>exact⟨k+1,hlt,by go_num,He⟩
 simp[intOf];omega
theorem KY (v:Value) (ps:List aA) (x:aA) (B:Nat) (w:World) (hv:iF w B v ps) (hN:ps.length≤140737488355328):
 Calls Tryz.prog 160 #[v,.string x] w fun e w'=>e=.returned (.int .i64 (Lib.idxOfS ps x))∧w=w':=by
 obtain⟨A,c,rfl,hc,hr⟩:=hv
 have HR:=hid hr
 clear hr
 go_enter Tryz.func160,Tryz.ntmps160
 go_wp2
 go_loop [5] (fun i=>∃k:Nat,k≤ps.length∧i=.int .i64 k∧Hid (∀j,j<k→ps.getD j ByteArray.empty≠x)) (fun i=>ps.length-(intOf i).toNat)
 case atStart=>exact⟨0,Nat.zero_le _,rfl,hid fun j h=>absurd h (Nat.not_lt_zero _)⟩
 obtain⟨k,hk,rfl,he⟩:=hrel
 by_cases hlt:k<ps.length
 rotate_left
 · have Hr:=hid (show Lib.idxOfS ps x=-1 by
    have:=Lib.idxOfS_miss ps ps.length x (fun j hj=>he.out j (by omega))
    rwa [List.take_length] at this)
   clear he
   go_wp2
   go_ret
   exact⟨dC Hr.out.symm,rfl⟩
 obtain⟨ad,rfl,_,hcell⟩:=FV HR.out hlt
 by_cases hx:ps.getD k ByteArray.empty=x
 · have Hr:=hid (show Lib.idxOfS ps x=k by
    have:=Lib.idxOfS_hit ps ps.length k x hlt (aC _) hx he.out
    rwa [List.take_length] at this)
   have hb:((ps.getD k ByteArray.empty).toList==x.toList)=true:=(Lib.bytes_beq_iff _ _).2 hx
   clear he hx
   generalize ps.getD k ByteArray.empty=y at *
   go_wp2
   go_ret
   exact⟨dC Hr.out.symm,rfl⟩
 have He:=hid (show ∀j,j<k+1→ps.getD j ByteArray.empty≠x from fun j hj=>by
  by_cases e:j=k
  · rw[e];exact hx
  exact he.out j (by omega))
 have hb:((ps.getD k ByteArray.empty).toList==x.toList)=false:=(Lib.bytes_beq_false_iff _ _).2 hx
 clear he hx
 generalize ps.getD k ByteArray.empty=y at *
 go_wp2
 go_round
 case rel=>exact⟨k+1,hlt,by go_num,He⟩
 simp[intOf];omega
theorem TV (v:Value) (ps:List aA) (x:aA) (B:Nat) (w:World) (hv:iF w B v ps) (hN:ps.length≤140737488355328):
 Calls Tryz.prog 202 #[v,.string x] w fun e w'=>e=.returned (.bool (inL ps x))∧w=w':=by
 have HI:=hid (a0R v ps x B w hv hN)
 have HE:=hid (I4 ps x)
 clear hv
 go_enter Tryz.func202,Tryz.ntmps202
 go_wp2_with fail
 refine HI.out.mono ?_
 rintro e w' ⟨rfl,rfl⟩
 generalize Lib.idxOfS ps x=i at *
 go_wp2
 go_ret
 exact⟨aR HE.out,rfl⟩
end
section
open Go.RowKit
open Sl
open Go.Lib (hid)
theorem M9 {w:World} {B g size n:Nat} {t:TypeId} {cs:Array Value} (h:aG w g t cs) (hB:g<B) (hs:cs.size=n*size):Reads w B size (some ⟨g,0,none⟩) n cs.toList:=by
 refine⟨by simpa using hs,fun _=>⟨_,rfl,hB,fun j u hu=>?_⟩⟩
 have e:(⟨g,0,none⟩:Addr).add j=⟨g,j,none⟩:=by
  unfold Addr.add
  split
  · rename_i h0;subst h0;rfl
  simp
 rw[e,h.cell]
 rw[Array.getElem?_toList] at hu
 exact hu
theorem X6 {w:World} {B g:Nat} {t:TypeId} {ps:List aA} {n:Nat} (h:aG w g t (ps.map Value.string).toArray) (hB:g<B) (hn:n=ps.length):iF w B (.slice (some ⟨g,0,none⟩) n n) ps:=by
 subst hn
 refine⟨_,_,rfl,aC _,?_⟩
 have:=M9 (n:=ps.length) (size:=1) h hB (by simp)
 simpa using this
theorem aYD (s:aA) (w:World):Calls Tryz.prog 167 #[.string s] w fun e w'=>e=.returned (.bool (inL l8 s))∧Below w.heap.size w w':=by
 have HC:=hid (fun (W:World) (hb:aG W w.heap.size 9 (l8.map Value.string).toArray)=>TV (.slice (some ⟨w.heap.size,0,none⟩) 20 20) l8 s W.heap.size W (X6 hb hb.lt rfl) (by decide))
 generalize hk:inL l8 s=k at *
 have HK:=hid hk
 clear hk
 go_enter Tryz.func167,Tryz.ntmps167
 go_wp2_with fail
 refine (HC.out _ (aG.new w _ _)).mono ?_
 rintro e w' ⟨rfl,rfl⟩
 go_wp2
 go_ret
 exact⟨rfl,(Below.refl _ _).alloc (aC _) _⟩
theorem aXV (w:World):Calls Tryz.prog 178 #[] w fun e w'=>e=.returned (.slice (some ⟨w.heap.size,0,none⟩) 20 20)∧w.alloc (.cells (l8.map Value.string).toArray 9)=w':=by
 go_enter Tryz.func178,Tryz.ntmps178
 go_wp2
 go_ret
 exact⟨rfl,rfl⟩
theorem bKZ (w:World):Calls Tryz.prog 258 #[] w fun e w'=>e=.returned (.slice (some ⟨w.heap.size,0,none⟩) 13 13)∧w.alloc (.cells (ops.map Value.string).toArray 9)=w':=by
 go_enter Tryz.func258,Tryz.ntmps258
 go_wp2
 go_ret
 exact⟨rfl,rfl⟩
theorem bE3 (w:World):Calls Tryz.prog 275 #[] w fun e w'=>e=.returned (.slice (some ⟨w.heap.size,0,none⟩) 13 13)∧w.alloc (.cells (ops.map Value.string).toArray 9)=w':=by
 go_enter Tryz.func275,Tryz.ntmps275
 go_wp2
 go_ret
 exact⟨rfl,rfl⟩
def F5 (s:aA):Int:=Lib.idxOfS ops s
theorem a1T (s:aA):decide (0≤F5 s)=op s:=I4 ops s
theorem bE0 (s:aA) (w:World):Calls Tryz.prog 222 #[.string s] w fun e w'=>e=.returned (.int .i64 (F5 s))∧Below w.heap.size w w':=by
 have HC:=hid (fun (W:World) (hb:aG W w.heap.size 9 (ops.map Value.string).toArray)=>KY (.slice (some ⟨w.heap.size,0,none⟩) 13 13) ops s W.heap.size W (X6 hb hb.lt rfl) (by decide))
 have HO:=hid (bKZ w)
 have HB:=hid (aG.new w 9 (ops.map Value.string).toArray)
 have HA:=hid ((Below.refl w.heap.size w).alloc (aC _) (.cells (ops.map Value.string).toArray 9))
 unfold F5
 generalize w.alloc (.cells (ops.map Value.string).toArray 9)=w1 at *
 generalize Lib.idxOfS ops s=k at *
 go_enter Tryz.func222,Tryz.ntmps222
 go_wp2_with fail
 refine HO.out.mono ?_
 rintro e w' ⟨rfl,rfl⟩
 go_wp2_with fail
 refine (HC.out _ HB.out).mono ?_
 rintro e w' ⟨rfl,rfl⟩
 go_wp2
 go_ret
 exact⟨rfl,HA.out⟩
theorem bFJ (s:aA) (w:World):Calls Tryz.prog 256 #[.string s] w fun e w'=>e=.returned (.int .i64 (F5 s))∧Below w.heap.size w w':=by
 have HC:=hid (fun (W:World) (hb:aG W w.heap.size 9 (ops.map Value.string).toArray)=>a0R (.slice (some ⟨w.heap.size,0,none⟩) 13 13) ops s W.heap.size W (X6 hb hb.lt rfl) (by decide))
 have HO:=hid (bE3 w)
 have HB:=hid (aG.new w 9 (ops.map Value.string).toArray)
 have HA:=hid ((Below.refl w.heap.size w).alloc (aC _) (.cells (ops.map Value.string).toArray 9))
 unfold F5
 generalize w.alloc (.cells (ops.map Value.string).toArray 9)=w1 at *
 generalize Lib.idxOfS ops s=k at *
 go_enter Tryz.func256,Tryz.ntmps256
 go_wp2_with fail
 refine HO.out.mono ?_
 rintro e w' ⟨rfl,rfl⟩
 go_wp2_with fail
 refine (HC.out _ HB.out).mono ?_
 rintro e w' ⟨rfl,rfl⟩
 go_wp2
 go_ret
 exact⟨rfl,HA.out⟩
theorem bI_ (c:Nat) (w:World):Calls Tryz.prog 179 #[.int .u8 c] w fun e w'=>e=.returned (.bool (wb c))∧w=w':=by
 have HL:=hid (aYY c w)
 have HD:=hid (bG9 c w)
 have HE:=hid (show wb c=(low c||(decide ((c:Int)≥65)&&decide ((c:Int)≤90))||(decide (48≤c)&&decide (c≤57))||((c:Int)==95)) by
  rw[a3I]
  have e3:decide (48≤c)=decide ((c:Int)≥48):=by rw[decide_eq_decide];omega
  have e4:decide (c≤57)=decide ((c:Int)≤57):=by rw[decide_eq_decide];omega
  rw[e3,e4])
 generalize hd:(decide (48≤c)&&decide (c≤57))=d at *
 generalize low c=l at *
 clear hd
 cases l<;>cases h1:decide ((c:Int)≥65)<;>cases h2:decide ((c:Int)≤90)<;>cases d<;>cases h5:((c:Int)==95)<;>
 first
 |(exfalso;simp at h1 h2 h5;omega)
 |(have TR:=hid (HE.out.trans (by rw[h1,h2,h5]))
   clear HE
   go_enter Tryz.func179,Tryz.ntmps179
   go_wp2_with (first|(go_at_call 177;refine HL.out.mono ?_;rintro e w' ⟨rfl,rfl⟩)|(go_at_call 219;refine HD.out.mono ?_;rintro e w' ⟨rfl,rfl⟩))
   go_ret
   exact⟨aR (TR.out.trans (by rfl)).symm,rfl⟩)
theorem a5T {s:aA} (h0:0<s.size) (pF:s.size≤16):nm s=(low (s[0]'h0).toNat&&!inL l8 s&&s.data.toList.all fun b=>wb b.toNat):=by
 unfold nm
 rw[bF h0,bF pF,bK9 h0]
 rfl
theorem toList_nil {s:aA} (h:¬0<s.size):s.toList=[]:=by
 rw[ByteArray.toList_eq]
 have:s.data.size=0:=by have:s.data.size=s.size:=rfl;omega
 rw[Array.eq_empty_of_size_eq_zero this]
theorem toList_cons {s:aA} (h:0<s.size):s.toList≠[]:=by
 rw[ByteArray.toList_eq]
 intro e
 have:s.data.toList.length=0:=by rw[e];rfl
 have h2:s.data.toList.length=s.size:=by simp
 omega
theorem aH5 {s:aA} (h:¬(0<s.size∧s.size≤16)):nm s=false:=by
 unfold nm
 by_cases h0:0<s.size
 · rw[bP (show ¬s.size≤16 by omega)];simp
 rw[bP h0];simp
end
end Go.Proofs.YtdlndhbkcgmkkaaGreatDoor
