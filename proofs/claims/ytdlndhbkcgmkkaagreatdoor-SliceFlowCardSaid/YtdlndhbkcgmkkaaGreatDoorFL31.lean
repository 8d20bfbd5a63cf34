/-
 Part 31 of 35 of a proof about the given program: facts on which the last part stands.
-/
import Derived.Test.YtdlndhbkcgmkkaaGreatDoorFL30
set_option maxHeartbeats 12800000
set_option linter.unusedVariables false
set_option linter.unusedSimpArgs false
namespace Go.Proofs.YtdlndhbkcgmkkaaGreatDoor
section
open Go.RowKit
namespace Sl
open Fo
theorem M7 {K:Nat} (F:Nat):∀(l:Fo) (ex:Bool) (num fns i:Nat) (p:Pl),Fo.cO K l→∀r∈recs F l ex num fns i p,Fo.cO K (.cons r.nd.k r.nd.t r.nd.n r.nd.s r.nd.ps r.nd.b r.nd.e .nil)∧1+r.nd.s.cnt+r.nd.b.cnt+r.nd.e.cnt≤l.cnt∧r.nd.s.aX≤l.aX
 |.nil,_,_,_,_,_,_,r,h=>by simp[recs] at h
 |.cons k t n s ps b e r,false,num,fns,i,p,cX,y,h=>by
   obtain⟨k1,k2,k3,k4,k5,j_,jO,kV,oY,tQ,C9,okr⟩:=cX
   unfold recs at h
   simp only[List.mem_cons,List.mem_append] at h
   rw[cnt,Fo.aX]
   rcases h with rfl|h|h|h|h
   · exact⟨⟨k1,k2,k3,k4,k5,j_,jO,kV,oY,tQ,C9,trivial⟩,by dsimp only;omega,by dsimp only;omega⟩
   · obtain⟨a1,a2,a3⟩:=M7 F s _ _ _ _ _ oY y h;exact⟨a1,by omega,by omega⟩
   · obtain⟨a1,a2,a3⟩:=M7 F b _ _ _ _ _ tQ y h;exact⟨a1,by omega,by omega⟩
   · obtain⟨a1,a2,a3⟩:=M7 F e _ _ _ _ _ C9 y h;exact⟨a1,by omega,by omega⟩
   obtain⟨a1,a2,a3⟩:=M7 F r _ _ _ _ _ okr y h;exact⟨a1,by omega,by omega⟩
 |.cons k t n s ps b e r,true,num,fns,i,p,cX,y,h=>by
   obtain⟨k1,k2,k3,k4,k5,j_,jO,kV,oY,tQ,C9,okr⟩:=cX
   unfold recs at h
   simp only[List.mem_append] at h
   rw[cnt,Fo.aX]
   rcases h with h|h|h
   · obtain⟨a1,a2,a3⟩:=M7 F s _ _ _ _ _ oY y h;exact⟨a1,by omega,by omega⟩
   · by_cases hk:k=10
     · rw[if_pos hk] at h
       obtain⟨a1,a2,a3⟩:=M7 F b _ _ _ _ _ tQ y h;exact⟨a1,by omega,by omega⟩
     rw[if_neg hk] at h;cases h
   obtain⟨a1,a2,a3⟩:=M7 F r _ _ _ _ _ okr y h;exact⟨a1,by omega,by omega⟩
theorem aMT {K:Nat} (F:Nat):∀(p:List Fc) (i num fns:Nat),(∀f∈p,Fo.cO K f.body)→∀r∈lN F p i num fns,∃f∈p,Fo.cO K (.cons r.nd.k r.nd.t r.nd.n r.nd.s r.nd.ps r.nd.b r.nd.e .nil)∧1+r.nd.s.cnt+r.nd.b.cnt+r.nd.e.cnt≤f.body.cnt∧r.nd.s.aX≤f.body.aX
 | [],_,_,_,_,r,h=>by simp[lN] at h
 |f::l,i,num,fns,cX,r,h=>by
   unfold lN at h
   rcases List.mem_append.1 h with h|h
   · exact⟨f,List.mem_cons_self ..,M7 F f.body _ _ _ _ _ (cX f (List.mem_cons_self ..)) r h⟩
   obtain⟨g,hg,hx⟩:=aMT F l _ _ _ (fun g hg=>cX g (kS _ hg)) r h
   exact⟨g,kS _ hg,hx⟩
theorem aZB {p:List Fc} {f:Fc} (h:f∈p):f.body.cnt≤nodes p:=by
 unfold nodes
 induction p with
 |nil=>cases h
 |cons g l ih=>
  rw[List.map_cons,List.sum_cons]
  rcases List.mem_cons.1 h with rfl|h
  · omega
  have:=ih h;omega
def E0 (p:List Fc) (r:Sm):Ts:=⟨if r.unit<p.length then r.unit else p.length,decide (r.nd.k=20),anyK (heads (own r.nd.s)) 6,sR p (heads (own r.nd.s))⟩
noncomputable def WR (p:List Fc) (r:Sm):Ef:={ mC p r.nd with cW:=fC p.length (oX p.length ((all p).map (E0 p))) (E0 p r) }
theorem a3A {p:List Fc} {x:Px} (h:x.ef=mC p x.sm.nd) (hn:(p.map (·.name)).Nodup) (hc:∀t,(5,t)∈heads (own x.sm.nd.s)→∃f∈p,f.name=t):JQ x=sR p (heads (own x.sm.nd.s))∧x.ef.calls=ints (JQ x):=by
 have h1:x.ef.calls=ints (sR p (heads (own x.sm.nd.s))):=by
  rw[h]
  exact bLY hn hc
 have h2:JQ x=sR p (heads (own x.sm.nd.s)):=by
  unfold JQ
  rw[h1]
  unfold ints
  rw[List.map_map]
  conv=>rhs;rw[←List.map_id (sR p (heads (own x.sm.nd.s)))]
  exact List.map_congr_left fun n _=>by simp
 exact⟨h2,by rw[h2];exact h1⟩
theorem a2J {p:List Fc} {x:Px} (h:x.ef=mC p x.sm.nd) (hn:(p.map (·.name)).Nodup) (hc:∀t,(5,t)∈heads (own x.sm.nd.s)→∃f∈p,f.name=t):eE p.length x=E0 p x.sm:=by
 unfold eE O1 E0
 rw[(a3A h hn hc).1,h]
 rfl
structure k6 (w:World) (g:Nat) (p:List Fc) (N:List Px):Prop where
 ex:∃W B base pv aV av fv,jW W B g base pv aV p.length w av fv (oX p.length ((all p).map (E0 p))) N (p.length+fns p)∧Below B W w∧B≤g
 sm:N.map (·.sm)=all p
 ef:∀x∈N,x.ef=WR p x.sm
theorem k6.below {w w':World} {g:Nat} {p:List Fc} {N:List Px} (h:k6 w g p N) (hb:Below w.heap.size w w'):k6 w' g p N:=by
 obtain⟨⟨W,B,base,pv,aV,av,fv,h1,h2,h3⟩,h4,h5⟩:=h
 have:=h1.gr.blk.lt
 exact⟨⟨W,B,base,pv,aV,av,fv,h1.below hb,h2.trans (hb.mono (by omega)),h3⟩,h4,h5⟩
end Sl
end
end Go.Proofs.YtdlndhbkcgmkkaaGreatDoor
