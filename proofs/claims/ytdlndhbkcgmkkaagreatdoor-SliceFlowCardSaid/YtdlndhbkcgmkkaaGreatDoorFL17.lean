/-
 Part 17 of 35 of a proof about the given program: facts on which the last part stands.
-/
import Derived.Test.YtdlndhbkcgmkkaaGreatDoorFL16
import Derived.Deep.MidRow
import Derived.Deep.WholeRow
set_option maxHeartbeats 12800000
set_option linter.unusedVariables false
set_option linter.unusedSimpArgs false
set_option maxRecDepth 100000
namespace Go.Proofs.YtdlndhbkcgmkkaaGreatDoor
section
open Go.RowKit
open Sl
def gC {ρ:Type} (C:List Value→ρ→Prop):List Value→List ρ→Prop
 |xs,[]=>xs=[]
 |xs,x::l=>∃cs ys,xs=cs++ys∧C cs x∧gC C ys l
section
variable {ρ:Type} {C:List Value→ρ→Prop} {sz:Nat}
theorem gC.F_ {cs:List Value} {x:ρ} (h:C cs x):gC C cs [x]:=⟨cs,[],by simp,h,rfl⟩
theorem gC.app {l m:List ρ}:∀{xs ys:List Value},gC C xs l→gC C ys m→gC C (xs++ys) (l++m):=by
 induction l with
 |nil=>intro xs ys h h';rw[show xs=[] from h];exact h'
 |cons x l ih=>
  intro xs ys h h'
  obtain⟨cs,zs,rfl,h1,h2⟩:=h
  exact⟨cs,zs++ys,by rw[dZ],h1,ih h2 h'⟩
theorem gC.imp {C':List Value→ρ→Prop} (hC:∀cs x,C cs x→C' cs x) {l:List ρ}:∀{xs:List Value},gC C xs l→gC C' xs l:=by
 induction l with
 |nil=>intro xs h;exact h
 |cons x l ih=>
  intro xs h
  obtain⟨cs,zs,rfl,h1,h2⟩:=h
  exact⟨cs,zs,rfl,hC _ _ h1,ih h2⟩
theorem gC.one' (hC:∀cs x,C cs x→∀u∈cs,u.oneCell'=true) {l:List ρ}:∀{xs:List Value},gC C xs l→∀u∈xs,u.oneCell'=true:=by
 induction l with
 |nil=>intro xs h u hu;rw[show xs=[] from h] at hu;cases hu
 |cons x l ih=>
  intro xs h u hu
  obtain⟨cs,zs,rfl,h1,h2⟩:=h
  rcases List.mem_append.1 hu with hu|hu
  · exact hC _ _ h1 u hu
  exact ih h2 u hu
theorem aZ7 (SP:∀cs x,C cs x→∀u∈cs,u.oneCell'=true):UO sz (gC C) List.length (fun l m=>l++m) where
 F_:=fun h=>gC.one' SP h
 VL:=fun h1 h2=>gC.app h1 h2
 len_:=fun _ _=>bL
theorem gC.at_ (hC:∀cs x,C cs x→cs.length=sz) {l:List ρ}:∀{xs:List Value} {i:Nat} {x:ρ},gC C xs l→l[i]?=some x→∃cs,C cs x∧∀j,j<sz→xs[i*sz+j]?=cs[j]?:=by
 induction l with
 |nil=>intro xs i x _ h;simp at h
 |cons y l ih=>
  intro xs i x h hi
  obtain⟨cs,zs,rfl,h1,h2⟩:=h
  have hl:=hC _ _ h1
  cases i with
  |zero=>
   simp only[List.getElem?_cons_zero,Option.some.injEq] at hi
   subst hi
   exact⟨cs,h1,fun j hj=>by rw[Nat.zero_mul,Nat.zero_add,List.getElem?_append_left (by omega)]⟩
  |succ i=>
   rw[List.getElem?_cons_succ] at hi
   obtain⟨ds,h3,h4⟩:=ih h2 hi
   refine⟨ds,h3,fun j hj=>?_⟩
   rw[List.getElem?_append_right (by rw[hl,Nat.add_mul];omega),hl,show (i+1)*sz+j-sz=i*sz+j by rw[Nat.add_mul];omega]
   exact h4 j hj
theorem gC.cS (hC:∀cs x,C cs x→cs.length=sz) {l:List ρ}:∀{xs:List Value} {i j:Nat} {x x':ρ} {u:Value},gC C xs l→l[i]?=some x→j<sz→(∀cs,C cs x→C (cs.set j u) x')→gC C (xs.set (i*sz+j) u) (l.set i x'):=by
 induction l with
 |nil=>intro xs i j x x' u _ h;simp at h
 |cons y l ih=>
  intro xs i j x x' u h hi hj hx
  obtain⟨cs,zs,rfl,h1,h2⟩:=h
  have hl:=hC _ _ h1
  cases i with
  |zero=>
   simp only[List.getElem?_cons_zero,Option.some.injEq] at hi
   subst hi
   rw[Nat.zero_mul,Nat.zero_add,List.set_append_left _ _ (by omega)]
   exact⟨_,zs,rfl,hx _ h1,h2⟩
  |succ i=>
   rw[List.getElem?_cons_succ] at hi
   rw[List.set_append_right _ _ (by rw[hl,Nat.add_mul];omega),hl,show (i+1)*sz+j-sz=i*sz+j by rw[Nat.add_mul];omega]
   exact⟨cs,_,rfl,h1,ih h2 hi hj hx⟩
end
abbrev cP {ρ:Type} (e:TypeId) (sz:Nat) (C:List Value→ρ→Prop) (w:World) (base:Nat) (v:Value) (l:List ρ):Prop:=aF e sz (gC C) List.length w base v l
section
variable {ρ:Type} {e:TypeId} {C:List Value→ρ→Prop} {sz:Nat} {w w':World} {base:Nat} {v:Value} {l:List ρ}
theorem cP.imp {C':List Value→ρ→Prop} (h:cP e sz C w base v l) (hC:∀cs x,C cs x→C' cs x):cP e sz C' w base v l:=by
 obtain⟨xs,h1,h2⟩:=h
 exact⟨xs,h1,h2.imp hC⟩
theorem cP.at_ (h:cP e sz C w base v l) (hC:∀cs x,C cs x→cs.length=sz) {i:Nat} {x:ρ} (hi:l[i]?=some x):
 ∃g c cs,v=.slice (some ⟨g,0,none⟩) l.length c∧l.length≤c∧base≤g∧g<w.heap.size∧v.ownBlock=some g∧C cs x∧(∀j,j<sz→w.cell? ⟨g,i*sz+j,none⟩=cs[j]?)∧∀j,w.frozen? ⟨g,j,none⟩=false:=by
 obtain⟨xs,h1,h2⟩:=h
 obtain⟨cs,h3,h4⟩:=h2.at_ hC hi
 have hlt:=(mK.1 hi).1
 rcases h1.2 with⟨-,h0⟩|⟨g,cap,cur,rfl,hb,hg,hc,hm,hs,ht⟩
 · omega
 refine⟨g,cap,cs,rfl,hc,hb,(Array.getElem?_eq_some_iff.1 hg).1,rfl,h3,fun j hj=>?_,fun j=>by simp[World.frozen?,hg]⟩
 rw[←h4 j hj,←ht,cell_of_row w g _ cur e (0,0) hg,List.getElem?_take]
 have bQP:i*sz+j<l.length*sz:=by
  have:=Nat.mul_le_mul_right sz (show i+1≤l.length from hlt)
  rw[Nat.add_mul] at this
  omega
 rw[if_pos bQP]
 simp
theorem cP.cS {g c:Nat} (h:cP e sz C w base (.slice (some ⟨g,0,none⟩) l.length c) l) (hC:∀cs x,C cs x→cs.length=sz) {i j:Nat} {x x':ρ} {u:Value} (hi:l[i]?=some x) (hj:j<sz) (hx:∀cs,C cs x→C (cs.set j u) x'):
 cP e sz C (w.setCell ⟨g,i*sz+j,none⟩ u) base (.slice (some ⟨g,0,none⟩) l.length c) (l.set i x'):=by
 obtain⟨xs,h1,h2⟩:=h
 refine⟨_,?_,h2.cS hC hi hj hx⟩
 rw[List.length_set]
 exact (World.ownsRow.stored h1 _ u).1
end
theorem aDW {P:Program} {t:TypeId} {sz bytes:Nat} (h:(P.info? t).map (fun i=>(i.zero.map fun z=>z.cells.size,i.size,i.bytes))=some (some sz,sz,bytes)):∃i z,P.info? t=some i∧i.zero=some z∧i.size=sz∧i.bytes=bytes∧z.cells.size=sz:=by
 cases h1:P.info? t with
 |none=>rw[h1] at h;cases h
 |some i=>
  rw[h1] at h
  cases h2:i.zero with
  |none=>simp[h2] at h
  |some z=>
   simp[h2] at h
   exact⟨i,z,rfl,h2,h.2.1,h.2.2,h.1⟩
theorem aDL {ρ:Type} {e:TypeId} {C:List Value→ρ→Prop} {sz bytes:Nat} (SP:∀cs x,C cs x→∀u∈cs,u.oneCell'=true) {P:Program} {w:World} {ops:Array Oper} {rest:List Oper} {o:Oper} {a:Act} {Q:Exit→Act→World→Prop} (hgd:o.guard=none) (s x:Operand) (t:TypeId)
 (ho:o.op=.call { callee:=.builtin .append,args:=#[s,x],argTypes:=#[t,t] })
 (base:Nat) (ht:P.underlying t=some (.slice e)) (hi:(P.info? e).map (fun i=>(i.zero.map fun z=>z.cells.size,i.size,i.bytes))=some (some sz,sz,bytes)) (hsz:0<sz)
 (v:Value) (l:List ρ) (hs:a.eval s=v) (hown:cP e sz C w base v l)
 (B:Nat) (A:Option Addr) (m c:Nat) (src:List ρ) (news:List Value) (hx:a.eval x=.slice A m c) (hm:m=src.length) (hr:Reads w B sz A m news) (hR:gC C news src)
 (hlen:l.length+m≤1000000000) (hby:bytes≤100000) (hbase:base≤w.heap.size)
 (h:∀v' w',cP e sz C w' base v' (l++src)→w.grownBy w' v.ownBlock→(v'.ownBlock=v.ownBlock∨v'.ownBlock=some w.heap.size)→wpList P ops Q rest (a.put o.dst v') w'):wpList P ops Q (o::rest) a w:=by
 obtain⟨i,z,h1,h2,h3,h4,h5⟩:=aDW hi
 exact aDN (aZ7 SP) hgd s x t ho base i z bytes ht h1 h2 h3 h4 h5 hsz v l hs hown B A m c src news hx hm hr hR (by unfold maxLen;omega) (Nat.le_trans (Nat.mul_le_mul hlen hby) (by decide)) hbase h
theorem bIX {ρ:Type} {e:TypeId} {sz:Nat} {R:List Value→ρ→Prop} {len:ρ→Nat} {app:ρ→ρ→ρ} {bytes:Nat} {P:Program} {w:World} (Lw:UO sz R len app) {ops:Array Oper} {o:Oper} {a:Act} {K:Act→World→Prop} {Q:Exit→Act→World→Prop} {E:Prop} (hgd:o.guard=none) (s x:Operand) (t:TypeId)
 (ho:o.op=.call { callee:=.builtin .append,args:=#[s,x],argTypes:=#[t,t] })
 (base:Nat) (ht:P.underlying t=some (.slice e)) (hi:(P.info? e).map (fun i=>(i.zero.map fun z=>z.cells.size,i.size,i.bytes))=some (some sz,sz,bytes)) (hsz:0<sz)
 (v:Value) (l:ρ) (hs:a.eval s=v) (hown:aF e sz R len w base v l)
 (B:Nat) (A:Option Addr) (m c:Nat) (src:ρ) (news:List Value) (hx:a.eval x=.slice A m c) (hm:m=len src) (hr:Reads w B sz A m news) (hR:R news src)
 (hlen:len l+m≤1000000000) (hby:bytes≤100000) (hbase:base≤w.heap.size)
 (h:∀v' w',aF e sz R len w' base v' (app l src)→w.grownBy w' v.ownBlock→(v'.ownBlock=v.ownBlock∨v'.ownBlock=some w.heap.size)→K (a.put o.dst v') w'):
 if Region.wanted o (yielded ops a.tmps)=true then Oper.wp P o a w K Q else E:=by
 obtain⟨i,z,h1,h2,h3,h4,h5⟩:=aDW hi
 obtain⟨xs,k1,k2⟩:=hown
 subst hm
 refine bEB w hgd s x t ho base e i z sz bytes ht h1 h2 h3 h4 h5 hsz v (len l) xs hs k1 B A (len src) c news hx hr (Lw.F_ hR) (by unfold maxLen;omega) (Nat.le_trans (Nat.mul_le_mul hlen hby) (by decide)) hbase (fun v' w' k3 k4 k5=>h v' w' ?_ k4 k5)
 exact⟨xs++news,by rw[Lw.len_];exact k3,Lw.VL k2 hR⟩
theorem XU {ρ:Type} {e:TypeId} {C:List Value→ρ→Prop} {sz bytes:Nat} (SP:∀cs x,C cs x→∀u∈cs,u.oneCell'=true) {P:Program} {w:World} {ops:Array Oper} {o:Oper} {a:Act} {K:Act→World→Prop} {Q:Exit→Act→World→Prop} {E:Prop} (hgd:o.guard=none) (s x:Operand) (t:TypeId)
 (ho:o.op=.call { callee:=.builtin .append,args:=#[s,x],argTypes:=#[t,t] })
 (base:Nat) (ht:P.underlying t=some (.slice e)) (hi:(P.info? e).map (fun i=>(i.zero.map fun z=>z.cells.size,i.size,i.bytes))=some (some sz,sz,bytes)) (hsz:0<sz)
 (v:Value) (l:List ρ) (hs:a.eval s=v) (hown:cP e sz C w base v l)
 (B:Nat) (A:Option Addr) (m c:Nat) (src:List ρ) (news:List Value) (hx:a.eval x=.slice A m c) (hm:m=src.length) (hr:Reads w B sz A m news) (hR:gC C news src)
 (hlen:l.length+m≤1000000000) (hby:bytes≤100000) (hbase:base≤w.heap.size)
 (h:∀v' w',cP e sz C w' base v' (l++src)→w.grownBy w' v.ownBlock→(v'.ownBlock=v.ownBlock∨v'.ownBlock=some w.heap.size)→K (a.put o.dst v') w'):
 if Region.wanted o (yielded ops a.tmps)=true then Oper.wp P o a w K Q else E:=
 bIX (aZ7 SP) hgd s x t ho base ht hi hsz v l hs hown B A m c src news hx hm hr hR hlen hby hbase h
theorem bL6 {ρ:Type} {e:TypeId} {C:List Value→ρ→Prop} {sz bytes:Nat} (SP:∀cs x,C cs x→∀u∈cs,u.oneCell'=true) {P:Program} {w:World} {o:Oper} {a:Act} {K:Act→World→Prop} {Q:Exit→Act→World→Prop} (s x:Operand) (t:TypeId)
 (ho:o.op=.call { callee:=.builtin .append,args:=#[s,x],argTypes:=#[t,t] })
 (base:Nat) (ht:P.underlying t=some (.slice e)) (hi:(P.info? e).map (fun i=>(i.zero.map fun z=>z.cells.size,i.size,i.bytes))=some (some sz,sz,bytes)) (hsz:0<sz)
 (v:Value) (l:List ρ) (hs:a.eval s=v) (hown:cP e sz C w base v l)
 (B:Nat) (A:Option Addr) (m c:Nat) (src:List ρ) (news:List Value) (hx:a.eval x=.slice A m c) (hm:m=src.length) (hr:Reads w B sz A m news) (hR:gC C news src)
 (hlen:l.length+m≤1000000000) (hby:bytes≤100000) (hbase:base≤w.heap.size)
 (h:∀v' w',cP e sz C w' base v' (l++src)→w.grownBy w' v.ownBlock→(v'.ownBlock=v.ownBlock∨v'.ownBlock=some w.heap.size)→K (a.put o.dst v') w'):Oper.wp P o a w K Q:=by
 obtain⟨i,z,h1,h2,h3,h4,h5⟩:=aDW hi
 obtain⟨xs,k1,k2⟩:=hown
 subst hm
 refine aDI w s x t ho base e i z sz bytes ht h1 h2 h3 h4 h5 hsz v l.length xs hs k1 B A src.length c news hx hr (gC.one' SP hR) (by unfold maxLen;omega) (Nat.le_trans (Nat.mul_le_mul hlen hby) (by decide)) hbase (fun v' w' k3 k4 k5=>h v' w' ?_ k4 k5)
 exact⟨xs++news,by rw[bL];exact k3,gC.app k2 hR⟩
theorem bEX {P:Program} {w:World} {t:TypeId} {b:Nat} {T:TypeId} {cur cs:Array Value} (hb:aG w b T cur) (hs:cs.size=cur.size) (hi:(P.info? t).map (·.size)=some cs.size) (h1:∀u∈cs.toList,u.oneCell'=true):
 (Instr.storeAt t (.pointer (some ⟨b,0,none⟩)) (.agg cs)).run P w=.ok () (w.setRow b cs):=by
 have hst:=run_storeCells_at P b 0 T cs.toList 0 cur w hb (by rw[Array.length_toList];omega) h1
 have he:(cur.toList.take (0+0)++cs.toList++cur.toList.drop (0+0+cs.toList.length)).toArray=cs:=by
  rw[List.take_zero,List.nil_append,List.drop_of_length_le (by rw[Array.length_toList,Array.length_toList];omega),List.append_nil,Array.toArray_toList]
 rw[he] at hst
 cases hq:P.info? t with
 |none=>simp[hq] at hi
 |some i=>
  have hsz:cs.size=i.size:=by simp[hq] at hi;omega
  simp only[Instr.storeAt,Instr.sureAddr,Sem.run_bind,Sem.run_pure,Result.andThen]
  simp[storeVar,sizeOf,typeInfo,hq,Value.cells,hsz,hst]
theorem aME {P:Program} {w:World} {ops:Array Oper} {o:Oper} {a:Act} {K:Act→World→Prop} {Q:Exit→Act→World→Prop} {E:Prop} (hgd:o.guard=none) (x v:Operand) (t:TypeId) (ho:o.op=.store t x v)
 {b:Nat} {T:TypeId} {cur cs:Array Value} (hx:a.eval x=.pointer (some ⟨b,0,none⟩)) (hv:a.eval v=.agg cs) (hb:aG w b T cur) (hs:cs.size=cur.size) (hi:(P.info? t).map (·.size)=some cs.size) (h1:∀u∈cs.toList,u.oneCell'=true)
 (h:∀w',aG w' b T cs→w.grownBy w' (some b)→K (a.put o.dst undef) w'):if Region.wanted o (yielded ops a.tmps)=true then Oper.wp P o a w K Q else E:=by
 have hw:Region.wanted o (yielded ops a.tmps)=true:=by simp[Region.wanted,hgd]
 rw[if_pos hw]
 have hrun:=bEX (P:=P) (t:=t) hb hs hi h1
 unfold Oper.wp execOp
 simp only[ho,hx,hv,Sem.run_bind,Sem.run_pure,Result.andThen_ok,hrun]
 unfold Oper.upon
 refine h _ (setRow_heap w b cur cs T _ hb) ⟨rfl,rfl,rfl,by simp,fun k _ hk=>setRow_other w b k _ (fun e=>hk (by rw[e]))⟩
section
variable {P:Program} {w:World}
theorem aXR (ad:Addr) (ty:TypeId) (cs:List Value) (d:TypeDesc) (hc:∀j u,cs[j]?=some u→w.cell? (ad.add j)=some u)
 (hu:P.underlying ty=some d) (hd:d.isRow=true) (hi:(P.info? ty).map (·.size)=some cs.length):
 (Instr.loadAt ty (.pointer (some ad))).run P w=.ok (.agg cs.toArray) w:=by
 have hl:(loadCells ad cs.length).run P w=.ok cs.toArray w:=run_loadCells_list (P:=P) w ad cs hc
 cases hq:P.info? ty with
 |none=>simp[hq] at hi
 |some i=>
  have hs:i.size=cs.length:=by simpa[hq] using hi
  have hagg:(isAgg ty).run P w=.ok true w:=by
   cases d<;>simp_all[isAgg,underlying,TypeDesc.isRow]
  simp only[Instr.loadAt,Instr.sureAddr,Sem.run_bind,Sem.run_pure,Result.andThen_ok]
  simp[loadVar,hagg,sizeOf,typeInfo,hq,hs,hl]
theorem aMD {ops:Array Oper} {rest:List Oper} {o:Oper} {a:Act} {Q:Exit→Act→World→Prop} (hgd:o.guard=none) (ty:TypeId) (x:Operand) (ho:o.op=.load ty x)
 (ad:Addr) (hx:a.eval x=.pointer (some ad)) (cs:List Value) (d:TypeDesc) (hc:∀j u,cs[j]?=some u→w.cell? (ad.add j)=some u)
 (hu:P.underlying ty=some d) (hd:d.isRow=true) (hi:(P.info? ty).map (·.size)=some cs.length)
 (h:wpList P ops Q rest (a.put o.dst (.agg cs.toArray)) w):wpList P ops Q (o::rest) a w:=
 wpList_plain hgd fun _ hK=>by
  unfold Oper.wp execOp
  simp only[ho,hx,aXR ad ty cs d hc hu hd hi,Sem.run_bind,Sem.run_pure,Result.andThen_ok]
  exact hK _ _ h
theorem aMC {ops:Array Oper} {rest:List Oper} {o:Oper} {a:Act} {Q:Exit→Act→World→Prop} (hgd:o.guard=none) (t:TypeId) (x y:Operand) (ho:o.op=.store t x y) (c c':Array Value)
 (hx:a.eval x=.pointer (some ⟨w.heap.size,0,none⟩)) (hy:a.eval y=.agg c') (hi:(P.info? t).map (·.size)=some c'.size) (hs:c.size=c'.size) (h1:c'.all (·.oneCell')=true)
 (h:wpList P ops Q rest (a.put o.dst undef) (w.alloc (.cells c' t))):wpList P ops Q (o::rest) a (w.alloc (.cells c t)):=
 wpList_plain hgd fun _ hK=>by
  unfold Oper.wp execOp
  simp only[ho,hx,hy,run_storeAt_new w t c c' hi hs h1,Sem.run_bind,Sem.run_pure,Result.andThen_ok]
  exact hK _ _ h
end
structure dA (w w':World) (g:Nat) (row:Option Nat):Prop where
 os:w'.os=w.os
 tape:w'.tape=w.tape
 output:w'.output=w.output
 size:w.heap.size≤w'.heap.size
 block:∀k,k<w.heap.size→k≠g→some k≠row→w'.heap[k]?=w.heap[k]?
section
variable {a w w':World} {g:Nat} {row row':Option Nat}
theorem dA.refl (w:World) (g:Nat) (row:Option Nat):dA w w g row:=⟨rfl,rfl,rfl,aC _,fun _ _ _ _=>rfl⟩
theorem dA.trans (h:dA a w g row) (k:dA w w' g row') (hr:row'=row∨∀j,row'=some j→a.heap.size≤j):dA a w' g row:=
 ⟨k.os.trans h.os,k.tape.trans h.tape,k.output.trans h.output,Nat.le_trans h.size k.size,fun i h1 h2 h3=>
  (k.block i (Nat.lt_of_lt_of_le h1 h.size) h2 (fun e=>by
   rcases hr with hr|hr
   · exact h3 (e.trans hr)
   have:=hr i e.symm;omega)).trans (h.block i h1 h2 h3)⟩
theorem dA.YG (h:w.grownBy w' row):dA w w' g row:=⟨h.os,h.tape,h.output,h.size,fun i h1 _ h3=>h.block i h1 h3⟩
theorem dA.bMN (h:Below w.heap.size w w'):dA w w' g row:=⟨h.os,h.tape,h.output,h.size,fun i h1 _ _=>h.block i h1⟩
theorem dA.grown (h:dA a w g row) (k:w.grownBy w' row') (hr:row'=row∨∀j,row'=some j→a.heap.size≤j):dA a w' g row:=h.trans (dA.YG k) hr
theorem dA.below (h:dA a w g row) (k:Below w.heap.size w w'):dA a w' g row:=h.trans (dA.bMN (row:=row) k) (.inl rfl)
theorem dA.alloc (h:dA a w g row) (o:Obj):dA a (w.alloc o) g row:=h.below ((Below.refl w.heap.size w).alloc (aC _) o)
theorem dA.QR (h:dA a w g row) (j:Nat) (u:Value):dA a (w.setCell ⟨g,j,none⟩ u) g row:=
 h.trans (w':=w.setCell ⟨g,j,none⟩ u) (row':=row) ⟨rfl,rfl,rfl,by simp[World.setCell],fun i _ h2 _=>Below.heap_setCell _ _ _ _ h2⟩ (.inl rfl)
theorem dA.setRow (h:dA a w g row) {b:Nat} (hb:some b=row∨a.heap.size≤b) (j:Nat) (u:Value):dA a (w.setCell ⟨b,j,none⟩ u) g row:=
 h.trans (w':=w.setCell ⟨b,j,none⟩ u) (row':=some b) ⟨rfl,rfl,rfl,by simp[World.setCell],fun i _ _ h3=>Below.heap_setCell _ _ _ _ (fun e=>h3 (by rw[e]))⟩ (by
  rcases hb with hb|hb
  · exact .inl hb
  exact .inr fun k e=>by cases e;exact hb)
theorem dA.toBelow (h:dA a w g row) {B:Nat} (hg:B≤g) (hr:∀j,row=some j→B≤j) (hB:B≤a.heap.size):Below B a w:=
 ⟨h.os,h.tape,h.output,h.size,fun k hk=>h.block k (by omega) (by omega) (fun e=>by have:=hr k e.symm;omega)⟩
theorem dA.own {base:Nat} {e:TypeId} {s n:Nat} {v:Value} {xs:List Value} (h:w.ownsRow base e s v n xs) (hf:dA w w' g row) (h1:v.ownBlock≠some g) (h2:∀k,row=some k→v.ownBlock≠some k):w'.ownsRow base e s v n xs:=by
 refine⟨h.1,?_⟩
 rcases h.2 with h3|⟨g',cap,cur,rfl,hb,hh,h3⟩
 · exact .inl h3
 refine .inr ⟨g',cap,cur,rfl,hb,?_,h3⟩
 rw[hf.block g' (Array.getElem?_eq_some_iff.1 hh).1 (fun e1=>h1 (by simp[Value.ownBlock,e1])) (fun e1=>h2 g' e1.symm (by simp[Value.ownBlock])),hh]
theorem dA.BN {ρ:Type} {base:Nat} {e:TypeId} {s:Nat} {R:List Value→ρ→Prop} {len:ρ→Nat} {v:Value} {l:ρ} (h:aF e s R len w base v l) (hf:dA w w' g row) (h1:v.ownBlock≠some g) (h2:∀k,row=some k→v.ownBlock≠some k):aF e s R len w' base v l:=by
 obtain⟨xs,h3,h4⟩:=h
 exact⟨xs,hf.own h3 h1 h2,h4⟩
theorem dA.blk {b:Nat} {t:TypeId} {cs:Array Value} (h:aG w b t cs) (hf:dA w w' g row) (h1:b≠g) (h2:some b≠row):aG w' b t cs:=(hf.block b h.lt h1 h2).trans h
end
theorem aF.apart {ρ σ:Type} {e e':TypeId} {s s':Nat} {R:List Value→ρ→Prop} {R':List Value→σ→Prop} {len:ρ→Nat} {len':σ→Nat} {w:World} {base base':Nat} {v v':Value} {l:ρ} {l':σ}
 (h:aF e s R len w base v l) (h':aF e' s' R' len' w base' v' l') (hne:e≠e'):∀k,v.ownBlock=some k→v'.ownBlock≠some k:=by
 obtain⟨xs,h1,-⟩:=h
 obtain⟨ys,h2,-⟩:=h'
 exact fun k hk=>kL h1 h2 hne hk
theorem aF.lt {ρ:Type} {e:TypeId} {s:Nat} {R:List Value→ρ→Prop} {len:ρ→Nat} {w:World} {base:Nat} {v:Value} {l:ρ} (h:aF e s R len w base v l):∀k,v.ownBlock=some k→base≤k∧k<w.heap.size:=by
 obtain⟨xs,h1,-⟩:=h
 exact h1.lt
end
section
open Go.RowKit
open Go.Lib (hid)
namespace Sl
structure SzC (cs:List Value) (n:Nat):Prop where
 len:cs.length=13
 one:∀u∈cs,u.oneCell'=true
 size:cs[12]?=some (.int .i64 (n:Nat))
end Sl
open Sl
abbrev FI (w:World) (base:Nat) (v:Value) (l:List Nat):Prop:=cP 109 13 SzC w base v l
theorem QI:(Tryz.prog.info? 109).map (fun i=>(i.zero.map fun z=>z.cells.size,i.size,i.bytes))=some (some 13,13,176):=by kernel_rfl
theorem bIT (w:World) (base:Nat) (cs:Array Value) (h:cs.size=13) (h1:∀u∈cs.toList,u.oneCell'=true) (h2:cs.toList[12]?=some (.int .i64 0)) (hb:base≤w.heap.size):FI (w.alloc (.cells cs 109)) base (.slice (some ⟨w.heap.size,0,none⟩) 1 1) [0]:=
 ⟨cs.toList,⟨by simpa using h,.inr ⟨w.heap.size,1,cs,rfl,hb,heap_alloc_new w _,aC _,by unfold maxLen;omega,by simpa using h,by rw[List.take_of_length_le (by simp[h])]⟩⟩,gC.F_ ⟨by simpa using h,h1,h2⟩⟩
theorem rD {w:World} {g:Nat} {T:TypeId} {a b c d e f:Value} (x:aG w g T #[a,b,c,d,e,f]):
 w.cell? ⟨g,0,none⟩=some a∧w.cell? ⟨g,1,none⟩=some b∧w.cell? ⟨g,2,none⟩=some c∧w.cell? ⟨g,3,none⟩=some d∧w.cell? ⟨g,4,none⟩=some e∧w.cell? ⟨g,5,none⟩=some f:=⟨x.cell 0,x.cell 1,x.cell 2,x.cell 3,x.cell 4,x.cell 5⟩
def KZ (w:World) (l:List Nat) (e:Ending) (w':World):Prop:=∃v,e=.returned v∧FI w' w.heap.size v l∧Below w.heap.size w w'
theorem bFQ (c:Nat) (HI:∀c',c'<c→∀(l:Fo) (v:Value) (f p q i from_:Int) (b:Bool) (B:Nat) (w:World),l.cnt≤c'→cM w B v l→B≤w.heap.size→
 Calls Tryz.prog 143 #[v,.agg #[.int .i64 f,.bool b,.int .i64 p,.int .i64 q,.int .i64 i,.int .i64 0],.int .i64 from_] w (KZ w (Fo.aL l true))∧
 Calls Tryz.prog 96 #[v,.agg #[.int .i64 f,.bool b,.int .i64 p,.int .i64 q,.int .i64 i,.int .i64 0],.int .i64 from_] w (KZ w (Fo.aL l false)))
 (l:Fo) (v:Value) (f p q i from_:Int) (b:Bool) (B:Nat) (w:World) (hc:l.cnt≤c) (hc2:c≤1000000) (hl:cM w B v l) (hB:B≤w.heap.size):
 Calls Tryz.prog 143 #[v,.agg #[.int .i64 f,.bool b,.int .i64 p,.int .i64 q,.int .i64 i,.int .i64 0],.int .i64 from_] w (KZ w (Fo.aL l true)):=by
 obtain⟨A,cap,rfl,cB⟩:=hl.form
 have HL:=hid (hl.below ((Below.refl B w).alloc hB (.cells #[.int .i64 f,.bool b,.int .i64 p,.int .i64 q,.int .i64 i,.int .i64 0] 107)))
 have HI:=hid HI
 have qM:=Fo.k7 l
 have HA0:=hid ((Below.refl w.heap.size w).alloc (aC _) (.cells #[.int .i64 f,.bool b,.int .i64 p,.int .i64 q,.int .i64 i,.int .i64 0] 107))
 have HK0:=hid (aG.new w 107 #[.int .i64 f,.bool b,.int .i64 p,.int .i64 q,.int .i64 i,.int .i64 0])
 clear hl
 go_enter Tryz.func143,Tryz.ntmps143
 go_upto_region 1 with fail
 have hz1:w.heap.size<(w.alloc (.cells #[.int .i64 f,.bool b,.int .i64 p,.int .i64 q,.int .i64 i,.int .i64 0] 107)).heap.size:=by simp
 generalize w.alloc (.cells #[.int .i64 f,.bool b,.int .i64 p,.int .i64 q,.int .i64 i,.int .i64 0] 107)=w1 at *
 go_wp2
 go_loopg [7,8] l.len (fun g o ii wr=>∃(vo:Value) (k:Nat) (acc:List Nat),vo=o∧k≤l.len∧g=l.len-k∧ii=.int .i64 k∧Hid (Fo.aL l true=acc++Fo.aL (Fo.drop k l) true)∧Hid (FI wr w1.heap.size vo acc)∧Hid (Below w1.heap.size w1 wr))
 case atStart=>exact⟨_,0,[],rfl,Nat.zero_le _,rfl,rfl,hid (by rw[Fo.drop];rfl),hid (aF.nil w1 w1.heap.size rfl rfl),hid (Below.refl _ _)⟩
 obtain⟨vo,k,acc,rfl,hk,hq,rfl,he,hown,hb⟩:=hrel
 have Hq:=hid hq
 clear hq
 obtain⟨wo,rfl⟩:∃x:World,x=wr:=⟨_,rfl⟩
 have hz:=hb.out.size
 by_cases hlt:k<l.len
 rotate_left
 · have HE:=hid (he.out.trans (by rw[show k=l.len by omega,gB,Fo.aL,List.append_nil]))
   clear he
   go_wp2
   go_ret
   exact⟨_,rfl,by rw[HE.out];exact hown.out.more (by omega),HA0.out.trans (hb.out.mono (by omega))⟩
 obtain⟨a,kk,t,nn,s',ps,b',e,r,sv,pv,bv,ev,rfl,aI,hno⟩:=(HL.out.below (hb.out.mono (by omega))).at_ hlt
 have dL:=kN aI
 have HE:=hid (he.out.trans (by rw[aI,Fo.aL]))
 have lT:acc.length+(Fo.aL s' true).length+(if kk=10 then Fo.aL b' false else []).length+(Fo.aL r true).length≤(Fo.aL l true).length:=by
  rw[HE.out];simp only[bL];omega
 have kW:(Fo.aL l true).length≤l.cnt:=by rw[Fo.oO];exact Fo.jX _ _
 have D2:=hid (HK0.out.below hb.out hz1)
 obtain⟨As,cs,rfl,hcs⟩:=hno.vals.subs.form
 obtain⟨Ab,cb,rfl,hcb⟩:=hno.vals.body.form
 obtain⟨x0,-,-,x3,-,x5,-⟩:=hno.cells
 have HN:=hid hno.vals
 have k0:=D2.out.cell 0
 have k1:=D2.out.cell 1
 have k2:=D2.out.cell 2
 have k3:=D2.out.cell 3
 have k4:=D2.out.cell 4
 have k5:=D2.out.cell 5
 simp at k0 k1 k2 k3 k4 k5
 have hab:(a.add (k*7)).block<B:=by rw[f_];exact hno.lt
 have Hd:=hid (eD aI)
 have bQI:(Fo.aL s' true).length≤s'.cnt:=by rw[Fo.oO];exact Fo.jX s' true
 obtain⟨Ao,co,no,rfl,jB,-⟩:=aF.src hown.out
 clear aI hno he
 have HC:=hid (fun (fr:Int)=>((HI.out s'.cnt (by omega) s' (.slice As s'.len cs) f p q i fr b B wo.drew (aC _) (HN.out.subs.below (below_drewN (Below.refl _ _) 1)) (by show B≤wo.heap.size;omega)).1))
 go_upto_region 5 with fail
 go_region_held3 (fun w'=>w'.cell? ⟨(a.add (k*7)).block,(a.add (k*7)).off+3,none⟩=some (.slice As s'.len cs)∧w'.cell? ⟨w.heap.size,0,none⟩=some (.int .i64 f)∧w'.cell? ⟨w.heap.size,1,none⟩=some (.bool b)∧w'.cell? ⟨w.heap.size,2,none⟩=some (.int .i64 p)∧w'.cell? ⟨w.heap.size,3,none⟩=some (.int .i64 q)∧w'.cell? ⟨w.heap.size,4,none⟩=some (.int .i64 i)∧w'.cell? ⟨w.heap.size,5,none⟩=some (.int .i64 0))
  (first
   |exact GF
   |exact a7D
   |go_keep)
  (first
   |(refine XU (fun _ _ h=>h.one) rfl _ _ 104 (by rfl) w1.heap.size Tryz.underlying104 QI (by decide) _ acc (by rfl) cK.out _ A5 _ c5 (Fo.aL s' true) n5 (by rfl) (by rfl) PD qQ (by omega) (by decide) (by omega) ?_
     intro v6 w6 iC gG EU
     have cT:Below w1.heap.size wo w6:=aF.grown cK.out ((lM (n:=1) aQ).mono hz) gG (by omega)
     have gJ:=hid iC
     have GF:=And.intro ((cT.cell (p:=⟨(a.add (k*7)).block,(a.add (k*7)).off+3,none⟩) (show (a.add (k*7)).block<w1.heap.size by omega)).trans x3) (rD (D2.out.below cT hz1)))
   |(go_at_call 143
     refine (HC.out _).mono ?_
     rintro e5 w5 ⟨v5,rfl,hs5,aQ⟩
     obtain⟨A5,c5,n5,rfl,-,PD,qQ⟩:=aF.src hs5
     have oC:wo.heap.size≤w5.heap.size:=aQ.size
     have a7D:=And.intro ((aQ.cell (p:=⟨(a.add (k*7)).block,(a.add (k*7)).off+3,none⟩) (show (a.add (k*7)).block<wo.heap.size by omega)).trans x3) (rD (D2.out.below (lM (n:=1) aQ) D2.out.lt))
     have cK:=hid (aF.below (show FI wo.drew w1.heap.size (.slice Ao acc.length co) acc from hown.out) aQ (aC _))))
 clear a7D GF iC EU hs5 PD qQ aQ HC hown
 have mN:=cT.size
 have c0:=(cT.cell (p:=a.add (k*7)) (show (a.add (k*7)).block<w1.heap.size by omega)).trans x0
 have c5:=(cT.cell (p:=⟨(a.add (k*7)).block,(a.add (k*7)).off+5,none⟩) (show (a.add (k*7)).block<w1.heap.size by omega)).trans x5
 have HK6:=hid (D2.out.below cT hz1)
 have fZ:=hid (hb.out.trans cT)
 obtain⟨y0,y1,y2,y3,y4,y5⟩:=rD HK6.out
 obtain⟨jE,ha2⟩:∃z,z=acc++Fo.aL s' true:=⟨_,rfl⟩
 have aSB:jE.length≤acc.length+(Fo.aL s' true).length:=by rw[ha2,bL];omega
 rw[←ha2] at gJ
 have Ha2:=hid ha2
 clear ha2
 by_cases kA:kk=10
 rotate_left
 · have b1:((kk:Int)==10)=false:=aP (by omega)
   have A0:=hid (show Fo.aL l true=jE++Fo.aL (Fo.drop (k+1) l) true by rw[HE.out,Hd.out,if_neg kA,Ha2.out];simp)
   clear kA lT cT
   go_wp2
   go_roundg (l.len-(k+1))
   case rel=>exact⟨v6,k+1,_,rfl,hlt,rfl,by go_num,A0,gJ,fZ⟩
   rw[Hq.out];omega
 have b1:((kk:Int)==10)=true:=beq_iff_eq.2 (by omega)
 have A0:=hid (show Fo.aL l true=(jE++Fo.aL b' false)++Fo.aL (Fo.drop (k+1) l) true by rw[HE.out,Hd.out,if_pos kA,Ha2.out];simp)
 have a79:acc.length+(Fo.aL s' true).length+(Fo.aL b' false).length≤1000000:=by rw[if_pos kA] at lT;omega
 have bR2:=cT
 clear kA lT cT k0 k1 k2 k3 k4 k5 x0 x3 x5
 go_upto_region 10 with fail
 have HA7:=hid ((Below.refl w6.heap.size w6).alloc (aC _) (.cells #[.int .i64 f,.bool true,.int .i64 p,.int .i64 3,.int .i64 i,.int .i64 0] 107))
 have nO:=hid (aG.new w6 107 #[.int .i64 f,.bool true,.int .i64 p,.int .i64 3,.int .i64 i,.int .i64 0])
 have rS:w6.heap.size<(w6.alloc (.cells #[.int .i64 f,.bool true,.int .i64 p,.int .i64 3,.int .i64 i,.int .i64 0] 107)).heap.size:=by simp
 generalize w6.alloc (.cells #[.int .i64 f,.bool true,.int .i64 p,.int .i64 3,.int .i64 i,.int .i64 0] 107)=w7 at *
 have nP:=hid (fZ.out.trans (HA7.out.mono (by omega)))
 have KD:=hid (aF.below gJ.out HA7.out (aC _))
 have KA:=(HA7.out.cell (p:=⟨(a.add (k*7)).block,(a.add (k*7)).off+5,none⟩) (show (a.add (k*7)).block<w6.heap.size by omega)).trans c5
 have hN7:=HN.out.body.below (show Below B wo w7.drew from ((bR2.mono (show B≤w1.heap.size by omega)).trans (HA7.out.mono (by omega))).drew)
 have HC:=hid (fun (fr:Int)=>((HI.out b'.cnt (by omega) b' (.slice Ab b'.len cb) f p 3 i fr true B w7.drew (aC _) hN7 (by show B≤w7.heap.size;omega)).2))
 have hsl7:(Fo.aL b' false).length≤b'.cnt:=by rw[Fo.oO];exact Fo.jX b' false
 obtain⟨A6,c6,n6,e6,hco6,-⟩:=aF.src KD.out
 subst e6
 clear c0 y0 y1 y2 y3 y4 y5 gJ fZ HK6
 go_region_held3 (fun w'=>w'.cell? ⟨(a.add (k*7)).block,(a.add (k*7)).off+5,none⟩=some (.slice Ab b'.len cb)∧w'.cell? ⟨w6.heap.size,0,none⟩=some (.int .i64 f)∧w'.cell? ⟨w6.heap.size,1,none⟩=some (.bool true)∧w'.cell? ⟨w6.heap.size,2,none⟩=some (.int .i64 p)∧w'.cell? ⟨w6.heap.size,3,none⟩=some (.int .i64 3)∧w'.cell? ⟨w6.heap.size,4,none⟩=some (.int .i64 i)∧w'.cell? ⟨w6.heap.size,5,none⟩=some (.int .i64 0))
  (first
   |exact a7B
   |exact a7C
   |exact And.intro KA (rD nO.out)
   |go_keep)
  (first
   |(refine XU (fun _ _ h=>h.one) rfl _ _ 104 (by rfl) w1.heap.size Tryz.underlying104 QI (by decide) _ jE (by rfl) kJ.out _ A8 _ c8 (Fo.aL b' false) n8 (by rfl) (by rfl) hr8 hR8 (by omega) (by decide) (by omega) ?_
     intro v9 w9 ho9 hg9 bRO
     have hB9:Below w1.heap.size w7 w9:=aF.grown kJ.out ((lM (n:=1) kG).mono (show w1.heap.size≤w7.heap.size by omega)) hg9 (by omega)
     have HO9:=hid ho9
     have hK9:aG w9 w6.heap.size 107 #[.int .i64 f,.bool true,.int .i64 p,.int .i64 3,.int .i64 i,.int .i64 0]:=(nO.out.below (lM (n:=1) kG) nO.out.lt).grown hg9 (fun e=>aF.ne kJ.out (nO.out.below (lM (n:=1) kG) nO.out.lt) (by decide) e.symm)
     have a7B:=And.intro ((hB9.cell (p:=⟨(a.add (k*7)).block,(a.add (k*7)).off+5,none⟩) (show (a.add (k*7)).block<w1.heap.size by omega)).trans KA) (rD hK9))
   |(go_at_call 96
     refine (HC.out _).mono ?_
     rintro e8 w8 ⟨v8,rfl,hs8,kG⟩
     obtain⟨A8,c8,n8,rfl,-,hr8,hR8⟩:=aF.src hs8
     have hz8:w7.heap.size≤w8.heap.size:=kG.size
     have a7C:=And.intro ((kG.cell (p:=⟨(a.add (k*7)).block,(a.add (k*7)).off+5,none⟩) (show (a.add (k*7)).block<w7.heap.size by omega)).trans KA) (rD (nO.out.below (lM (n:=1) kG) nO.out.lt))
     have kJ:=hid (aF.below (show FI w7.drew w1.heap.size (.slice A6 jE.length c6) jE from KD.out) kG (aC _))))
 have CG:=hid (nP.out.trans hB9)
 clear hB9 a7B a7C ho9 bRO hs8 hr8 hR8 kG HC KA
 go_wp2
 go_roundg (l.len-(k+1))
 case rel=>exact⟨v9,k+1,_,rfl,hlt,rfl,by go_num,A0,HO9,CG⟩
 rw[Hq.out];omega
theorem bG2 (c:Nat) (HI:∀c',c'<c→∀(l:Fo) (v:Value) (f p q i from_:Int) (b:Bool) (B:Nat) (w:World),l.cnt≤c'→cM w B v l→B≤w.heap.size→
 Calls Tryz.prog 143 #[v,.agg #[.int .i64 f,.bool b,.int .i64 p,.int .i64 q,.int .i64 i,.int .i64 0],.int .i64 from_] w (KZ w (Fo.aL l true))∧
 Calls Tryz.prog 96 #[v,.agg #[.int .i64 f,.bool b,.int .i64 p,.int .i64 q,.int .i64 i,.int .i64 0],.int .i64 from_] w (KZ w (Fo.aL l false)))
 (l:Fo) (v:Value) (f p q i from_:Int) (b:Bool) (B:Nat) (w:World) (hc:l.cnt≤c) (hc2:c≤1000000) (hl:cM w B v l) (hB:B≤w.heap.size):
 Calls Tryz.prog 96 #[v,.agg #[.int .i64 f,.bool b,.int .i64 p,.int .i64 q,.int .i64 i,.int .i64 0],.int .i64 from_] w (KZ w (Fo.aL l false)):=by
 obtain⟨A,cap,rfl,cB⟩:=hl.form
 have HL:=hid (hl.below ((Below.refl B w).alloc hB (.cells #[.int .i64 f,.bool b,.int .i64 p,.int .i64 q,.int .i64 i,.int .i64 0] 107)))
 have HI:=hid HI
 have qM:=Fo.k7 l
 have HA0:=hid ((Below.refl w.heap.size w).alloc (aC _) (.cells #[.int .i64 f,.bool b,.int .i64 p,.int .i64 q,.int .i64 i,.int .i64 0] 107))
 have HK0:=hid (aG.new w 107 #[.int .i64 f,.bool b,.int .i64 p,.int .i64 q,.int .i64 i,.int .i64 0])
 clear hl
 go_enter Tryz.func96,Tryz.ntmps96
 go_upto_region 1 with fail
 have hz1:w.heap.size<(w.alloc (.cells #[.int .i64 f,.bool b,.int .i64 p,.int .i64 q,.int .i64 i,.int .i64 0] 107)).heap.size:=by simp
 generalize w.alloc (.cells #[.int .i64 f,.bool b,.int .i64 p,.int .i64 q,.int .i64 i,.int .i64 0] 107)=w1 at *
 go_wp2
 go_loopg [7,8] l.len (fun g o ii wr=>∃(vo:Value) (k:Nat) (acc:List Nat),vo=o∧k≤l.len∧g=l.len-k∧ii=.int .i64 k∧Hid (Fo.aL l false=acc++Fo.aL (Fo.drop k l) false)∧Hid (FI wr w1.heap.size vo acc)∧Hid (Below w1.heap.size w1 wr))
 case atStart=>exact⟨_,0,[],rfl,Nat.zero_le _,rfl,rfl,hid (by rw[Fo.drop];rfl),hid (aF.nil w1 w1.heap.size rfl rfl),hid (Below.refl _ _)⟩
 obtain⟨vo,k,acc,rfl,hk,hq,rfl,he,hown,hb⟩:=hrel
 have Hq:=hid hq
 clear hq
 obtain⟨wo,rfl⟩:∃x:World,x=wr:=⟨_,rfl⟩
 have hz:=hb.out.size
 by_cases hlt:k<l.len
 rotate_left
 · have HE:=hid (he.out.trans (by rw[show k=l.len by omega,gB,Fo.aL,List.append_nil]))
   clear he
   go_wp2
   go_ret
   exact⟨_,rfl,by rw[HE.out];exact hown.out.more (by omega),HA0.out.trans (hb.out.mono (by omega))⟩
 obtain⟨a,kk,t,nn,s',ps,b',e,r,sv,pv,bv,ev,rfl,aI,hno⟩:=(HL.out.below (hb.out.mono (by omega))).at_ hlt
 have dL:=kN aI
 have HE:=hid (he.out.trans (by rw[aI,Fo.aL]))
 have lT:acc.length+1+(Fo.aL s' true).length+(Fo.aL b' false).length+(Fo.aL e false).length+(Fo.aL r false).length≤(Fo.aL l false).length:=by
  rw[HE.out];simp only[bL,List.length_cons];omega
 have kW:(Fo.aL l false).length≤l.cnt:=by rw[Fo.oO];exact Fo.jX _ _
 have D2:=hid (HK0.out.below hb.out hz1)
 obtain⟨As,cs,rfl,hcs⟩:=hno.vals.subs.form
 obtain⟨Ab,cb,rfl,hcb⟩:=hno.vals.body.form
 obtain⟨Ae,ce,rfl,hce⟩:=hno.vals.els.form
 have HN:=hid hno.vals
 obtain⟨Ap,cp,rfl,kX,-⟩:=hno.vals.aX
 obtain⟨x0,x1,x2,x3,x4,x5,x6⟩:=hno.cells
 have hab:(a.add (k*7)).block<B:=by rw[f_];exact hno.lt
 have Hd:=hid (eD aI)
 have bQI:(Fo.aL s' true).length≤s'.cnt:=by rw[Fo.oO];exact Fo.jX s' true
 obtain⟨Ao,co,no,rfl,jB,-⟩:=aF.src hown.out
 obtain⟨k0,k1,k2,k3,k4,k5⟩:=rD D2.out
 have SG:(a.add (k*7)).block<wo.heap.size:=by omega
 have RZ:w.heap.size<wo.heap.size:=by omega
 clear aI hno he
 go_upto_region 5 with fail
 go_region_held3 (fun w'=>w'.cell? (a.add (k*7))=some (.int .u8 kk)∧w'.cell? ⟨(a.add (k*7)).block,(a.add (k*7)).off+1,none⟩=some (.string t)∧w'.cell? ⟨(a.add (k*7)).block,(a.add (k*7)).off+2,none⟩=some (.int .i64 nn)∧w'.cell? ⟨(a.add (k*7)).block,(a.add (k*7)).off+3,none⟩=some (.slice As s'.len cs)∧w'.cell? ⟨(a.add (k*7)).block,(a.add (k*7)).off+4,none⟩=some (.slice Ap ps.length cp)∧w'.cell? ⟨(a.add (k*7)).block,(a.add (k*7)).off+5,none⟩=some (.slice Ab b'.len cb)∧w'.cell? ⟨(a.add (k*7)).block,(a.add (k*7)).off+6,none⟩=some (.slice Ae e.len ce)∧
  w'.cell? ⟨w.heap.size,0,none⟩=some (.int .i64 f)∧w'.cell? ⟨w.heap.size,1,none⟩=some (.bool b)∧w'.cell? ⟨w.heap.size,2,none⟩=some (.int .i64 p)∧w'.cell? ⟨w.heap.size,3,none⟩=some (.int .i64 q)∧w'.cell? ⟨w.heap.size,4,none⟩=some (.int .i64 i)∧w'.cell? ⟨w.heap.size,5,none⟩=some (.int .i64 0))
  (first
   |exact⟨(World.cell?_alloc_lt wo.drew _ _ SG).trans x0,(World.cell?_alloc_lt wo.drew _ _ SG).trans x1,(World.cell?_alloc_lt wo.drew _ _ SG).trans x2,(World.cell?_alloc_lt wo.drew _ _ SG).trans x3,(World.cell?_alloc_lt wo.drew _ _ SG).trans x4,(World.cell?_alloc_lt wo.drew _ _ SG).trans x5,(World.cell?_alloc_lt wo.drew _ _ SG).trans x6,(World.cell?_alloc_lt wo.drew _ _ RZ).trans k0,(World.cell?_alloc_lt wo.drew _ _ RZ).trans k1,(World.cell?_alloc_lt wo.drew _ _ RZ).trans k2,(World.cell?_alloc_lt wo.drew _ _ RZ).trans k3,(World.cell?_alloc_lt wo.drew _ _ RZ).trans k4,(World.cell?_alloc_lt wo.drew _ _ RZ).trans k5⟩
   |go_keep)
  (fail)
 have MX:=hid (show aG (wo.alloc (.cells #[.int .u8 kk,.string t,.int .i64 nn,.slice As s'.len cs,.slice Ap ps.length cp,.slice Ab b'.len cb,.slice Ae e.len ce,.int .i64 f,.bool b,.int .i64 p,.int .i64 q,.int .i64 i,.int .i64 0] 109)).drew wo.heap.size 109 #[.int .u8 kk,.string t,.int .i64 nn,.slice As s'.len cs,.slice Ap ps.length cp,.slice Ab b'.len cb,.slice Ae e.len ce,.int .i64 f,.bool b,.int .i64 p,.int .i64 q,.int .i64 i,.int .i64 0] from aG.new wo _ _)
 have a_:=hid (show Below wo.heap.size wo (wo.alloc (.cells #[.int .u8 kk,.string t,.int .i64 nn,.slice As s'.len cs,.slice Ap ps.length cp,.slice Ab b'.len cb,.slice Ae e.len ce,.int .i64 f,.bool b,.int .i64 p,.int .i64 q,.int .i64 i,.int .i64 0] 109)).drew from ((Below.refl wo.heap.size wo).alloc (aC _) _).drew)
 have oC:wo.heap.size<(wo.alloc (.cells #[.int .u8 kk,.string t,.int .i64 nn,.slice As s'.len cs,.slice Ap ps.length cp,.slice Ab b'.len cb,.slice Ae e.len ce,.int .i64 f,.bool b,.int .i64 p,.int .i64 q,.int .i64 i,.int .i64 0] 109)).drew.heap.size:=by simp
 generalize (wo.alloc (.cells #[.int .u8 kk,.string t,.int .i64 nn,.slice As s'.len cs,.slice Ap ps.length cp,.slice Ab b'.len cb,.slice Ae e.len ce,.int .i64 f,.bool b,.int .i64 p,.int .i64 q,.int .i64 i,.int .i64 0] 109)).drew=w5 at *
 have f5:=MX.out.frozen 11
 have g5:=MX.out.cell 11
 simp at g5
 have IA:=hid x3
 have P3:=hid x5
 have FM:=hid x6
 clear k0 k1 k2 k3 k4 k5 x0 x1 x2 x3 x4 x5 x6
 go_upto_region 7 with fail
 have HK6:=hid (show aG (w5.setCell ⟨wo.heap.size,11,none⟩ (.int .i64 (k:Nat))) wo.heap.size 109 #[.int .u8 kk,.string t,.int .i64 nn,.slice As s'.len cs,.slice Ap ps.length cp,.slice Ab b'.len cb,.slice Ae e.len ce,.int .i64 f,.bool b,.int .i64 p,.int .i64 q,.int .i64 (k:Nat),.int .i64 0] from MX.out.cS 11 _)
 have fZ:=hid (a_.out.setCell (p:=⟨wo.heap.size,11,none⟩) (aC _) (.int .i64 (k:Nat)))
 have mN:wo.heap.size<(w5.setCell ⟨wo.heap.size,11,none⟩ (.int .i64 (k:Nat))).heap.size:=by simpa[World.setCell] using oC
 generalize w5.setCell ⟨wo.heap.size,11,none⟩ (.int .i64 (k:Nat))=w6 at *
 clear f5 g5 MX a_ oC
 obtain⟨k0,k1,k2,k3,k4,k5⟩:=rD (D2.out.below fZ.out RZ)
 go_upto_region 10 with fail
 generalize wrap64 (from_+(acc.length:Int))=me at *
 have nP:=hid (fZ.out.alloc (by omega) (.cells #[.int .i64 f,.bool b,.int .i64 me,.int .i64 q,.int .i64 i,.int .i64 0] 107))
 have nO:=hid (HK6.out.alloc (.cells #[.int .i64 f,.bool b,.int .i64 me,.int .i64 q,.int .i64 i,.int .i64 0] 107))
 have TH:=hid (aG.new w6 107 #[.int .i64 f,.bool b,.int .i64 me,.int .i64 q,.int .i64 i,.int .i64 0])
 have rS:w6.heap.size<(w6.alloc (.cells #[.int .i64 f,.bool b,.int .i64 me,.int .i64 q,.int .i64 i,.int .i64 0] 107)).heap.size:=by simp
 generalize w6.alloc (.cells #[.int .i64 f,.bool b,.int .i64 me,.int .i64 q,.int .i64 i,.int .i64 0] 107)=w7 at *
 clear k0 k1 k2 k3 k4 k5 fZ HK6
 have n0:=nO.out.cell 0
 have n1:=nO.out.cell 1
 have n2:=nO.out.cell 2
 have n3:=nO.out.cell 3
 have n4:=nO.out.cell 4
 have n5:=nO.out.cell 5
 have n6:=nO.out.cell 6
 have n7:=nO.out.cell 7
 have n8:=nO.out.cell 8
 have n9:=nO.out.cell 9
 have n10:=nO.out.cell 10
 have n11:=nO.out.cell 11
 have n12:=nO.out.cell 12
 simp at n0 n1 n2 n3 n4 n5 n6 n7 n8 n9 n10 n11 n12
 have iV:=hid (nP.out.alloc (by omega) (.cells #[.int .u8 kk,.string t,.int .i64 nn,.slice As s'.len cs,.slice Ap ps.length cp,.slice Ab b'.len cb,.slice Ae e.len ce,.int .i64 f,.bool b,.int .i64 p,.int .i64 q,.int .i64 (k:Nat),.int .i64 0] 109))
 have P6:=hid (TH.out.alloc (.cells #[.int .u8 kk,.string t,.int .i64 nn,.slice As s'.len cs,.slice Ap ps.length cp,.slice Ab b'.len cb,.slice Ae e.len ce,.int .i64 f,.bool b,.int .i64 p,.int .i64 q,.int .i64 (k:Nat),.int .i64 0] 109))
 have kJ:=hid (bIT w7 w7.heap.size #[.int .u8 kk,.string t,.int .i64 nn,.slice As s'.len cs,.slice Ap ps.length cp,.slice Ab b'.len cb,.slice Ae e.len ce,.int .i64 f,.bool b,.int .i64 p,.int .i64 q,.int .i64 (k:Nat),.int .i64 0] rfl (by simp[Value.oneCell']) rfl (aC _))
 have hz8:w7.heap.size<(w7.alloc (.cells #[.int .u8 kk,.string t,.int .i64 nn,.slice As s'.len cs,.slice Ap ps.length cp,.slice Ab b'.len cb,.slice Ae e.len ce,.int .i64 f,.bool b,.int .i64 p,.int .i64 q,.int .i64 (k:Nat),.int .i64 0] 109)).heap.size:=by simp
 go_upto_region 11 with fail
 generalize w7.alloc (.cells #[.int .u8 kk,.string t,.int .i64 nn,.slice As s'.len cs,.slice Ap ps.length cp,.slice Ab b'.len cb,.slice Ae e.len ce,.int .i64 f,.bool b,.int .i64 p,.int .i64 q,.int .i64 (k:Nat),.int .i64 0] 109)=w8 at *
 obtain⟨WV,aJR⟩:∃z,z=[0]:=⟨_,rfl⟩
 rw[←aJR] at kJ
 have hl8:WV.length≤1:=by rw[aJR];exact aC _
 have bR9:=hid aJR
 clear n0 n1 n2 n3 n4 n5 n6 n7 n8 n9 n10 n11 n12 aJR
 obtain⟨v8,hv8⟩:∃z,z=Value.slice (some ⟨w7.heap.size,0,none⟩) 1 1:=⟨_,rfl⟩
 rw[←hv8] at kJ ⊢
 clear hv8
 have hN8:=HN.out.subs.below (show Below B wo w8.drew from (iV.out.mono (show B≤wo.heap.size by omega)).drew)
 have HC:=hid (fun (fr:Int)=>((HI.out s'.cnt (by omega) s' (.slice As s'.len cs) f me q i fr b B w8.drew (aC _) hN8 (by show B≤w8.heap.size;omega)).1))
 have c8:=(iV.out.cell (p:=⟨(a.add (k*7)).block,(a.add (k*7)).off+3,none⟩) (show (a.add (k*7)).block<wo.heap.size by omega)).trans IA.out
 obtain⟨A8,cc8,nn8,e8,hcc8,-⟩:=aF.src kJ.out
 subst e8
 clear hN8
 go_upto_region 11 with fail
 go_region_held3 (fun w'=>w'.cell? ⟨(a.add (k*7)).block,(a.add (k*7)).off+3,none⟩=some (.slice As s'.len cs)∧w'.cell? ⟨w6.heap.size,0,none⟩=some (.int .i64 f)∧w'.cell? ⟨w6.heap.size,1,none⟩=some (.bool b)∧w'.cell? ⟨w6.heap.size,2,none⟩=some (.int .i64 me)∧w'.cell? ⟨w6.heap.size,3,none⟩=some (.int .i64 q)∧w'.cell? ⟨w6.heap.size,4,none⟩=some (.int .i64 i)∧w'.cell? ⟨w6.heap.size,5,none⟩=some (.int .i64 0))
  (first
   |exact OH
   |exact OI
   |exact And.intro c8 (rD P6.out)
   |go_keep)
  (first
   |(refine XU (fun _ _ h=>h.one) rfl _ _ 104 (by rfl) w7.heap.size Tryz.underlying104 QI (by decide) _ WV (by rfl) dV.out _ Aa _ ca (Fo.aL s' true) na (by rfl) (by rfl) j1 PR (by omega) (by decide) (by omega) ?_
     intro vb wb PF hgb ZX
     have B8:Below wo.heap.size w8 wb:=aF.grown (aF.more dV.out (show wo.heap.size≤w7.heap.size by omega)) ((lM (n:=1) gU).mono (show wo.heap.size≤w8.heap.size by omega)) hgb (by omega)
     have IK:=hid PF
     have bB:aG wb w6.heap.size 107 #[.int .i64 f,.bool b,.int .i64 me,.int .i64 q,.int .i64 i,.int .i64 0]:=(P6.out.below (lM (n:=1) gU) P6.out.lt).grown hgb (fun e=>aF.ne dV.out (P6.out.below (lM (n:=1) gU) P6.out.lt) (by decide) e.symm)
     have OH:=And.intro ((B8.cell (p:=⟨(a.add (k*7)).block,(a.add (k*7)).off+3,none⟩) (show (a.add (k*7)).block<wo.heap.size by omega)).trans c8) (rD bB))
   |(go_at_call 143
     refine (HC.out _).mono ?_
     rintro ea wa ⟨va,rfl,PC,gU⟩
     obtain⟨Aa,ca,na,rfl,-,j1,PR⟩:=aF.src PC
     have O8:w8.heap.size≤wa.heap.size:=gU.size
     have OI:=And.intro ((gU.cell (p:=⟨(a.add (k*7)).block,(a.add (k*7)).off+3,none⟩) (show (a.add (k*7)).block<w8.heap.size by omega)).trans c8) (rD (P6.out.below (lM (n:=1) gU) P6.out.lt))
     have dV:=hid (aF.below (show FI w8.drew w7.heap.size (.slice A8 WV.length cc8) WV from kJ.out) gU (aC _))))
 have CG:=hid (iV.out.trans B8)
 have HS9:=hid bB
 have hz9:w8.heap.size≤wb.heap.size:=B8.size
 obtain⟨WU,aJQ⟩:∃z,z=WV++Fo.aL s' true:=⟨_,rfl⟩
 have bS8:WU.length≤WV.length+(Fo.aL s' true).length:=by rw[aJQ,bL];omega
 rw[←aJQ] at IK
 have HO9:=hid IK.out
 have bR8:=hid aJQ
 clear aJQ OI OH PF ZX hgb PC j1 PR gU HC c8 B8 bB O8 dV kJ iV P6 IK
 obtain⟨w9,hw9⟩:∃z:World,z=wb:=⟨_,rfl⟩
 obtain⟨v9,R6⟩:∃z:Value,z=vb:=⟨_,rfl⟩
 subst hw9 R6
 have f9:=HS9.out.frozen 3
 have g9:=HS9.out.cell 3
 simp at g9
 go_upto_region 13 with fail
 have VQ:=hid (CG.out.setCell (p:=⟨w6.heap.size,3,none⟩) (show wo.heap.size≤w6.heap.size by omega) (.int .i64 1))
 have OU:=hid (show aG (w9.setCell ⟨w6.heap.size,3,none⟩ (.int .i64 1)) w6.heap.size 107 #[.int .i64 f,.bool b,.int .i64 me,.int .i64 1,.int .i64 i,.int .i64 0] from HS9.out.cS 3 _)
 have aTH:=hid (aF.kept HO9.out (dH w9 ⟨w6.heap.size,3,none⟩ (.int .i64 1)) (fun k e=>by cases e;exact aF.ne HO9.out HS9.out (by decide)))
 have hz10:w9.heap.size≤(w9.setCell ⟨w6.heap.size,3,none⟩ (.int .i64 1)).heap.size:=by simp[World.setCell]
 generalize w9.setCell ⟨w6.heap.size,3,none⟩ (.int .i64 1)=tC at *
 clear f9 g9 CG HS9 HO9
 have a8F:=HN.out.body.below (show Below B wo tC.drew from (VQ.out.mono (show B≤wo.heap.size by omega)).drew)
 have HC:=hid (fun (fr:Int)=>((HI.out b'.cnt (by omega) b' (.slice Ab b'.len cb) f me 1 i fr b B tC.drew (aC _) a8F (by show B≤tC.heap.size;omega)).2))
 have c10:=(VQ.out.cell (p:=⟨(a.add (k*7)).block,(a.add (k*7)).off+5,none⟩) (show (a.add (k*7)).block<wo.heap.size by omega)).trans P3.out
 obtain⟨A10,bR6,nn10,B9,bTA,-⟩:=aF.src aTH.out
 subst B9
 clear a8F
 go_upto_region 13 with fail
 go_region_held3 (fun w'=>w'.cell? ⟨(a.add (k*7)).block,(a.add (k*7)).off+5,none⟩=some (.slice Ab b'.len cb)∧w'.cell? ⟨w6.heap.size,0,none⟩=some (.int .i64 f)∧w'.cell? ⟨w6.heap.size,1,none⟩=some (.bool b)∧w'.cell? ⟨w6.heap.size,2,none⟩=some (.int .i64 me)∧w'.cell? ⟨w6.heap.size,3,none⟩=some (.int .i64 1)∧w'.cell? ⟨w6.heap.size,4,none⟩=some (.int .i64 i)∧w'.cell? ⟨w6.heap.size,5,none⟩=some (.int .i64 0))
  (first
   |exact OH
   |exact OI
   |exact And.intro c10 (rD OU.out)
   |go_keep)
  (first
   |(refine XU (fun _ _ h=>h.one) rfl _ _ 104 (by rfl) w7.heap.size Tryz.underlying104 QI (by decide) _ WU (by rfl) dV.out _ Aa _ ca (Fo.aL b' false) na (by rfl) (by rfl) j1 PR (by omega) (by decide) (by omega) ?_
     intro vb wb PF hgb ZX
     have B8:Below wo.heap.size tC wb:=aF.grown (aF.more dV.out (show wo.heap.size≤w7.heap.size by omega)) ((lM (n:=1) gU).mono (show wo.heap.size≤tC.heap.size by omega)) hgb (by omega)
     have IK:=hid PF
     have bB:aG wb w6.heap.size 107 #[.int .i64 f,.bool b,.int .i64 me,.int .i64 1,.int .i64 i,.int .i64 0]:=(OU.out.below (lM (n:=1) gU) OU.out.lt).grown hgb (fun e=>aF.ne dV.out (OU.out.below (lM (n:=1) gU) OU.out.lt) (by decide) e.symm)
     have OH:=And.intro ((B8.cell (p:=⟨(a.add (k*7)).block,(a.add (k*7)).off+5,none⟩) (show (a.add (k*7)).block<wo.heap.size by omega)).trans c10) (rD bB))
   |(go_at_call 96
     refine (HC.out _).mono ?_
     rintro ea wa ⟨va,rfl,PC,gU⟩
     obtain⟨Aa,ca,na,rfl,-,j1,PR⟩:=aF.src PC
     have O8:tC.heap.size≤wa.heap.size:=gU.size
     have OI:=And.intro ((gU.cell (p:=⟨(a.add (k*7)).block,(a.add (k*7)).off+5,none⟩) (show (a.add (k*7)).block<tC.heap.size by omega)).trans c10) (rD (OU.out.below (lM (n:=1) gU) OU.out.lt))
     have dV:=hid (aF.below (show FI tC.drew w7.heap.size (.slice A10 WU.length bR6) WU from aTH.out) gU (aC _))))
 have aAO:=hid (VQ.out.trans B8)
 have aAD:=hid bB
 have hz11:tC.heap.size≤wb.heap.size:=B8.size
 obtain⟨VM,aIR⟩:∃z,z=WU++Fo.aL b' false:=⟨_,rfl⟩
 have bS2:VM.length≤WU.length+(Fo.aL b' false).length:=by rw[aIR,bL];omega
 rw[←aIR] at IK
 have aTG:=hid IK.out
 have bPR:=hid aIR
 clear aIR OI OH PF ZX hgb PC j1 PR gU HC c10 B8 bB O8 dV aTH VQ OU IK
 obtain⟨RI,bQD⟩:∃z:World,z=wb:=⟨_,rfl⟩
 obtain⟨v11,bQF⟩:∃z:Value,z=vb:=⟨_,rfl⟩
 subst bQD bQF
 have f11:=aAD.out.frozen 3
 have g11:=aAD.out.cell 3
 simp at g11
 go_upto_region 15 with fail
 have aJ2:=hid (aAO.out.setCell (p:=⟨w6.heap.size,3,none⟩) (show wo.heap.size≤w6.heap.size by omega) (.int .i64 2))
 have OT:=hid (show aG (RI.setCell ⟨w6.heap.size,3,none⟩ (.int .i64 2)) w6.heap.size 107 #[.int .i64 f,.bool b,.int .i64 me,.int .i64 2,.int .i64 i,.int .i64 0] from aAD.out.cS 3 _)
 have aTF:=hid (aF.kept aTG.out (dH RI ⟨w6.heap.size,3,none⟩ (.int .i64 2)) (fun k e=>by cases e;exact aF.ne aTG.out aAD.out (by decide)))
 have a6S:RI.heap.size≤(RI.setCell ⟨w6.heap.size,3,none⟩ (.int .i64 2)).heap.size:=by simp[World.setCell]
 generalize RI.setCell ⟨w6.heap.size,3,none⟩ (.int .i64 2)=JV at *
 clear f11 g11 aAO aAD aTG
 have VG:=HN.out.els.below (show Below B wo JV.drew from (aJ2.out.mono (show B≤wo.heap.size by omega)).drew)
 have HC:=hid (fun (fr:Int)=>((HI.out e.cnt (by omega) e (.slice Ae e.len ce) f me 2 i fr b B JV.drew (aC _) VG (by show B≤JV.heap.size;omega)).2))
 have c12:=(aJ2.out.cell (p:=⟨(a.add (k*7)).block,(a.add (k*7)).off+6,none⟩) (show (a.add (k*7)).block<wo.heap.size by omega)).trans FM.out
 obtain⟨A12,bR5,nn12,MP,bS_,-⟩:=aF.src aTF.out
 subst MP
 clear VG
 go_upto_region 15 with fail
 go_region_held3 (fun w'=>w'.cell? ⟨(a.add (k*7)).block,(a.add (k*7)).off+6,none⟩=some (.slice Ae e.len ce)∧w'.cell? ⟨w6.heap.size,0,none⟩=some (.int .i64 f)∧w'.cell? ⟨w6.heap.size,1,none⟩=some (.bool b)∧w'.cell? ⟨w6.heap.size,2,none⟩=some (.int .i64 me)∧w'.cell? ⟨w6.heap.size,3,none⟩=some (.int .i64 2)∧w'.cell? ⟨w6.heap.size,4,none⟩=some (.int .i64 i)∧w'.cell? ⟨w6.heap.size,5,none⟩=some (.int .i64 0))
  (first
   |exact OH
   |exact OI
   |exact And.intro c12 (rD OT.out)
   |go_keep)
  (first
   |(refine XU (fun _ _ h=>h.one) rfl _ _ 104 (by rfl) w7.heap.size Tryz.underlying104 QI (by decide) _ VM (by rfl) dV.out _ Aa _ ca (Fo.aL e false) na (by rfl) (by rfl) j1 PR (by omega) (by decide) (by omega) ?_
     intro vb wb PF hgb ZX
     have B8:Below wo.heap.size JV wb:=aF.grown (aF.more dV.out (show wo.heap.size≤w7.heap.size by omega)) ((lM (n:=1) gU).mono (show wo.heap.size≤JV.heap.size by omega)) hgb (by omega)
     have IK:=hid PF
     have bB:aG wb w6.heap.size 107 #[.int .i64 f,.bool b,.int .i64 me,.int .i64 2,.int .i64 i,.int .i64 0]:=(OT.out.below (lM (n:=1) gU) OT.out.lt).grown hgb (fun e=>aF.ne dV.out (OT.out.below (lM (n:=1) gU) OT.out.lt) (by decide) e.symm)
     have OH:=And.intro ((B8.cell (p:=⟨(a.add (k*7)).block,(a.add (k*7)).off+6,none⟩) (show (a.add (k*7)).block<wo.heap.size by omega)).trans c12) (rD bB))
   |(go_at_call 96
     refine (HC.out _).mono ?_
     rintro ea wa ⟨va,rfl,PC,gU⟩
     obtain⟨Aa,ca,na,rfl,-,j1,PR⟩:=aF.src PC
     have O8:JV.heap.size≤wa.heap.size:=gU.size
     have OI:=And.intro ((gU.cell (p:=⟨(a.add (k*7)).block,(a.add (k*7)).off+6,none⟩) (show (a.add (k*7)).block<JV.heap.size by omega)).trans c12) (rD (OT.out.below (lM (n:=1) gU) OT.out.lt))
     have dV:=hid (aF.below (show FI JV.drew w7.heap.size (.slice A12 VM.length bR5) VM from aTF.out) gU (aC _))))
 have a9D:=hid (aJ2.out.trans B8)
 have bSG:=hid bB
 have aJB:JV.heap.size≤wb.heap.size:=B8.size
 obtain⟨m_,aIQ⟩:∃z,z=VM++Fo.aL e false:=⟨_,rfl⟩
 have bS1:m_.length≤VM.length+(Fo.aL e false).length:=by rw[aIQ,bL];omega
 rw[←aIQ] at IK
 have aTE:=hid IK.out
 have bPQ:=hid aIQ
 clear aIQ OI OH PF ZX hgb PC j1 PR gU HC c12 B8 bB O8 dV aTF aJ2 OT IK
 obtain⟨mL,bQC⟩:∃z:World,z=wb:=⟨_,rfl⟩
 obtain⟨v13,bQE⟩:∃z:Value,z=vb:=⟨_,rfl⟩
 subst bQC bQE
 have HQ:=hid (show m_=0::(Fo.aL s' true++Fo.aL b' false++Fo.aL e false) by rw[bPQ.out,bPR.out,bR8.out,bR9.out];simp)
 have DI:m_[0]?=some 0:=by rw[HQ.out];rfl
 have hqe:m_.length=1+Fo.aD s' true+Fo.aD b' false+Fo.aD e false:=by rw[HQ.out];simp[Fo.oO];omega
 have hsc1:=Fo.jX s' true
 have hsc2:=Fo.jX b' false
 have hsc3:=Fo.jX e false
 have hr13:0<m_.length:=by omega
 obtain⟨gA,cA,csA,rfl,hcA,hgA1,hgA2,-,hCA,a7Y,a7Q⟩:=cP.at_ aTE.out (fun _ _ h=>h.len) DI
 have f13:=a7Q 12
 have g13:=a7Y 12 (by decide)
 rw[hCA.size] at g13
 simp only[Nat.zero_mul,Nat.zero_add] at g13
 have HOs:=hid (show FI (mL.setCell ⟨gA,12,none⟩ (.int .i64 (m_.length:Nat))) w7.heap.size (.slice (some ⟨gA,0,none⟩) m_.length cA) (m_.set 0 m_.length) from cP.cS aTE.out (fun _ _ h=>h.len) (j:=12) (u:=.int .i64 (m_.length:Nat)) (x':=m_.length) DI (by decide) (fun cs h=>⟨by rw[List.length_set];exact h.len,fun u hu=>by
  rcases List.mem_or_eq_of_mem_set hu with hu|rfl
  · exact h.one u hu
  rfl,by rw[List.getElem?_set_self (by rw[h.len];decide)]⟩))
 have HBs:=hid (a9D.out.setCell (p:=⟨gA,12,none⟩) (show wo.heap.size≤gA by omega) (.int .i64 (m_.length:Nat)))
 have oL:=hid (show m_.set 0 m_.length=(1+Fo.aD s' true+Fo.aD b' false+Fo.aD e false)::(Fo.aL s' true++Fo.aL b' false++Fo.aL e false) by rw[hqe,HQ.out];rfl)
 have hzs:mL.heap.size≤(mL.setCell ⟨gA,12,none⟩ (.int .i64 (m_.length:Nat))).heap.size:=by simp[World.setCell]
 clear hqe hCA a7Y a7Q aTE a9D bSG
 go_upto_region 17 with fail
 generalize mL.setCell ⟨gA,12,none⟩ (.int .i64 (m_.length:Nat))=ws at *
 obtain⟨aJW,aQA⟩:∃z,z=m_.set 0 m_.length:=⟨_,rfl⟩
 have H14:=hid (show m_.length=aJW.length by rw[aQA,List.length_set])
 rw[←aQA] at HOs oL
 clear aQA f13 g13 DI
 obtain⟨As14,cs14,n14,MO,-,aRL,a8E⟩:=aF.src HOs.out
 injection MO with e1 e2 e3
 subst e1 e3
 rw[←H14.out] at aRL
 have a8P:=hid aRL
 have a8Z:=hid (show gC SzC n14 aJW from a8E)
 have aTD:=hid (aF.below hown.out HBs.out (aC _))
 have bTC:acc.length+m_.length≤1000000:=by omega
 have bST:=hid (show Fo.aL l false=(acc++aJW)++Fo.aL (Fo.drop (k+1) l) false by rw[HE.out,Hd.out,oL.out];simp)
 have rR:w1.heap.size≤ws.heap.size:=by omega
 clear aRL a8E e2 hown HOs
 go_wp2_with (at_builtin;go_must (refine aDL (fun _ _ h=>h.one) rfl _ _ 104 rfl w1.heap.size Tryz.underlying104 QI (by decide) _ acc rfl aTD.out _ _ m_.length _ aJW _ rfl H14.out a8P.out a8Z.out (by omega) (by decide) (by omega) ?_))
 intro v15 w15 a63 a7M bPF
 have bSL:=hid a63
 have aTP:=hid (hb.out.trans (aF.grown aTD.out (HBs.out.mono hz) a7M (by omega)))
 clear a63 a7M bPF aTD a8P a8Z HBs
 go_wp2
 go_roundg (l.len-(k+1))
 case rel=>exact⟨v15,k+1,_,rfl,hlt,rfl,by go_num,bST,bSL,aTP⟩
 rw[Hq.out];omega
end
section
open Go.RowKit
open Sl
open Go.Lib (hid)
theorem bMP:∀(c:Nat),c≤1000000→∀(l:Fo) (v:Value) (f p q i from_:Int) (b:Bool) (B:Nat) (w:World),l.cnt≤c→cM w B v l→B≤w.heap.size→
 Calls Tryz.prog 143 #[v,.agg #[.int .i64 f,.bool b,.int .i64 p,.int .i64 q,.int .i64 i,.int .i64 0],.int .i64 from_] w (KZ w (Fo.aL l true))∧
 Calls Tryz.prog 96 #[v,.agg #[.int .i64 f,.bool b,.int .i64 p,.int .i64 q,.int .i64 i,.int .i64 0],.int .i64 from_] w (KZ w (Fo.aL l false)):=fun c=>by
 induction c using Nat.strongRecOn with
 |ind c ih=>
 intro hc l v f p q i from_ b B w hl hv hB
 have HI:=fun c' (h:c'<c)=>ih c' h (by omega)
 exact⟨bFQ c HI l v f p q i from_ b B w hl hc hv hB,bG2 c HI l v f p q i from_ b B w hl hc hv hB⟩
namespace Sl
def jY (p:List Fc):List Nat:=p.flatMap fun f=>Fo.aL f.body false
theorem aZY {p:List Fc} {k:Nat} (hk:k<p.length):jY (p.drop k)=Fo.aL (p.getD k bI).body false++jY (p.drop (k+1)):=by
 rw[List.drop_eq_getElem_cons hk,jY,List.flatMap_cons,dR,bX hk]
 rfl
theorem a1E (p:List Fc):(jY p).length≤nodes p:=by
 induction p with
 |nil=>exact aC _
 |cons f l ih=>
  rw[jY,List.flatMap_cons,bL,Fo.oO,nodes,List.map_cons,List.sum_cons]
  have:=Fo.jX f.body false
  exact Nat.add_le_add this ih
theorem a0G {p:List Fc} {f:Fc} (h:f∈p):f.body.cnt≤nodes p:=aYC (g:=fun f=>f.body.cnt) h
end Sl
theorem bNM (p:List Fc) (v:Value) (B:Nat) (w:World) (hv:eO w B v p) (hB:B≤w.heap.size) (hs:nodes p≤1000000) (hp:p.length≤1000000):
 Calls Tryz.prog 54 #[.agg #[v]] w (KZ w (jY p)):=by
 obtain⟨A,cap,rfl,cB⟩:=hv.form
 have HV:=hid (hv.below ((Below.refl B w).alloc hB (.cells #[.slice A p.length cap] 24)))
 have HA0:=hid ((Below.refl w.heap.size w).alloc (aC _) (.cells #[.slice A p.length cap] 24))
 have HK0:=hid (aG.new w 24 #[.slice A p.length cap])
 have hlp:=a1E p
 clear hv
 go_enter Tryz.func54,Tryz.ntmps54
 go_upto_region 1 with fail
 have hz1:w.heap.size<(w.alloc (.cells #[.slice A p.length cap] 24)).heap.size:=by simp
 generalize w.alloc (.cells #[.slice A p.length cap] 24)=w1 at *
 go_wp2
 go_loopg [3,4] p.length (fun g o ii wr=>∃(vo:Value) (k:Nat) (acc:List Nat),vo=o∧k≤p.length∧g=p.length-k∧ii=.int .i64 k∧Hid (jY p=acc++jY (p.drop k))∧Hid (FI wr w1.heap.size vo acc)∧Hid (Below w1.heap.size w1 wr))
 case atStart=>exact⟨_,0,[],rfl,Nat.zero_le _,rfl,rfl,hid (by rw[List.drop_zero];rfl),hid (aF.nil w1 w1.heap.size rfl rfl),hid (Below.refl _ _)⟩
 obtain⟨vo,k,acc,rfl,hk,hq,rfl,he,hown,hb⟩:=hrel
 have Hq:=hid hq
 clear hq
 obtain⟨wo,rfl⟩:∃x:World,x=wr:=⟨_,rfl⟩
 have hz:=hb.out.size
 have k0:=(HK0.out.below hb.out hz1).cell 0
 simp at k0
 by_cases hlt:k<p.length
 rotate_left
 · have HE:=hid (he.out.trans (by rw[show k=p.length by omega,List.drop_length,jY,List.flatMap_nil,List.append_nil]))
   clear he
   go_wp2
   go_ret
   exact⟨_,rfl,by rw[HE.out];exact hown.out.more (by omega),HA0.out.trans (hb.out.mono (by omega))⟩
 obtain⟨a,pv,bv,rfl,hab,d0,d1,d2,eF,cZ⟩:=(HV.out.below (hb.out.mono (by omega))).at_ hlt
 have hcm:=a0G (uI hlt)
 have HE:=hid (he.out.trans (by rw[aZY hlt,←dZ]))
 have lT:acc.length+(Fo.aL (p.getD k bI).body false).length≤(jY p).length:=by rw[HE.out];simp only[bL];omega
 have kW:(Fo.aL (p.getD k bI).body false).length≤1000000:=by omega
 have HC:=hid (fun (fr:Int)=>(bMP 1000000 (aC _) (p.getD k bI).body bv (k:Nat) (-1) 0 0 fr false B wo (by omega) cZ (by omega)).2)
 generalize Fo.aL (p.getD k bI).body false=xs at *
 generalize p.getD k bI=f at *
 obtain⟨Ab,cb,rfl,hcb⟩:=cZ.form
 obtain⟨Ao,co,no,rfl,jB,-⟩:=aF.src hown.out
 clear eF cZ he
 go_wp2_with fail
 refine (HC.out _).mono ?_
 rintro e5 w5 ⟨v5,rfl,hs5,aQ⟩
 obtain⟨A5,c5,n5,rfl,-,PD,qQ⟩:=aF.src hs5
 have oC:=aQ.size
 have cK:=hid (aF.below hown.out aQ (aC _))
 have a_:=hid (hb.out.trans (aQ.mono hz))
 have Hr5:=hid PD
 have HR5:=hid (show gC SzC n5 xs from qQ)
 clear hs5 aQ PD qQ HC hown hb
 go_wp2_with (at_builtin;go_must (refine aDL (fun _ _ h=>h.one) rfl _ _ 104 rfl w1.heap.size Tryz.underlying104 QI (by decide) _ acc rfl cK.out _ A5 _ c5 xs n5 rfl rfl Hr5.out HR5.out (by omega) (by decide) (by omega) ?_))
 intro v6 w6 iC gG EU
 have gJ:=hid iC
 have fZ:=hid (aF.grown cK.out a_.out gG (by omega))
 clear iC gG EU cK a_
 go_wp2
 go_roundg (p.length-(k+1))
 case rel=>exact⟨v6,k+1,_,rfl,hlt,rfl,by go_num,HE,gJ,fZ⟩
 rw[Hq.out];omega
end
end Go.Proofs.YtdlndhbkcgmkkaaGreatDoor
