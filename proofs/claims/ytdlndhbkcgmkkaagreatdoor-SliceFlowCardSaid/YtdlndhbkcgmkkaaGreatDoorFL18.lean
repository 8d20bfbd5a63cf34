/-
 Part 18 of 35 of a proof about the given program: facts on which the last part stands.
-/
import Derived.Test.YtdlndhbkcgmkkaaGreatDoorFL17
set_option maxHeartbeats 12800000
set_option linter.unusedVariables false
set_option linter.unusedSimpArgs false
set_option maxRecDepth 100000
namespace Go.Proofs.YtdlndhbkcgmkkaaGreatDoor
section
namespace Sl
open Fo
def nY:Fo→Nat
 |.nil=>0
 |.cons _ _ _ _ _ b _ r=>aD b false+nY r
def n_:Fo→Nat
 |.nil=>0
 |.cons _ _ _ _ _ b _ r=>1+aK b false+n_ r
def yB:Fo→List Nat
 |.nil=>[]
 |.cons _ _ _ _ _ b _ r=>aL b false++yB r
def sU (F:Nat):Fo→Nat→Nat→Pl→List Sm
 |.nil,_,_,_=>[]
 |.cons _ _ _ _ _ b _ r,num,fns,p=>recs F b false num (fns+1) 0 ⟨p.fn,F+fns,p.parent,-1,-1,-1,0,cJ b num⟩++sU F r (num+aD b false) (fns+1+aK b false) p
theorem aZ5:∀a b:Fo,nY (app a b)=nY a+nY b
 |.nil,b=>by rw[app,nY,Nat.zero_add]
 |.cons _ _ _ _ _ b _ r,y=>by rw[app,nY,nY,aZ5 r];omega
theorem a02:∀a b:Fo,n_ (app a b)=n_ a+n_ b
 |.nil,b=>by rw[app,n_,Nat.zero_add]
 |.cons _ _ _ _ _ b _ r,y=>by rw[app,n_,n_,a02 r];omega
theorem a1F:∀a b:Fo,yB (app a b)=yB a++yB b
 |.nil,b=>by rw[app,yB,List.nil_append]
 |.cons _ _ _ _ _ b _ r,y=>by rw[app,yB,yB,a1F r,List.append_assoc]
theorem aZ9 (F:Nat):∀(a b:Fo) (num fns:Nat) (p:Pl),sU F (app a b) num fns p=sU F a num fns p++sU F b (num+nY a) (fns+n_ a) p
 |.nil,b,num,fns,p=>by rw[app,sU,nY,n_,List.nil_append,Nat.add_zero,Nat.add_zero]
 |.cons _ _ _ _ _ b _ r,y,num,fns,p=>by
   rw[app,sU,sU,aZ9 F r,nY,n_,List.append_assoc]
   simp only[Nat.add_assoc]
section
variable {hd:Nat→aA→Int→Nat→List aA→Nat→Nat→Bool→Bool}
theorem bLX {k:Nat} {t:aA} {n:Int} {s:Fo} {ps:List aA} {b e:Fo} {ins:Bool} (H:aPO hd) (h10:k=10) (hh:hd k t n s.len ps b.len e.len ins=true):s=.nil:=by
 obtain⟨-,kW,-⟩:=H.fn h10 hh
 cases s with
 |nil=>rfl
 |cons=>simp[Fo.len] at kW
theorem aOW (H:aPO hd) (F:Nat):∀(s:Fo) (ins:Bool),bE hd s true ins=true→
 (∀num fns i p,recs F s true num fns i p=sU F (Fo.fns (own s)) num fns p)∧aD s true=nY (Fo.fns (own s))∧aK s true=n_ (Fo.fns (own s))∧aL s true=yB (Fo.fns (own s))
 |.nil,_,_=>⟨fun _ _ _ _=>by unfold recs own Fo.fns sU;rfl,by unfold aD own Fo.fns nY;rfl,by unfold aK own Fo.fns n_;rfl,by unfold aL own Fo.fns yB;rfl⟩
 |.cons k t n s ps b e r,ins,hf=>by
   unfold bE at hf
   simp only[Bool.and_eq_true] at hf
   obtain⟨⟨⟨⟨⟨hk,hh⟩,hs⟩,hb⟩,he⟩,hr⟩:=hf
   obtain⟨r1,r2,r3,r4⟩:=aOW H F r ins hr
   obtain⟨s1,s2,s3,s4⟩:=aOW H F s ins hs
   rw[own,Fo.fns]
   by_cases h10:k=10
   · have tS:=bLX H h10 hh
     subst tS
     rw[if_pos h10,show own .nil=.nil from rfl,app]
     refine⟨fun num fns i p=>?_,?_,?_,?_⟩
     · rw[recs,sU]
       simp only[if_pos h10,r1,recs,aD,aK,List.nil_append,Nat.add_zero]
       simp only[Nat.add_assoc]
     · rw[aD,nY,if_pos h10,r2,aD];omega
     · rw[aK,n_,if_pos h10,r3,aK];omega
     rw[aL,yB,if_pos h10,r4,aL,List.nil_append]
   rw[if_neg h10,Fo.KV]
   refine⟨fun num fns i p=>?_,?_,?_,?_⟩
   · rw[recs,aZ9,←s1 num fns 0 p,←s2,←s3]
     simp only[if_neg h10,List.nil_append,Nat.add_zero]
     rw[r1]
   · rw[aD,aZ5,if_neg h10,r2,s2];omega
   · rw[aK,a02,if_neg h10,r3,s3];omega
   rw[aL,a1F,if_neg h10,r4,s4,List.append_nil]
end
theorem nU:∀(l:Fo) (ex:Bool),aK l ex≤l.cnt
 |.nil,_=>by simp[aK,cnt]
 |.cons _ _ _ s _ b e r,false=>by
   have h1:=nU s true
   have h2:=nU b false
   have h3:=nU e false
   have h4:=nU r false
   rw[aK,cnt];omega
 |.cons k _ _ s _ b e r,true=>by
   have h1:=nU s true
   have h2:=nU b false
   have h4:=nU r true
   rw[aK,cnt]
   split<;>omega
def bodies:Fo→List Fo
 |.nil=>[]
 |.cons _ _ _ _ _ b _ r=>b::bodies r
theorem XS:∀a b:Fo,bodies (app a b)=bodies a++bodies b
 |.nil,_=>rfl
 |.cons _ _ _ _ _ b _ r,y=>by rw[app,bodies,bodies,XS r,List.cons_append]
theorem aYO:∀{i:Nat} {l:Fo} {k:Nat} {t:aA} {n:Int} {s:Fo} {ps:List aA} {b e r:Fo},Fo.drop i l=.cons k t n s ps b e r→b∈bodies l
 |0,_,_,_,_,_,_,_,_,_,h=>by unfold Fo.drop at h;subst h;simp[bodies]
 |i+1,.nil,_,_,_,_,_,_,_,_,h=>by simp[Fo.drop] at h
 |i+1,.cons ..,_,_,_,_,_,_,_,_,h=>by
   rw[Fo.drop] at h
   rw[bodies]
   exact List.mem_cons_of_mem _ (aYO h)
theorem aNP {hd:Nat→aA→Int→Nat→List aA→Nat→Nat→Bool→Bool}:∀(s:Fo) (ins:Bool),bE hd s true ins=true→∀x∈bodies (Fo.fns (own s)),bE hd x false true=true∧x.cnt+1≤s.cnt
 |.nil,_,_,x,hx=>by unfold own Fo.fns bodies at hx;cases hx
 |.cons k t n s ps b e r,ins,hf,x,hx=>by
   unfold bE at hf
   simp only[Bool.and_eq_true] at hf
   obtain⟨⟨⟨⟨⟨hk,hh⟩,hs⟩,hb⟩,he⟩,hr⟩:=hf
   have key:x∈bodies (Fo.fns (own s))∨x∈bodies (Fo.fns (own r))→bE hd x false true=true∧x.cnt+1≤(Fo.cons k t n s ps b e r).cnt:=fun h=>by
    rw[cnt]
    rcases h with h|h
    · have:=aNP s ins hs x h
      exact⟨this.1,by omega⟩
    have:=aNP r ins hr x h
    exact⟨this.1,by omega⟩
   rw[own,Fo.fns] at hx
   by_cases h10:k=10
   · rw[if_pos h10,bodies,Fo.KV,XS] at hx
     rcases List.mem_cons.1 hx with rfl|hx
     · exact⟨by rw[h10] at hb;simpa using hb,by rw[cnt];omega⟩
     exact key (List.mem_append.1 hx)
   rw[if_neg h10,Fo.KV,XS] at hx
   exact key (List.mem_append.1 hx)
theorem aZI:∀(i:Nat) (l:Fo),i≤l.len→isNil (Fo.drop i l)=decide (l.len≤i)
 |0,.nil,_=>rfl
 |0,.cons ..,_=>by rw[Fo.drop,isNil,len];exact (decide_eq_false (by omega)).symm
 |i+1,.nil,h=>by rw[len] at h;omega
 |i+1,.cons _ _ _ _ _ _ _ r,h=>by
   rw[len] at h
   rw[Fo.drop,aZI i r (by omega),len,decide_eq_decide]
   omega
def FJ (Z:List Int) (a:Nat) (xs:List Nat):Prop:=∃rest,Z.drop a=xs.map (fun n:Nat=>(n:Int))++rest
theorem FJ.left {Z:List Int} {a:Nat} {xs ys:List Nat} (h:FJ Z a (xs++ys)):FJ Z a xs:=by
 obtain⟨rest,h⟩:=h
 exact⟨ys.map (fun n:Nat=>(n:Int))++rest,by rw[h,List.map_append,List.append_assoc]⟩
theorem FJ.right {Z:List Int} {a:Nat} {xs ys:List Nat} (h:FJ Z a (xs++ys)):FJ Z (a+xs.length) ys:=by
 obtain⟨rest,h⟩:=h
 refine⟨rest,?_⟩
 rw[←List.drop_drop,h,List.map_append,List.append_assoc]
 exact List.drop_left' (by rw[List.length_map])
structure bO where
 nd:Nd
 fn:Int
 unit:Int
 parent:Int
 follow:Int
 cD:Int
 body:Int
 els:Int
 own:Fo
 reads:List aA
 calls:List Nat
 cW:Bool
def jL (rd:Nd→List aA) (r:Sm):bO:=⟨r.nd,(r.fn:Nat),(r.unit:Nat),r.parent,r.follow,r.cD,r.body,r.els,own r.nd.s,rd r.nd,[],false⟩
end Sl
end
section
open Go.RowKit
open Sl
def LD (cs:List Value) (b:Bool):Prop:=cs=[.bool b]
theorem M_:∀cs b,LD cs b→cs.length=1:=fun cs b h=>by rw[h];rfl
abbrev sS (w:World) (base:Nat) (v:Value) (l:List Bool):Prop:=cP 4 1 LD w base v l
theorem aZ6 (n:Nat):gC LD (List.replicate n (.bool false)) (List.replicate n false):=by
 induction n with
 |zero=>rfl
 |succ n ih=>exact⟨[.bool false],List.replicate n (.bool false),rfl,rfl,ih⟩
theorem a0Q:(Tryz.prog.info? 4).map (fun i=>(i.zero,i.size,i.bytes))=some (some (.bool false),1,1):=by kernel_rfl
theorem aXQ {w:World} {ops:Array Oper} {rest:List Oper} {o:Oper} {a:Act} {Q:Exit→Act→World→Prop} (hgd:o.guard=none) (x y:Operand) (ho:o.op=.makeSlice 41 x y)
 (n:Nat) (hx:a.eval x=.int .i64 (n:Nat)) (hy:a.eval y=.int .i64 (n:Nat)) (hn:n≤100000000) (base:Nat) (hb:base≤w.heap.size)
 (h:∀w',sS w' base (.slice (some ⟨w.heap.size,0,none⟩) n n) (List.replicate n false)→w.grownBy w' none→wpList Tryz.prog ops Q rest (a.put o.dst (.slice (some ⟨w.heap.size,0,none⟩) n n)) w'):wpList Tryz.prog ops Q (o::rest) a w:=by
 refine wpList_plain hgd fun K hK=>?_
 obtain⟨i,hi,hz,hs,hby⟩:=info_parts a0Q
 obtain⟨w',hr,h1,h2⟩:=run_make_full (P:=Tryz.prog) (w:=w) base 41 4 i _ 1 Tryz.underlying41 hi hz hs .i64 .i64 n (by rw[hby];omega) (by unfold maxLen;omega) hb
 unfold Oper.wp execOp
 simp only[ho,hx,hy,hr,Sem.run_bind,Sem.run_pure,Result.andThen_ok]
 refine hK _ _ (h w' ⟨_,by rw[List.length_replicate];exact h1,?_⟩ h2)
 rw[show (Value.bool false).cells=#[.bool false] from rfl,Nat.mul_one,toList_madeCells_one]
 exact aZ6 n
end
section
open Go.RowKit
def kT (w:World) (base:Nat) (v:Value) (xs:List Int):Prop:=
 (v=.slice none 0 0∧xs=[])∨
 ∃g off cap cur,v=.slice (some ⟨g,off,none⟩) xs.length cap∧base≤g∧w.heap[g]?=some (.cells cur 3 (0,0))∧xs.length≤cap∧cap≤maxLen∧off+cap≤cur.size∧(cur.toList.drop off).take xs.length=xs.map (.int .i64)
section
variable {w w':World} {base:Nat} {v:Value} {xs:List Int}
theorem kT.of (h:aW w base v xs):kT w base v xs:=by
 unfold aW at h
 rcases h.2 with⟨h1,h2⟩|⟨g,cap,cur,h1,hb,hg,hc,hm,hs,ht⟩
 · exact .inl ⟨h1,List.eq_nil_of_length_eq_zero h2⟩
 exact .inr ⟨g,0,cap,cur,h1,hb,hg,hc,hm,by omega,by simpa using ht⟩
theorem kT.lt (h:kT w base v xs):∀k,v.ownBlock=some k→base≤k∧k<w.heap.size:=fun k hk=>by
 rcases h with⟨rfl,-⟩|⟨g,off,cap,cur,rfl,hb,hg,-⟩
 · simp[Value.ownBlock] at hk
 simp[Value.ownBlock] at hk
 subst hk
 exact⟨hb,(Array.getElem?_eq_some_iff.1 hg).1⟩
theorem kT.kept {row:Option Nat} (h:kT w base v xs) (hg:w.grownBy w' row) (hr:∀k,row=some k→v.ownBlock≠some k):kT w' base v xs:=by
 rcases h with h|⟨g,off,cap,cur,rfl,hb,hh,hc,hm,hs,ht⟩
 · exact .inl h
 exact .inr ⟨g,off,cap,cur,rfl,hb,by rw[hg.block g (Array.getElem?_eq_some_iff.1 hh).1 (fun e=>hr g e.symm (by simp[Value.ownBlock])),hh],hc,hm,hs,ht⟩
theorem kT.below {B:Nat} (h:kT w base v xs) (hb:Below B w w') (hB:w.heap.size≤B):kT w' base v xs:=
 h.kept (row:=none) ⟨hb.os,hb.tape,hb.output,hb.size,fun i hi _=>hb.block i (by omega)⟩ (fun k e=>by cases e)
theorem kT.at_ (h:kT w base v xs) {i:Nat} (hi:i<xs.length):∃g off cap,v=.slice (some ⟨g,off,none⟩) xs.length cap∧xs.length≤cap∧g<w.heap.size∧w.cell? ⟨g,off+i,none⟩=some (.int .i64 (xs.getD i 0)):=by
 rcases h with⟨-,rfl⟩|⟨g,off,cap,cur,rfl,hb,hh,hc,hm,hs,ht⟩
 · exact absurd hi (by simp)
 refine⟨g,off,cap,rfl,hc,(Array.getElem?_eq_some_iff.1 hh).1,?_⟩
 rw[cell_of_row w g _ cur _ (0,0) hh]
 have h1:((cur.toList.drop off).take xs.length)[i]?=(xs.map (Value.int .i64))[i]?:=by rw[ht]
 rw[List.getElem?_take,if_pos hi,List.getElem?_drop,lZ,bX hi] at h1
 rw[←Array.getElem?_toList,h1,dR,bX hi]
 rfl
theorem kT.form (h:kT w base v xs):∃A c,v=.slice A xs.length c∧xs.length≤c:=by
 rcases h with⟨rfl,rfl⟩|⟨g,off,cap,cur,rfl,hb,hh,hc,-⟩
 · exact⟨none,0,rfl,aC _⟩
 exact⟨_,cap,rfl,hc⟩
theorem kT.cut {g off cap:Nat} {x:Int} (h:kT w base (.slice (some ⟨g,off,none⟩) (xs.length+1) cap) (x::xs)):
 kT w base (.slice (if cap=1 then some ⟨g,off,none⟩ else some ⟨g,off+1,none⟩) xs.length (cap-1)) xs:=by
 rcases h with⟨-,h⟩|⟨g',off',cap',cur,hv,hb,hh,hc,hm,hs,ht⟩
 · cases h
 simp only[Value.slice.injEq,Option.some.injEq,Addr.mk.injEq,and_true] at hv
 obtain⟨⟨rfl,rfl⟩,-,rfl⟩:=hv
 simp only[List.length_cons] at hc ht
 by_cases h1:cap=1
 · have hx:xs=[]:=List.eq_nil_of_length_eq_zero (by omega)
   subst hx
   rw[if_pos h1]
   exact .inr ⟨g,off,cap-1,cur,rfl,hb,hh,by simp,by omega,by omega,by simp⟩
 rw[if_neg h1]
 refine .inr ⟨g,off+1,cap-1,cur,rfl,hb,hh,by omega,by omega,by omega,?_⟩
 have h2:=congrArg List.tail ht
 rw[List.map_cons,List.tail_cons] at h2
 rw[←h2,←List.drop_drop]
 cases hd:cur.toList.drop off with
 |nil=>simp
 |cons y ys=>simp
end
section
variable {P:Program} (w:World)
theorem bFF (base:Nat) (t ty:TypeId) (i:TypeInfo) (z:Value) (ht:P.underlying t=some (.slice 3)) (hi:P.info? 3=some i) (hz:i.zero=some z)
 (hsize:i.size=1) (hby:i.bytes=8) (hzs:z.cells.size=1)
 (v:Value) (xs:List Int) (hown:kT w base v xs)
 (B:Nat) (A:Option Addr) (ys:List Int) (c:Nat) (hr:Reads w B 1 A ys.length (ys.map (.int .i64))) (hlen:xs.length+ys.length≤1000000000) (hbase:base≤w.heap.size):
 ∃v' w',(Builtin.append_ #[t,t] ty #[v,.slice A ys.length c]).run P w=.ok v' w'∧kT w' base v' (xs++ys)∧w.grownBy w' v.ownBlock∧(v'.ownBlock=v.ownBlock∨v'.ownBlock=some w.heap.size):=by
 rcases hown with⟨rfl,rfl⟩|⟨g,off,cap,cur,rfl,hb,hh,hc,hm,hs,E7⟩
 · obtain⟨v',w',h1,h2,h3,h4⟩:=aXS (P:=P) w base t ty 3 i z 1 8 ht hi hz hsize hby hzs (by decide) (.slice none 0 0) 0 [] (World.ownsRow_nil _ _ _ _) B A ys.length c _ hr (fun u hu=>by obtain⟨x,-,rfl⟩:=List.mem_map.1 hu;rfl) (by unfold maxLen;omega) (by simp at hlen;omega) hbase
   refine⟨v',w',h1,kT.of ?_,h3,h4⟩
   unfold aW
   simpa using h2
 rcases A with _|ad
 · have hy:ys.length=0:=by
    rcases Nat.eq_zero_or_pos ys.length with h0|h0
    · exact h0
    obtain⟨ad,h,_⟩:=hr.2 h0
    cases h
   have L8:ys=[]:=List.eq_nil_of_length_eq_zero hy
   subst L8
   refine⟨.slice (some ⟨g,off,none⟩) xs.length cap,w,?_,?_,World.grownBy.refl w _,.inl rfl⟩
   · simp[Builtin.append_,run_underlying ht,sizeOf,typeInfo,hi,Builtin.lenOf,Builtin.firstCells,hc,storeCells]
   rw[List.append_nil]
   exact .inr ⟨g,off,cap,cur,rfl,hb,hh,hc,hm,hs,E7⟩
 have I7:∀j u,(ys.map (Value.int .i64))[j]?=some u→w.cell? (ad.add j)=some u:=by
  intro j u hu
  have h0:0<ys.length:=by
   have:=(mK.1 hu).1
   rw[cL] at this
   omega
  obtain⟨ad',h,_,hc'⟩:=hr.2 h0
  injection h with h
  subst h
  exact hc' j u hu
 have h1:∀u∈ys.map (Value.int .i64),u.oneCell'=true:=fun u hu=>by obtain⟨x,-,rfl⟩:=List.mem_map.1 hu;rfl
 by_cases hroom:xs.length+ys.length≤cap
 · have hf:=run_firstCells_some (P:=P) w i.size ys.length ad ys.length c (ys.map (.int .i64)) (by rw[hsize,cL];omega) I7
   have hst:=run_storeCells_at P g (off+xs.length) 3 (ys.map (Value.int .i64)) 0 cur w hh (by rw[cL];omega) h1
   simp only[Nat.add_zero] at hst
   refine⟨.slice (some ⟨g,off,none⟩) (xs.length+ys.length) cap,w.setRow g (cur.toList.take (off+xs.length)++ys.map (Value.int .i64)++cur.toList.drop (off+xs.length+(ys.map (Value.int .i64)).length)).toArray,?_,?_,⟨rfl,rfl,rfl,?_,fun k _ hk=>setRow_other w g k _ (fun e=>hk (by simp[Value.ownBlock,e]))⟩,.inl rfl⟩
   · rw[hsize] at hf
     simp[Builtin.append_,run_underlying ht,sizeOf,typeInfo,hi,Builtin.lenOf,hroom,hf,Addr.add_lit,hst,hsize]
   · refine .inr ⟨g,off,cap,_,by rw[bL],hb,setRow_heap w g cur _ _ _ hh,by rw[bL];exact hroom,hm,?_,?_⟩
     · simp;omega
     simp only[bL,List.map_append]
     have BZ:(cur.toList.take (off+xs.length)).length=off+xs.length:=by
      have h9:cur.toList.length=cur.size:=Array.length_toList
      rw[List.length_take,h9]
      exact Nat.min_eq_left (by omega)
     rw[dZ,List.drop_append_of_le_length (by rw[BZ];omega),←dZ,List.take_append_of_le_length]
     · rw[show (cur.toList.take (off+xs.length)).drop off=xs.map (Value.int .i64) by rw[List.drop_take,show off+xs.length-off=xs.length by omega];exact E7]
       exact List.take_of_length_le (by simp)
     rw[bL,List.length_drop,BZ,cL];omega
   simp
 have holds:∀j u,(xs.map (Value.int .i64))[j]?=some u→w.cell? ((⟨g,off,none⟩:Addr).add j)=some u:=fun j u hu=>by
  rw[Addr.add_lit,cell_of_row w g _ cur _ (0,0) hh,←Array.getElem?_toList]
  rw[←E7,List.getElem?_take] at hu
  split at hu
  · rw[List.getElem?_drop] at hu;exact hu
  cases hu
 have kC:=run_append_grow (P:=P) w t ty 3 i z ht hi hz ⟨g,off,none⟩ xs.length cap (xs.map (.int .i64)) (by rw[hsize,cL];omega) holds ad ys.length c (ys.map (.int .i64)) (by rw[hsize,cL];omega) I7 (by omega) (by omega) (growslice_fits (by omega) (by rw[hby];omega))
 have hge:=grownCap_ge w (xs.length+ys.length) cap 3
 have hcm:grownCap w (xs.length+ys.length) cap 3≤maxLen:=grownCap_le_maxLen w _ _ _ (by unfold maxLen;omega)
 refine⟨_,_,kC,.inr ⟨w.heap.size,0,_,_,by rw[bL],hbase,heap_alloc_new w.drew _,by rw[bL];exact hge,hcm,?_,?_⟩,⟨rfl,rfl,rfl,by simp,fun k hk _=>Below.heap_alloc w.drew _ k hk⟩,.inr rfl⟩
 · simp only[Array.size_append,List.size_toArray,size_zeroCells,hzs,cL];omega
 simp only[Array.toList_append,List.drop_zero,List.map_append,bL]
 exact List.take_left' (by simp)
theorem M5 {ops:Array Oper} {rest:List Oper} {o:Oper} {a:Act} {Q:Exit→Act→World→Prop} (hgd:o.guard=none) (s x:Operand) (t:TypeId)
 (ho:o.op=.call { callee:=.builtin .append,args:=#[s,x],argTypes:=#[t,t] })
 (base:Nat) (ht:P.underlying t=some (.slice 3)) (hi:(P.info? 3).map (fun i=>(i.zero,i.size,i.bytes))=some (some (.int .i64 0),1,8))
 (v:Value) (xs:List Int) (hs:a.eval s=v) (hown:kT w base v xs)
 (B:Nat) (A:Option Addr) (ys:List Int) (c:Nat) (hx:a.eval x=.slice A ys.length c) (hr:Reads w B 1 A ys.length (ys.map (.int .i64))) (hlen:xs.length+ys.length≤1000000000) (hbase:base≤w.heap.size)
 (h:∀v' w',kT w' base v' (xs++ys)→w.grownBy w' v.ownBlock→(v'.ownBlock=v.ownBlock∨v'.ownBlock=some w.heap.size)→wpList P ops Q rest (a.put o.dst v') w'):wpList P ops Q (o::rest) a w:=by
 refine wpList_plain hgd fun K hK=>?_
 obtain⟨i,kD,hz,hsz,hby⟩:=info_parts hi
 obtain⟨v',w',hr,h2,h3,h5⟩:=bFF (P:=P) w base t o.type i _ ht kD hz hsz hby rfl v xs hown B A ys c hr hlen hbase
 unfold Oper.wp execOp
 simp only[ho,resolve,invoke,builtin,Sem.run_bind,Sem.run_pure,Result.andThen_ok,List.map_toArray,List.map_cons,List.map_nil,hs,hx,hr]
 exact hK _ _ (h v' w' h2 h3 h5)
end
end
section
open Go.RowKit
open Go.Lib (hid)
namespace Sl
def aII (w:World) (B:Nat) (v:Value) (l:List Bool):Prop:=∃A c,v=.slice A l.length c∧l.length≤c∧Reads w B 1 A l.length (l.map .bool)
theorem aY0:∀{l:List Bool} {xs:List Value},gC LD xs l→xs=l.map .bool
 | [],_,h=>h
 |b::l,_,⟨cs,ys,h1,h2,h3⟩=>by rw[h1,show cs=[.bool b] from h2,aY0 h3];rfl
theorem aII.of {w:World} {base:Nat} {v:Value} {l:List Bool} (h:sS w base v l):aII w w.heap.size v l:=by
 obtain⟨A,c,news,h1,h2,h3,h4⟩:=aF.src h
 exact⟨A,c,h1,h2,aY0 h4▸h3⟩
theorem bLZ {w:World} {B:Nat} {A:Option Addr} {l:List Bool} (h:Reads w B 1 A l.length (l.map .bool)) {k:Nat} (hk:k<l.length):∃ad,A=some ad∧ad.block<B∧w.cell? (ad.add k)=some (.bool (l.getD k false)):=by
 obtain⟨ad,u,e,hb,hx,hc⟩:=h.at_ hk
 refine⟨ad,e,hb,?_⟩
 rw[hc,←hx,lZ,dR,bX hk]
 rfl
end Sl
open Sl
theorem a0P:(Tryz.prog.info? 3).map (fun i=>(i.zero,i.size,i.bytes))=some (some (.int .i64 0),1,8):=by kernel_rfl
theorem aMJ (u v:Value) (xs ys:List Int) (B:Nat) (w:World) (hu:Ints w B u xs) (hv:Ints w B v ys):
 Calls Tryz.prog 17 #[u,v] w fun e w'=>e=.returned (.bool (decide (xs=ys)))∧∃n,w'=w.drewN n:=by
 obtain⟨A,c,rfl,hn,hm,hr⟩:=hu
 obtain⟨A',c',rfl,hn',MD,kC⟩:=hv
 clear hn hn'
 by_cases hl:xs.length=ys.length
 rotate_left
 · have hlz:((xs.length:Int) != (ys.length:Int))=true:=by simp;omega
   have Hr:=hid (show decide (xs=ys)=false from bP (fun e=>hl (by rw[e])))
   clear hl hr kC
   go_enter Tryz.func17,Tryz.ntmps17
   go_wp2
   go_ret
   exact⟨aR Hr.out.symm,0,rfl⟩
 have hlz:((xs.length:Int) != (ys.length:Int))=false:=by simp[hl]
 have Hl:=hid hl
 have hle:xs.length≤ys.length:=by omega
 clear hl
 go_enter Tryz.func17,Tryz.ntmps17
 go_wp2
 go_loopg [5] xs.length (fun g i wr=>∃k q:Nat,k≤xs.length∧g=xs.length-k∧i=.int .i64 k∧wr=w.drewN q∧Hid (∀j,j<k→xs.getD j 0=ys.getD j 0))
 case atStart=>exact⟨0,0,Nat.zero_le _,rfl,rfl,rfl,fun j h=>by omega⟩
 obtain⟨k,q,hk,hg,rfl,rfl,he⟩:=hrel
 have Hg:=hid hg
 clear hg
 by_cases hlt:k<xs.length
 rotate_left
 · obtain rfl:k=xs.length:=by omega
   have Hr:=hid (show decide (xs=ys)=true from bF (by
    apply List.ext_getElem Hl.out
    intro i h1 h2
    have:=he.out i h1
    rw[dR,dR,bX h1,bX h2] at this
    exact this))
   clear hr kC he
   go_wp2
   go_ret
   exact⟨aR Hr.out.symm,q,rfl⟩
 obtain⟨ad,rfl,_,hc⟩:=ints_at hr hlt
 obtain⟨ad',rfl,_,hc'⟩:=ints_at kC (show k<ys.length by omega)
 have hk2:(k:Int)<(ys.length:Int):=by omega
 by_cases hx:xs.getD k 0=ys.getD k 0
 · have He:=hid (show ∀j,j<k+1→xs.getD j 0=ys.getD j 0 from fun j hj=>by
    by_cases e:j=k
    · rw[e];exact hx
    exact he.out j (by omega))
   rw[←hx] at hc'
   clear hr kC he hx
   generalize xs.getD k 0=x at *
   go_wp2
   go_quiet (fail)
   go_wp2
   go_roundg (xs.length-(k+1))
   case rel=>exact⟨k+1,_,hlt,rfl,by go_num,rfl,He⟩
   rw[Hg.out];omega
 have Hr:=hid (show decide (xs=ys)=false from bP (fun e=>hx (by rw[e])))
 have hb:(xs.getD k 0 != ys.getD k 0)=true:=by simpa using hx
 clear hr kC he hx
 generalize xs.getD k 0=x at *
 generalize ys.getD k 0=y at *
 go_wp2
 go_quiet (fail)
 go_wp2
 go_ret
 exact⟨aR Hr.out.symm,_,World.drewN_drewN ..⟩
end
section
open Go.RowKit
namespace Sl
structure Ef where
 reads:List aA
 sets:aA
 loads:Bool
 stores:Bool
 inputs:Bool
 aIF:Bool
 calls:List Int
 NI:Bool
 jumps:Bool
 cW:Bool
def MN:Ef:=⟨[],ByteArray.empty,false,false,false,false,[],false,false,false⟩
structure Px where
 b:Nat
 ad:Addr
 sm:Sm
 ef:Ef
 nw:Bool
def ints (l:List Nat):List Int:=l.map fun n=>((n:Nat):Int)
def a8N (W:World) (B:Nat) (ad:Addr) (nd:Nd):Prop:=∃a o sv pv bv ev,ad=a.add o∧uM W B a o nd.k nd.t nd.n nd.s nd.ps nd.b nd.e sv pv bv ev
def FW (x:Px) (rv cv lv bv ov:Value):Array Value:=#[.int .i64 (x.sm.unit:Nat),.int .i64 x.sm.parent,rv,.string x.ef.sets,.bool x.ef.loads,.bool x.ef.stores,.bool x.ef.inputs,.bool x.ef.aIF,cv,.bool x.ef.NI,.bool x.ef.jumps,.bool x.ef.cW,.pointer (some x.ad),.int .i64 (x.sm.fn:Nat),lv,.int .i64 (x.sm.index:Nat),.int .i64 x.sm.owner,.int .i64 (x.sm.part:Nat),bv,ov]
def sT (X:Option Nat) (v:Value):Prop:=∀k,X=some k→v.ownBlock≠some k
theorem sT.none_ (v:Value):sT none v:=fun k h=>by cases h
structure cF (W:World) (B:Nat) (w:World) (base:Nat) (X:Option Nat) (x:Px):Prop where
 ex:∃rv cv lv bv ov,aG w x.b 133 (FW x rv cv lv bv ov)∧aM w base rv x.ef.reads∧aW w base cv x.ef.calls∧aW w base lv (ints x.sm.eP)∧aW w base bv (ints x.sm.bl)∧aW w base ov (ints x.sm.ol)∧sT X cv∧sT X lv∧sT X bv∧sT X ov∧(x.nw=true→rv=.slice none 0 0∧cv=.slice none 0 0)
 nd:a8N W B x.ad x.sm.nd
 low:base≤x.b
section
variable {W:World} {B:Nat} {w w':World} {base:Nat} {X:Option Nat} {x:Px}
theorem cF.lt (h:cF W B w base X x):x.b<w.heap.size:=by
 obtain⟨rv,cv,lv,bv,ov,h1,-⟩:=h.ex
 exact h1.lt
theorem cF.SZ {g:Nat} {row:Option Nat} (h:cF W B w base X x) (hf:dA w w' g row) (h1:x.b≠g) (h2:some x.b≠row)
 (hr:∀e v n xs,(e=9∨(e=3∧sT X v))→w.ownsRow base e 1 v n xs→v.ownBlock≠some g∧∀k,row=some k→v.ownBlock≠some k):cF W B w' base X x:=by
 obtain⟨rv,cv,lv,bv,ov,hb,⟨rs,BX,hrs⟩,hc,hl,kF,eG,x1,x2,x3,x4,x5⟩:=h.ex
 refine⟨⟨rv,cv,lv,bv,ov,hf.blk hb h1 h2,⟨rs,?_,hrs⟩,?_,?_,?_,?_,x1,x2,x3,x4,x5⟩,h.nd,h.low⟩
 · obtain⟨k1,k2⟩:=hr _ _ _ _ (.inl rfl) BX;exact hf.own BX k1 k2
 · obtain⟨k1,k2⟩:=hr _ _ _ _ (.inr ⟨rfl,x1⟩) hc;exact hf.own hc k1 k2
 · obtain⟨k1,k2⟩:=hr _ _ _ _ (.inr ⟨rfl,x2⟩) hl;exact hf.own hl k1 k2
 · obtain⟨k1,k2⟩:=hr _ _ _ _ (.inr ⟨rfl,x3⟩) kF;exact hf.own kF k1 k2
 obtain⟨k1,k2⟩:=hr _ _ _ _ (.inr ⟨rfl,x4⟩) eG;exact hf.own eG k1 k2
theorem cF.below (h:cF W B w base X x) (hb:Below w.heap.size w w'):cF W B w' base X x:=by
 obtain⟨rv,cv,lv,bv,ov,h1,BX,hc,hl,kF,eG,xs⟩:=h.ex
 exact⟨⟨rv,cv,lv,bv,ov,h1.below hb h1.lt,aF.below BX hb (aC _),gW hc hb (aC _),gW hl hb (aC _),gW kF hb (aC _),gW eG hb (aC _),xs⟩,h.nd,h.low⟩
theorem cF.more {base':Nat} (h:cF W B w base X x) (hb:base'≤base):cF W B w base' X x:=by
 obtain⟨rv,cv,lv,bv,ov,h1,BX,hc,hl,kF,eG,xs⟩:=h.ex
 exact⟨⟨rv,cv,lv,bv,ov,h1,aF.more BX hb,uH hc hb,uH hl hb,uH kF hb,uH eG hb,xs⟩,h.nd,Nat.le_trans hb h.low⟩
theorem aW.JG {v:Value} {l:List Int} (h:aW w base v l) {Y:Option Nat} (hY:∀k,Y=some k→k<base∨w.heap.size≤k):sT Y v:=fun k hk e=>by
 have h1:=World.ownsRow.lt h k e
 have h2:=hY k hk
 omega
theorem cF.JG {Y:Option Nat} (h:cF W B w base X x) (hY:∀k,Y=some k→k<base∨w.heap.size≤k):cF W B w base Y x:=by
 obtain⟨rv,cv,lv,bv,ov,h1,BX,hc,hl,kF,eG,-,-,-,-,x5⟩:=h.ex
 exact⟨⟨rv,cv,lv,bv,ov,h1,BX,hc,hl,kF,eG,aW.JG hc hY,aW.JG hl hY,aW.JG kF hY,aW.JG eG hY,x5⟩,h.nd,h.low⟩
theorem cF.free (h:cF W B w base X x):cF W B w base none x:=h.JG fun k hk=>by cases hk
theorem cF.far {b:Nat} {cs:Array Value} (h:cF W B w base X x) (hb:aG w b 133 cs) (hne:x.b≠b) (j:Nat) (u:Value):cF W B (w.setCell ⟨b,j,none⟩ u) base X x:=
 h.SZ (g:=b) (row:=none) ((dA.refl w b none).QR j u) hne (by simp) (fun e v n xs he ho=>⟨eB ho hb (by rcases he with rfl|⟨rfl,-⟩<;>decide),fun k hk=>by cases hk⟩)
theorem cF.aJT {g:Nat} {t:TypeId} {cs:Array Value} (h:cF W B w base X x) (hb:aG w g t cs) (h1:133≠t) (h2:9≠t) (h3:3≠t) (j:Nat) (u:Value):cF W B (w.setCell ⟨g,j,none⟩ u) base X x:=by
 obtain⟨rv,cv,lv,bv,ov,hx,-⟩:=h.ex
 exact h.SZ (g:=g) (row:=none) ((dA.refl w g none).QR j u) (hx.rQ hb h1) (by simp) (fun e v n xs he ho=>⟨eB ho hb (by rcases he with rfl|⟨rfl,-⟩<;>assumption),fun k hk=>by cases hk⟩)
theorem cF.a5D {t:TypeId} {s n base':Nat} {v:Value} {xs:List Value} (h:cF W B w base X x) (ho:w.ownsRow base' t s v n xs) (hg:w.grownBy w' v.ownBlock) (h1:t≠133) (h2:t≠9) (h3:t≠3):cF W B w' base X x:=by
 obtain⟨rv,cv,lv,bv,ov,hx,-⟩:=h.ex
 have hs:=h.lt
 refine h.SZ (g:=w.heap.size) (row:=v.ownBlock) (dA.YG hg) (by omega) (fun e=>eB ho hx h1 e.symm) (fun e v' n xs he l9=>⟨fun e1=>?_,fun k hk=>kL ho l9 (by rcases he with rfl|⟨rfl,-⟩<;>assumption) hk⟩)
 have:=(World.ownsRow.lt l9 _ e1).2
 omega
theorem cF.bOK {n base':Nat} {v:Value} {xs:List Value} (h:cF W B w base v.ownBlock x) (ho:w.ownsRow base' 3 1 v n xs) (hg:w.grownBy w' v.ownBlock):cF W B w' base v.ownBlock x:=by
 obtain⟨rv,cv,lv,bv,ov,hx,-⟩:=h.ex
 have hs:=h.lt
 refine h.SZ (g:=w.heap.size) (row:=v.ownBlock) (dA.YG hg) (by omega) (fun e=>eB ho hx (by decide) e.symm) (fun e v' n xs he l9=>⟨fun e1=>?_,fun k hk=>?_⟩)
 · have:=(World.ownsRow.lt l9 _ e1).2
   omega
 rcases he with rfl|⟨-,he⟩
 · exact kL ho l9 (by decide) hk
 exact he k hk
theorem cF.bPZ {v:Value} {l:List Nat} (h:cF W B w base X x) (hv:aW w base v (ints l)) (ha:sT X v):cF W B (w.setCell ⟨x.b,14,none⟩ v) base X ⟨x.b,x.ad,{ x.sm with eP:=l },x.ef,x.nw⟩:=by
 obtain⟨rv,cv,lv,bv,ov,hb,hr,hc,hl,kF,eG,x1,x2,x3,x4,x5⟩:=h.ex
 have hg:=dH w ⟨x.b,14,none⟩ v
 have hk:∀{e:TypeId} {u:Value} {n:Nat} {xs:List Value},e≠133→w.ownsRow base e 1 u n xs→(w.setCell ⟨x.b,14,none⟩ v).ownsRow base e 1 u n xs:=fun h1 ho=>fA ho hg (fun k e=>by cases e;exact eB ho hb h1)
 obtain⟨rs,hr1,hr2⟩:=hr
 exact⟨⟨rv,cv,v,bv,ov,hb.cS 14 v,⟨rs,hk (by decide) hr1,hr2⟩,hk (by decide) hc,hk (by decide) hv,hk (by decide) kF,hk (by decide) eG,x1,ha,x3,x4,x5⟩,h.nd,h.low⟩
theorem cF.lA {v:Value} {l:List Nat} (h:cF W B w base X x) (hv:aW w base v (ints l)) (ha:sT X v):cF W B (w.setCell ⟨x.b,18,none⟩ v) base X ⟨x.b,x.ad,{ x.sm with bl:=l },x.ef,x.nw⟩:=by
 obtain⟨rv,cv,lv,bv,ov,hb,hr,hc,hl,kF,eG,x1,x2,x3,x4,x5⟩:=h.ex
 have hg:=dH w ⟨x.b,18,none⟩ v
 have hk:∀{e:TypeId} {u:Value} {n:Nat} {xs:List Value},e≠133→w.ownsRow base e 1 u n xs→(w.setCell ⟨x.b,18,none⟩ v).ownsRow base e 1 u n xs:=fun h1 ho=>fA ho hg (fun k e=>by cases e;exact eB ho hb h1)
 obtain⟨rs,hr1,hr2⟩:=hr
 exact⟨⟨rv,cv,lv,v,ov,hb.cS 18 v,⟨rs,hk (by decide) hr1,hr2⟩,hk (by decide) hc,hk (by decide) hl,hk (by decide) hv,hk (by decide) eG,x1,x2,ha,x4,x5⟩,h.nd,h.low⟩
theorem cF.bPY {v:Value} {l:List Nat} (h:cF W B w base X x) (hv:aW w base v (ints l)) (ha:sT X v):cF W B (w.setCell ⟨x.b,19,none⟩ v) base X ⟨x.b,x.ad,{ x.sm with ol:=l },x.ef,x.nw⟩:=by
 obtain⟨rv,cv,lv,bv,ov,hb,hr,hc,hl,kF,eG,x1,x2,x3,x4,x5⟩:=h.ex
 have hg:=dH w ⟨x.b,19,none⟩ v
 have hk:∀{e:TypeId} {u:Value} {n:Nat} {xs:List Value},e≠133→w.ownsRow base e 1 u n xs→(w.setCell ⟨x.b,19,none⟩ v).ownsRow base e 1 u n xs:=fun h1 ho=>fA ho hg (fun k e=>by cases e;exact eB ho hb h1)
 obtain⟨rs,hr1,hr2⟩:=hr
 exact⟨⟨rv,cv,lv,bv,v,hb.cS 19 v,⟨rs,hk (by decide) hr1,hr2⟩,hk (by decide) hc,hk (by decide) hl,hk (by decide) kF,hk (by decide) hv,x1,x2,x3,ha,x5⟩,h.nd,h.low⟩
theorem cF.cellAt (h:cF W B w base X x) (j:Nat) (hj:j<20):∃u,w.cell? ⟨x.b,j,none⟩=some u:=by
 obtain⟨rv,cv,lv,bv,ov,hb,-⟩:=h.ex
 exact⟨_,(hb.cell j).trans (Array.getElem?_eq_getElem (show j<(FW x rv cv lv bv ov).size from hj))⟩
theorem cF.blk (h:cF W B w base X x):∃cs,aG w x.b 133 cs:=by
 obtain⟨rv,cv,lv,bv,ov,hb,-⟩:=h.ex
 exact⟨_,hb⟩
end
def aS0 (cs:List Value) (b:Nat):Prop:=cs=[.pointer (some ⟨b,0,none⟩)]
theorem aD7:∀cs x,aS0 cs x→cs.length=1:=fun cs x h=>by rw[h];rfl
theorem a1Q:∀cs x,aS0 cs x→∀u∈cs,u.oneCell'=true:=fun cs x h u hu=>by
 rw[h] at hu
 simp only[List.mem_cons,List.mem_nil_iff,or_false] at hu
 subst hu
 rfl
abbrev aI2 (w:World) (base:Nat) (v:Value) (bs:List Nat):Prop:=cP 130 1 aS0 w base v bs
structure sL (g base:Nat) (pv fv:Value) (clos:Bool) (aV:Nat) (w:World) (av:Value) (bs:List Nat) (bH:Nat):Prop where
 blk:aG w g 129 #[pv,av,.int .i64 (bH:Nat),fv,.bool clos,.int .i64 (aV:Nat)]
 all:aI2 w base av bs
 low:g<base
 size:base≤w.heap.size
structure iD (W:World) (B g base:Nat) (pv fv:Value) (clos:Bool) (aV:Nat) (w0:World) (eW:Option Nat) (dT:List Nat) (X:Option Nat) (w:World) (av ov hv:Value) (N:List Px) (H outs:List Nat) (bH:Nat):Prop where
 gr:sL g base pv fv clos aV w av (dT++N.map (·.b)) bH
 out:aW w w0.heap.size ov (ints outs)
 here:aI2 w w0.heap.size hv H
 dS:∀x∈N,cF W B w w0.heap.size X x
 eQ:∀x∈N,x.ef=MN∧x.nw=true
 inc:(N.map (·.b)).Pairwise (· < ·)
 hne:∀k,hv.ownBlock=some k→av.ownBlock≠some k
 fr:dA w0 w g eW
 row:av.ownBlock=eW∨∀j,av.ownBlock=some j→w0.heap.size≤j
section
variable {W:World} {B g base:Nat} {pv fv:Value} {clos:Bool} {aV:Nat} {w0:World} {eW:Option Nat} {dT:List Nat} {X:Option Nat} {w w':World} {av DW ov fP hv hv':Value} {N M:List Px} {H outs:List Nat} {bH a3K:Nat}
theorem sL.below {bs:List Nat} (h:sL g base pv fv clos aV w av bs bH) (hb:Below w.heap.size w w'):sL g base pv fv clos aV w' av bs bH:=
 ⟨h.blk.below hb h.blk.lt,aF.below h.all hb (aC _),h.low,Nat.le_trans h.size hb.size⟩
theorem iD.below (h:iD W B g base pv fv clos aV w0 eW dT X w av ov hv N H outs bH) (hb:Below w.heap.size w w'):iD W B g base pv fv clos aV w0 eW dT X w' av ov hv N H outs bH where
 gr:=h.gr.below hb
 out:=gW h.out hb (aC _)
 here:=aF.below h.here hb (aC _)
 dS:=fun x hx=>(h.dS x hx).below hb
 eQ:=h.eQ
 inc:=h.inc
 hne:=h.hne
 fr:=h.fr.below hb
 row:=h.row
theorem iD.bMG (h:iD W B g base pv fv clos aV w0 eW dT X w av ov hv N H outs bH) {x:Px} (hx:cF W B w w0.heap.size X x) (he:x.ef=MN∧x.nw=true) (hlt:∀y∈N,y.b<x.b)
 (ht:aI2 w' base DW ((dT++N.map (·.b))++[x.b])) (hg:w.grownBy w' av.ownBlock) (hat:DW.ownBlock=av.ownBlock∨DW.ownBlock=some w.heap.size):
 iD W B g base pv fv clos aV w0 eW dT X (w'.setCell ⟨g,1,none⟩ DW) DW ov hv (N++[x]) H outs bH:=by
 obtain⟨xs,j0,-⟩:=h.gr.all
 have hb':aG w' g 129 _:=h.gr.blk.grown hg (fun e=>aF.ne h.gr.all h.gr.blk (by decide) e.symm)
 have hst:∀y,cF W B w w0.heap.size X y→cF W B (w'.setCell ⟨g,1,none⟩ DW) w0.heap.size X y:=fun y hy=>(hy.a5D j0 hg (by decide) (by decide) (by decide)).aJT hb' (by decide) (by decide) (by decide) 1 DW
 have hk:∀{base:Nat} {e:TypeId} {s n:Nat} {v:Value} {ys:List Value},e≠129→w'.ownsRow base e s v n ys→(w'.setCell ⟨g,1,none⟩ DW).ownsRow base e s v n ys:=fun h1 ho=>fA ho (dH w' _ _) (fun k e=>by cases e;exact eB ho hb' h1)
 obtain⟨hs,DL,PL⟩:=h.here
 obtain⟨ts,DG,rT⟩:=ht
 exact
 { gr:=⟨hb'.cS 1 DW,⟨ts,hk (by decide) (by rw[List.map_append,←dZ];exact DG),by rw[List.map_append,←dZ];exact rT⟩,h.gr.low,by simpa[World.setCell] using Nat.le_trans h.gr.size hg.size⟩
   out:=hk (by decide) (fA h.out hg (fun k hk=>kL j0 h.out (by decide) hk))
   here:=⟨hs,hk (by decide) (fA DL hg (fun k hk e=>h.hne k e hk)),PL⟩
   dS:=fun y hy=>by
    rcases List.mem_append.1 hy with hy|hy
    · exact hst y (h.dS y hy)
    rw[List.mem_singleton.1 hy];exact hst x hx
   eQ:=fun y hy=>by
    rcases List.mem_append.1 hy with hy|hy
    · exact h.eQ y hy
    rw[List.mem_singleton.1 hy];exact he
   inc:=by
    rw[List.map_append,List.pairwise_append]
    refine⟨h.inc,by simp,fun a ha b hb=>?_⟩
    obtain⟨y,hy,rfl⟩:=List.mem_map.1 ha
    simp only[List.map_cons,List.map_nil,List.mem_singleton] at hb
    subst hb
    exact hlt y hy
   hne:=fun k hk e=>by
    rcases hat with hat|hat
    · exact h.hne k hk (hat▸e)
    rw[hat] at e;injection e with e
    have:=(aF.lt h.here k hk).2
    omega
   fr:=(h.fr.grown hg (h.row.imp id fun h1=>h1)).QR 1 _
   row:=by
    rcases hat with hat|hat
    · rw[hat];exact h.row
    exact .inr fun j hj=>by rw[hat] at hj;injection hj with hj;have:=h.fr.size;omega }
theorem iD.bMF {outs':List Nat} (h:iD W B g base pv fv clos aV w0 eW dT ov.ownBlock w av ov hv N H outs bH)
 (ho:aW w' w0.heap.size fP (ints outs')) (hg:w.grownBy w' ov.ownBlock) (hat:fP.ownBlock=ov.ownBlock∨fP.ownBlock=some w.heap.size):
 iD W B g base pv fv clos aV w0 eW dT fP.ownBlock w' av fP hv N H outs' bH:=by
 obtain⟨B_,ha1,ha2⟩:=h.gr.all
 obtain⟨hs,DL,PL⟩:=h.here
 exact
 { gr:=⟨h.gr.blk.grown hg (fun e=>eB h.out h.gr.blk (by decide) e.symm),⟨B_,fA ha1 hg (fun k hk=>kL h.out ha1 (by decide) hk),ha2⟩,h.gr.low,Nat.le_trans h.gr.size hg.size⟩
   out:=ho
   here:=⟨hs,fA DL hg (fun k hk=>kL h.out DL (by decide) hk),PL⟩
   dS:=fun y hy=>by
    have h1:=(h.dS y hy).bOK h.out hg
    rcases hat with hat|hat
    · rw[hat];exact h1
    rw[hat]
    have h2:=(h.dS y hy).JG (Y:=some w.heap.size) (fun k hk=>.inr (by injection hk with hk;omega))
    obtain⟨rv,cv,lv,bv,ovv,hb,-,hc,hl,kF,eG,x1,x2,x3,x4,x5⟩:=h2.ex
    obtain⟨rv',gH,lv',mD,bP5,hb',r1,r2,r3,r4,r5,-⟩:=h1.ex
    have K7:aG w' y.b 133 (FW y rv cv lv bv ovv):=hb.grown hg (fun e=>eB h.out hb (by decide) e.symm)
    have he:FW y rv cv lv bv ovv=FW y rv' gH lv' mD bP5:=by
     have:=K7.symm.trans hb'
     injection this with this
     injection this
    simp only[FW,Array.mk.injEq,List.cons.injEq,true_and,and_true] at he
    obtain⟨rfl,rfl,rfl,rfl,rfl⟩:=he
    exact⟨⟨rv,cv,lv,bv,ovv,hb',r1,r2,r3,r4,r5,x1,x2,x3,x4,x5⟩,h1.nd,h1.low⟩
   eQ:=h.eQ
   inc:=h.inc
   hne:=h.hne
   fr:=h.fr.grown hg (.inr fun j hj=>(World.ownsRow.lt h.out j hj).1)
   row:=h.row }
theorem iD.bK3 {H':List Nat} (h:iD W B g base pv fv clos aV w0 eW dT X w av ov hv N H outs bH)
 (hh:aI2 w' w0.heap.size hv' H') (hg:w.grownBy w' hv.ownBlock) (hat:hv'.ownBlock=hv.ownBlock∨hv'.ownBlock=some w.heap.size):
 iD W B g base pv fv clos aV w0 eW dT X w' av ov hv' N H' outs bH:=by
 obtain⟨B_,ha1,ha2⟩:=h.gr.all
 obtain⟨hs,DL,PL⟩:=h.here
 exact
 { gr:=⟨h.gr.blk.grown hg (fun e=>eB DL h.gr.blk (by decide) e.symm),⟨B_,fA ha1 hg (fun k hk=>h.hne k hk),ha2⟩,h.gr.low,Nat.le_trans h.gr.size hg.size⟩
   out:=fA h.out hg (fun k hk=>kL DL h.out (by decide) hk)
   here:=hh
   dS:=fun y hy=>(h.dS y hy).a5D DL hg (by decide) (by decide) (by decide)
   eQ:=h.eQ
   inc:=h.inc
   hne:=fun k hk e=>by
    rcases hat with hat|hat
    · exact h.hne k (hat▸hk) e
    rw[hat] at hk;injection hk with hk
    have:=(aF.lt h.gr.all k e).2
    omega
   fr:=h.fr.grown hg (.inr fun j hj=>(aF.lt h.here j hj).1)
   row:=h.row }
theorem iD.call (h:iD W B g base pv fv clos aV w0 eW dT X w av ov hv N H outs bH) (hX:X=none∨X=ov.ownBlock) (hgr:sL g base pv fv clos aV w' DW ((dT++N.map (·.b))++M.map (·.b)) a3K) (hst:∀x∈M,cF W B w' w.heap.size none x) (J5:∀x∈M,x.ef=MN∧x.nw=true) (bQX:(M.map (·.b)).Pairwise (· < ·))
 (hf:dA w w' g av.ownBlock) (hr:DW.ownBlock=av.ownBlock∨∀j,DW.ownBlock=some j→w.heap.size≤j):
 iD W B g base pv fv clos aV w0 eW dT X w' DW ov hv (N++M) H outs a3K:=by
 obtain⟨B_,ha1,ha2⟩:=h.gr.all
 obtain⟨hs,DL,PL⟩:=h.here
 have hsz:=h.fr.size
 exact
 { gr:=by rw[List.map_append,←dZ];exact hgr
   out:=hf.own h.out (eB h.out h.gr.blk (by decide)) (fun k hk=>kL ha1 h.out (by decide) hk)
   here:=⟨hs,hf.own DL (eB DL h.gr.blk (by decide)) (fun k hk e=>h.hne k e hk),PL⟩
   dS:=fun y hy=>by
    rcases List.mem_append.1 hy with hy|hy
    · obtain⟨cs,hcs⟩:=(h.dS y hy).blk
      exact (h.dS y hy).SZ hf (hcs.rQ h.gr.blk (by decide)) (fun e=>eB ha1 hcs (by decide) e.symm) (fun e v n xs he ho=>⟨eB ho h.gr.blk (by rcases he with rfl|⟨rfl,-⟩<;>decide),fun k hk=>kL ha1 ho (by rcases he with rfl|⟨rfl,-⟩<;>decide) hk⟩)
    refine cF.more (cF.JG (hst y hy) fun k hk=>.inl ?_) hsz
    rcases hX with hX|hX
    · rw[hX] at hk;cases hk
    rw[hX] at hk;exact (World.ownsRow.lt h.out k hk).2
   eQ:=fun y hy=>by
    rcases List.mem_append.1 hy with hy|hy
    · exact h.eQ y hy
    exact J5 y hy
   inc:=by
    rw[List.map_append,List.pairwise_append]
    refine⟨h.inc,bQX,fun a ha b hb=>?_⟩
    obtain⟨y,hy,rfl⟩:=List.mem_map.1 ha
    obtain⟨z,hz,rfl⟩:=List.mem_map.1 hb
    exact Nat.lt_of_lt_of_le (h.dS y hy).lt (hst z hz).low
   hne:=fun k hk e=>by
    rcases hr with hr|hr
    · exact h.hne k hk (hr▸e)
    have h1:=hr k e
    have h2:=(aF.lt h.here k hk).2
    omega
   fr:=h.fr.trans hf (h.row.imp id fun h1=>h1)
   row:=by
    rcases hr with hr|hr
    · rw[hr];exact h.row
    exact .inr fun j hj=>Nat.le_trans hsz (hr j hj) }
theorem iD.cS {x x':Px} {j:Nat} {u:Value} (h:iD W B g base pv fv clos aV w0 eW dT X w av ov hv (N++x::M) H outs bH) (hx:cF W B (w.setCell ⟨x.b,j,none⟩ u) w0.heap.size X x') (he:x'.ef=MN∧x'.nw=true) (hb:x'.b=x.b):
 iD W B g base pv fv clos aV w0 eW dT X (w.setCell ⟨x.b,j,none⟩ u) av ov hv (N++x'::M) H outs bH:=by
 have kB:x∈N++x::M:=iZ _ (List.mem_cons_self ..)
 obtain⟨cs,hcs⟩:=(h.dS x kB).blk
 have hk:∀{base:Nat} {e:TypeId} {s n:Nat} {v:Value} {ys:List Value},e≠133→w.ownsRow base e s v n ys→(w.setCell ⟨x.b,j,none⟩ u).ownsRow base e s v n ys:=fun h1 ho=>fA ho (dH w _ _) (fun k e=>by cases e;exact eB ho hcs h1)
 obtain⟨B_,ha1,ha2⟩:=h.gr.all
 obtain⟨hs,DL,PL⟩:=h.here
 have hmap:(N++x'::M).map (·.b)=(N++x::M).map (·.b):=by simp[hb]
 have hp:=h.inc
 rw[List.map_append,List.map_cons,List.pairwise_append,List.pairwise_cons] at hp
 obtain⟨-,⟨V9,-⟩,hp3⟩:=hp
 exact
 { gr:=by
    rw[hmap]
    exact⟨h.gr.blk.far (p:=⟨x.b,j,none⟩) (h.gr.blk.rQ hcs (by decide)) u,⟨B_,hk (by decide) ha1,ha2⟩,h.gr.low,by simpa[World.setCell] using h.gr.size⟩
   out:=hk (by decide) h.out
   here:=⟨hs,hk (by decide) DL,PL⟩
   dS:=fun y hy=>by
    rcases List.mem_append.1 hy with hy|hy
    · exact (h.dS y (rN _ hy)).far hcs (by have:=hp3 y.b (List.mem_map_of_mem hy) x.b (List.mem_cons_self ..);omega) j u
    rcases List.mem_cons.1 hy with rfl|hy
    · exact hx
    exact (h.dS y (iZ _ (kS _ hy))).far hcs (by have:=V9 y.b (List.mem_map_of_mem hy);omega) j u
   eQ:=fun y hy=>by
    rcases List.mem_append.1 hy with hy|hy
    · exact h.eQ y (rN _ hy)
    rcases List.mem_cons.1 hy with rfl|hy
    · exact he
    exact h.eQ y (iZ _ (kS _ hy))
   inc:=by rw[hmap];exact h.inc
   hne:=h.hne
   fr:=h.fr.setRow (.inr (h.dS x kB).low) j u
   row:=h.row }
theorem iD.free (h:iD W B g base pv fv clos aV w0 eW dT X w av ov hv N H outs bH):iD W B g base pv fv clos aV w0 eW dT none w av ov hv N H outs bH:=
 ⟨h.gr,h.out,h.here,fun x hx=>(h.dS x hx).free,h.eQ,h.inc,h.hne,h.fr,h.row⟩
theorem sL.aQT {bs:List Nat} (h:sL g base pv fv clos aV w av bs bH) (u:Nat):sL g base pv fv clos aV (w.setCell ⟨g,2,none⟩ (.int .i64 (u:Nat))) av bs u:=
 ⟨h.blk.cS 2 _,aF.kept h.all (dH w _ _) (fun k e=>by cases e;exact aF.ne h.all h.blk (by decide)),h.low,by simpa[World.setCell] using h.size⟩
theorem iD.unit (h:iD W B g base pv fv clos aV w0 eW dT X w av ov hv N H outs bH) (u:Nat):iD W B g base pv fv clos aV w0 eW dT X (w.setCell ⟨g,2,none⟩ (.int .i64 (u:Nat))) av ov hv N H outs u where
 gr:=h.gr.aQT u
 out:=fA h.out (dH w _ _) (fun k e=>by cases e;exact eB h.out h.gr.blk (by decide))
 here:=aF.kept h.here (dH w _ _) (fun k e=>by cases e;exact aF.ne h.here h.gr.blk (by decide))
 dS:=fun x hx=>(h.dS x hx).aJT h.gr.blk (by decide) (by decide) (by decide) 2 _
 eQ:=h.eQ
 inc:=h.inc
 hne:=h.hne
 fr:=h.fr.QR 2 _
 row:=h.row
end
def gN:List (Px×List Px)→List Px
 | []=>[]
 |y::G=>y.1::(y.2++gN G)
def EM (X:List Nat):List (Px×List Px)→List Sm
 | []=>[]
 |y::G=>{ y.1.sm with eP:=X }::(y.2.map (·.sm)++EM X G)
theorem X0:∀G G',gN (G++G')=gN G++gN G'
 | [],_=>rfl
 |y::G,G'=>by simp only[List.cons_append,gN,X0 G,dZ]
theorem a0T (X:List Nat):∀G G',EM X (G++G')=EM X G++EM X G'
 | [],_=>rfl
 |y::G,G'=>by simp only[List.cons_append,EM,a0T X G,dZ]
def NV (X:List Nat) (y:Px×List Px):Px×List Px:=(⟨y.1.b,y.1.ad,{ y.1.sm with eP:=X },y.1.ef,y.1.nw⟩,y.2)
theorem a1_ (X:List Nat):∀G,(gN (G.map (NV X))).map (·.sm)=EM X G
 | []=>rfl
 |y::G=>by simp only[List.map_cons,gN,EM,List.map_append,a1_ X G,NV]
end Sl
end
section
open Go.RowKit
open Sl
open Go.Lib (hid)
namespace Sl
open Fo
def E5 (p:Pl) (X:List Nat):Pl:=⟨p.fn,p.unit,p.parent,p.after,p.cD,p.owner,p.part,X⟩
theorem bJB (F k:Nat) (t:aA) (n:Int) (s:Fo) (ps:List aA) (b e r:Fo) (num fns i:Nat) (p:Pl):∃fo mU el kU ct,∀X,recs F (.cons k t n s ps b e r) false num fns i (E5 p X)=
 ⟨⟨k,t,n,s,ps,b,e⟩,p.fn,p.unit,p.parent,fo,p.cD,mU,el,i,p.owner,p.part,X,cJ b (num+1+aD s true),cJ e (num+1+aD s true+aD b false)⟩::
   (recs F s true (num+1) fns 0 ⟨p.fn,p.unit,(num:Nat),-1,-1,-1,0,[]⟩++
   (recs F b false (num+1+aD s true) (fns+aK s true) 0 ⟨p.fn,p.unit,(num:Nat),kU,ct,(num:Nat),1,cJ b (num+1+aD s true)⟩++
   (recs F e false (num+1+aD s true+aD b false) (fns+aK s true+aK b false) 0 ⟨p.fn,p.unit,(num:Nat),fo,p.cD,(num:Nat),2,cJ e (num+1+aD s true+aD b false)⟩++
   recs F r false (num+1+aD s true+aD b false+aD e false) (fns+aK s true+aK b false+aK e false) (i+1) (E5 p X)))):=
 ⟨(if isNil r then p.after else ((num+1+aD s true+aD b false+aD e false:Nat):Int)),(if isNil b then (if k=18 then ((num:Nat):Int) else (if isNil r then p.after else ((num+1+aD s true+aD b false+aD e false:Nat):Int))) else ((num+1+aD s true:Nat):Int)),(if isNil e then (if isNil r then p.after else ((num+1+aD s true+aD b false+aD e false:Nat):Int)) else ((num+1+aD s true+aD b false:Nat):Int)),(if k=18 then ((num:Nat):Int) else (if isNil r then p.after else ((num+1+aD s true+aD b false+aD e false:Nat):Int))),(if k=21 then (if isNil e then (if isNil r then p.after else ((num+1+aD s true+aD b false+aD e false:Nat):Int)) else ((num+1+aD s true+aD b false:Nat):Int)) else p.cD),fun X=>by rw[recs];rfl⟩
theorem bK0 (F:Nat) {k:Nat} (h:k=10) (t:aA) (n:Int) (s:Fo) (ps:List aA) (b e r:Fo) (num fns i:Nat) (p:Pl):recs F (.cons k t n s ps b e r) true num fns i p=
 recs F s true num fns 0 p++(recs F b false (num+aD s true) (fns+aK s true+1) 0 (E5 ⟨p.fn,F+(fns+aK s true),p.parent,-1,-1,-1,0,[]⟩ (cJ b (num+aD s true)))++recs F r true (num+aD s true+aD b false) (fns+aK s true+(1+aK b false)) (i+1) p):=by
 rw[recs];simp only[if_pos h];rfl
theorem bMD (F:Nat) {k:Nat} (h:¬k=10) (t:aA) (n:Int) (s:Fo) (ps:List aA) (b e r:Fo) (num fns i:Nat) (p:Pl):recs F (.cons k t n s ps b e r) true num fns i p=
 recs F s true num fns 0 p++recs F r true (num+aD s true) (fns+aK s true) (i+1) p:=by
 rw[recs];simp only[if_neg h,List.nil_append,Nat.add_zero]
end Sl
theorem a17:(Tryz.prog.info? 130).map (fun i=>(i.zero.map fun z=>z.cells.size,i.size,i.bytes))=some (some 1,1,8):=by kernel_rfl
theorem aMI {w:World} {ops:Array Oper} {rest:List Oper} {o:Oper} {a:Act} {Q:Exit→Act→World→Prop} (hgd:o.guard=none) (s x:Operand)
 (ho:o.op=.call { callee:=.builtin .append,args:=#[s,x],argTypes:=#[39,39] })
 (base:Nat) (v:Value) (l:List Int) (y:Int) (hs:a.eval s=v) (hown:aW w base v l)
 (B:Nat) (A:Option Addr) (c:Nat) (hx:a.eval x=.slice A 1 c) (hr:Go.Proofs.YtdlndhbkcgmkkaaGreatDoor.Reads w B 1 A 1 [.int .i64 y])
 (hlen:l.length≤1000000000) (hbase:base≤w.heap.size)
 (h:∀v' w',aW w' base v' (l++[y])→w.grownBy w' v.ownBlock→(v'.ownBlock=v.ownBlock∨v'.ownBlock=some w.heap.size)→wpList Tryz.prog ops Q rest (a.put o.dst v') w'):wpList Tryz.prog ops Q (o::rest) a w:=by
 obtain⟨i,kD,hz0,hsz,hby⟩:=info_parts a0P
 refine aXN w hgd s x 39 ho base 3 i _ 1 8 Tryz.underlying39 kD hz0 hsz hby rfl (by decide) v l.length _ hs hown B A 1 c _ hx hr (by simp[Value.oneCell']) (by unfold maxLen;omega) (by omega) hbase (fun v' w' h3 h4 h5=>h v' w' ?_ h4 h5)
 unfold aW
 simpa using h3
def a5J (W:World) (B g base:Nat) (pv fv:Value) (clos:Bool) (aV:Nat) (w0:World) (r8:Value) (dT:List Nat) (R:List Sm) (bH:Nat) (w':World):Prop:=
 ∃(av:Value) (N:List Px),sL g base pv fv clos aV w' av (dT++N.map (·.b)) bH∧N.map (·.sm)=R∧(∀x∈N,cF W B w' w0.heap.size none x)∧(∀x∈N,x.ef=MN∧x.nw=true)∧(N.map (·.b)).Pairwise (· < ·)∧dA w0 w' g r8.ownBlock∧(av.ownBlock=r8.ownBlock∨∀j,av.ownBlock=some j→w0.heap.size≤j)
def aJX (W:World) (B g base F:Nat) (pv fv:Value) (clos:Bool) (c:Nat):Prop:=∀(l:Fo) (lv:Value) (num f0:Nat) (p:Pl) (r8:Value) (dT:List Nat) (w0:World),
 l.cnt≤c→cM W B lv l→Below B W w0→sL g base pv fv clos p.fn w0 r8 dT (F+f0)→dT.length=num→num+l.cnt≤100000→f0+l.cnt≤100000→
 Calls Tryz.prog 115 #[.pointer (some ⟨g,0,none⟩),lv,.int .i64 (p.unit:Nat),.int .i64 p.parent,.int .i64 p.owner,.int .i64 (p.part:Nat)] w0 fun e w'=>
  ∃v,e=.returned v∧aW w' w0.heap.size v (ints (Fo.cJ l num))∧a5J W B g base pv fv clos p.fn w0 r8 dT (recs F l false num f0 0 (E5 p (Fo.cJ l num))) (F+(f0+Fo.aK l false)) w'
def aJY (W:World) (B g base F:Nat) (pv fv:Value) (clos:Bool) (c:Nat):Prop:=∀(l:Fo) (lv:Value) (num f0 i0:Nat) (p:Pl) (r8:Value) (dT:List Nat) (w0:World),
 l.cnt≤c→cM W B lv l→Below B W w0→sL g base pv fv clos p.fn w0 r8 dT (F+f0)→dT.length=num→num+l.cnt≤100000→f0+l.cnt≤100000→
 Calls Tryz.prog 161 #[.pointer (some ⟨g,0,none⟩),lv,.int .i64 p.parent] w0 fun e w'=>
  e=.returned (.tuple #[])∧a5J W B g base pv fv clos p.fn w0 r8 dT (recs F l true num f0 i0 p) (F+(f0+Fo.aK l true)) w'
theorem aOR {g base:Nat} {pv fv:Value} {clos:Bool} {aV:Nat} {w:World} {av:Value} {bs:List Nat} {bH num:Nat} (h:sL g base pv fv clos aV w av bs bH) (hn:bs.length=num):∃A c,av=.slice A num c∧num≤c:=by
 obtain⟨A,c,news,h1,h2,-⟩:=aF.src h.all
 rw[hn] at h1 h2
 exact⟨A,c,h1,h2⟩
theorem I1 {g base:Nat} {pv fv:Value} {clos:Bool} {aV:Nat} {w:World} {av:Value} {bs:List Nat} {bH:Nat} (h:sL g base pv fv clos aV w av bs bH):
 w.cell? ⟨g,0,none⟩=some pv∧w.cell? ⟨g,1,none⟩=some av∧w.cell? ⟨g,2,none⟩=some (.int .i64 (bH:Nat))∧w.cell? ⟨g,3,none⟩=some fv∧w.cell? ⟨g,4,none⟩=some (.bool clos)∧w.cell? ⟨g,5,none⟩=some (.int .i64 (aV:Nat))∧∀j,w.frozen? ⟨g,j,none⟩=false:=
 ⟨h.blk.cell 0,h.blk.cell 1,h.blk.cell 2,h.blk.cell 3,h.blk.cell 4,h.blk.cell 5,fun j=>h.blk.frozen j⟩
theorem bGH {W:World} {B g base F:Nat} {pv fv:Value} {clos:Bool} (cN:B≤g) (hF:F≤100000) (c:Nat) (hwk:∀c',c'<c→aJX W B g base F pv fv clos c') (cV:∀c',c'<c→aJY W B g base F pv fv clos c'):aJY W B g base F pv fv clos c:=by
 intro l lv fM f0 i0 p r8 dT w0 hc hl hW hgr jR lF MH
 obtain⟨A,cap,rfl,cB⟩:=hl.form
 have HL:=hid hl
 have HK:=hid hwk
 have HI:=hid cV
 have fQ:=hid hW
 have TP:=hid hgr
 have qO:=hgr.size
 have z7:=hgr.low
 have qM:=Fo.k7 l
 have eA:=hid (aF.lt hgr.all)
 have Hbs:=hid jR
 obtain⟨cE,punit,dW,fR,dU,fJ,fK,iG⟩:=p
 dsimp only at *
 clear hl hwk cV hW hgr jR
 go_enter Tryz.func161,Tryz.ntmps161
 go_wp2
 go_loopg [9] l.len (fun q i wr=>∃(k num f:Nat) (av:Value) (N:List Px),k≤l.len∧q=l.len-k∧i=.int .i64 k∧
  Hid (recs F l true fM f0 i0 ⟨cE,punit,dW,fR,dU,fJ,fK,iG⟩=N.map (·.sm)++recs F (Fo.drop k l) true num f (i0+k) ⟨cE,punit,dW,fR,dU,fJ,fK,iG⟩)∧Hid (dT.length+N.length=num)∧Hid (num+(Fo.drop k l).cnt≤100000∧f+(Fo.drop k l).cnt≤100000∧f+Fo.aK (Fo.drop k l) true=f0+Fo.aK l true)∧
  Hid (iD W B g base pv fv clos cE w0 r8.ownBlock dT none wr av (.slice none 0 0) (.slice none 0 0) N [] [] (F+f)))
 case atStart=>exact⟨0,fM,f0,r8,[],Nat.zero_le _,rfl,rfl,hid (by rw[Fo.drop];rfl),hid (by simpa using Hbs.out),hid (by rw[Fo.drop];exact⟨lF,MH,rfl⟩),hid ⟨by simpa using TP.out,World.ownsRow_nil _ _ _ _,aF.nil _ _ rfl rfl,fun x hx=>by (cases hx),fun x hx=>by (cases hx),List.Pairwise.nil,fun k hk=>by (simp[Value.ownBlock] at hk),dA.refl _ _ _,.inl rfl⟩⟩
 obtain⟨k,num,f,av,N,hk,hq,rfl,he,sZ,hsz,hwr⟩:=hrel
 have Hq:=hid hq
 clear hq
 obtain⟨wo,rfl⟩:∃x:World,x=wr:=⟨_,rfl⟩
 have hz:=hwr.out.fr.size
 have pD:=hid (fQ.out.trans (hwr.out.fr.toBelow cN (fun j hj=>by have:=(eA.out j hj).1;omega) (by omega)))
 by_cases hlt:k<l.len
 rotate_left
 · have HE:=hid (show recs F l true fM f0 i0 ⟨cE,punit,dW,fR,dU,fJ,fK,iG⟩=N.map (·.sm) by rw[he.out,show k=l.len by omega,gB,recs,List.append_nil])
   have z_:F+f=F+(f0+Fo.aK l true):=by
    have:=hsz.out.2.2
    rw[show k=l.len by omega,gB,Fo.aK] at this
    omega
   have JI:=hwr.out
   rw[z_] at JI
   have HR:=hid JI
   clear he JI z_ hwr hsz
   go_wp2
   go_end0
   exact⟨rfl,av,N,HR.out.gr,HE.out.symm,HR.out.dS,HR.out.eQ,HR.out.inc,HR.out.fr,HR.out.row⟩
 obtain⟨a,kk,t,nn,s,ps,b,e,r,sv,l7,bv,ev,rfl,aI,hno⟩:=HL.out.at_ hlt
 have dL:=kN aI
 obtain⟨As,cs,rfl,hcs⟩:=hno.vals.subs.form
 obtain⟨Ab,cb,rfl,hcb⟩:=hno.vals.body.form
 have HN:=hid hno.vals
 have hab:(a.add (k*7)).block<B:=by rw[f_];exact hno.lt
 obtain⟨d0,-,-,d3,-,d5,-⟩:=hno.cells
 have HC:=hid (fun (X:World) (hX:Below B W X)=>And.intro ((hX.cell hab).trans d0) (And.intro ((hX.cell (p:=⟨(a.add (k*7)).block,(a.add (k*7)).off+3,none⟩) hab).trans d3) ((hX.cell (p:=⟨(a.add (k*7)).block,(a.add (k*7)).off+5,none⟩) hab).trans d5)))
 have jI:=hid (eD aI)
 have U9:=hsz.out
 rw[aI,Fo.cnt,Fo.aK] at U9
 have HE:=hid (he.out.trans (by rw[aI]))
 have G5:=sZ.out
 clear aI hno d0 d3 d5 he hsz
 have fH:=hid (HI.out s.cnt (by omega) s (.slice As s.len cs) num f 0 ⟨cE,punit,dW,fR,dU,fJ,fK,iG⟩ av (dT++N.map (·.b)) wo (aC _) HN.out.subs pD.out hwr.out.gr (by rw[bL,cL];exact G5) (by omega) (by omega))
 obtain⟨-,c3,-⟩:=HC.out wo pD.out
 have bQK:=Fo.jX s true
 have bQJ:=nU s true
 have bRN:=Fo.jX b false
 have bRM:=nU b false
 go_wp2_with fail
 refine fH.out.mono ?_
 rintro e1 w1 ⟨rfl,av1,N1,hg1,G7,hs1,he1,kD,AA,hr1⟩
 have gZ:=hid (hwr.out.call (.inl rfl) hg1 hs1 he1 kD AA hr1)
 have aJS:N1.length=Fo.aD s true:=by rw[←eU F s true num f 0 ⟨cE,punit,dW,fR,dU,fJ,fK,iG⟩,←G7,cL]
 have KG:=hid G7
 clear fH hwr c3 hg1 G7 hs1 he1 kD AA hr1 pD
 have hz1:=gZ.out.fr.size
 have a8I:=hid (fQ.out.trans (gZ.out.fr.toBelow cN (fun j hj=>by have:=(eA.out j hj).1;omega) (by omega)))
 obtain⟨c0,-,-⟩:=HC.out w1 a8I.out
 by_cases h10:kk=10
 rotate_left
 · have bM:=hid (HE.out.trans (by rw[bMD F h10,←KG.out,←dZ,←List.map_append]))
   have hb1:((kk:Int)==10)=false:=aP (by omega)
   rw[if_neg h10] at U9
   clear HE h10
   have hR:=gZ.out
   go_wp2
   go_roundg (l.len-(k+1))
   case rel=>exact⟨k+1,num+Fo.aD s true,f+Fo.aK s true,av1,N++N1,hlt,rfl,by go_num,hid (by rw[jI.out,show i0+(k+1)=i0+k+1 by omega];exact bM.out),hid (by rw[bL,aJS];omega),hid (by rw[jI.out];omega),gZ⟩
   rw[Hq.out];omega
 have bM:=hid (HE.out.trans (by rw[bK0 F h10,←KG.out]))
 have hb1:((kk:Int)==10)=true:=beq_iff_eq.2 (by omega)
 rw[if_pos h10] at U9
 clear HE h10
 obtain⟨U,hU⟩:∃U,U=F+(f+Fo.aK s true):=⟨_,rfl⟩
 rw[←hU] at gZ
 have HU:=hid hU
 have hUb:U≤300000:=by omega
 clear hU
 obtain⟨-,-,g2,-,-,-,gf⟩:=I1 gZ.out.gr
 have f2:=gf 2
 clear gf
 go_upto_region 6 with fail
 have kI:=hid (show iD W B g base pv fv clos cE w0 r8.ownBlock dT none (w1.setCell ⟨g,2,none⟩ (.int .i64 ((U:Int)+1))) av1 (.slice none 0 0) (.slice none 0 0) (N++N1) [] [] (U+1) from gZ.out.unit (U+1))
 generalize w1.setCell ⟨g,2,none⟩ (.int .i64 ((U:Int)+1))=w2 at *
 clear g2 f2 gZ c0 a8I
 have hz2:=kI.out.fr.size
 have aSM:=hid (fQ.out.trans (kI.out.fr.toBelow cN (fun j hj=>by have:=(eA.out j hj).1;omega) (by omega)))
 obtain⟨-,-,g2,-,-,-,-⟩:=I1 kI.out.gr
 obtain⟨-,-,c5⟩:=HC.out w2 aSM.out
 have g2':w2.cell? ⟨g,2,none⟩=some (.int .i64 ((U:Int)+1)):=g2
 clear g2
 have iM:=hid (HK.out b.cnt (by omega) b (.slice Ab b.len cb) (num+Fo.aD s true) (f+Fo.aK s true+1) ⟨cE,U,dW,-1,-1,-1,0,[]⟩ av1 (dT++(N++N1).map (·.b)) w2.drew (aC _) HN.out.body aSM.out.drew (by rw[show F+(f+Fo.aK s true+1)=U+1 by rw[HU.out];omega];exact kI.out.gr.below ((Below.refl w2.heap.size w2).drew)) (by rw[bL,cL,bL];omega) (by omega) (by omega))
 go_still_tail 12,(by kernel_rfl)
 change wpList _ _ _ _ _ w2.drew
 go_wp2_with fail
 refine iM.out.mono ?_
 rintro e2 w3 ⟨v3,rfl,-,av3,N2,hg3,G6,hs3,he3,PK,hf3,hr3⟩
 have TE:=(kI.out.below ((Below.refl w2.heap.size w2).drew)).call (.inl rfl) hg3 hs3 he3 PK hf3 hr3
 rw[show F+(f+Fo.aK s true+1+Fo.aK b false)=F+(f+Fo.aK s true+(1+Fo.aK b false)) by omega] at TE
 have TE:=hid TE
 have aSG:N2.length=Fo.aD b false:=by rw[←eU F b false (num+Fo.aD s true) (f+Fo.aK s true+1) 0 (E5 ⟨cE,U,dW,-1,-1,-1,0,[]⟩ (Fo.cJ b (num+Fo.aD s true))),←G6,cL]
 have pK:=hid (bM.out.trans (by rw[←HU.out,←G6,←dZ,←List.map_append,←dZ,←List.map_append]))
 clear iM kI hg3 G6 hs3 he3 PK hf3 hr3 aSM bM c5 g2'
 go_wp2
 go_roundg (l.len-(k+1))
 case rel=>exact⟨k+1,num+Fo.aD s true+Fo.aD b false,f+Fo.aK s true+(1+Fo.aK b false),av3,N++N1++N2,hlt,rfl,by go_num,hid (by rw[jI.out,show i0+(k+1)=i0+k+1 by omega];exact pK.out),hid (by rw[bL,bL,aJS,aSG];omega),hid (by rw[jI.out];omega),TE⟩
 rw[Hq.out];omega
structure sM (base g:Nat) (w:World) (nv:Value) (names:List aA):Prop where
 blk:aG w g 272 #[nv]
 row:aM w base nv names
 low:g<base
 size:base≤w.heap.size
section
variable {base g:Nat} {w w':World} {nv:Value} {names:List aA}
theorem sM.below (h:sM base g w nv names) (hb:Below w.heap.size w w'):sM base g w' nv names where
 blk:=h.blk.below hb h.blk.lt
 row:=aF.below h.row hb (aC _)
 low:=h.low
 size:=Nat.le_trans h.size hb.size
theorem sM.push {nv':Value} {names':List aA} (h:sM base g w nv names) (hr:aM w' base nv' names') (hg:w.grownBy w' nv.ownBlock):sM base g (w'.setCell ⟨g,0,none⟩ nv') nv' names' where
 blk:=(h.blk.grown hg (fun e=>h.row.ne h.blk (by decide) e.symm)).cS 0 nv'
 row:=aF.kept hr (dH w' _ _) (fun k e=>by cases e;exact hr.ne (h.blk.grown hg (fun e=>h.row.ne h.blk (by decide) e.symm)) (by decide))
 low:=h.low
 size:=by simpa[World.setCell] using Nat.le_trans h.size hg.size
end
def aPP (base g:Nat) (w:World) (names:List aA) (e:Ending) (w':World):Prop:=e=.returned (.tuple #[])∧∃nv,sM base g w' nv names∧Below g w w'
theorem aOJ (base NZ g:Nat) (nv lv:Value) (names l:List aA) (w:World) (h:sM base g w nv names) (hl:aM w NZ lv l) (hap:fS nv lv) (hlen:names.length+l.length≤900000000):
 Calls Tryz.prog 254 #[.pointer (some ⟨g,0,none⟩),lv] w (aPP base g w (l.foldl dP names)):=by
 have HL:=hid hl
 have H:=hid h
 have HAp:=hid hap
 obtain⟨A,c,n1,rfl,hc,-⟩:=aF.src hl
 clear hl h hap
 go_enter Tryz.func254,Tryz.ntmps254
 go_wp2
 go_loopg [8] l.length (fun q i wr=>∃(k:Nat) (nu:Value) (acc:List aA),k≤l.length∧q=l.length-k∧i=.int .i64 k∧Hid ((l.take k).foldl dP names=acc)∧acc.length≤names.length+k∧Hid (sM base g wr nu acc)∧Hid (aM wr NZ (.slice A l.length c) l)∧Hid (fS nu (.slice A l.length c))∧Hid (Below g w wr))
 case atStart=>exact⟨0,nv,names,Nat.zero_le _,rfl,rfl,hid (by rw[List.take_zero];rfl),aC _,H,HL,HAp,hid (Below.refl _ _)⟩
 obtain⟨k,nu,acc,hk,hq,rfl,he,lT,jB,rW,hap,hb⟩:=hrel
 have Hq:=hid hq
 clear hq H HL HAp
 obtain⟨wo,rfl⟩:∃x:World,x=wr:=⟨_,rfl⟩
 have hz:=hb.out.size
 have lH:=jB.out.size
 by_cases hlt:k<l.length
 rotate_left
 · have HE:=hid (show l.foldl dP names=acc by rw[←he.out,List.take_of_length_le (by omega)])
   clear he
   go_wp2
   go_end0
   exact⟨rfl,nu,by rw[HE.out];exact jB.out,hb.out⟩
 obtain⟨ap,bRP,-,V8⟩:=FV (show Reads wo wo.heap.size 1 A l.length (l.map .string) by
  obtain⟨A',c',e',-,kC⟩:=rW.out.toV
  cases e'
  exact kC) hlt
 subst bRP
 have HT:=hid (show (l.take (k+1)).foldl dP names=dP acc (l.getD k ByteArray.empty) by
  rw[List.take_succ_eq_append_getElem hlt,List.foldl_append,he.out,dR,bX hlt]
  rfl)
 generalize l.getD k ByteArray.empty=x at *
 have C1:=hid (TV nu acc x wo.heap.size wo jB.out.row.toV (by omega))
 have g0:=jB.out.blk.cell 0
 have gf:=jB.out.blk.frozen 0
 simp at g0
 cases h1:inL acc x with
 |true=>
  have sH:=hid (show (l.take (k+1)).foldl dP names=acc by rw[HT.out];unfold dP;rw[if_pos h1])
  rw[h1] at C1
  clear h1 HT he
  go_wp2_with fail
  refine C1.out.mono ?_
  rintro e1 w' ⟨rfl,rfl⟩
  go_wp2
  go_roundg (l.length-(k+1))
  case rel=>exact⟨k+1,nu,acc,hlt,rfl,by go_num,sH,by omega,jB,rW,hap,hb⟩
  rw[Hq.out];omega
 |false=>
  have sH:=hid (show (l.take (k+1)).foldl dP names=acc++[x] by rw[HT.out];unfold dP;rw[if_neg (by simp[h1])])
  rw[h1] at C1
  clear h1 HT he
  have eN:=hid (jB.out.below ((Below.refl wo.heap.size wo).alloc (aC _) (.cells #[.string x] 9)))
  have HLs:=hid (aF.alloc rW.out (.cells #[.string x] 9))
  have D1:=hid (hb.out.alloc (by have:=jB.out.low;omega) (.cells #[.string x] 9))
  have pX:(acc++[x]).length≤names.length+(k+1):=by simp;omega
  go_wp2_with fail
  refine C1.out.mono ?_
  rintro e1 w' ⟨rfl,rfl⟩
  clear jB rW C1
  go_wp2_with (at_builtin;go_must (refine BA rfl _ _ rfl base _ acc rfl eN.out.row _ _ 1 _ [x] _ rfl rfl uD rfl (by omega) (by simp;omega) ?_))
  intro v5 w5 aZ aU kR
  obtain⟨ac5,ha5⟩:∃z,z=acc++[x]:=⟨_,rfl⟩
  rw[←ha5] at aZ pX
  have A0:=hid (show (l.take (k+1)).foldl dP names=ac5 by rw[sH.out,ha5])
  clear ha5 sH
  obtain⟨A5,c5,n5,rfl,-⟩:=aF.src aZ
  have cK:=hid (eN.out.push aZ aU)
  have hgb:=eN.out.low
  have qO:=eN.out.size
  have hne5:=aZ.ne (eN.out.blk.grown aU (fun e=>eN.out.row.ne eN.out.blk (by decide) e.symm)) (by decide)
  have g5:=(eN.out.blk.grown aU (fun e=>eN.out.row.ne eN.out.blk (by decide) e.symm)).cell 0
  simp at g5
  have f5:=(eN.out.blk.grown aU (fun e=>eN.out.row.ne eN.out.blk (by decide) e.symm)).frozen 0
  have HM5:=hid (show aM (w5.setCell ⟨g,0,none⟩ (.slice A5 ac5.length c5)) NZ _ l from aF.kept (show aM w5 NZ _ l from j4.keep aU HLs.out hap.out) (dH w5 _ _) (fun k e=>by cases e;exact (show aM w5 NZ _ l from j4.keep aU HLs.out hap.out).ne (eN.out.blk.grown aU (fun e=>eN.out.row.ne eN.out.blk (by decide) e.symm)) (by decide)))
  have iN:=hid (BB hap.out HLs.out (show (Value.slice A5 ac5.length c5).ownBlock=nu.ownBlock∨(Value.slice A5 ac5.length c5).ownBlock=some (wo.alloc (.cells #[.string x] 9)).heap.size by simpa using kR))
  have iT:=hid (uF (aF.grown (aF.more eN.out.row (Nat.le_of_lt hgb)) D1.out aU (by omega)) 0 (.slice A5 ac5.length c5))
  clear aZ aU kR eN HLs hap hb D1
  go_wp2
  go_roundg (l.length-(k+1))
  case rel=>exact⟨k+1,_,_,hlt,rfl,by go_num,A0,pX,cK,HM5,iN,iT⟩
  rw[Hq.out];omega
end
end Go.Proofs.YtdlndhbkcgmkkaaGreatDoor
