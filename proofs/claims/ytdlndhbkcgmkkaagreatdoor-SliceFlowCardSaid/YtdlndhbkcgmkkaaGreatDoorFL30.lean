/-
 Part 30 of 35 of a proof about the given program: facts on which the last part stands.
-/
import Derived.Test.YtdlndhbkcgmkkaaGreatDoorFL21
import Derived.Test.YtdlndhbkcgmkkaaGreatDoorProg
import Derived.Shelf.Small.Bits
import Derived.Shelf.Strconv.Itoa0
import Derived.Shelf.Strconv.Itoa1
import Derived.Shelf.LaysM
import Derived.Shelf.Strconv.Itoa2
import Derived.Shelf.Strconv.Itoa3
import Derived.Shelf.Strconv.ParseIntEmpty
import Derived.Shelf.Strconv.Clone
import Derived.Shelf.Strconv.Lower
import Derived.Shelf.Strconv.ParseUint10Empty
import Derived.Shelf.Strconv.ParseUintEmpty
import Derived.Shelf.Sort.Plain
import Derived.Shelf.Strings.Prefix
import Derived.Shelf.Slices.Turned
import Derived.Ground.Names2Prog
import Derived.Shelf.Slices.Clone
import Derived.Shelf.Slices.CompactI
import Derived.Shelf.Slices.SearchI
import Derived.Shelf.Slices.Cells
import Derived.Shelf.Slices.In.SortNone
import Derived.Ground.SlgnProg
import Derived.Shelf.SlicesE.Clone
import Derived.ScopeJumps
set_option maxHeartbeats 12800000
set_option linter.unusedVariables false
set_option linter.unusedSimpArgs false
set_option maxRecDepth 100000
namespace Go.Proofs
section
open Go.Shelf
def Tryz.bGD:Go.Shelf.Ren:=⟨fun|189=>137|125=>140|257=>182|128=>191|129=>192|294=>223|295=>224|296=>225|297=>226|298=>227|299=>228|216=>229|300=>230|301=>231|328=>259|329=>233|330=>234|331=>260|332=>261|215=>262|343=>276|n=>n,fun|28=>39|3=>3|46=>207|0=>0|51=>253|53=>255|4=>4|183=>247|182=>246|131=>173|5=>5|9=>9|218=>287|222=>291|228=>304|229=>101|n=>n,fun|n=>n⟩
theorem Tryz.a2S:Go.Proofs.Lays.n189 Tryz.prog Tryz.bGD:={
 mixed:=by kernel_rfl
 f125:=Tryz.func140.trans (congrArg some (by kernel_rfl))
 f128:=Tryz.func191.trans (congrArg some (by kernel_rfl))
 f129:=Tryz.func192.trans (congrArg some (by kernel_rfl))
 f189:=Tryz.func137.trans (congrArg some (by kernel_rfl))
 f215:=Tryz.func262.trans (congrArg some (by kernel_rfl))
 f216:=Tryz.func229.trans (congrArg some (by kernel_rfl))
 f257:=Tryz.func182.trans (congrArg some (by kernel_rfl))
 f294:=Tryz.func223.trans (congrArg some (by kernel_rfl))
 f295:=Tryz.func224.trans (congrArg some (by kernel_rfl))
 f296:=Tryz.func225.trans (congrArg some (by kernel_rfl))
 f297:=Tryz.func226.trans (congrArg some (by kernel_rfl))
 f298:=Tryz.func227.trans (congrArg some (by kernel_rfl))
 f299:=Tryz.func228.trans (congrArg some (by kernel_rfl))
 f300:=Tryz.func230.trans (congrArg some (by kernel_rfl))
 f301:=Tryz.func231.trans (congrArg some (by kernel_rfl))
 f328:=Tryz.func259.trans (congrArg some (by kernel_rfl))
 f329:=Tryz.func233.trans (congrArg some (by kernel_rfl))
 f330:=Tryz.func234.trans (congrArg some (by kernel_rfl))
 f331:=Tryz.func260.trans (congrArg some (by kernel_rfl))
 f332:=Tryz.func261.trans (congrArg some (by kernel_rfl))
 f343:=Tryz.func276.trans (congrArg some (by kernel_rfl))
 t0:=Tryz.underlying0
 a0:=Tryz.isAgg0
 z0:=Tryz.sizeOf0
 v0:=Tryz.zeroValue0
 t3:=Tryz.underlying3
 a3:=Tryz.isAgg3
 z3:=Tryz.sizeOf3
 v3:=Tryz.zeroValue3
 t4:=Tryz.underlying4
 a4:=Tryz.isAgg4
 z4:=Tryz.sizeOf4
 v4:=Tryz.zeroValue4
 t5:=Tryz.underlying5
 a5:=Tryz.isAgg5
 z5:=Tryz.sizeOf5
 v5:=Tryz.zeroValue5
 t9:=Tryz.underlying9
 a9:=Tryz.isAgg9
 z9:=Tryz.sizeOf9
 v9:=Tryz.zeroValue9
 t28:=Tryz.underlying39
 a28:=Tryz.isAgg39
 z28:=Tryz.sizeOf39
 v28:=Tryz.zeroValue39
 t46:=Tryz.underlying207
 a46:=Tryz.isAgg207
 z46:=Tryz.sizeOf207
 v46:=Tryz.zeroValue207
 t51:=Tryz.underlying253
 a51:=Tryz.isAgg253
 z51:=Tryz.sizeOf253
 v51:=Tryz.zeroValue253
 t53:=Tryz.underlying255
 a53:=Tryz.isAgg255
 z53:=Tryz.sizeOf255
 v53:=Tryz.zeroValue255
 t131:=Tryz.underlying173
 a131:=Tryz.isAgg173
 z131:=Tryz.sizeOf173
 v131:=Tryz.zeroValue173
 t182:=Tryz.underlying246
 a182:=Tryz.isAgg246
 z182:=Tryz.sizeOf246
 v182:=Tryz.zeroValue246
 t183:=Tryz.underlying247
 a183:=Tryz.isAgg247
 z183:=Tryz.sizeOf247
 v183:=Tryz.zeroValue247
 t218:=Tryz.underlying287
 a218:=Tryz.isAgg287
 z218:=Tryz.sizeOf287
 v218:=Tryz.zeroValue287
 t222:=Tryz.underlying291
 a222:=Tryz.isAgg291
 z222:=Tryz.sizeOf291
 v222:=Tryz.zeroValue291
 t228:=Tryz.underlying304
 a228:=Tryz.isAgg304
 z228:=Tryz.sizeOf304
 v228:=Tryz.zeroValue304
 t229:=Tryz.underlying101
 a229:=Tryz.isAgg101
 z229:=Tryz.sizeOf101
 v229:=Tryz.zeroValue101 }
open Go.Sort Go.RowKit in
theorem Tryz.slices_Sort_int (blk off cap:Nat) (zs:List Int) (w:World) (hH:Holds (Value.int .i64) w blk off zs.toArray) (hblk:blk<w.heap.size) (hsz:zs.length<4611686018427387904):
 Calls Tryz.prog 137 #[.slice (some ⟨blk,off,none⟩) zs.length cap] w fun e w'=>
  e=.returned (.tuple #[])∧∃n os,w'=grow (putRow (Value.int .i64) (Sort.ahead w n) blk off (zs.mergeSort fun x y=>decide (x≤y)).toArray) os:=Any.slices_Sort_int Tryz.a2S blk off cap zs w hH hblk hsz
def Tryz.bE4:Go.Shelf.Ren:=⟨fun|20=>138|n=>n,fun|22=>39|3=>3|4=>4|0=>0|n=>n,fun|n=>n⟩
theorem Tryz.a0J:Go.Proofs.Lays2.n20 Tryz.prog Tryz.bE4:={
 mixed:=by kernel_rfl
 f20:=Tryz.func138.trans (congrArg some (by kernel_rfl))
 t0:=Tryz.underlying0
 a0:=Tryz.isAgg0
 z0:=Tryz.sizeOf0
 v0:=Tryz.zeroValue0
 t3:=Tryz.underlying3
 a3:=Tryz.isAgg3
 z3:=Tryz.sizeOf3
 v3:=Tryz.zeroValue3
 t4:=Tryz.underlying4
 a4:=Tryz.isAgg4
 z4:=Tryz.sizeOf4
 v4:=Tryz.zeroValue4
 t22:=Tryz.underlying39
 a22:=Tryz.isAgg39
 z22:=Tryz.sizeOf39
 v22:=Tryz.zeroValue39
 i3:=by kernel_rfl }
open Go.RowKit Go.Lib Go.Sort in
theorem Tryz.slices_Compact_int (blk off cap:Nat) (zs:List Int) (w:World) (hH:Holds (Value.int .i64) w blk off zs.toArray) (hsz:zs.length≤9223372036854775807) (cB:zs.length≤cap):
 Calls Tryz.prog 138 #[.slice (some ⟨blk,off,none⟩) zs.length cap] w fun e w'=>e=.returned (.slice (some ⟨blk,off,none⟩) (Lib.compact zs).length cap)∧∃q,w'=putRow (Value.int .i64) (Sort.ahead w q) blk off (Lib.compact zs++List.replicate (zs.length-(Lib.compact zs).length) 0).toArray:=Any.slices_Compact_int Tryz.a0J blk off cap zs w hH hsz cB
open Go.RowKit Go.Lib Go.Sort in
theorem Tryz.slices_Compact_int_empty (a:Option Addr) (cap:Nat) (w:World):
 Calls Tryz.prog 138 #[.slice a 0 cap] w fun e w'=>e=.returned (.slice a 0 cap)∧w'=w:=Any.slices_Compact_int_empty Tryz.a0J a cap w
open Go.RowKit Go.Sort in
theorem Tryz.slices_Sort_int_none (p:Option Addr) (cap:Nat) (w:World):
 Calls Tryz.prog 137 #[.slice p 0 cap] w fun e w'=>e=.returned (.tuple #[])∧w'=w:=Any.slices_Sort_int_none Tryz.a2S p cap w
end
end Go.Proofs
namespace Go.Proofs.YtdlndhbkcgmkkaaGreatDoor
section
open Go.RowKit Go.Lib Go.Sort
open Go.Lib (hid)
section
variable {α:Type} [Inhabited α]
theorem bJF (enc:α→Value) (off:Nat) (d:Array α) (c:Array Value):(putCells enc off d c).size=c.size:=by simp[putCells]
theorem bF1 (enc:α→Value) (w:World) (g off m:Nat) (d:Array α) (os:Array Obj):w.grownBy (grow (putRow enc (Sort.ahead w m) g off d) os) (some g):=by
 refine⟨rfl,rfl,rfl,by simp[putRow,mapBlock,Sort.grow,heap_ahead],fun i hi hne=>?_⟩
 have aRU:g≠i:=fun e=>hne (by rw[e])
 simp only[putRow,mapBlock,Sort.grow,Array.getElem?_append,Array.size_modify,heap_ahead,hi,if_true,Array.getElem?_modify,if_neg aRU]
theorem bHC (enc:α→Value) (w:World) (g off m:Nat) (d:Array α):w.grownBy (putRow enc (Sort.ahead w m) g off d) (some g):=by
 refine⟨rfl,rfl,rfl,by simp[putRow,mapBlock,heap_ahead],fun i hi hne=>?_⟩
 have aRU:g≠i:=fun e=>hne (by rw[e])
 simp only[putRow,mapBlock,heap_ahead,Array.getElem?_modify,if_neg aRU]
theorem bJE (enc:α→Value) {n:Nat} {d:Array α} {cur:Array Value} (hd:d.size=n) (hn:n≤cur.size):(putCells enc 0 d cur).toList.take (n*1)=d.toList.map enc:=by
 apply List.ext_getElem?
 intro i
 by_cases hi:i<n
 · have WC:i<cur.size:=by omega
   have hid:i<d.size:=by omega
   rw[List.getElem?_take_of_lt (by omega),Array.getElem?_toList,lZ,Array.getElem?_toList]
   simp only[putCells,Array.getElem?_mapIdx,Array.getElem?_eq_getElem WC,Option.map_some,Nat.zero_le,true_and,Nat.zero_add,hid,if_true,Nat.sub_zero,Array.getElem?_eq_getElem hid]
   rw[getElem!_pos d i hid]
 rw[aAA (by simp;omega),aAA (by simp;omega)]
theorem a2P (enc:α→Value) {w w':World} {base e g n cap:Nat} {vs:List Value} {d:Array α} (hd:d.size=n) (h:w.ownsRow base e 1 (.slice (some ⟨g,0,none⟩) n cap) n vs)
 (hw:∀cur,w.heap[g]?=some (.cells cur e (0,0))→w'.heap[g]?=some (.cells (putCells enc 0 d cur) e (0,0))):
 w'.ownsRow base e 1 (.slice (some ⟨g,0,none⟩) n cap) n (d.toList.map enc):=by
 obtain⟨_,h⟩:=h
 refine⟨by simp[hd],.inr ?_⟩
 rcases h with⟨hv,_⟩|⟨g',cap',cur,hv,hb,hh,lF,hcm,hcs,_⟩
 · cases hv
 have e1:g=g'∧cap=cap':=by
  injection hv with h1 _ h2
  injection h1 with h1
  injection h1 with h1 _ _
  exact⟨h1,h2⟩
 obtain⟨rfl,rfl⟩:=e1
 exact⟨g,cap,putCells enc 0 d cur,rfl,hb,hw cur hh,lF,hcm,by rw[bJF,hcs],bJE enc hd (by omega)⟩
theorem a0B (enc:α→Value) {w:World} {base e g n cap:Nat} {d:Array α} (hd:d.size=n) (h:w.ownsRow base e 1 (.slice (some ⟨g,0,none⟩) n cap) n (d.toList.map enc)):Holds enc w g 0 d:=by
 intro j hj
 obtain⟨_,h⟩:=h
 rcases h with⟨hv,_⟩|⟨g',cap',cur,hv,hb,hh,lF,hcm,hcs,ht⟩
 · cases hv
 have e1:g=g':=by
  injection hv with h1 _ h2
  injection h1 with h1
  injection h1
 subst e1
 have hjc:j<cur.size:=by omega
 constructor
 · rw[Nat.zero_add,cell_of_row w g j cur e (0,0) hh,getElem!_pos d j hj]
   have:=congrArg (fun l=>l[j]?) ht
   simp only[List.getElem?_take_of_lt (show j<n*1 by omega),Array.getElem?_toList,lZ,Array.getElem?_eq_getElem hj,Option.map_some] at this
   exact this
 simp[World.frozen?,hh]
theorem bMJ {w:World} {base e g c n:Nat} {xs:List Value} (h:w.ownsRow base e 1 (.slice (some ⟨g,0,none⟩) n c) n xs) {i:Nat} (hi:i≤n):w.ownsRow base e 1 (.slice (some ⟨g,0,none⟩) i c) i (xs.take i):=by
 obtain⟨hl,h⟩:=h
 rcases h with⟨h3,-⟩|⟨g',cap,cur,h3,hb,hg,hc,hm,hs,ht⟩
 · simp at h3
 simp only[Value.slice.injEq,Option.some.injEq,Addr.mk.injEq,and_true,true_and] at h3
 obtain⟨rfl,rfl⟩:=h3
 refine⟨by rw[List.length_take];omega,.inr ⟨g,c,cur,rfl,hb,hg,by omega,hm,hs,?_⟩⟩
 rw[←ht,List.take_take,Nat.mul_one,Nat.mul_one,Nat.min_eq_left hi]
end
theorem aZ0 {w:World} {base:Nat} {v:Value} {l:List Int} (hown:aW w base v l) (hsz:l.length<4611686018427387904):
 Calls Tryz.prog 137 #[v] w fun e w'=>e=.returned (.tuple #[])∧aW w' base v (l.mergeSort fun x y=>decide (x≤y))∧w.grownBy w' v.ownBlock:=by
 have hlen:(l.mergeSort fun x y=>decide (x≤y)).length=l.length:=(List.mergeSort_perm l _).length_eq
 rcases hown.2 with⟨rfl,h0⟩|⟨g,cap,cur,rfl,hb,hh,lF,hcm,hcs,ht⟩
 · have hx:l=[]:=List.eq_nil_of_length_eq_zero h0
   subst hx
   refine (Tryz.slices_Sort_int_none none 0 w).mono ?_
   rintro e w' ⟨rfl,rfl⟩
   exact⟨rfl,by simpa using hown,World.grownBy.refl _ _⟩
 have hlt:g<w.heap.size:=(Array.getElem?_eq_some_iff.1 hh).1
 have hH:Holds (Value.int .i64) w g 0 l.toArray:=a0B (base:=base) (e:=3) (cap:=cap) (Value.int .i64) (by simp) hown
 refine (Tryz.slices_Sort_int g 0 cap l w hH hlt hsz).mono ?_
 rintro e w' ⟨rfl,m,os,rfl⟩
 refine⟨rfl,?_,bF1 (Value.int .i64) w g 0 m _ os⟩
 unfold aW
 rw[hlen]
 have h:=a2P (w':=grow (putRow (Value.int .i64) (Sort.ahead w m) g 0 (l.mergeSort fun x y=>decide (x≤y)).toArray) os) (d:=(l.mergeSort fun x y=>decide (x≤y)).toArray) (Value.int .i64) (by simp[hlen]) hown (fun cur hc=>by
  simp only[putRow,mapBlock,Sort.grow,Array.getElem?_append,Array.size_modify,heap_ahead,hlt,if_true,Array.getElem?_modify,hc,Option.map_some,onCells])
 exact h
theorem aX7 {w:World} {base:Nat} {v:Value} {l:List Int} (hown:aW w base v l) (hsz:l.length≤4611686018427387904):
 Calls Tryz.prog 138 #[v] w fun e w'=>∃v',e=.returned v'∧aW w' base v' (Lib.compact l)∧w.grownBy w' v.ownBlock∧v'.ownBlock=v.ownBlock:=by
 rcases hown.2 with⟨rfl,h0⟩|⟨g,cap,cur,rfl,hb,hh,lF,hcm,hcs,ht⟩
 · have hx:l=[]:=List.eq_nil_of_length_eq_zero h0
   subst hx
   refine (Tryz.slices_Compact_int_empty none 0 w).mono ?_
   rintro e w' ⟨rfl,rfl⟩
   exact⟨_,rfl,by simpa[Lib.compact,Lib.compactUpTo] using hown,World.grownBy.refl _ _,rfl⟩
 have hlt:g<w.heap.size:=(Array.getElem?_eq_some_iff.1 hh).1
 have hH:Holds (Value.int .i64) w g 0 l.toArray:=a0B (base:=base) (e:=3) (cap:=cap) (Value.int .i64) (by simp) hown
 refine (Tryz.slices_Compact_int g 0 cap l w hH (by omega) lF).mono ?_
 rintro e w' ⟨rfl,q,rfl⟩
 have hle:(Lib.compact l).length≤l.length:=by
  unfold Lib.compact Lib.compactUpTo
  rw[cL]
  exact Nat.le_trans (List.length_filter_le _ _) (Nat.le_of_eq (by rw[List.length_range]))
 refine⟨_,rfl,?_,bHC (Value.int .i64) w g 0 q _,rfl⟩
 have h:=a2P (w':=putRow (Value.int .i64) (Sort.ahead w q) g 0 (Lib.compact l++List.replicate (l.length-(Lib.compact l).length) 0).toArray) (d:=(Lib.compact l++List.replicate (l.length-(Lib.compact l).length) 0).toArray) (Value.int .i64) (by rw[List.size_toArray,bL,List.length_replicate];omega) hown (fun cur hc=>by
  simp only[putRow,mapBlock,heap_ahead,Array.getElem?_modify,hc,Option.map_some,onCells,if_true])
 have h2:=bMJ h hle
 unfold aW
 have he:((Lib.compact l++List.replicate (l.length-(Lib.compact l).length) 0).toArray.toList.map (Value.int .i64)).take (Lib.compact l).length=(Lib.compact l).map (Value.int .i64):=by
  rw[List.toList_toArray,List.map_append,List.take_left' (by rw[cL])]
 rw[he] at h2
 exact h2
end
section
open Go.RowKit
open Sl
open Go.Lib (hid)
theorem dB.mono {base base' b:Nat} {w w':World} (h:dB base b w w') (hb:base'≤base):dB base' b w w':=⟨h.os,h.tape,h.output,h.size,fun k h1 h2=>h.block k (by omega) h2⟩
theorem bNB {W:World} {B:Nat} {w w1 w':World} {BM aQO:Nat} {X:Option Nat} {x:Px} {rv0 J_ lv bv ov v cv:Value} {ef:Ef} (hst:cF W B w BM X x)
 (hb:aG w x.b 133 (FW x rv0 J_ lv bv ov)) (hl:aW w BM lv (ints x.sm.eP)) (kF:aW w BM bv (ints x.sm.bl)) (eG:aW w BM ov (ints x.sm.ol))
 (h0:dB w.heap.size x.b w w1) (hv:aM w1 w.heap.size v ef.reads) (hbase:BM≤w.heap.size) (h1s:aQO=w1.heap.size)
 (ho:qW aQO x v lv bv ov w' cv ef) (hx:dB aQO x.b w1 w'):
 cF W B w' BM none ⟨x.b,x.ad,x.sm,ef,false⟩∧w.grownBy w' (some x.b):=by
 subst h1s
 have hX:=h0.trans (hx.mono h0.size)
 have hg:=hX.grownBy
 have hk:∀{u:Value} {xs:List Int},aW w BM u xs→aW w' BM u xs:=fun hu=>fA hu hg (fun k e=>by cases e;exact eB hu hb (by decide))
 have hv':aM w' w.heap.size v ef.reads:=aF.kept hv hx.grownBy (fun k e=>by
  cases e
  intro e2
  have:=(aF.lt hv x.b e2).1
  have:=hst.lt
  omega)
 exact⟨⟨⟨v,cv,lv,bv,ov,ho.blk,aF.more hv' hbase,uH ho.calls (Nat.le_trans hbase h0.size),hk hl,hk kF,hk eG,sT.none_ _,sT.none_ _,sT.none_ _,sT.none_ _,fun h=>by cases h⟩,hst.nd,hst.low⟩,hg⟩
theorem bH6 (K:Nat) (hK:K≤140737488355328) (hK4:4<K) (W:World) (B g BM:Nat) (X:Option Nat) (x:Px) (pv:Value) (p:List Fc) (i:Int) (w:World) (hst:cF W B w BM X x) (he:x.ef=MN) (hnw:x.nw=true) (hW:Below B W w) (hB:B≤BM) (hBs:BM≤w.heap.size)
 (hg:w.cell? ⟨g,0,none⟩=some pv) (z7:g<w.heap.size) (hgx:g≠x.b) (WE:eO W B pv p) (hN:p.length≤1000000) (cX:Fo.cO K (.cons x.sm.nd.k x.sm.nd.t x.sm.nd.n x.sm.nd.s x.sm.nd.ps x.sm.nd.b x.sm.nd.e .nil)) (ZR:1+x.sm.nd.s.cnt+x.sm.nd.b.cnt+x.sm.nd.e.cnt≤100000) (oP:x.sm.nd.s.aX≤100000):
 Calls Tryz.prog 116 #[.pointer (some ⟨g,0,none⟩),.int .i64 i,.pointer (some ⟨x.b,0,none⟩)] w fun e w'=>e=.returned (.tuple #[])∧cF W B w' BM none ⟨x.b,x.ad,x.sm,mC p x.sm.nd,false⟩∧w.grownBy w' (some x.b):=by
 have P5:=hid hst
 obtain⟨rv,cv,lv,bv,ov,hb,-,-,hl,kF,eG,-,-,-,-,x5⟩:=hst.ex
 obtain⟨rfl,rfl⟩:=x5 hnw
 obtain⟨a,o,sv,l7,mD,ev,had,hno⟩:=hst.nd
 have kQ:=hst.low
 have bQA:=hst.lt
 have bPS:=hid (fun (w1 w':World) (v cv:Value) (ef:Ef) (h0:dB w.heap.size x.b w w1) (hv:aM w1 w.heap.size v ef.reads) (ho:qW w1.heap.size x v lv bv ov w' cv ef) (hx:dB w1.heap.size x.b w1 w')=>bNB hst hb hl kF eG h0 hv hBs rfl ho hx)
 have hab:(a.add o).block<B:=by rw[f_];exact hno.lt
 obtain⟨x0,x1,x2,x3,x4,x5',x6⟩:=hno.cells
 rw[←had] at x0 x1 x2 x3 x4 x5' x6 hab
 obtain⟨As,cs,hsv,hcs⟩:=hno.vals.subs.form
 obtain⟨Ab,cb,bRI,hcb⟩:=hno.vals.body.form
 obtain⟨Ae,ce,bQ8,hce⟩:=hno.vals.els.form
 have HNv:=hid hno.vals
 obtain⟨Ap,cp,bQL,kX,-⟩:=hno.vals.aX
 subst hsv bRI bQ8 bQL
 have HF:=hid WE
 have HG:=hid hg
 have HW:=hid hW
 have c0:=(hW.cell hab).trans x0
 have c1:=(hW.cell (p:=⟨x.ad.block,x.ad.off+1,none⟩) hab).trans x1
 have c2:=(hW.cell (p:=⟨x.ad.block,x.ad.off+2,none⟩) hab).trans x2
 have c3:=(hW.cell (p:=⟨x.ad.block,x.ad.off+3,none⟩) hab).trans x3
 have c4:=(hW.cell (p:=⟨x.ad.block,x.ad.off+4,none⟩) hab).trans x4
 have c5:=(hW.cell (p:=⟨x.ad.block,x.ad.off+5,none⟩) hab).trans x5'
 have c6:=(hW.cell (p:=⟨x.ad.block,x.ad.off+6,none⟩) hab).trans x6
 have HC:=hid (fun (Z:World) (hZ:Below B W Z)=>And.intro ((hZ.cell hab).trans x0) (And.intro ((hZ.cell (p:=⟨x.ad.block,x.ad.off+1,none⟩) hab).trans x1) ((hZ.cell (p:=⟨x.ad.block,x.ad.off+3,none⟩) hab).trans x3)))
 have RN:w.cell? ⟨x.b,12,none⟩=some (.pointer (some x.ad)):=hb.cell 12
 have D9:=hid hb
 obtain⟨RL,GZ⟩:∃z:List aA,z=NG x.sm.nd:=⟨_,rfl⟩
 have hR0:=(bHJ K hK hK4 x.sm.nd _ _ _ _ B w (hno.vals.below hW) (by omega) cX ZR oP)
 rw[←GZ] at hR0
 have HR:=hid hR0
 have HRL:=hid GZ
 have HEf:=hid he
 clear hst x5 hno had x0 x1 x2 x3 x4 x5' x6 WE hg hb hl kF eG cX hR0 GZ he
 go_enter Tryz.func116,Tryz.ntmps116
 go_wp2_with fail
 refine HR.out.mono ?_
 rintro e1 w1 ⟨v,rfl,hs1,hb1⟩
 obtain⟨Av,HY,nv,hve,-⟩:=aF.src hs1
 subst hve
 have fD:=D9.out.below hb1 bQA
 have f2:=fD.frozen 2
 have q2:w1.cell? ⟨x.b,2,none⟩=some (.slice none 0 0):=fD.cell 2
 go_upto_region 2 with fail
 clear f2 q2 c0 c1 c2 c3 c4 c5 c6 RN
 have DR:dB w.heap.size x.b w (w1.setCell ⟨x.b,2,none⟩ (.slice Av RL.length HY)):=((dB.refl w.heap.size x.b w).below hb1).lA 2 _
 have hs2:aM (w1.setCell ⟨x.b,2,none⟩ (.slice Av RL.length HY)) w.heap.size (.slice Av RL.length HY) RL:=aF.kept hs1 (dH w1 _ _) (fun k e=>by cases e;exact aF.ne hs1 fD (by decide))
 have SJ:qW w1.heap.size x (.slice Av RL.length HY) lv bv ov (w1.setCell ⟨x.b,2,none⟩ (.slice Av RL.length HY)) (.slice none 0 0) ⟨RL,ByteArray.empty,false,false,false,false,[],false,false,false⟩:=by
  refine⟨?_,World.ownsRow_nil _ _ _ _,fD.lt,by simp[World.setCell]⟩
  have h:=fD.cS 2 (.slice Av RL.length HY)
  unfold FW at h ⊢
  rw[HEf.out] at h
  exact h
 have hz2:(w1.setCell ⟨x.b,2,none⟩ (.slice Av RL.length HY)).heap.size=w1.heap.size:=by simp[World.setCell]
 rw[←hz2] at SJ
 generalize w1.setCell ⟨x.b,2,none⟩ (.slice Av RL.length HY)=w2 at *
 have AP:=hid DR
 have gI:=hid hs2
 have hW2:=HW.out.trans (DR.to (show B≤x.b by omega) (show B≤w.heap.size by omega))
 have hg2:w2.cell? ⟨g,0,none⟩=some pv:=(DR.cell (p:=⟨g,0,none⟩) z7 hgx).trans HG.out
 have rR:w.heap.size≤w2.heap.size:=DR.size
 have eN:=hid (bMK W B g w2.heap.size x (.slice Av RL.length HY) lv bv ov pv p (by omega) (by omega) hgx HF.out hN x.sm.nd.s.cnt x.sm.nd.s (.slice As x.sm.nd.s.len cs) ⟨RL,ByteArray.empty,false,false,false,false,[],false,false,false⟩ (.slice none 0 0) w2.drew (aC _) HNv.out.subs hW2.drew hg2 (SJ.below ((Below.refl w2.heap.size w2).drew)) (by simp;omega))
 obtain⟨E3,hE3⟩:∃z:Ef,z=eQ (fun t=>dQ (fun f:Fc=>decide (f.name=t)) p 0) (Fo.heads (Fo.own x.sm.nd.s)) ⟨RL,ByteArray.empty,false,false,false,false,[],false,false,false⟩:=⟨_,rfl⟩
 rw[←hE3] at eN
 have hE3l:E3.calls.length≤100000:=by
  have h1:=aXX (fun t=>dQ (fun f:Fc=>decide (f.name=t)) p 0) (Fo.heads (Fo.own x.sm.nd.s)) ⟨RL,ByteArray.empty,false,false,false,false,[],false,false,false⟩
  have h2:=Fo.KU x.sm.nd.s
  rw[←hE3,aNI] at h1
  simp at h1
  omega
 have pK:=hid hE3
 obtain⟨d0,d1,d3⟩:=HC.out w2 hW2
 clear hE3 DR hs2 SJ hz2 hs1 fD hg2 hW2 D9 d0 d1
 go_still_tail 8,(by kernel_rfl)
 change wpList _ _ _ _ _ w2.drew
 go_wp2_with fail
 refine eN.out.mono ?_
 rintro e3 w3 ⟨rfl,cv3,G4,VE⟩
 have hX3:dB w2.heap.size x.b w2 w3:=⟨VE.os,VE.tape,VE.output,VE.size,VE.block⟩
 obtain⟨A3,c3',hv3,-,-,-⟩:=jJ G4.calls
 subst hv3
 have gK:=hid G4
 have IA:=hid hX3
 have q8:w3.cell? ⟨x.b,8,none⟩=some (.slice A3 E3.calls.length c3'):=G4.blk.cell 8
 have HSo:=hid (aZ0 G4.calls (by omega))
 clear G4 hX3 VE eN d3
 go_wp2_with fail
 refine HSo.out.mono ?_
 rintro e4 w4 ⟨rfl,iO,hg4⟩
 obtain⟨S4,kY⟩:∃z:List Int,z=E3.calls.mergeSort fun x y=>decide (x≤y):=⟨_,rfl⟩
 have bRV:S4.length=E3.calls.length:=by rw[kY,List.length_mergeSort]
 have hS4b:S4.length≤100000:=by omega
 rw[←kY] at iO
 have eY:=hid kY
 have pE:aG w4 x.b 133 _:=gK.out.blk.grown hg4 (fun e=>eB gK.out.calls gK.out.blk (by decide) e.symm)
 have hrow3:=World.ownsRow.lt gK.out.calls
 have GX:dB w2.heap.size x.b w2 w4:=IA.out.grown hg4 gK.out.size (fun j hj=>(hrow3 j hj).1)
 have a6Y:w2.heap.size≤w4.heap.size:=Nat.le_trans gK.out.size hg4.size
 have q8':w4.cell? ⟨x.b,8,none⟩=some (.slice A3 E3.calls.length c3'):=pE.cell 8
 have HCm:=hid (aX7 iO (by omega))
 have P9:=hid iO
 have bC:=hid pE
 have HX4:=hid GX
 clear iO hg4 kY bRV pE GX q8 HSo
 go_wp2_with fail
 refine HCm.out.mono ?_
 rintro e5 w5 ⟨v5,rfl,aZ,aU,kR⟩
 obtain⟨C5,hC5⟩:∃z:List Int,z=Lib.compact S4:=⟨_,rfl⟩
 rw[←hC5] at aZ
 have FR:=hid hC5
 have dM:aG w5 x.b 133 _:=bC.out.grown aU (fun e=>eB P9.out bC.out (by decide) e.symm)
 have hX5:dB w2.heap.size x.b w2 w5:=HX4.out.grown aU a6Y (fun j hj=>(hrow3 j hj).1)
 obtain⟨A5,KA,hv5,-,-,-⟩:=jJ aZ
 subst hv5
 have G3:qW w2.heap.size x (.slice Av RL.length HY) lv bv ov (w5.setCell ⟨x.b,8,none⟩ (.slice A5 C5.length KA)) (.slice A5 C5.length KA) { E3 with calls:=C5 }:=
  ⟨dM.cS 8 _,fA aZ (dH w5 _ _) (fun k e=>by cases e;exact eB aZ dM (by decide)),gK.out.low,by simpa[World.setCell] using Nat.le_trans a6Y aU.size⟩
 have hX6:=hX5.lA 8 (.slice A5 C5.length KA)
 have f8:=dM.frozen 8
 have q8:w5.cell? ⟨x.b,8,none⟩=some (.slice A3 E3.calls.length c3'):=dM.cell 8
 have gJ:=hid G3
 have FM:=hid hX6
 clear hC5 aZ aU kR dM hX5 G3 hX6 hrow3 HCm q8' gK IA P9 bC HX4
 go_upto_region 5 with fail
 clear f8 q8
 generalize w5.setCell ⟨x.b,8,none⟩ (.slice A5 C5.length KA)=w6 at *
 have hW6:=HW.out.trans ((AP.out.trans (FM.out.mono rR)).to (show B≤x.b by omega) (show B≤w.heap.size by omega))
 obtain⟨d0,d1,-⟩:=HC.out w6 hW6
 have A0:=hid (show ({ E3 with calls:=C5 }:Ef)=⟨NG x.sm.nd,ByteArray.empty,anyK (Fo.heads (Fo.own x.sm.nd.s)) 8,false,anyK (Fo.heads (Fo.own x.sm.nd.s)) 11,anyK (Fo.heads (Fo.own x.sm.nd.s)) 12,NS (aIG p (Fo.heads (Fo.own x.sm.nd.s))),anyK (Fo.heads (Fo.own x.sm.nd.s)) 6,false,false⟩ by
  rw[FR.out,eY.out,pK.out,aPH,HRL.out]
  simp only[Bool.false_or,List.nil_append]
  rfl)
 have LP:=hid (fun (w':World) (ef:Ef) (ho:qW w2.heap.size x (.slice Av RL.length HY) lv bv ov w' (.slice A5 C5.length KA) ef) (hx:dB w2.heap.size x.b w2 w') (h1:ef.reads=RL) (h2:ef=mC p x.sm.nd)=>(by
  have:=bPS.out w2 w' _ _ ef AP.out (by rw[h1];exact gI.out) ho hx
  rw[h2] at this
  exact this:cF W B w' BM none ⟨x.b,x.ad,x.sm,mC p x.sm.nd,false⟩∧w.grownBy w' (some x.b)))
 have AW:=hid (show ({ E3 with calls:=C5 }:Ef).reads=RL by rw[A0.out,HRL.out])
 obtain⟨E6,hE6⟩:∃z:Ef,z={ E3 with calls:=C5 }:=⟨_,rfl⟩
 rw[←hE6] at gJ A0 AW
 clear hE6 hW6
 have b3:w6.cell? ⟨x.b,3,none⟩=some (.string E6.sets):=gJ.out.blk.cell 3
 have b5:w6.cell? ⟨x.b,5,none⟩=some (.bool E6.stores):=gJ.out.blk.cell 5
 have b10:w6.cell? ⟨x.b,10,none⟩=some (.bool E6.jumps):=gJ.out.blk.cell 10
 have f3:=gJ.out.blk.frozen 3
 have f5:=gJ.out.blk.frozen 5
 have f10:=gJ.out.blk.frozen 10
 by_cases gV:x.sm.nd.k=14
 · have MO:((x.sm.nd.k:Int)==14)=true:=by rw[gV];rfl
   have HH:=hid (show ({ E6 with sets:=x.sm.nd.t }:Ef)=mC p x.sm.nd by rw[A0.out];unfold mC;simp[gV])
   clear gV
   go_wp2
   go_end0
   exact⟨rfl,LP.out _ { E6 with sets:=x.sm.nd.t } (gJ.out.cS rfl rfl) (FM.out.lA 3 _) AW.out HH.out⟩
 have MO:((x.sm.nd.k:Int)==14)=false:=aP (by omega)
 by_cases j3:x.sm.nd.k=15
 · have e15:((x.sm.nd.k:Int)==15)=true:=by rw[j3];rfl
   have HH:=hid (show ({ E6 with sets:=x.sm.nd.t }:Ef)=mC p x.sm.nd by rw[A0.out];unfold mC;simp[j3])
   clear j3 gV
   go_wp2
   go_end0
   exact⟨rfl,LP.out _ { E6 with sets:=x.sm.nd.t } (gJ.out.cS rfl rfl) (FM.out.lA 3 _) AW.out HH.out⟩
 have e15:((x.sm.nd.k:Int)==15)=false:=aP (by omega)
 by_cases iR:x.sm.nd.k=21
 · have S7:((x.sm.nd.k:Int)==21)=true:=by rw[iR];rfl
   have HH:=hid (show ({ E6 with sets:=x.sm.nd.t }:Ef)=mC p x.sm.nd by rw[A0.out];unfold mC;simp[iR])
   clear iR gV j3
   go_wp2
   go_end0
   exact⟨rfl,LP.out _ { E6 with sets:=x.sm.nd.t } (gJ.out.cS rfl rfl) (FM.out.lA 3 _) AW.out HH.out⟩
 have S7:((x.sm.nd.k:Int)==21)=false:=aP (by omega)
 by_cases pF:x.sm.nd.k=16
 · have AJ:((x.sm.nd.k:Int)==16)=true:=by rw[pF];rfl
   have HH:=hid (show ({ E6 with stores:=true }:Ef)=mC p x.sm.nd by rw[A0.out];unfold mC;simp[pF])
   clear pF gV j3 iR
   go_wp2
   go_end0
   exact⟨rfl,LP.out _ { E6 with stores:=true } (gJ.out.cS rfl rfl) (FM.out.lA 5 _) AW.out HH.out⟩
 have AJ:((x.sm.nd.k:Int)==16)=false:=aP (by omega)
 by_cases qU:x.sm.nd.k=19
 · have e19:((x.sm.nd.k:Int)==19)=true:=by rw[qU];rfl
   have HH:=hid (show ({ E6 with jumps:=true }:Ef)=mC p x.sm.nd by rw[A0.out];unfold mC;simp[qU])
   clear qU gV j3 iR pF
   go_wp2
   go_end0
   exact⟨rfl,LP.out _ { E6 with jumps:=true } (gJ.out.cS rfl rfl) (FM.out.lA 10 _) AW.out HH.out⟩
 have e19:((x.sm.nd.k:Int)==19)=false:=aP (by omega)
 by_cases jH:x.sm.nd.k=20
 · have e20:((x.sm.nd.k:Int)==20)=true:=by rw[jH];rfl
   have HH:=hid (show ({ E6 with jumps:=true }:Ef)=mC p x.sm.nd by rw[A0.out];unfold mC;simp[jH])
   clear jH gV j3 iR pF qU
   go_wp2
   go_end0
   exact⟨rfl,LP.out _ { E6 with jumps:=true } (gJ.out.cS rfl rfl) (FM.out.lA 10 _) AW.out HH.out⟩
 have e20:((x.sm.nd.k:Int)==20)=false:=aP (by omega)
 have HH:=hid (show E6=mC p x.sm.nd by rw[A0.out];unfold mC;simp[gV,j3,iR,pF,qU,jH])
 clear gV j3 iR pF qU jH
 go_wp2
 go_end0
 exact⟨rfl,LP.out _ E6 gJ.out FM.out AW.out HH.out⟩
namespace Sl
def O1 (F:Nat) (x:Px) (cs:List Nat):Ts:=⟨if x.sm.unit<F then x.sm.unit else F,decide (x.sm.nd.k=20),x.ef.NI,cs⟩
end Sl
theorem bLA (c n cf bx g:Nat) (Af:Option Addr) (b:Bool) (w:World) (cH:w.cell? ⟨bx,0,none⟩=some (.pointer (some ⟨g,0,none⟩))) (hg3:w.cell? ⟨g,3,none⟩=some (.slice Af n cf)) (hc:c<n) (had:∃ad,Af=some ad∧w.cell? (ad.add c)=some (.bool b)):
 Calls Tryz.prog 213 #[.int .i64 (c:Nat),.pointer (some ⟨bx,0,none⟩)] w fun e w'=>e=.returned (.bool b)∧w=w':=by
 obtain⟨ad,rfl,hcell⟩:=had
 go_enter Tryz.func213,Tryz.ntmps213
 go_wp2
 go_ret
 exact⟨rfl,rfl⟩
theorem bHX (l:List Nat) (v:Value) (n cf bx g:Nat) (Af:Option Addr) (fl:Nat→Bool) (B:Nat) (w:World) (hl:Ints w B v (ints l)) (hN:l.length≤1000000) (cH:w.cell? ⟨bx,0,none⟩=some (.pointer (some ⟨g,0,none⟩))) (hg3:w.cell? ⟨g,3,none⟩=some (.slice Af n cf)) (hlt:∀c∈l,c<n) (had:∀c,c<n→∃ad,Af=some ad∧w.cell? (ad.add c)=some (.bool (fl c))):
 Calls Tryz.prog 119 #[v,.func (.func 213) #[] #[.pointer (some ⟨bx,0,none⟩)]] w fun e w'=>e=.returned (.int .i64 (dQ fl l 0))∧w=w':=by
 obtain⟨A,c,rfl,hc1,hc2,hc3⟩:=hl
 have hlen:(ints l).length=l.length:=by unfold ints;rw[cL]
 have HR:=hid hc3
 have HLt:=hid hlt
 have HAd:=hid had
 rw[hlen]
 rw[hlen] at hc1
 obtain⟨fi,kE⟩:∃z,z=dQ fl l 0:=⟨_,rfl⟩
 rw[←kE]
 have HF:=hid kE
 have oB:=hid hlen
 clear hc3 hlt had kE hlen hc2
 go_enter Tryz.func119,Tryz.ntmps119
 go_wp2
 go_loopg [8] l.length (fun q i wr=>∃(k:Nat),k≤l.length∧q=l.length-k∧i=.int .i64 k∧w=wr∧Hid (fi=dQ fl (l.drop k) k))
 case atStart=>exact⟨0,Nat.zero_le _,rfl,rfl,rfl,hid (by rw[List.drop_zero];exact HF.out)⟩
 obtain⟨k,hk,hq,rfl,rfl,he⟩:=hrel
 have Hq:=hid hq
 clear hq
 by_cases hlt:k<l.length
 rotate_left
 · have HX:=hid (show fi=-1 by rw[he.out,List.drop_of_length_le (by omega)];rfl)
   clear he
   go_wp2
   go_ret
   exact⟨dC HX.out.symm,rfl⟩
 obtain⟨x,hx⟩:∃x,l[k]?=some x:=⟨l[k],bX hlt⟩
 have kB:=List.mem_of_getElem? hx
 obtain⟨ad,rfl,-,hcell⟩:=ints_at HR.out (show k<(ints l).length by rw[oB.out];exact hlt)
 have hgx:(ints l).getD k 0=(x:Int):=by unfold ints;rw[dR,lZ,hx];rfl
 rw[hgx] at hcell
 have O9:=HLt.out x kB
 have HE:=hid (show fi=if fl x then (k:Int) else dQ fl (l.drop (k+1)) (k+1) by
  rw[he.out,List.drop_eq_getElem_cons hlt,dQ]
  rw[bX hlt] at hx
  injection hx with hx
  rw[hx])
 have HC:=hid (bLA x n cf bx g Af (fl x) w cH hg3 O9 (HAd.out x O9))
 clear hx kB hgx he
 cases hb:fl x with
 |true=>
  have HX:=hid (show fi=(k:Int) by rw[HE.out,hb];rfl)
  rw[hb] at HC
  clear hb HE
  go_wp2_with fail
  refine HC.out.mono ?_
  rintro e1 w1 ⟨rfl,rfl⟩
  go_wp2
  go_ret
  exact⟨dC HX.out.symm,rfl⟩
 |false=>
  have HX:=hid (show fi=dQ fl (l.drop (k+1)) (k+1) by rw[HE.out,hb];rfl)
  rw[hb] at HC
  clear hb HE
  go_wp2_with fail
  refine HC.out.mono ?_
  rintro e1 w1 ⟨rfl,rfl⟩
  go_wp2
  go_roundg (l.length-(k+1))
  case rel=>exact⟨k+1,hlt,rfl,by go_num,rfl,HX⟩
  rw[Hq.out];omega
theorem bH8 (l:List Nat) (v:Value) (n cf bx g:Nat) (Af:Option Addr) (fl:Nat→Bool) (B:Nat) (w:World) (hl:Ints w B v (ints l)) (hN:l.length≤1000000) (cH:w.cell? ⟨bx,0,none⟩=some (.pointer (some ⟨g,0,none⟩))) (hg3:w.cell? ⟨g,3,none⟩=some (.slice Af n cf)) (hlt:∀c∈l,c<n) (had:∀c,c<n→∃ad,Af=some ad∧w.cell? (ad.add c)=some (.bool (fl c))):
 Calls Tryz.prog 87 #[v,.func (.func 213) #[] #[.pointer (some ⟨bx,0,none⟩)]] w fun e w'=>e=.returned (.bool (l.any fl))∧w=w':=by
 have HC:=hid (bHX l v n cf bx g Af fl B w hl hN cH hg3 hlt had)
 obtain⟨A,c,rfl,-⟩:=hl
 have HA:=hid (aOC (f:=fl) l 0)
 generalize dQ fl l 0=fi at *
 clear cH hg3 hlt had
 go_enter Tryz.func87,Tryz.ntmps87
 go_wp2_with fail
 refine HC.out.mono ?_
 rintro e1 w1 ⟨rfl,rfl⟩
 go_wp2
 go_ret
 exact⟨aR HA.out,rfl⟩
theorem bFL (W:World) (B base bPP:Nat) (X:Option Nat) (x:Px) (g F:Nat) (fl:Nat→Bool) (pv av fv:Value) (bH aV:Nat) (cs:List Nat) (w:World) (hst:cF W B w base X x) (hW:Below B W w) (hB:B≤w.heap.size)
 (hg:aG w g 129 #[pv,av,.int .i64 (bH:Nat),fv,.bool (fl F),.int .i64 (aV:Nat)]) (hf:sS w bPP fv (iB F fl)) (hcs:x.ef.calls=ints cs) (hlt:∀c∈cs,c<F) (hN:cs.length≤1000000):
 Calls Tryz.prog 164 #[.pointer (some ⟨g,0,none⟩),.pointer (some ⟨x.b,0,none⟩)] w fun e w'=>e=.returned (.bool (fC F fl (O1 F x cs)))∧Below w.heap.size w w':=by
 obtain⟨rv,cv,lv,bv,ov,hb,-,hcv,-⟩:=hst.ex
 obtain⟨a,o,sv,l7,mD,ev,had,hno⟩:=hst.nd
 have hab:(a.add o).block<B:=by rw[f_];exact hno.lt
 obtain⟨x0,-⟩:=hno.cells
 rw[←had] at x0 hab
 have d0:=(hW.cell hab).trans x0
 have z7:=hg.lt
 have J1:=hb.lt
 rw[hcs] at hcv
 obtain⟨Af,cf,hfv,DM,nG⟩:=aII.of hf
 rw[CM] at hfv nG DM
 subst hfv
 have SR:=(Below.refl w.heap.size w).alloc (aC _) (.cells #[.pointer (some ⟨g,0,none⟩)] 114)
 have dG:=hid SR
 have aR2:=hg.below SR z7
 have aJN:=hb.below SR J1
 have RN:(w.alloc (.cells #[.pointer (some ⟨g,0,none⟩)] 114)).cell? ⟨x.b,12,none⟩=some (.pointer (some x.ad)):=aJN.cell 12
 have q9:(w.alloc (.cells #[.pointer (some ⟨g,0,none⟩)] 114)).cell? ⟨x.b,9,none⟩=some (.bool x.ef.NI):=aJN.cell 9
 have hq8:(w.alloc (.cells #[.pointer (some ⟨g,0,none⟩)] 114)).cell? ⟨x.b,8,none⟩=some cv:=aJN.cell 8
 have g3:(w.alloc (.cells #[.pointer (some ⟨g,0,none⟩)] 114)).cell? ⟨g,3,none⟩=some (.slice Af F cf):=aR2.cell 3
 have g4:(w.alloc (.cells #[.pointer (some ⟨g,0,none⟩)] 114)).cell? ⟨g,4,none⟩=some (.bool (fl F)):=aR2.cell 4
 have d0A:(w.alloc (.cells #[.pointer (some ⟨g,0,none⟩)] 114)).cell? x.ad=some (.int .u8 x.sm.nd.k):=(SR.cell (p:=x.ad) (by omega)).trans d0
 have cH:(w.alloc (.cells #[.pointer (some ⟨g,0,none⟩)] 114)).cell? ⟨w.heap.size,0,none⟩=some (.pointer (some ⟨g,0,none⟩)):=(aG.new w 114 #[.pointer (some ⟨g,0,none⟩)]).cell 0
 have cC:(ints cs).length=cs.length:=by unfold ints;rw[cL]
 have hcI:Ints (w.alloc (.cells #[.pointer (some ⟨g,0,none⟩)] 114)) ((w.alloc (.cells #[.pointer (some ⟨g,0,none⟩)] 114))).heap.size cv (ints cs):=aW.reads (gW hcv SR (aC _)) (by omega)
 have a86:=hid (bH8 cs cv F cf w.heap.size g Af fl _ (w.alloc (.cells #[.pointer (some ⟨g,0,none⟩)] 114)) hcI hN cH g3 hlt (fun c hc=>by
  obtain⟨ad,h1,h2,h3⟩:=bLZ (l:=iB F fl) (by rw[CM];exact nG) (show c<(iB F fl).length by rw[CM];exact hc)
  refine⟨ad,h1,(SR.cell (p:=ad.add c) (by rw[f_];exact h2)).trans ?_⟩
  rw[h3,dR,I0 hc]
  rfl))
 obtain⟨Ac,cc,a7S,-,-,-⟩:=jJ hcv
 rw[cC] at a7S
 subst a7S
 have HM:=hid (show fC F fl (O1 F x cs)=(decide (x.sm.nd.k=20)||(x.ef.NI&&fl F)||cs.any fl) from rfl)
 generalize fC F fl (O1 F x cs)=res at *
 generalize cs.any fl=can at *
 generalize fl F=fF at *
 generalize x.ef.NI=ap at *
 clear hst hno had x0 d0 hb hg hf aR2 aJN hcv hcI nG hlt hcs SR
 by_cases jH:x.sm.nd.k=20
 · have e20:((x.sm.nd.k:Int)==20)=true:=by rw[jH];rfl
   have HX:=hid (show res=true by rw[HM.out,bF jH];rfl)
   clear jH
   go_enter Tryz.func164,Tryz.ntmps164
   go_wp2
   go_ret
   exact⟨aR HX.out.symm,dG.out⟩
 have e20:((x.sm.nd.k:Int)==20)=false:=aP (by omega)
 have HX:=hid (show res=((ap&&fF)||can) by rw[HM.out,bP jH,Bool.false_or])
 clear jH
 cases ap with
 |true=>
  cases fF with
  |true=>
   have AP:=hid (show res=true by rw[HX.out];rfl)
   go_enter Tryz.func164,Tryz.ntmps164
   go_wp2
   go_ret
   exact⟨aR AP.out.symm,dG.out⟩
  |false=>
   have AP:=hid (show res=can by rw[HX.out];rfl)
   go_enter Tryz.func164,Tryz.ntmps164
   go_wp2_with fail
   refine a86.out.mono ?_
   rintro e1 w1 ⟨rfl,rfl⟩
   go_wp2
   go_ret
   exact⟨aR AP.out.symm,dG.out⟩
 |false=>
  have AP:=hid (show res=can by rw[HX.out];rfl)
  go_enter Tryz.func164,Tryz.ntmps164
  go_wp2_with fail
  refine a86.out.mono ?_
  rintro e1 w1 ⟨rfl,rfl⟩
  go_wp2
  go_ret
  exact⟨aR AP.out.symm,dG.out⟩
end
section
open Go.RowKit
open Sl
namespace Sl
def j7 (t:Bool) (x:Px):Px:=⟨x.b,x.ad,x.sm,{ x.ef with cW:=t },x.nw⟩
def JQ (x:Px):List Nat:=x.ef.calls.map Int.toNat
def eE (F:Nat) (x:Px):Ts:=O1 F x (JQ x)
structure jW (W:World) (B g base:Nat) (pv:Value) (aV F:Nat) (w:World) (av fv:Value) (fl:Nat→Bool) (N:List Px) (bH:Nat):Prop where
 gr:sL g base pv fv (fl F) aV w av (N.map (·.b)) bH
 fns:sS w B fv (iB F fl)
 dS:∀x∈N,cF W B w base none x
 inc:(N.map (·.b)).Pairwise (· < ·)
section
variable {W:World} {B g base:Nat} {pv:Value} {aV F:Nat} {w w':World} {av fv:Value} {fl:Nat→Bool} {N N1 N2:List Px} {bH:Nat} {x:Px}
theorem jW.below (h:jW W B g base pv aV F w av fv fl N bH) (hb:Below w.heap.size w w'):jW W B g base pv aV F w' av fv fl N bH:=
 ⟨h.gr.below hb,aF.below h.fns hb (aC _),fun x hx=>(h.dS x hx).below hb,h.inc⟩
theorem cF.aQU {X:Option Nat} (h:cF W B w base X x) (t:Bool):cF W B (w.setCell ⟨x.b,11,none⟩ (.bool t)) base X (j7 t x):=by
 obtain⟨rv,cv,lv,bv,ov,hb,hr,hc,hl,kF,eG,x1,x2,x3,x4,x5⟩:=h.ex
 have hg:=dH w ⟨x.b,11,none⟩ (.bool t)
 have hk:∀{e:TypeId} {u:Value} {n:Nat} {xs:List Value},e≠133→w.ownsRow base e 1 u n xs→(w.setCell ⟨x.b,11,none⟩ (.bool t)).ownsRow base e 1 u n xs:=fun h1 ho=>fA ho hg (fun k e=>by cases e;exact eB ho hb h1)
 obtain⟨rs,hr1,hr2⟩:=hr
 exact⟨⟨rv,cv,lv,bv,ov,hb.cS 11 (.bool t),⟨rs,hk (by decide) hr1,hr2⟩,hk (by decide) hc,hk (by decide) hl,hk (by decide) kF,hk (by decide) eG,x1,x2,x3,x4,x5⟩,h.nd,h.low⟩
theorem jW.aQU (h:jW W B g base pv aV F w av fv fl (N1++x::N2) bH) (t:Bool):jW W B g base pv aV F (w.setCell ⟨x.b,11,none⟩ (.bool t)) av fv fl (N1++j7 t x::N2) bH:=by
 have kB:x∈N1++x::N2:=iZ _ (List.mem_cons_self ..)
 obtain⟨cs,hcs⟩:=(h.dS x kB).blk
 have hk:∀{base:Nat} {e:TypeId} {s n:Nat} {v:Value} {ys:List Value},e≠133→w.ownsRow base e s v n ys→(w.setCell ⟨x.b,11,none⟩ (.bool t)).ownsRow base e s v n ys:=fun h1 ho=>fA ho (dH w _ _) (fun k e=>by cases e;exact eB ho hcs h1)
 obtain⟨B_,ha1,ha2⟩:=h.gr.all
 obtain⟨WO,AA,hf2⟩:=h.fns
 have hmap:(N1++j7 t x::N2).map (·.b)=(N1++x::N2).map (·.b):=by simp[j7]
 have hp:=h.inc
 rw[List.map_append,List.map_cons,List.pairwise_append,List.pairwise_cons] at hp
 obtain⟨-,⟨V9,-⟩,hp3⟩:=hp
 refine⟨?_,⟨WO,hk (by decide) AA,hf2⟩,fun y hy=>?_,by rw[hmap];exact h.inc⟩
 · rw[hmap]
   exact⟨h.gr.blk.far (p:=⟨x.b,11,none⟩) (h.gr.blk.rQ hcs (by decide)) _,⟨B_,hk (by decide) ha1,ha2⟩,h.gr.low,by simpa[World.setCell] using h.gr.size⟩
 rcases List.mem_append.1 hy with hy|hy
 · exact (h.dS y (rN _ hy)).far hcs (by have:=hp3 y.b (List.mem_map_of_mem hy) x.b (List.mem_cons_self ..);omega) 11 _
 rcases List.mem_cons.1 hy with rfl|hy
 · exact (h.dS x kB).aQU t
 exact (h.dS y (iZ _ (kS _ hy))).far hcs (by have:=V9 y.b (List.mem_map_of_mem hy);omega) 11 _
theorem jW.bP0 {b c k:Nat} (h:jW W B g base pv aV F w av (.slice (some ⟨b,0,none⟩) F c) fl N bH) (hk:k<F):jW W B g base pv aV F (w.setCell ⟨b,k,none⟩ (.bool true)) av (.slice (some ⟨b,0,none⟩) F c) (fun j=>decide (j=k)||fl j) N bH:=by
 obtain⟨WO,AA,hf2⟩:=h.fns
 have hg:=dH w ⟨b,k,none⟩ (.bool true)
 have JE:∀{base':Nat} {e:TypeId} {s n:Nat} {v:Value} {ys:List Value},4≠e→w.ownsRow base' e s v n ys→(w.setCell ⟨b,k,none⟩ (.bool true)).ownsRow base' e s v n ys:=fun h1 ho=>fA ho hg (fun j e=>by cases e;exact kL AA ho h1 rfl)
 obtain⟨B_,ha1,ha2⟩:=h.gr.all
 have hne:b≠g:=fun e=>eB AA h.gr.blk (by decide) (by rw[e];rfl)
 have hFk:¬F=k:=by omega
 have hblk:=h.gr.blk.far (p:=⟨b,k,none⟩) (Ne.symm hne) (.bool true)
 have dY:cP 4 1 LD (w.setCell ⟨b,k,none⟩ (.bool true)) B (.slice (some ⟨b,0,none⟩) F c) (iB F fun j=>decide (j=k)||fl j):=by
  have hl:=CM F fl
  have h1:cP 4 1 LD w B (.slice (some ⟨b,0,none⟩) (iB F fl).length c) (iB F fl):=by rw[hl];exact h.fns
  have h2:=cP.cS (u:=.bool true) (x':=true) h1 M_ (I0 (f:=fl) hk) Nat.zero_lt_one (fun cs hcs=>by
   unfold LD at hcs ⊢
   rw[hcs]
   rfl)
  rw[Nat.mul_one,Nat.add_zero,hl,a1M] at h2
  exact h2
 refine⟨⟨?_,⟨B_,JE (by decide) ha1,ha2⟩,h.gr.low,by simpa[World.setCell] using h.gr.size⟩,dY,fun y hy=>?_,h.inc⟩
 · show aG _ g _ #[pv,av,.int .i64 (bH:Nat),_,.bool (decide (F=k)||fl F),.int .i64 (aV:Nat)]
   rw[bP hFk,Bool.false_or]
   exact hblk
 obtain⟨cs,hcs⟩:=(h.dS y hy).blk
 have hyb:y.b≠b:=fun e=>eB AA hcs (by decide) (by rw[e];rfl)
 exact (h.dS y hy).SZ (g:=g) (row:=some b) (dA.YG hg) (hcs.rQ h.gr.blk (by decide)) (fun e=>hyb (by injection e)) (fun e v n xs he ho=>⟨eB ho h.gr.blk (by rcases he with rfl|⟨rfl,-⟩<;>decide),fun j hj=>by cases hj;exact kL AA ho (by rcases he with rfl|⟨rfl,-⟩<;>decide) rfl⟩)
theorem jW.bP1 (h:jW W B g base pv aV F w av fv fl N bH):jW W B g base pv aV F (w.setCell ⟨g,4,none⟩ (.bool true)) av fv (fun j=>decide (j=F)||fl j) N bH:=by
 obtain⟨B_,ha1,ha2⟩:=h.gr.all
 obtain⟨WO,AA,hf2⟩:=h.fns
 have JE:∀{base':Nat} {e:TypeId} {s n:Nat} {v:Value} {ys:List Value},e≠129→w.ownsRow base' e s v n ys→(w.setCell ⟨g,4,none⟩ (.bool true)).ownsRow base' e s v n ys:=fun h1 ho=>fA ho (dH w _ _) (fun j e=>by cases e;exact eB ho h.gr.blk h1)
 refine⟨⟨?_,⟨B_,JE (by decide) ha1,ha2⟩,h.gr.low,by simpa[World.setCell] using h.gr.size⟩,?_,fun y hy=>(h.dS y hy).aJT h.gr.blk (by decide) (by decide) (by decide) 4 _,h.inc⟩
 · have:=h.gr.blk.cS 4 (.bool true)
   show aG _ g _ #[pv,av,.int .i64 (bH:Nat),fv,.bool (decide (F=F)||fl F),.int .i64 (aV:Nat)]
   rw[bF rfl,Bool.true_or]
   exact this
 have he:iB F (fun j=>decide (j=F)||fl j)=iB F fl:=aY1 fun k hk=>by rw[bP (by omega),Bool.false_or]
 rw[he]
 exact⟨WO,JE (by decide) AA,hf2⟩
theorem jW.upd {x':Px} (h:jW W B g base pv aV F w av fv fl (N1++x::N2) bH) (hx:cF W B w' base none x') (hb:x'.b=x.b) (hg:w.grownBy w' (some x.b)):jW W B g base pv aV F w' av fv fl (N1++x'::N2) bH:=by
 have kB:x∈N1++x::N2:=iZ _ (List.mem_cons_self ..)
 obtain⟨cs,hcs⟩:=(h.dS x kB).blk
 have hk:∀{base:Nat} {e:TypeId} {s n:Nat} {v:Value} {ys:List Value},e≠133→w.ownsRow base e s v n ys→w'.ownsRow base e s v n ys:=fun h1 ho=>fA ho hg (fun k e=>by cases e;exact eB ho hcs h1)
 obtain⟨B_,ha1,ha2⟩:=h.gr.all
 obtain⟨WO,AA,hf2⟩:=h.fns
 have hmap:(N1++x'::N2).map (·.b)=(N1++x::N2).map (·.b):=by simp[hb]
 have hp:=h.inc
 rw[List.map_append,List.map_cons,List.pairwise_append,List.pairwise_cons] at hp
 obtain⟨-,⟨V9,-⟩,hp3⟩:=hp
 have other:∀y∈N1++x::N2,y.b≠x.b→cF W B w' base none y:=fun y hy hne=>by
  obtain⟨cs',JL⟩:=(h.dS y hy).blk
  exact (h.dS y hy).SZ (g:=g) (row:=some x.b) (dA.YG hg) (JL.rQ h.gr.blk (by decide)) (fun e=>hne (by injection e)) (fun e v n xs he ho=>⟨eB ho h.gr.blk (by rcases he with rfl|⟨rfl,-⟩<;>decide),fun j hj=>by cases hj;exact eB ho hcs (by rcases he with rfl|⟨rfl,-⟩<;>decide)⟩)
 refine⟨?_,⟨WO,hk (by decide) AA,hf2⟩,fun y hy=>?_,by rw[hmap];exact h.inc⟩
 · rw[hmap]
   exact⟨h.gr.blk.grown hg (fun e=>h.gr.blk.rQ hcs (by decide) (by injection e)),⟨B_,hk (by decide) ha1,ha2⟩,h.gr.low,Nat.le_trans h.gr.size hg.size⟩
 rcases List.mem_append.1 hy with hy|hy
 · exact other y (rN _ hy) (by have:=hp3 y.b (List.mem_map_of_mem hy) x.b (List.mem_cons_self ..);omega)
 rcases List.mem_cons.1 hy with rfl|hy
 · exact hx
 exact other y (iZ _ (kS _ hy)) (by have:=V9 y.b (List.mem_map_of_mem hy);omega)
end
theorem aM4 {α:Type} {p q:α→Bool}:∀{l:List α},(∀x∈l,q x=true→p x=true)→∀{x},x∈l→p x=true→q x=false→l.countP q<l.countP p
 | [],_,_,h,_,_=>by cases h
 |y::l,h,x,hx,hp,hq=>by
   have hle:∀m:List α,(∀x∈m,q x=true→p x=true)→m.countP q≤m.countP p:=fun m hm=>List.countP_mono_left hm
   have h1:=hle l fun z hz=>h z (kS _ hz)
   rw[List.countP_cons,List.countP_cons]
   rcases List.mem_cons.1 hx with rfl|hx
   · rw[hp,hq];simp;omega
   have h2:=aM4 (fun z hz=>h z (kS _ hz)) hx hp hq
   have h3:=h y (List.mem_cons_self ..)
   cases hqy:q y with
   |true=>rw[h3 hqy];simp;exact h2
   |false=>simp;split<;>omega
def uN (w:World) (b:Nat):Bool:=match w.cell? ⟨b,11,none⟩ with
 |some (.bool false)=>true
 |_=>false
theorem jW.uN {W:World} {B g base:Nat} {pv:Value} {aV F:Nat} {w:World} {av fv:Value} {fl:Nat→Bool} {N:List Px} {bH:Nat} {x:Px} (h:jW W B g base pv aV F w av fv fl N bH) (hx:x∈N):Sl.uN w x.b=!x.ef.cW:=by
 obtain⟨rv,cv,lv,bv,ov,hb,-⟩:=(h.dS x hx).ex
 unfold Sl.uN
 have h1:w.cell? ⟨x.b,11,none⟩=some (.bool x.ef.cW):=hb.cell 11
 rw[h1]
 cases x.ef.cW<;>rfl
structure lV (W:World) (B g base:Nat) (pv:Value) (aV F:Nat) (N0:List Px) (w0 w:World) (av fv:Value) (fl:Nat→Bool) (N:List Px) (bH:Nat):Prop where
 gs:jW W B g base pv aV F w av fv fl N bH
 same:N.map (j7 false)=N0
 sound:∀k,fl k=true→CA F (N0.map (eE F)) k
 done:∀x∈N,x.ef.cW=true→fC F (oX F (N0.map (eE F))) (eE F x)=true∧fl (eE F x).slot=true
 old:Below B w0 w
theorem lV.mem {W:World} {B g base:Nat} {pv:Value} {aV F:Nat} {N0:List Px} {w0 w:World} {av fv:Value} {fl:Nat→Bool} {N:List Px} {bH:Nat} {x:Px} (h:lV W B g base pv aV F N0 w0 w av fv fl N bH) (hx:x∈N):j7 false x∈N0:=by
 rw[←h.same]
 exact List.mem_map_of_mem hx
theorem lV.end_ {W:World} {B g base:Nat} {pv:Value} {aV F:Nat} {N0:List Px} {w0 w:World} {av fv:Value} {fl:Nat→Bool} {N:List Px} {bH:Nat} (h:lV W B g base pv aV F N0 w0 w av fv fl N bH) (he:∀x∈N,x.ef.cW=true∨fC F fl (eE F x)=false):
 fl=oX F (N0.map (eE F))∧N=N0.map fun x=>j7 (fC F (oX F (N0.map (eE F))) (eE F x)) x:=by
 have hS:N0.map (eE F)=N.map (eE F):=by
  rw[←h.same,List.map_map]
  rfl
 have MG:fl=oX F (N0.map (eE F)):=a3L h.sound fun s hs hm=>by
  rw[hS] at hs
  obtain⟨x,hx,rfl⟩:=List.mem_map.1 hs
  rcases he x hx with h1|h1
  · exact (h.done x hx h1).2
  rw[h1] at hm;cases hm
 refine⟨MG,?_⟩
 rw[←MG]
 conv=>rhs;rw[←h.same,List.map_map]
 have:∀x∈N,x=((fun x=>j7 (fC F fl (eE F x)) x)∘j7 false) x:=fun x hx=>by
  show x=j7 (fC F fl (eE F x)) x
  have ht:x.ef.cW=fC F fl (eE F x):=by
   rcases he x hx with h1|h1
   · rw[h1,MG,(h.done x hx h1).1]
   rw[h1]
   cases h2:x.ef.cW with
   |false=>rfl
   |true=>
    have:=(h.done x hx h2).1
    rw[←MG,h1] at this
    cases this
  rw[←ht]
  rfl
 conv=>lhs;rw[←List.map_id N]
 exact List.map_congr_left this
end Sl
end
section
open Go.RowKit
open Sl
open Go.Lib (hid)
theorem bEJ {P:Program} {a:Act} {w:World} {Q:Exit→Act→World→Prop} {rest:Code} (J:Act→World→Prop) (μ:Act→World→Nat) (hJ:J a w)
 (pass:∀a w,J a w→rest.wp P (Exit.jump 0 (fun a' w'=>J a' w'∧μ a' w' < μ a w) Q) a w):(Code.scope ((Code.label 0).seq rest)).wp P Q a w:=by
 refine wp_scope_jumps (c:=(Code.label 0).seq rest) (rest:=Code.skip.seq rest) 0 J μ (by simp[findLabel]) ?_ (fun a w h=>wp_seq (wp_skip (pass a w h)))
 refine wp_seq (wp_label ?_)
 refine wp_mono (pass a w hJ) (fun e a' w' h=>?_)
 cases e<;>first|exact h|exact⟨h.1,h.2.1⟩
namespace Sl
theorem lV.less {W:World} {B g base:Nat} {pv:Value} {aV F:Nat} {N0:List Px} {w0 w w':World} {av fv:Value} {fl fl':Nat→Bool} {N1 N2:List Px} {x:Px} {bH:Nat} (h:lV W B g base pv aV F N0 w0 w av fv fl (N1++x::N2) bH) (h':lV W B g base pv aV F N0 w0 w' av fv fl' (N1++j7 true x::N2) bH) (hx:x.ef.cW=false):
 (N0.countP fun y=>uN w' y.b)<N0.countP fun y=>uN w y.b:=by
 have kB:x∈N1++x::N2:=iZ _ (List.mem_cons_self ..)
 have a6T:j7 true x∈N1++j7 true x::N2:=iZ _ (List.mem_cons_self ..)
 refine aM4 (x:=j7 false x) (fun y0 hy0 hq=>?_) (h.mem kB) ?_ ?_
 · rw[←h.same] at hy0
   obtain⟨y,hy,rfl⟩:=List.mem_map.1 hy0
   have hq':uN w' y.b=true:=hq
   have key:y∈N1++j7 true x::N2→uN w y.b=true:=fun hm=>by
    rw[h'.gs.uN hm] at hq'
    rw[h.gs.uN hy]
    exact hq'
   rcases List.mem_append.1 hy with h1|h1
   · exact key (rN _ h1)
   rcases List.mem_cons.1 h1 with rfl|h1
   · have:=h'.gs.uN a6T
     rw[show (j7 true y).b=y.b from rfl,hq'] at this
     cases this
   exact key (iZ _ (kS _ h1))
 · show uN w x.b=true
   rw[h.gs.uN kB,hx]
   rfl
 show uN w' (j7 true x).b=false
 rw[h'.gs.uN a6T]
 rfl
theorem lV.below {W:World} {B g base:Nat} {pv:Value} {aV F:Nat} {N0:List Px} {w0 w w':World} {av fv:Value} {fl:Nat→Bool} {N:List Px} {bH:Nat} (h:lV W B g base pv aV F N0 w0 w av fv fl N bH) (hb:Below w.heap.size w w') (hB:B≤w.heap.size):lV W B g base pv aV F N0 w0 w' av fv fl N bH:=
 ⟨h.gs.below hb,h.same,h.sound,h.done,h.old.trans (hb.mono hB)⟩
theorem lV.step {W:World} {B g base:Nat} {pv:Value} {aV F:Nat} {N0:List Px} {w0 w w':World} {av fv:Value} {fl fl':Nat→Bool} {N1 N2:List Px} {x:Px} {bH:Nat} (h:lV W B g base pv aV F N0 w0 w av fv fl (N1++x::N2) bH) (hm:fC F fl (eE F x)=true)
 (qO:jW W B g base pv aV F w' av fv fl' (N1++j7 true x::N2) bH) (MG:fl'=fun j=>decide (j=(eE F x).slot)||fl j) (ho:Below B w0 w'):lV W B g base pv aV F N0 w0 w' av fv fl' (N1++j7 true x::N2) bH:=by
 have kB:x∈N1++x::N2:=iZ _ (List.mem_cons_self ..)
 have hS:eE F x∈N0.map (eE F):=List.mem_map.2 ⟨j7 false x,h.mem kB,rfl⟩
 have bQH:=aYR h.sound hS hm
 have hmt:fC F (oX F (N0.map (eE F))) (eE F x)=true:=a0I (fun k hk=>a2K.2 (h.sound k hk)) hm
 refine⟨qO,?_,fun k hk=>?_,fun y hy ht=>?_,ho⟩
 · rw[←h.same]
   simp[j7]
 · rw[MG] at hk
   simp only[Bool.or_eq_true,decide_eq_true_eq] at hk
   rcases hk with rfl|hk
   · exact bQH
   exact h.sound k hk
 rw[MG]
 have old:∀z∈N1++x::N2,z.ef.cW=true→fC F (oX F (N0.map (eE F))) (eE F z)=true∧(decide ((eE F z).slot=(eE F x).slot)||fl (eE F z).slot)=true:=fun z hz hzt=>by
  obtain⟨h1,h2⟩:=h.done z hz hzt
  exact⟨h1,by rw[h2,Bool.or_true]⟩
 rcases List.mem_append.1 hy with hy|hy
 · exact old y (rN _ hy) ht
 rcases List.mem_cons.1 hy with rfl|hy
 · exact⟨hmt,by show (decide ((eE F x).slot=(eE F x).slot)||fl (eE F x).slot)=true;rw[bF rfl,Bool.true_or]⟩
 exact old y (iZ _ (kS _ hy)) ht
end Sl
theorem bGY (W:World) (B g base:Nat) (pv:Value) (aV F:Nat) (N0:List Px) (w0:World) (av fv:Value) (bH:Nat) (hg:jW W B g base pv aV F w0 av fv (fun _=>false) N0 bH) (hn:∀x∈N0,x.ef.cW=false)
 (hcs:∀x∈N0,x.ef.calls=ints (JQ x)∧(∀c∈JQ x,c<F)∧(JQ x).length≤1000000) (hW:Below B W w0) (cN:B≤g) (hN:N0.length≤100000):
 Calls Tryz.prog 117 #[.pointer (some ⟨g,0,none⟩)] w0 fun e w'=>e=.returned (.tuple #[])∧jW W B g base pv aV F w' av fv (oX F (N0.map (eE F))) (N0.map fun x=>j7 (fC F (oX F (N0.map (eE F))) (eE F x)) x) bH∧Below B w0 w':=by
 have K7:N0.map (j7 false)=N0:=by
  conv=>rhs;rw[←List.map_id N0]
  exact List.map_congr_left fun x hx=>by
   show j7 false x=x
   rw[←hn x hx]
   rfl
 obtain⟨Af,cf,hfv,-,-⟩:=aII.of hg.fns
 rw[CM] at hfv
 subst hfv
 have HT0:=hid (show lV W B g base pv aV F N0 w0 w0 av (.slice Af F cf) (fun _=>false) N0 bH from⟨hg,K7,fun k hk=>(by cases hk),fun x hx ht=>(by rw[hn x hx] at ht;cases ht),Below.refl _ _⟩)
 have HCs:=hid hcs
 have HW:=hid hW
 have hbase:=hg.gr.low
 clear hg hn hcs hW K7
 go_enter Tryz.func117,Tryz.ntmps117
 go_wp2
 refine bEJ (fun a' w'=>∃(u1 u2 u3 u4 u5 u6 u7 u8 u9 VY u11 VX VW VV u15 u16 u17 u18 RJ VU VT JW u23 u24 qH u26 tP u28 tO qG qF u32 u33 tN tM tL tK tJ tI tH tG tF tE u44 tD qE qD qC qB qA p_ pZ:Value) (fl:Nat→Bool) (N:List Px),a'={ tmps:=#[.pointer (some ⟨g,0,none⟩),u1,u2,u3,u4,u5,u6,u7,u8,u9,VY,u11,VX,VW,VV,u15,u16,u17,u18,RJ,VU,VT,JW,u23,u24,qH,u26,tP,u28,tO,qG,qF,u32,u33,tN,tM,tL,tK,tJ,tI,tH,tG,tF,tE,u44,tD,qE,qD,qC,qB,qA,p_,pZ],defers:=[] }∧Hid (lV W B g base pv aV F N0 w0 w' av (.slice Af F cf) fl N bH)) (fun _ w'=>N0.countP fun x=>uN w' x.b) ⟨_,_,_,_,_,_,_,_,_,_,_,_,_,_,_,_,_,_,_,_,_,_,_,_,_,_,_,_,_,_,_,_,_,_,_,_,_,_,_,_,_,_,_,_,_,_,_,_,_,_,_,_,fun _=>false,N0,rfl,HT0⟩ ?_
 rintro a' wp ⟨u1,u2,u3,u4,u5,u6,u7,u8,u9,VY,u11,VX,VW,VV,u15,u16,u17,u18,RJ,VU,VT,JW,u23,u24,qH,u26,tP,u28,tO,qG,qF,u32,u33,tN,tM,tL,tK,tJ,tI,tH,tG,tF,tE,u44,tD,qE,qD,qC,qB,qA,p_,pZ,fl,N,rfl,hT⟩
 have G5:N.length=N0.length:=by rw[←hT.out.same,cL]
 have hNb:N.length≤100000:=by omega
 obtain⟨Aa,ca,hav,-⟩:=aOR (num:=N.length) hT.out.gs.gr (by rw[cL])
 subst hav
 obtain⟨-,g1,-,-,-,-,-⟩:=I1 hT.out.gs.gr
 clear G5 HT0
 go_wp2
 go_loopg [9] N.length (fun q i wr=>∃(k:Nat),k≤N.length∧q=N.length-k∧i=.int .i64 k∧Hid (lV W B g base pv aV F N0 w0 wr (.slice Aa N.length ca) (.slice Af F cf) fl N bH)∧Hid (∀x∈N.take k,x.ef.cW=true∨fC F fl (eE F x)=false))
 case atStart=>exact⟨0,Nat.zero_le _,rfl,rfl,hT,hid (fun x hx=>by (rw[List.take_zero] at hx;cases hx))⟩
 obtain⟨k,hk,hq,rfl,B6,hdone⟩:=hrel
 have Hq:=hid hq
 clear hq g1
 obtain⟨wo,rfl⟩:∃z:World,z=wr:=⟨_,rfl⟩
 by_cases hlt:k<N.length
 rotate_left
 · have hd:=hdone.out
   rw[List.take_of_length_le (by omega)] at hd
   obtain⟨e1,e2⟩:=B6.out.end_ hd
   have HG:=hid (show jW W B g base pv aV F wo (.slice Aa N.length ca) (.slice Af F cf) (oX F (N0.map (eE F))) (N0.map fun x=>j7 (fC F (oX F (N0.map (eE F))) (eE F x)) x) bH by
    have key:∀M f,M=N→f=fl→jW W B g base pv aV F wo (.slice Aa N.length ca) (.slice Af F cf) f M bH:=fun M f h1 h2=>by subst h1 h2;exact B6.out.gs
    exact key _ _ e2.symm e1.symm)
   clear hd e1 e2
   go_wp2
   simp only[Exit.jump]
   go_end0
   exact⟨rfl,HG.out,B6.out.old⟩
 obtain⟨x,hx⟩:∃x,N[k]?=some x:=⟨N[k],bX hlt⟩
 have hsp:N=N.take k++x::N.drop (k+1):=by
  rw[bX hlt] at hx
  injection hx with hx
  rw[←hx,List.getElem_cons_drop,List.take_append_drop]
 have E7:N.take (k+1)=N.take k++[x]:=by
  rw[List.take_add_one,hx]
  rfl
 have kB:x∈N:=List.mem_of_getElem? hx
 have hHk:(N.map (·.b))[k]?=some x.b:=by rw[lZ,hx];rfl
 obtain⟨gb,c',cs',hv',-,-,-,-,JL,hcell,-⟩:=cP.at_ B6.out.gs.gr.all aD7 hHk
 rw[cL] at hv'
 injection hv' with hA' _ hC'
 subst hA' hC'
 have q0:=hcell 0 Nat.one_pos
 rw[show cs'=[.pointer (some ⟨x.b,0,none⟩)] from JL,Nat.mul_one,Nat.add_zero] at q0
 have q0':wo.cell? ⟨gb,k,none⟩=some (.pointer (some ⟨x.b,0,none⟩)):=q0
 obtain⟨rv,cv,lv,bv,ov,dI,-⟩:=(B6.out.gs.dS x kB).ex
 have O3:wo.cell? ⟨x.b,11,none⟩=some (.bool x.ef.cW):=dI.cell 11
 have hzg:=B6.out.gs.gr.size
 have WN:B≤wo.heap.size:=by omega
 have HDn:=hid hdone.out
 have HSp:=hid hsp
 have HTk:=hid E7
 clear hcell JL q0 hHk hsp E7 hdone hx
 cases DF:x.ef.cW with
 |true=>
  rw[DF] at O3
  have sJ:=hid (show ∀y∈N.take (k+1),y.ef.cW=true∨fC F fl (eE F y)=false from fun y hy=>by
   rw[HTk.out] at hy
   rcases List.mem_append.1 hy with hy|hy
   · exact HDn.out y hy
   rw[List.mem_singleton.1 hy];exact .inl DF)
  clear dI DF
  go_wp2
  go_roundg (N.length-(k+1))
  case rel=>exact⟨k+1,hlt,rfl,by go_num,B6,sJ⟩
  rw[Hq.out];omega
 |false=>
  rw[DF] at O3
  obtain⟨hc1,hc2,hc3⟩:=HCs.out _ (B6.out.mem kB)
  have HM:=hid (bFL W B base B none x g F fl pv _ _ bH aV (JQ x) wo (B6.out.gs.dS x kB) (HW.out.trans B6.out.old) WN B6.out.gs.gr.blk B6.out.gs.fns hc1 hc2 hc3)
  obtain⟨res,hres⟩:∃z,z=fC F fl (eE F x):=⟨_,rfl⟩
  rw[show fC F fl (O1 F x (JQ x))=res from hres.symm] at HM
  have aTA:=hid hres
  have FO:=hid DF
  clear hc1 hc2 hc3 dI hres DF
  go_wp2_with fail
  refine HM.out.mono ?_
  rintro e1 w1 ⟨rfl,hb1⟩
  have MI:=B6.out.below hb1 WN
  have MT:=hid MI
  clear hb1 HM B6 q0' O3
  cases res with
  |false=>
   have sJ:=hid (show ∀y∈N.take (k+1),y.ef.cW=true∨fC F fl (eE F y)=false from fun y hy=>by
    rw[HTk.out] at hy
    rcases List.mem_append.1 hy with hy|hy
    · exact HDn.out y hy
    rw[List.mem_singleton.1 hy];exact .inr aTA.out.symm)
   clear MI
   go_wp2
   go_roundg (N.length-(k+1))
   case rel=>exact⟨k+1,hlt,rfl,by go_num,MT,sJ⟩
   rw[Hq.out];omega
  |true=>
   obtain⟨rv,cv,lv,bv,ov,dI,-⟩:=(MI.gs.dS x kB).ex
   have O3:w1.cell? ⟨x.b,11,none⟩=some (.bool x.ef.cW):=dI.cell 11
   have f11:=dI.frozen 11
   obtain⟨N1,N2,VG⟩:∃N1 N2,N=N1++x::N2:=⟨_,_,HSp.out⟩
   have qO:jW W B g base pv aV F w1 (.slice (some ⟨gb,0,none⟩) N.length ca) (.slice Af F cf) fl (N1++x::N2) bH:=by
    have key:∀M,M=N→jW W B g base pv aV F w1 (.slice (some ⟨gb,0,none⟩) N.length ca) (.slice Af F cf) fl M bH:=fun M e=>by subst e;exact MI.gs
    exact key _ VG.symm
   have aJZ:=hid VG
   have hg2:=qO.aQU true
   have IL:=hid hg2
   have KE:=hid (MI.old.trans (show Below B w1 (w1.setCell ⟨x.b,11,none⟩ (.bool true)) from (Below.refl B w1).setCell (show B≤x.b by have:=(MI.gs.dS x kB).low;omega) _))
   clear qO hg2 dI MI VG
   go_upto_region 5 with fail
   clear f11 O3
   generalize w1.setCell ⟨x.b,11,none⟩ (.bool true)=w2 at *
   have aU:=I1 IL.out.gr
   obtain⟨-,-,-,g3,-,-,-⟩:=aU
   have aJC:j7 true x∈N1++j7 true x::N2:=iZ _ (List.mem_cons_self ..)
   obtain⟨rv',gH,lv',mD,fP,kG,-⟩:=(IL.out.dS _ aJC).ex
   have q00:w2.cell? ⟨x.b,0,none⟩=some (.int .i64 (x.sm.unit:Nat)):=kG.cell 0
   clear kG
   go_still_tail 10,(by kernel_rfl)
   change wpList _ _ _ _ _ w2.drew
   by_cases hu:x.sm.unit<F
   rotate_left
   · have hu1:decide ((x.sm.unit:Int)<(F:Int))=false:=bP (by omega)
     have hu2:decide (x.sm.unit<F)=false:=bP hu
     have hu3:¬(x.sm.unit:Int)<(F:Int):=by omega
     have hG3:=(IL.out.below ((Below.refl w2.heap.size w2).drew)).bP1
     have G4:Below B w0 (w2.drew.setCell ⟨g,4,none⟩ (.bool true)):=KE.out.drew.setCell cN _
     have Y2:(eE F x).slot=F:=by unfold eE O1;exact if_neg hu
     have Z1:lV W B g base pv aV F N0 w0 wp (.slice (some ⟨gb,0,none⟩) N.length ca) (.slice Af F cf) fl (N1++x::N2) bH:=by
      have key:∀M,M=N→lV W B g base pv aV F N0 w0 wp (.slice (some ⟨gb,0,none⟩) N.length ca) (.slice Af F cf) fl M bH:=fun M e=>by subst e;exact hT.out
      exact key _ aJZ.out.symm
     have Z2:lV W B g base pv aV F N0 w0 w1 (.slice (some ⟨gb,0,none⟩) N.length ca) (.slice Af F cf) fl (N1++x::N2) bH:=by
      have key:∀M,M=N→lV W B g base pv aV F N0 w0 w1 (.slice (some ⟨gb,0,none⟩) N.length ca) (.slice Af F cf) fl M bH:=fun M e=>by subst e;exact MT.out
      exact key _ aJZ.out.symm
     have tZ:=hid (Z2.step aTA.out.symm hG3 (by rw[Y2]) G4)
     have XC:=hid (Z1.less tZ.out FO.out)
     obtain⟨-,-,-,-,g4,-,gfz⟩:=I1 (IL.out.below ((Below.refl w2.heap.size w2).drew)).gr
     have f4:=gfz 4
     clear gfz g3 q00 hG3 G4 Y2 Z2 Z1
     go_upto_region 7 with fail
     go_wp2
     go_step3
     exact⟨rfl,⟨_,_,_,_,_,_,_,_,_,_,_,_,_,_,_,_,_,_,_,_,_,_,_,_,_,_,_,_,_,_,_,_,_,_,_,_,_,_,_,_,_,_,_,_,_,_,_,_,_,_,_,_,_,_,rfl,tZ⟩,XC.out⟩
   have hu1:decide ((x.sm.unit:Int)<(F:Int))=true:=bF (by omega)
   have hu2:decide (x.sm.unit<F)=true:=bF hu
   have hu3:(x.sm.unit:Int)<(F:Int):=by omega
   go_upto_region 6 with fail
   have HG3:=hid (IL.out.below ((Below.refl w2.heap.size w2).drew))
   have gK:=hid KE.out.drew
   have g3':w2.drew.cell? ⟨g,3,none⟩=some (.slice Af F cf):=g3
   have q00':w2.drew.cell? ⟨x.b,0,none⟩=some (.int .i64 (x.sm.unit:Nat)):=q00
   generalize w2.drew=w3 at *
   clear g3 q00 IL KE
   obtain⟨gf,cf',cs6,hv6,-,iP,hgf,-,a7V,a5C,a7N⟩:=cP.at_ HG3.out.fns M_ (I0 (f:=fl) hu)
   rw[CM] at hv6
   injection hv6 with SS _ hC6
   subst SS hC6
   have q6:=a5C 0 Nat.one_pos
   rw[show cs6=[.bool (fl x.sm.unit)] from a7V,Nat.mul_one,Nat.add_zero] at q6
   have q6':w3.cell? ⟨gf,x.sm.unit,none⟩=some (.bool (fl x.sm.unit)):=q6
   have f6:=a7N x.sm.unit
   have hG4:=(HG3.out.below ((Below.refl w3.heap.size w3).drew)).bP0 hu
   have hO4:Below B w0 (w3.drew.setCell ⟨gf,x.sm.unit,none⟩ (.bool true)):=gK.out.drew.setCell (show B≤gf by omega) _
   have Y2:(eE F x).slot=x.sm.unit:=by unfold eE O1;exact if_pos hu
   have Z1:lV W B g base pv aV F N0 w0 wp (.slice (some ⟨gb,0,none⟩) N.length ca) (.slice (some ⟨gf,0,none⟩) F cf) fl (N1++x::N2) bH:=by
    have key:∀M,M=N→lV W B g base pv aV F N0 w0 wp (.slice (some ⟨gb,0,none⟩) N.length ca) (.slice (some ⟨gf,0,none⟩) F cf) fl M bH:=fun M e=>by subst e;exact hT.out
    exact key _ aJZ.out.symm
   have Z2:lV W B g base pv aV F N0 w0 w1 (.slice (some ⟨gb,0,none⟩) N.length ca) (.slice (some ⟨gf,0,none⟩) F cf) fl (N1++x::N2) bH:=by
    have key:∀M,M=N→lV W B g base pv aV F N0 w0 w1 (.slice (some ⟨gb,0,none⟩) N.length ca) (.slice (some ⟨gf,0,none⟩) F cf) fl M bH:=fun M e=>by subst e;exact MT.out
    exact key _ aJZ.out.symm
   have tZ:=hid (Z2.step aTA.out.symm hG4 (by rw[Y2]) hO4)
   have XC:=hid (Z1.less tZ.out FO.out)
   clear q6 a5C a7V a7N hG4 hO4 Z2 Z1 Y2 HG3 gK
   go_still_tail 9,(by kernel_rfl)
   go_wp2
   go_step3
   exact⟨rfl,⟨_,_,_,_,_,_,_,_,_,_,_,_,_,_,_,_,_,_,_,_,_,_,_,_,_,_,_,_,_,_,_,_,_,_,_,_,_,_,_,_,_,_,_,_,_,_,_,_,_,_,_,_,_,_,rfl,tZ⟩,XC.out⟩
end
end Go.Proofs.YtdlndhbkcgmkkaaGreatDoor
