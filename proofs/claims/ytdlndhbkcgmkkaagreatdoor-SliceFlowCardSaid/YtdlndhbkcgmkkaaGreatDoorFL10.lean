/-
 Part 10 of 35 of a proof about the given program: facts on which the last part stands.
-/
import Derived.Test.YtdlndhbkcgmkkaaGreatDoorFL09
import Derived.Maps.Keyed
import Derived.Maps.Own
import Derived.Maps.OwnOps
import Derived.DeepKeys4
set_option maxHeartbeats 12800000
set_option linter.unusedVariables false
set_option linter.unusedSimpArgs false
set_option maxRecDepth 100000
namespace Go.Proofs.YtdlndhbkcgmkkaaGreatDoor
section
open Go.RowKit
open Sl
open Go.Lib (hid)
theorem aN5 (s:aA) (w:World) (hs:s.size≤140737488355328):Calls Tryz.prog 123 #[.string s] w fun e w'=>e=.returned (.bool (nm s))∧Below w.heap.size w w':=by
 by_cases h0:0<s.size
 rotate_left
 · have b0:((s.size:Int)==0)=true:=beq_iff_eq.2 (by omega)
   have HR:=hid (aH5 (s:=s) (by omega))
   go_enter Tryz.func123,Tryz.ntmps123
   go_wp2
   go_ret
   exact⟨aR HR.out.symm,Below.refl _ _⟩
 have b0:((s.size:Int)==0)=false:=aP (by omega)
 by_cases pF:s.size≤16
 rotate_left
 · have b1:decide ((s.size:Int) > 16)=true:=by simp;omega
   have HR:=hid (aH5 (s:=s) (by omega))
   go_enter Tryz.func123,Tryz.ntmps123
   go_wp2
   go_ret
   exact⟨aR HR.out.symm,Below.refl _ _⟩
 have b1:decide ((s.size:Int) > 16)=false:=by simp;omega
 have HN:=hid (a5T h0 pF)
 have HL:=hid (aZE (s[0]'h0).toNat w)
 cases hl:low (s[0]'h0).toNat with
 |false=>
  have HR:=hid (show nm s=false by rw[HN.out,hl];rfl)
  rw[hl] at HL
  clear HN hl
  go_enter Tryz.func123,Tryz.ntmps123
  go_wp2_with fail
  refine HL.out.mono ?_
  rintro e w' ⟨rfl,rfl⟩
  go_wp2
  go_ret
  exact⟨aR HR.out.symm,Below.refl _ _⟩
 |true=>
  rw[hl] at HL
  cases hk:inL l8 s with
  |true=>
   have HR:=hid (show nm s=false by rw[HN.out,hl,hk];rfl)
   have HK:=hid (hk▸aYD s w:Calls Tryz.prog 167 #[.string s] w fun e w'=>e=.returned (.bool true)∧Below w.heap.size w w')
   clear HN hl hk
   go_enter Tryz.func123,Tryz.ntmps123
   go_wp2_with fail
   refine HL.out.mono ?_
   rintro e w' ⟨rfl,rfl⟩
   go_wp2_with fail
   refine HK.out.mono ?_
   rintro e w1 ⟨rfl,hb⟩
   have HB:=hid hb
   clear hb
   go_wp2
   go_ret
   exact⟨aR HR.out.symm,HB.out⟩
  |false=>
   have HR:=hid (show nm s=s.data.toList.all fun b=>wb b.toNat by rw[HN.out,hl,hk];rfl)
   have HK:=hid (hk▸aYD s w:Calls Tryz.prog 167 #[.string s] w fun e w'=>e=.returned (.bool false)∧Below w.heap.size w w')
   clear HN hl hk
   go_enter Tryz.func123,Tryz.ntmps123
   go_wp2_with fail
   refine HL.out.mono ?_
   rintro e w' ⟨rfl,rfl⟩
   go_wp2_with fail
   refine HK.out.mono ?_
   rintro e w1 ⟨rfl,hb⟩
   have HB:=hid hb
   clear hb
   go_wp2
   go_loop [24] (fun i=>∃k:Nat,k≤s.size∧i=.int .i64 k∧Hid ((s.data.toList.take k).all (fun b=>wb b.toNat)=true)) (fun i=>s.size-(intOf i).toNat)
   case atStart=>exact⟨0,Nat.zero_le _,rfl,hid rfl⟩
   obtain⟨k,hk,rfl,he⟩:=hrel
   by_cases hlt:k<s.size
   rotate_left
   · have H2:=hid (show (s.data.toList.all fun b=>wb b.toNat)=true by
      have:=he.out
      rwa [List.take_of_length_le (by simp;omega)] at this)
     clear he
     go_wp2
     go_ret
     exact⟨aR (HR.out.trans H2.out).symm,HB.out⟩
   have HP:=hid (bFC (s[k]'hlt).toNat w1)
   cases hw:wb (s[k]'hlt).toNat with
   |false=>
    have H2:=hid (HR.out.trans (a3G hlt (f:=fun b=>wb b.toNat) hw))
    rw[hw] at HP
    clear hw he
    go_wp2_with (go_at_call 168;refine HP.out.mono ?_;rintro e w' ⟨rfl,rfl⟩)
    go_ret
    exact⟨aR H2.out.symm,HB.out⟩
   |true=>
    have H2:=hid (show (s.data.toList.take (k+1)).all (fun b=>wb b.toNat)=true by rw[a2I hlt,he.out,Bool.true_and];exact hw)
    rw[hw] at HP
    clear hw he
    go_wp2_with (go_at_call 168;refine HP.out.mono ?_;rintro e w' ⟨rfl,rfl⟩)
    go_round
    case rel=>exact⟨k+1,hlt,by go_num,H2⟩
    simp[intOf];omega
theorem aM7 (s:aA) (w:World) (hs:s.size≤140737488355328):Calls Tryz.prog 130 #[.string s] w fun e w'=>e=.returned (.bool (nm s))∧Below w.heap.size w w':=by
 by_cases h0:0<s.size
 rotate_left
 · have b3:s.toList=[]:=toList_nil h0
   have HR:=hid (aH5 (s:=s) (by omega))
   go_enter Tryz.func130,Tryz.ntmps130
   go_wp2
   go_ret
   exact⟨aR HR.out.symm,Below.refl _ _⟩
 have b2:(s.toList==[])=false:=aP (toList_cons h0)
 have b3:s.toList.isEmpty=false:=by cases h:s.toList with|nil=>exact absurd h (toList_cons h0)|cons=>rfl
 by_cases pF:s.size≤16
 rotate_left
 · have b1:decide ((s.size:Int) > 16)=true:=by simp;omega
   have HR:=hid (aH5 (s:=s) (by omega))
   go_enter Tryz.func130,Tryz.ntmps130
   go_wp2
   go_ret
   exact⟨aR HR.out.symm,Below.refl _ _⟩
 have b1:decide ((s.size:Int) > 16)=false:=by simp;omega
 have HN:=hid (a5T h0 pF)
 have HL:=hid (aYY (s[0]'h0).toNat w)
 cases hl:low (s[0]'h0).toNat with
 |false=>
  have HR:=hid (show nm s=false by rw[HN.out,hl];rfl)
  rw[hl] at HL
  clear HN hl
  go_enter Tryz.func130,Tryz.ntmps130
  go_wp2_with fail
  refine HL.out.mono ?_
  rintro e w' ⟨rfl,rfl⟩
  go_wp2
  go_ret
  exact⟨aR HR.out.symm,Below.refl _ _⟩
 |true=>
  rw[hl] at HL
  cases hk:inL l8 s with
  |true=>
   have HR:=hid (show nm s=false by rw[HN.out,hl,hk];rfl)
   have HKw:=hid (aXV w)
   have bN:=hid (aG.new w 9 (l8.map Value.string).toArray)
   have HA:=hid ((Below.refl w.heap.size w).alloc (aC _) (.cells (l8.map Value.string).toArray 9))
   have HC:=hid (fun (W:World) (hb:aG W w.heap.size 9 (l8.map Value.string).toArray)=>KY (.slice (some ⟨w.heap.size,0,none⟩) 20 20) l8 s W.heap.size W (X6 hb hb.lt rfl) (by decide))
   have hi:=(I4 l8 s).trans hk
   generalize Lib.idxOfS l8 s=i at *
   generalize w.alloc (.cells (l8.map Value.string).toArray 9)=w1 at *
   have hi':decide (i≥0)=true:=hi
   clear HN hl hk
   go_enter Tryz.func130,Tryz.ntmps130
   go_wp2_with fail
   refine HL.out.mono ?_
   rintro e w' ⟨rfl,rfl⟩
   go_wp2_with fail
   refine HKw.out.mono ?_
   rintro e w' ⟨rfl,rfl⟩
   go_wp2_with fail
   refine (HC.out _ bN.out).mono ?_
   rintro e w' ⟨rfl,rfl⟩
   have HB:=hid HA.out
   go_wp2
   go_ret
   exact⟨aR HR.out.symm,HB.out⟩
  |false=>
   have HR:=hid (show nm s=s.data.toList.all fun b=>wb b.toNat by rw[HN.out,hl,hk];rfl)
   have HKw:=hid (aXV w)
   have bN:=hid (aG.new w 9 (l8.map Value.string).toArray)
   have HA:=hid ((Below.refl w.heap.size w).alloc (aC _) (.cells (l8.map Value.string).toArray 9))
   have HC:=hid (fun (W:World) (hb:aG W w.heap.size 9 (l8.map Value.string).toArray)=>KY (.slice (some ⟨w.heap.size,0,none⟩) 20 20) l8 s W.heap.size W (X6 hb hb.lt rfl) (by decide))
   have hi:=(I4 l8 s).trans hk
   generalize Lib.idxOfS l8 s=i at *
   generalize w.alloc (.cells (l8.map Value.string).toArray 9)=w1 at *
   have hi':decide (i≥0)=false:=hi
   clear HN hl hk
   go_enter Tryz.func130,Tryz.ntmps130
   go_wp2_with fail
   refine HL.out.mono ?_
   rintro e w' ⟨rfl,rfl⟩
   go_wp2_with fail
   refine HKw.out.mono ?_
   rintro e w' ⟨rfl,rfl⟩
   go_wp2_with fail
   refine (HC.out _ bN.out).mono ?_
   rintro e w' ⟨rfl,rfl⟩
   have HB:=hid HA.out
   go_wp2
   go_loop [3] (fun i=>∃k:Nat,k≤s.size∧i=.int .i64 k∧Hid ((s.data.toList.take k).all (fun b=>wb b.toNat)=true)) (fun i=>s.size-(intOf i).toNat)
   case atStart=>exact⟨0,Nat.zero_le _,rfl,hid rfl⟩
   obtain⟨k,hk,rfl,he⟩:=hrel
   by_cases hlt:k<s.size
   rotate_left
   · have H2:=hid (show (s.data.toList.all fun b=>wb b.toNat)=true by
      have:=he.out
      rwa [List.take_of_length_le (by simp;omega)] at this)
     clear he
     go_wp2
     go_ret
     exact⟨aR (HR.out.trans H2.out).symm,HB.out⟩
   have HP:=hid (bI_ (s[k]'hlt).toNat w1)
   cases hw:wb (s[k]'hlt).toNat with
   |false=>
    have H2:=hid (HR.out.trans (a3G hlt (f:=fun b=>wb b.toNat) hw))
    rw[hw] at HP
    clear hw he
    go_wp2_with (go_at_call 179;refine HP.out.mono ?_;rintro e w' ⟨rfl,rfl⟩)
    go_ret
    exact⟨aR H2.out.symm,HB.out⟩
   |true=>
    have H2:=hid (show (s.data.toList.take (k+1)).all (fun b=>wb b.toNat)=true by rw[a2I hlt,he.out,Bool.true_and];exact hw)
    rw[hw] at HP
    clear hw he
    go_wp2_with (go_at_call 179;refine HP.out.mono ?_;rintro e w' ⟨rfl,rfl⟩)
    go_round
    case rel=>exact⟨k+1,hlt,by go_num,H2⟩
    simp[intOf];omega
theorem bHV (k:Nat) (w:World):Calls Tryz.prog 257 #[.int .u8 k] w fun e w'=>e=.returned (.bool (pS k))∧w=w':=by
 cases h1:decide ((k:Int)≥1)<;>cases h2:decide ((k:Int)≤13)<;>
 (have HE:Hid (pS k=(decide ((k:Int)≥1)&&decide ((k:Int)≤13))):=hid (by unfold pS;congr 1<;>rw[decide_eq_decide]<;>omega)
  go_enter Tryz.func257,Tryz.ntmps257
  go_wp2
  go_ret
  exact⟨aR (by rw[HE.out,h1,h2];rfl),rfl⟩)
theorem bEH (k:Nat) (w:World):Calls Tryz.prog 171 #[.int .u8 k] w fun e w'=>e=.returned (.bool (k8 k))∧w=w':=by
 cases h1:decide ((k:Int)≥14)<;>cases h2:decide ((k:Int)≤27)<;>
 (have HE:Hid (k8 k=(decide ((k:Int)≥14)&&decide ((k:Int)≤27))):=hid (by unfold k8;congr 1<;>rw[decide_eq_decide]<;>omega)
  go_enter Tryz.func171,Tryz.ntmps171
  go_wp2
  go_ret
  exact⟨aR (by rw[HE.out,h1,h2];rfl),rfl⟩)
theorem bF8 (k:Nat) (w:World):Calls Tryz.prog 220 #[.int .u8 k] w fun e w'=>e=.returned (.bool (pS k))∧w=w':=by
 cases h1:decide ((k:Int)≥1)<;>cases h2:decide ((k:Int)≤13)<;>
 (have HE:Hid (pS k=(decide ((k:Int)≥1)&&decide ((k:Int)≤13))):=hid (by unfold pS;congr 1<;>rw[decide_eq_decide]<;>omega)
  go_enter Tryz.func220,Tryz.ntmps220
  go_wp2
  go_ret
  exact⟨aR (by rw[HE.out,h1,h2];rfl),rfl⟩)
theorem aYA (k:Nat) (w:World):Calls Tryz.prog 144 #[.int .u8 k] w fun e w'=>e=.returned (.bool (k8 k))∧w=w':=by
 cases h1:decide ((k:Int)≥14)<;>cases h2:decide ((k:Int)≤27)<;>
 (have HE:Hid (k8 k=(decide ((k:Int)≥14)&&decide ((k:Int)≤27))):=hid (by unfold k8;congr 1<;>rw[decide_eq_decide]<;>omega)
  go_enter Tryz.func144,Tryz.ntmps144
  go_wp2
  go_ret
  exact⟨aR (by rw[HE.out,h1,h2];rfl),rfl⟩)
theorem bI8 (k:Nat) (w:World):Calls Tryz.prog 221 #[.int .u8 k] w fun e w'=>e=.returned (.tuple #[.int .i64 (nV k).1,.int .i64 (nV k).2])∧w=w':=by
 by_cases hk:k=1∨k=2∨k=10∨k=11∨k=12∨k=21∨k=4∨k=8∨k=5∨k=13∨k=6∨k=16
 · rcases hk with rfl|rfl|rfl|rfl|rfl|rfl|rfl|rfl|rfl|rfl|rfl|rfl<;>
   (go_enter Tryz.func221,Tryz.ntmps221
    go_wp2
    go_ret2
    exact⟨rfl,rfl⟩)
 · have HE:=hid (show nV k=(1,1) by unfold nV;rw[if_neg (by omega),if_neg (by omega),if_neg (by omega),if_neg (by omega),if_neg (by omega)])
   have e1:((k:Int)==1)=false:=aP (by omega)
   have e2:((k:Int)==2)=false:=aP (by omega)
   have B9:((k:Int)==10)=false:=aP (by omega)
   have e11:((k:Int)==11)=false:=aP (by omega)
   have MP:((k:Int)==12)=false:=aP (by omega)
   have S7:((k:Int)==21)=false:=aP (by omega)
   have e4:((k:Int)==4)=false:=aP (by omega)
   have e8:((k:Int)==8)=false:=aP (by omega)
   have e5:((k:Int)==5)=false:=aP (by omega)
   have G_:((k:Int)==13)=false:=aP (by omega)
   have e6:((k:Int)==6)=false:=aP (by omega)
   have AJ:((k:Int)==16)=false:=aP (by omega)
   clear hk
   go_enter Tryz.func221,Tryz.ntmps221
   go_wp2
   go_ret2
   exact⟨by rw[HE.out];rfl,rfl⟩
theorem bMH {α:Type} {ps:List α} {k:Nat} (hk:k<ps.length) {f:α→Bool} {d:α}:(ps.take (k+1)).all f=((ps.take k).all f&&f (ps.getD k d)):=by
 rw[List.take_succ_eq_append_getElem hk,List.all_append,dR,bX hk]
 simp
theorem a3T {α:Type} {ps:List α} {k:Nat} (hk:k<ps.length) {d:α}:ps.getD k d∈ps:=by
 rw[dR,bX hk]
 exact Q1 hk
theorem bFB {α:Type} {ps:List α} {x:α} (h:x∈ps) {f:α→Bool} (hf:f x=false):ps.all f=false:=by
 rw[List.all_eq_false]
 exact⟨x,h,by simp[hf]⟩
theorem aY2 (v:Value) (ps:List aA) (B:Nat) (w:World) (hv:iF w B v ps) (hB:B≤w.heap.size) (hN:ps.length≤140737488355328) (hs:∀x∈ps,x.size≤140737488355328):
 Calls Tryz.prog 131 #[v] w fun e w'=>e=.returned (.bool (mF nm ps))∧Below w.heap.size w w':=by
 obtain⟨A,c,rfl,hc,hr⟩:=hv
 have HR:=hid hr
 have HS:=hid hs
 clear hr hs
 go_enter Tryz.func131,Tryz.ntmps131
 go_wp2
 go_loopg [3] ps.length (fun g i wr=>∃k:Nat,k≤ps.length∧g=ps.length-k∧i=.int .i64 k∧Hid ((ps.take k).all nm=true)∧Hid (Below w.heap.size w wr))
 case atStart=>exact⟨0,Nat.zero_le _,rfl,rfl,hid rfl,hid (Below.refl _ _)⟩
 obtain⟨k,hk,hq,rfl,he,hb⟩:=hrel
 have Hq:=hid hq
 clear hq
 obtain⟨wo,rfl⟩:∃x:World,x=wr:=⟨_,rfl⟩
 have hz:=hb.out.size
 by_cases hlt:k<ps.length
 rotate_left
 · have H1:=hid (show mF nm ps=decide ((ps.length:Int)≤8) by
    have:=he.out
    rw[List.take_of_length_le (by omega)] at this
    unfold mF
    rw[this,Bool.true_and,decide_eq_decide]
    omega)
   cases hd:decide ((ps.length:Int)≤8)<;>
   (have H2:=hid (H1.out.trans hd)
    go_wp2
    go_ret
    exact⟨aR H2.out.symm,hb.out⟩)
 obtain⟨ad,rfl,_,hcell⟩:=FV (HR.out.below (hb.out.mono hB)) hlt
 have hx:=bMH hlt (f:=nm) (d:=ByteArray.empty)
 have hm:ps.getD k ByteArray.empty∈ps:=a3T hlt
 have HC:=hid (aM7 (ps.getD k ByteArray.empty) wo (HS.out _ hm))
 rw[he.out,Bool.true_and] at hx
 have HX:=hid hx
 have HM:=hid (fun h=>bFB (f:=nm) hm h)
 clear hx hm
 generalize ps.getD k ByteArray.empty=y at *
 cases hy:nm y with
 |true=>
  have H1:=hid (HX.out.trans hy)
  rw[hy] at HC
  clear hy HX HM
  go_wp2_with fail
  refine HC.out.mono ?_
  rintro e w1 ⟨rfl,hb1⟩
  have HB:=hid (hb.out.trans (hb1.mono hz))
  clear hb1
  go_wp2
  go_roundg (ps.length-(k+1))
  case rel=>exact⟨k+1,hlt,rfl,by go_num,H1,HB⟩
  rw[Hq.out];omega
 |false=>
  have H1:=hid (show mF nm ps=false by unfold mF;rw[HM.out hy];rfl)
  rw[hy] at HC
  clear hy HX HM
  go_wp2_with fail
  refine HC.out.mono ?_
  rintro e w1 ⟨rfl,hb1⟩
  have HB:=hid (hb.out.trans (hb1.mono hz))
  clear hb1
  go_wp2
  go_ret
  exact⟨aR H1.out.symm,HB.out⟩
theorem bGA (x:aA) (w:World) (hs:x.size≤140737488355328):Calls Tryz.prog 170 #[.string x] w fun e w'=>e=.returned (.bool (!nm x))∧Below w.heap.size w w':=by
 have HC:=hid (aN5 x w hs)
 generalize nm x=b at *
 cases b<;>
 (go_enter Tryz.func170,Tryz.ntmps170
  go_wp2_with fail
  refine HC.out.mono ?_
  rintro e w1 ⟨rfl,hb1⟩
  have HB:=hid hb1
  clear hb1
  go_wp2
  go_ret
  exact⟨rfl,HB.out⟩)
theorem bHY (v:Value) (ps:List aA) (B:Nat) (w:World) (hv:iF w B v ps) (hB:B≤w.heap.size) (hN:ps.length≤140737488355328) (hs:∀x∈ps,x.size≤140737488355328):
 Calls Tryz.prog 214 #[v,.func (.func 170) #[] #[]] w fun e w'=>e=.returned (.int .i64 (dQ (fun x=>!nm x) ps 0))∧Below w.heap.size w w':=by
 obtain⟨A,c,rfl,hc,hr⟩:=hv
 have HR:=hid hr
 have HS:=hid hs
 clear hr hs
 go_enter Tryz.func214,Tryz.ntmps214
 go_wp2
 go_loopg [8] ps.length (fun g i wr=>∃k:Nat,k≤ps.length∧g=ps.length-k∧i=.int .i64 k∧Hid (∀j,j<k→(!nm (ps.getD j ByteArray.empty))=false)∧Hid (Below w.heap.size w wr))
 case atStart=>exact⟨0,Nat.zero_le _,rfl,rfl,hid fun j h=>absurd h (Nat.not_lt_zero _),hid (Below.refl _ _)⟩
 obtain⟨k,hk,hq,rfl,he,hb⟩:=hrel
 have Hq:=hid hq
 clear hq
 obtain⟨wo,rfl⟩:∃x:World,x=wr:=⟨_,rfl⟩
 have hz:=hb.out.size
 by_cases hlt:k<ps.length
 rotate_left
 · have H1:=hid (show dQ (fun x=>!nm x) ps 0=-1 from aNN (d:=ByteArray.empty) fun j hj=>he.out j (by omega))
   clear he
   go_wp2
   go_ret
   exact⟨dC H1.out.symm,hb.out⟩
 obtain⟨ad,rfl,_,hcell⟩:=FV (HR.out.below (hb.out.mono hB)) hlt
 have HC:=hid (bGA (ps.getD k ByteArray.empty) wo (HS.out _ (a3T hlt)))
 cases hy:nm (ps.getD k ByteArray.empty) with
 |true=>
  have H1:=hid (show ∀j,j<k+1→(!nm (ps.getD j ByteArray.empty))=false from fun j hj=>by
   by_cases e:j=k
   · rw[e,hy];rfl
   exact he.out j (by omega))
  rw[hy] at HC
  clear hy he
  generalize ps.getD k ByteArray.empty=y at *
  go_wp2_with fail
  refine HC.out.mono ?_
  rintro e w1 ⟨rfl,hb1⟩
  have HB:=hid (hb.out.trans (hb1.mono hz))
  clear hb1
  go_wp2
  go_roundg (ps.length-(k+1))
  case rel=>exact⟨k+1,hlt,rfl,by go_num,H1,HB⟩
  rw[Hq.out];omega
 |false=>
  have H1:=hid (show dQ (fun x=>!nm x) ps 0=k by
   have:=aOB (f:=fun x=>!nm x) (d:=ByteArray.empty) (i:=0) hlt (by show (!nm _)=true;rw[hy];rfl) he.out
   rwa [Nat.zero_add] at this)
  rw[hy] at HC
  clear hy he
  generalize ps.getD k ByteArray.empty=y at *
  go_wp2_with fail
  refine HC.out.mono ?_
  rintro e w1 ⟨rfl,hb1⟩
  have HB:=hid (hb.out.trans (hb1.mono hz))
  clear hb1
  go_wp2
  go_ret
  exact⟨dC H1.out.symm,HB.out⟩
theorem bIK (v:Value) (ps:List aA) (B:Nat) (w:World) (hv:iF w B v ps) (hB:B≤w.heap.size) (hN:ps.length≤140737488355328) (hs:∀x∈ps,x.size≤140737488355328):
 Calls Tryz.prog 169 #[v,.func (.func 170) #[] #[]] w fun e w'=>e=.returned (.bool (ps.any fun x=>!nm x))∧Below w.heap.size w w':=by
 have HC:=hid (bHY v ps B w hv hB hN hs)
 have HE:=hid (aOC (f:=fun x=>!nm x) ps 0)
 generalize dQ (fun x=>!nm x) ps 0=i at *
 clear hv hs
 go_enter Tryz.func169,Tryz.ntmps169
 go_wp2_with fail
 refine HC.out.mono ?_
 rintro e w1 ⟨rfl,hb1⟩
 have HB:=hid hb1
 clear hb1
 go_wp2
 go_ret
 exact⟨aR HE.out,HB.out⟩
theorem bGB (ps:List aA):mF nm ps=(!(ps.any fun x=>!nm x)&&decide (ps.length≤8)):=by
 unfold mF
 congr 1
 induction ps with
 |nil=>rfl
 |cons x l ih=>rw[List.all_cons,List.any_cons,ih];cases nm x<;>simp
theorem aY7 (v:Value) (ps:List aA) (B:Nat) (w:World) (hv:iF w B v ps) (hB:B≤w.heap.size) (hN:ps.length≤140737488355328) (hs:∀x∈ps,x.size≤140737488355328):
 Calls Tryz.prog 124 #[v] w fun e w'=>e=.returned (.bool (mF nm ps))∧Below w.heap.size w w':=by
 have HC:=hid (bIK v ps B w hv hB hN hs)
 have HE:=hid (bGB ps)
 obtain⟨A,c,rfl,hc,hr⟩:=hv
 clear hs hr
 generalize (ps.any fun x=>!nm x)=b at *
 by_cases h8:ps.length≤8
 · have h1:decide ((ps.length:Int)≤8)=true:=by simp;omega
   have TR:=hid (HE.out.trans (by rw[bF h8,Bool.and_true]))
   clear HE
   cases b<;>
   (go_enter Tryz.func124,Tryz.ntmps124
    go_wp2_with fail
    refine HC.out.mono ?_
    rintro e w1 ⟨rfl,hb1⟩
    have HB:=hid hb1
    clear hb1
    go_wp2
    go_ret
    exact⟨aR TR.out.symm,HB.out⟩)
 have h1:decide ((ps.length:Int)≤8)=false:=by simp;omega
 have TR:=hid (HE.out.trans (by rw[bP h8,Bool.and_false]))
 clear HE
 go_enter Tryz.func124,Tryz.ntmps124
 go_wp2
 go_ret
 exact⟨aR TR.out.symm,Below.refl _ _⟩
end
section
open Go.RowKit
open Sl
def Sl.Fo.aX:Fo→Nat
 |.nil=>0
 |.cons _ _ _ s ps b e r=>ps.length+aX s+aX b+aX e+aX r
structure UO {ρ:Type} (sz:Nat) (R:List Value→ρ→Prop) (len:ρ→Nat) (app:ρ→ρ→ρ):Prop where
 F_:∀{xs:List Value} {l:ρ},R xs l→∀u∈xs,u.oneCell'=true
 VL:∀{xs ys:List Value} {l m:ρ},R xs l→R ys m→R (xs++ys) (app l m)
 len_:∀(l m:ρ),len (app l m)=len l+len m
def aF {ρ:Type} (e:TypeId) (sz:Nat) (R:List Value→ρ→Prop) (len:ρ→Nat) (w:World) (base:Nat) (v:Value) (l:ρ):Prop:=
 ∃xs,w.ownsRow base e sz v (len l) xs∧R xs l
section
variable {ρ:Type} {e:TypeId} {sz:Nat} {R:List Value→ρ→Prop} {len:ρ→Nat} {app:ρ→ρ→ρ} {w w':World} {base:Nat} {v:Value} {l:ρ}
theorem aF.nil (w:World) (base:Nat) (h0:R [] l) (hl:len l=0):aF e sz R len w base (.slice none 0 0) l:=⟨[],by rw[hl];exact⟨by simp,.inl ⟨rfl,rfl⟩⟩,h0⟩
theorem aF.kept {row:Option Nat} (h:aF e sz R len w base v l) (hg:w.grownBy w' row) (hr:∀g,row=some g→v.ownBlock≠some g):aF e sz R len w' base v l:=by
 obtain⟨xs,h1,h2⟩:=h
 exact⟨xs,fA h1 hg hr,h2⟩
theorem aF.below {B:Nat} (h:aF e sz R len w base v l) (hb:Below B w w') (hB:w.heap.size≤B):aF e sz R len w' base v l:=by
 obtain⟨xs,h1,h2⟩:=h
 exact⟨xs,gW h1 hb hB,h2⟩
theorem aF.more {base':Nat} (h:aF e sz R len w base v l) (hb:base'≤base):aF e sz R len w base' v l:=by
 obtain⟨xs,h1,h2⟩:=h
 exact⟨xs,uH h1 hb,h2⟩
theorem aF.ne {g:Nat} {t:TypeId} {cs:Array Value} (h:aF e sz R len w base v l) (hg:aG w g t cs) (hne:e≠t):v.ownBlock≠some g:=by
 obtain⟨xs,h1,h2⟩:=h
 exact eB h1 hg hne
theorem aF.alloc (h:aF e sz R len w base v l) (o:Obj):aF e sz R len (w.alloc o) base v l:=
 h.below ((Below.refl w.heap.size w).alloc (aC _) o) (aC _)
theorem aF.src (h:aF e sz R len w base v l):∃A c news,v=.slice A (len l) c∧len l≤c∧Reads w w.heap.size sz A (len l) news∧R news l:=by
 obtain⟨xs,h1,h2⟩:=h
 obtain⟨A,c,h3,h4,h5,-⟩:=jJ h1
 exact⟨A,c,xs,h3,h4,h5,h2⟩
theorem aDN {P:Program} (L:UO sz R len app) {ops:Array Oper} {rest:List Oper} {o:Oper} {a:Act} {Q:Exit→Act→World→Prop} (hgd:o.guard=none) (s x:Operand) (t:TypeId)
 (ho:o.op=.call { callee:=.builtin .append,args:=#[s,x],argTypes:=#[t,t] })
 (base:Nat) (i:TypeInfo) (z:Value) (bytes:Nat) (ht:P.underlying t=some (.slice e)) (hi:P.info? e=some i) (hz:i.zero=some z)
 (hsize:i.size=sz) (hby:i.bytes=bytes) (hzs:z.cells.size=sz) (hsz:0<sz)
 (v:Value) (l:ρ) (hs:a.eval s=v) (hown:aF e sz R len w base v l)
 (B:Nat) (A:Option Addr) (m c:Nat) (src:ρ) (news:List Value) (hx:a.eval x=.slice A m c) (hm:m=len src) (hr:Reads w B sz A m news) (hR:R news src)
 (h63:len l+m≤maxLen) (hbytes:(len l+m)*bytes≤140737488355328) (hbase:base≤w.heap.size)
 (h:∀v' w',aF e sz R len w' base v' (app l src)→w.grownBy w' v.ownBlock→(v'.ownBlock=v.ownBlock∨v'.ownBlock=some w.heap.size)→wpList P ops Q rest (a.put o.dst v') w'):wpList P ops Q (o::rest) a w:=by
 obtain⟨xs,h1,h2⟩:=hown
 refine aXN w hgd s x t ho base e i z sz bytes ht hi hz hsize hby hzs hsz v (len l) xs hs h1 B A m c news hx hr (L.F_ hR) h63 hbytes hbase (fun v' w' h3 h4 h5=>h v' w' ?_ h4 h5)
 subst hm
 exact⟨xs++news,by rw[L.len_];exact h3,L.VL h2 hR⟩
end
theorem bGR {w0 w w':World} {base:Nat} {e:TypeId} {n s:Nat} {v:Value} {xs:List Value} (h:Below base w0 w) (hg:w.grownBy w' v.ownBlock) (ho:w.ownsRow base e s v n xs) (hb:base≤w.heap.size):Below base w0 w':=
 h.grown hg hb (fun k hk=>by
  rcases ho.2 with⟨rfl,-⟩|⟨g,cap,cur,rfl,hg',-,-⟩
  · simp[Value.ownBlock] at hk
  simp[Value.ownBlock] at hk;omega)
theorem aF.grown {ρ:Type} {e:TypeId} {sz:Nat} {R:List Value→ρ→Prop} {len:ρ→Nat} {w0 w w':World} {base:Nat} {v:Value} {l:ρ} (ho:aF e sz R len w base v l) (h:Below base w0 w) (hg:w.grownBy w' v.ownBlock) (hb:base≤w.heap.size):Below base w0 w':=by
 obtain⟨xs,h1,-⟩:=ho
 exact bGR h hg h1 hb
theorem j5 {w:World} {g:Nat} {T:TypeId} {a b c d e f h:Value} (x:aG w g T #[a,b,c,d,e,f,h]):
 w.cell? ⟨g,0,none⟩=some a∧w.cell? ⟨g,1,none⟩=some b∧w.cell? ⟨g,2,none⟩=some c∧w.cell? ⟨g,3,none⟩=some d∧w.cell? ⟨g,4,none⟩=some e∧w.cell? ⟨g,5,none⟩=some f∧w.cell? ⟨g,6,none⟩=some h:=
 ⟨x.cell 0,x.cell 1,x.cell 2,x.cell 3,x.cell 4,x.cell 5,x.cell 6⟩
end
section
open Go.RowKit
open Go.Lib (hid)
namespace Sl
def aSZ (xs:List Value) (l:List aA):Prop:=xs=l.map Value.string
theorem bL9:UO 1 aSZ List.length (fun l m=>l++m) where
 F_:=fun {xs l} h u hu=>by
  rw[show xs=l.map Value.string from h] at hu
  obtain⟨x,-,rfl⟩:=List.mem_map.1 hu
  rfl
 VL:=fun {xs ys l m} h1 h2=>by
  rw[show xs=l.map Value.string from h1,show ys=m.map Value.string from h2]
  exact (List.map_append ..).symm
 len_:=fun l m=>bL
end Sl
open Sl
theorem bLJ:(Tryz.prog.info? 9).map (fun i=>(i.zero,i.size,i.bytes))=some (some (.string ByteArray.empty),1,16):=by kernel_rfl
abbrev aM (w:World) (base:Nat) (v:Value) (l:List aA):Prop:=aF 9 1 aSZ List.length w base v l
theorem aM.toV {w:World} {base:Nat} {v:Value} {l:List aA} (h:aM w base v l):iF w w.heap.size v l:=by
 obtain⟨A,c,news,h1,h2,h3,h4⟩:=h.src
 exact⟨A,c,h1,h2,by rw[←show news=l.map Value.string from h4];exact h3⟩
theorem BA {w:World} {ops:Array Oper} {rest:List Oper} {o:Oper} {a:Act} {Q:Exit→Act→World→Prop} (hgd:o.guard=none) (s x:Operand)
 (ho:o.op=.call { callee:=.builtin .append,args:=#[s,x],argTypes:=#[67,67] })
 (base:Nat) (v:Value) (l:List aA) (hs:a.eval s=v) (hown:aM w base v l)
 (B:Nat) (A:Option Addr) (m c:Nat) (src:List aA) (news:List Value) (hx:a.eval x=.slice A m c) (hm:m=src.length) (hr:Reads w B 1 A m news) (hR:aSZ news src)
 (hlen:l.length+m≤1000000000) (hbase:base≤w.heap.size)
 (h:∀v' w',aM w' base v' (l++src)→w.grownBy w' v.ownBlock→(v'.ownBlock=v.ownBlock∨v'.ownBlock=some w.heap.size)→wpList Tryz.prog ops Q rest (a.put o.dst v') w'):wpList Tryz.prog ops Q (o::rest) a w:=by
 obtain⟨i0,SC,hz0,hz1,hz2⟩:=info_parts bLJ
 exact aDN bL9 hgd s x 67 ho base i0 _ 16 Tryz.underlying67 SC hz0 hz1 hz2 rfl (by decide) v l hs hown B A m c src news hx hm hr hR (by unfold maxLen;omega) (by omega) hbase h
def fS (u v:Value):Prop:=∀k,u.ownBlock=some k→v.ownBlock≠some k
theorem fS.symm {u v:Value} (h:fS u v):fS v u:=fun k hv hu=>h k hu hv
theorem fS.nil (u:Value):fS u (.slice none 0 0):=fun k _ h=>by simp[Value.ownBlock] at h
structure eI (base g:Nat) (mv dv ov iv:Value) (st:Sc) (w:World):Prop where
 blk:aG w g 176 #[mv,dv,ov,iv,.bool st.dF,.int .i64 st.fault,.nilFunc,.bool false]
 d:aM w base dv st.decl
 o:aM w base ov st.outer
 i:aM w base iv st.inner
 ab:fS dv ov
 ac:fS dv iv
 bc:fS ov iv
 low:g<base
 size:base≤w.heap.size
 len:st.outer.length+st.inner.length≤st.decl.length∧st.decl.length≤64
def NQ (base g:Nat) (mv:Value) (st:Sc) (w:World) (e:Ending) (w':World):Prop:=
 e=.returned (.tuple #[])∧∃dv ov iv,eI base g mv dv ov iv st w'∧Below g w w'
theorem EA {w:World} {g:Nat} {T:TypeId} {a b c d e f h i:Value} (x:aG w g T #[a,b,c,d,e,f,h,i]):
 w.cell? ⟨g,0,none⟩=some a∧w.cell? ⟨g,1,none⟩=some b∧w.cell? ⟨g,2,none⟩=some c∧w.cell? ⟨g,3,none⟩=some d∧w.cell? ⟨g,4,none⟩=some e∧w.cell? ⟨g,5,none⟩=some f∧w.cell? ⟨g,6,none⟩=some h∧w.cell? ⟨g,7,none⟩=some i:=
 ⟨x.cell 0,x.cell 1,x.cell 2,x.cell 3,x.cell 4,x.cell 5,x.cell 6,x.cell 7⟩
section
variable {base g:Nat} {mv dv ov iv:Value} {st:Sc} {w w':World}
theorem eI.cS (h:eI base g mv dv ov iv st w) (j:Nat) (u:Value) {iH fP iv':Value} {st':Sc}
 (hb:(#[mv,dv,ov,iv,.bool st.dF,.int .i64 st.fault,.nilFunc,.bool false]:Array Value).setIfInBounds j u=#[mv,iH,fP,iv',.bool st'.dF,.int .i64 st'.fault,.nilFunc,.bool false])
 (hd:aM w base iH st'.decl) (ho:aM w base fP st'.outer) (hi:aM w base iv' st'.inner) (a1:fS iH fP) (a2:fS iH iv') (a3:fS fP iv') (hl:st'.outer.length+st'.inner.length≤st'.decl.length∧st'.decl.length≤64):
 eI base g mv iH fP iv' st' (w.setCell ⟨g,j,none⟩ u) where
 blk:=by
  have:=h.blk.cS j u
  rw[hb] at this
  exact this
 d:=hd.kept (dH w _ u) (fun k e=>by cases e;exact hd.ne h.blk (by decide))
 o:=ho.kept (dH w _ u) (fun k e=>by cases e;exact ho.ne h.blk (by decide))
 i:=hi.kept (dH w _ u) (fun k e=>by cases e;exact hi.ne h.blk (by decide))
 ab:=a1
 ac:=a2
 bc:=a3
 low:=h.low
 size:=by simpa[World.setCell] using h.size
 len:=hl
theorem eI.step (h:eI base g mv dv ov iv st w) (hb:Below w.heap.size w w'):eI base g mv dv ov iv st w' where
 blk:=h.blk.below hb h.blk.lt
 d:=h.d.below hb (aC _)
 o:=h.o.below hb (aC _)
 i:=h.i.below hb (aC _)
 ab:=h.ab
 ac:=h.ac
 bc:=h.bc
 low:=h.low
 size:=Nat.le_trans h.size hb.size
 len:=h.len
end
theorem uF {g:Nat} {a w:World} (h:Below g a w) (j:Nat) (u:Value):Below g a (w.setCell ⟨g,j,none⟩ u):=h.setCell (p:=⟨g,j,none⟩) (aC _) u
theorem a41 {base:Nat} {w:World} {v:Value} {l:List aA} (h:aM w base v l) {k:Nat} (hk:v.ownBlock=some k):base≤k∧k<w.heap.size:=by
 obtain⟨xs,h1,-⟩:=h
 rcases h1.2 with⟨rfl,-⟩|⟨g,cap,cur,rfl,hg,hh,-⟩
 · simp[Value.ownBlock] at hk
 have:g=k:=by simpa[Value.ownBlock] using hk
 subst this
 exact⟨hg,(Array.getElem?_eq_some_iff.1 hh).1⟩
theorem BB {base:Nat} {w:World} {v v' u:Value} {l:List aA} (h:fS v u) (hu:aM w base u l) (hv:v'.ownBlock=v.ownBlock∨v'.ownBlock=some w.heap.size):fS v' u:=fun k h1 h2=>by
 rcases hv with e|e
 · rw[e] at h1;exact h k h1 h2
 rw[e] at h1
 have:=(a41 hu h2).2
 injection h1 with h1
 omega
theorem X9 (base g:Nat) (mv dv ov iv:Value) (st:Sc) (w:World) (h:eI base g mv dv ov iv st w):
 Calls Tryz.prog 207 #[.pointer (some ⟨g,0,none⟩)] w fun e w'=>e=.returned (.bool (decide (st.fault≠0)))∧w=w':=by
 obtain⟨q0,q1,q2,q3,q4,q5,q6,q7⟩:=EA h.blk
 clear h
 by_cases hf:st.fault=0
 · have b1:((st.fault:Int) != 0)=false:=by rw[hf];rfl
   have HE:=hid (show decide (st.fault≠0)=false from bP (by simp[hf]))
   clear hf
   go_enter Tryz.func207,Tryz.ntmps207
   go_wp2
   go_ret
   exact⟨aR HE.out.symm,rfl⟩
 have b1:((st.fault:Int) != 0)=true:=bne_iff_ne.2 (by omega)
 have HE:=hid (show decide (st.fault≠0)=true from bF hf)
 clear hf
 go_enter Tryz.func207,Tryz.ntmps207
 go_wp2
 go_ret
 exact⟨aR HE.out.symm,rfl⟩
theorem a1B (base g:Nat) (mv dv ov iv:Value) (st:Sc) (x:aA) (w:World) (h:eI base g mv dv ov iv st w):
 Calls Tryz.prog 253 #[.pointer (some ⟨g,0,none⟩),.string x] w (NQ base g mv (uses st x) w):=by
 obtain⟨q0,q1,q2,q3,q4,q5,q6,q7⟩:=EA h.blk
 have HO:=hid (X9 base g mv dv ov iv st w h)
 have fH:=hid (TV ov st.outer x w.heap.size w h.o.toV (by have:=h.len;omega))
 have iM:=hid (TV iv st.inner x w.heap.size w h.i.toV (by have:=h.len;omega))
 have H:=hid h
 have HF:=hid (h.blk.frozen 5)
 clear h
 by_cases hf:st.fault=0
 rotate_left
 · rw[show decide (st.fault≠0)=true from bF hf] at HO
   have HE:=hid (X5 (st:=st) hf x)
   clear hf
   go_enter Tryz.func253,Tryz.ntmps253
   go_wp2_with fail
   refine HO.out.mono ?_
   rintro e w' ⟨rfl,rfl⟩
   go_wp2
   go_end0
   exact⟨rfl,dv,ov,iv,by rw[HE.out];exact H.out,Below.refl _ _⟩
 rw[show decide (st.fault≠0)=false from bP (by simp[hf])] at HO
 cases h1:inL st.outer x with
 |true=>
  have HE:=hid (show uses st x=st by unfold uses;rw[h1,if_neg (by simp)])
  rw[h1] at fH
  clear h1 hf
  go_enter Tryz.func253,Tryz.ntmps253
  go_wp2_with fail
  refine HO.out.mono ?_
  rintro e w' ⟨rfl,rfl⟩
  go_wp2_with fail
  refine fH.out.mono ?_
  rintro e w' ⟨rfl,rfl⟩
  go_wp2
  go_end0
  exact⟨rfl,dv,ov,iv,by rw[HE.out];exact H.out,Below.refl _ _⟩
 |false=>
  rw[h1] at fH
  cases h2:inL st.inner x with
  |true=>
   have HE:=hid (show uses st x=st by unfold uses;rw[h2,if_neg (by simp)])
   rw[h2] at iM
   clear h1 h2 hf
   go_enter Tryz.func253,Tryz.ntmps253
   go_wp2_with fail
   refine HO.out.mono ?_
   rintro e w' ⟨rfl,rfl⟩
   go_wp2_with fail
   refine fH.out.mono ?_
   rintro e w' ⟨rfl,rfl⟩
   go_wp2_with fail
   refine iM.out.mono ?_
   rintro e w' ⟨rfl,rfl⟩
   go_wp2
   go_end0
   exact⟨rfl,dv,ov,iv,by rw[HE.out];exact H.out,Below.refl _ _⟩
  |false=>
   have HE:=hid (show uses st x={ st with fault:=5 } by unfold uses;rw[if_pos ⟨hf,h1,h2⟩])
   rw[h2] at iM
   have hf5:=HF.out
   clear h1 h2 hf
   go_enter Tryz.func253,Tryz.ntmps253
   go_wp2_with fail
   refine HO.out.mono ?_
   rintro e w' ⟨rfl,rfl⟩
   go_wp2_with fail
   refine fH.out.mono ?_
   rintro e w' ⟨rfl,rfl⟩
   go_wp2_with fail
   refine iM.out.mono ?_
   rintro e w' ⟨rfl,rfl⟩
   go_wp2
   go_end0
   exact⟨rfl,dv,ov,iv,by rw[HE.out];exact H.out.cS 5 _ rfl H.out.d H.out.o H.out.i H.out.ab H.out.ac H.out.bc H.out.len,uF (Below.refl _ _) 5 _⟩
end
section
open Go.RowKit
open Sl
open Go.Lib (hid)
section
variable {base g:Nat} {mv dv ov iv:Value} {st:Sc} {w w1:World} {v1:Value} {o:Obj} {x:aA}
theorem eI.alloc (h:eI base g mv dv ov iv st w) (o:Obj):eI base g mv dv ov iv st (w.alloc o):=h.step ((Below.refl _ _).alloc (aC _) o)
theorem eI.aO5 (h:eI base g mv dv ov iv st w):Below g w (w.alloc o):=(Below.refl g w).alloc (by have:=h.low;have:=h.size;omega) o
theorem aNK {v:Value} {l:List aA} (h:eI base g mv dv ov iv st w) (hv:aM w base v l) (hg:w.grownBy w1 v.ownBlock):Below g w w1:=
 (Below.refl g w).grown hg (by have:=h.low;have:=h.size;omega) (fun k hk=>by have:=(a41 hv hk).1;have:=h.low;omega)
theorem eI.aQR (h:eI base g mv dv ov iv st w) (hr:aM w1 base v1 (st.decl++[x])) (hg:w.grownBy w1 dv.ownBlock) (hat:v1.ownBlock=dv.ownBlock∨v1.ownBlock=some w.heap.size) (hl:st.decl.length<64):
 aG w1 g 176 #[mv,dv,ov,iv,.bool st.dF,.int .i64 st.fault,.nilFunc,.bool false]∧
 eI base g mv v1 ov iv { st with decl:=st.decl++[x] } (w1.setCell ⟨g,1,none⟩ v1)∧Below g w (w1.setCell ⟨g,1,none⟩ v1):=by
 have hb:aG w1 g 176 #[mv,dv,ov,iv,.bool st.dF,.int .i64 st.fault,.nilFunc,.bool false]:=h.blk.grown hg (fun e=>h.d.ne h.blk (by decide) e.symm)
 have keep:∀(u:Value) (l:List aA),aM w base u l→fS dv u→aM w1 base u l:=fun u l hu ha=>hu.kept hg (fun k e=>ha k e)
 have fin:∀(u:Value) (l:List aA),aM w1 base u l→aM (w1.setCell ⟨g,1,none⟩ v1) base u l:=fun u l hu=>hu.kept (dH w1 _ v1) (fun k e=>by cases e;exact hu.ne hb (by decide))
 refine⟨hb,⟨hb.cS 1 v1,?_,?_,?_,?_,?_,?_,h.low,?_,?_⟩,uF (aNK h h.d hg) 1 _⟩
 · exact fin _ _ hr
 · exact fin _ _ (keep _ _ h.o h.ab)
 · exact fin _ _ (keep _ _ h.i h.ac)
 · exact BB h.ab h.o hat
 · exact BB h.ac h.i hat
 · exact h.bc
 · have:=h.size;have:=hg.size;simp[World.setCell];omega
 have:=h.len;simp only[bL,List.length_singleton];omega
theorem eI.aQP (h:eI base g mv dv ov iv st w) (hr:aM w1 base v1 (st.outer++[x])) (hg:w.grownBy w1 ov.ownBlock) (hat:v1.ownBlock=ov.ownBlock∨v1.ownBlock=some w.heap.size) (hl:st.outer.length+st.inner.length<st.decl.length):
 aG w1 g 176 #[mv,dv,ov,iv,.bool st.dF,.int .i64 st.fault,.nilFunc,.bool false]∧
 eI base g mv dv v1 iv { st with outer:=st.outer++[x] } (w1.setCell ⟨g,2,none⟩ v1)∧Below g w (w1.setCell ⟨g,2,none⟩ v1):=by
 have hb:aG w1 g 176 #[mv,dv,ov,iv,.bool st.dF,.int .i64 st.fault,.nilFunc,.bool false]:=h.blk.grown hg (fun e=>h.o.ne h.blk (by decide) e.symm)
 have keep:∀(u:Value) (l:List aA),aM w base u l→fS ov u→aM w1 base u l:=fun u l hu ha=>hu.kept hg (fun k e=>ha k e)
 have fin:∀(u:Value) (l:List aA),aM w1 base u l→aM (w1.setCell ⟨g,2,none⟩ v1) base u l:=fun u l hu=>hu.kept (dH w1 _ v1) (fun k e=>by cases e;exact hu.ne hb (by decide))
 refine⟨hb,⟨hb.cS 2 v1,?_,?_,?_,?_,?_,?_,h.low,?_,?_⟩,uF (aNK h h.o hg) 2 _⟩
 · exact fin _ _ (keep _ _ h.d h.ab.symm)
 · exact fin _ _ hr
 · exact fin _ _ (keep _ _ h.i h.bc)
 · exact (BB h.ab.symm h.d hat).symm
 · exact h.ac
 · exact BB h.bc h.i hat
 · have:=h.size;have:=hg.size;simp[World.setCell];omega
 have:=h.len;simp only[bL,List.length_singleton];omega
theorem eI.aQQ (h:eI base g mv dv ov iv st w) (hr:aM w1 base v1 (st.inner++[x])) (hg:w.grownBy w1 iv.ownBlock) (hat:v1.ownBlock=iv.ownBlock∨v1.ownBlock=some w.heap.size) (hl:st.outer.length+st.inner.length<st.decl.length):
 aG w1 g 176 #[mv,dv,ov,iv,.bool st.dF,.int .i64 st.fault,.nilFunc,.bool false]∧
 eI base g mv dv ov v1 { st with inner:=st.inner++[x] } (w1.setCell ⟨g,3,none⟩ v1)∧Below g w (w1.setCell ⟨g,3,none⟩ v1):=by
 have hb:aG w1 g 176 #[mv,dv,ov,iv,.bool st.dF,.int .i64 st.fault,.nilFunc,.bool false]:=h.blk.grown hg (fun e=>h.i.ne h.blk (by decide) e.symm)
 have keep:∀(u:Value) (l:List aA),aM w base u l→fS iv u→aM w1 base u l:=fun u l hu ha=>hu.kept hg (fun k e=>ha k e)
 have fin:∀(u:Value) (l:List aA),aM w1 base u l→aM (w1.setCell ⟨g,3,none⟩ v1) base u l:=fun u l hu=>hu.kept (dH w1 _ v1) (fun k e=>by cases e;exact hu.ne hb (by decide))
 refine⟨hb,⟨hb.cS 3 v1,?_,?_,?_,?_,?_,?_,h.low,?_,?_⟩,uF (aNK h h.i hg) 3 _⟩
 · exact fin _ _ (keep _ _ h.d h.ac.symm)
 · exact fin _ _ (keep _ _ h.o h.bc.symm)
 · exact fin _ _ hr
 · exact h.ab
 · exact (BB h.ac.symm h.d hat).symm
 · exact (BB h.bc.symm h.o hat).symm
 · have:=h.size;have:=hg.size;simp[World.setCell];omega
 have:=h.len;simp only[bL,List.length_singleton];omega
end
theorem uD {w:World} {t:TypeId} {u:Value}:Reads (w.alloc (.cells #[u] t)) (w.heap.size+1) 1 (some ⟨w.heap.size,0,none⟩) 1 [u]:=M9 (n:=1) (size:=1) (cs:=#[u]) (aG.new w t #[u]) (Nat.lt_succ_self _) rfl
theorem aDK (base g:Nat) (mv dv ov iv:Value) (st:Sc) (x:aA) (w:World) (h:eI base g mv dv ov iv st w):
 Calls Tryz.prog 156 #[.pointer (some ⟨g,0,none⟩),.string x] w (NQ base g mv (declares st x) w):=by
 obtain⟨q0,q1,q2,q3,q4,q5,q6,q7⟩:=EA h.blk
 have hlen:=h.len
 have HO:=hid (X9 base g mv dv ov iv st w h)
 have fH:=hid (TV dv st.decl x w.heap.size w h.d.toV (by omega))
 have H:=hid h
 have HF:=hid (h.blk.frozen 5)
 clear h
 by_cases hf:st.fault=0
 rotate_left
 · rw[show decide (st.fault≠0)=true from bF hf] at HO
   have HE:=hid (XK (st:=st) hf x)
   clear hf
   go_enter Tryz.func156,Tryz.ntmps156
   go_wp2_with fail
   refine HO.out.mono ?_
   rintro e w' ⟨rfl,rfl⟩
   go_wp2
   go_end0
   exact⟨rfl,dv,ov,iv,by rw[HE.out];exact H.out,Below.refl _ _⟩
 rw[show decide (st.fault≠0)=false from bP (by simp[hf])] at HO
 cases h1:inL st.decl x with
 |true=>
  have HE:=hid (show declares st x={ st with fault:=6 } by unfold declares;rw[if_neg (by simp[hf]),if_pos h1])
  rw[h1] at fH
  have hf5:=HF.out
  clear h1 hf
  go_enter Tryz.func156,Tryz.ntmps156
  go_wp2_with fail
  refine HO.out.mono ?_
  rintro e w' ⟨rfl,rfl⟩
  go_wp2_with fail
  refine fH.out.mono ?_
  rintro e w' ⟨rfl,rfl⟩
  go_wp2
  go_end0
  exact⟨rfl,dv,ov,iv,by rw[HE.out];exact H.out.cS 5 _ rfl H.out.d H.out.o H.out.i H.out.ab H.out.ac H.out.bc H.out.len,uF (Below.refl _ _) 5 _⟩
 |false=>
  rw[h1] at fH
  obtain⟨Ad,cd,-,ed,tX,-,-⟩:=H.out.d.src
  subst ed
  by_cases SY:64≤st.decl.length
  · have HE:=hid (show declares st x={ st with fault:=3 } by unfold declares;rw[if_neg (by simp[hf]),if_neg (by simp[h1]),if_pos SY])
    have b64:decide ((st.decl.length:Int)≥64)=true:=bF (by omega)
    have c64:decide (64≤st.decl.length)=true:=bF (by omega)
    have hf5:=HF.out
    clear h1 hf
    go_enter Tryz.func156,Tryz.ntmps156
    go_wp2_with fail
    refine HO.out.mono ?_
    rintro e w' ⟨rfl,rfl⟩
    go_wp2_with fail
    refine fH.out.mono ?_
    rintro e w' ⟨rfl,rfl⟩
    go_wp2
    go_end0
    exact⟨rfl,_,ov,iv,by rw[HE.out];exact H.out.cS 5 _ rfl H.out.d H.out.o H.out.i H.out.ab H.out.ac H.out.bc H.out.len,uF (Below.refl _ _) 5 _⟩
  have b64:decide ((st.decl.length:Int)≥64)=false:=bP (by omega)
  have c64:decide (64≤st.decl.length)=false:=bP (by omega)
  have HE:=hid (show declares st x=if st.dF then { st with decl:=st.decl++[x],inner:=st.inner++[x] } else { st with decl:=st.decl++[x],outer:=st.outer++[x] } by unfold declares;rw[if_neg (by simp[hf]),if_neg (by simp[h1]),if_neg SY])
  have aRZ:st.decl.length<64:=by omega
  clear h1 hf SY
  go_enter Tryz.func156,Tryz.ntmps156
  go_wp2_with fail
  refine HO.out.mono ?_
  rintro e w' ⟨rfl,rfl⟩
  go_wp2_with fail
  refine fH.out.mono ?_
  rintro e w' ⟨rfl,rfl⟩
  have dG:=hid (H.out.alloc (.cells #[.string x] 9))
  have HLo:=hid (eI.aO5 (o:=.cells #[.string x] 9) H.out)
  go_wp2_with (at_builtin;go_must (refine BA rfl _ _ rfl base _ st.decl rfl dG.out.d _ _ 1 _ [x] _ rfl rfl uD rfl (by omega) dG.out.size ?_))
  intro v1 w1 MA hg1 a78
  obtain⟨hb1,hs1,BZ⟩:=dG.out.aQR MA hg1 (by simpa using a78) aRZ
  have bS7:=hs1.len
  obtain⟨A1,c1,-,e1,hc1,-,-⟩:=MA.src
  have e1':v1=.slice A1 (st.decl.length+1) c1:=by rw[e1];simp
  subst e1'
  clear e1
  have f1:=hb1.frozen 1
  have sF:=hid hs1
  have FP:=hid (HLo.out.trans BZ)
  clear MA hg1 a78 hs1 BZ dG HLo q0 q1 q2 q3 q4 q5 q6 q7
  obtain⟨q0,q1,q2,q3,q4,q5,q6,q7⟩:=EA hb1
  have Hb1:=hid hb1
  clear hb1
  go_upto_region 6 with fail
  generalize w1.setCell ⟨g,1,none⟩ (.slice A1 (st.decl.length+1) c1)=w2 at *
  clear q0 q1 q2 q3 q4 q5 q6 q7
  obtain⟨q0,q1,q2,q3,q4,q5,q6,q7⟩:=EA sF.out.blk
  have hl2:st.outer.length+st.inner.length<(st.decl++[x]).length:=by simp;omega
  cases cV:st.dF with
  |true=>
   have q4':w2.cell? ⟨g,4,none⟩=some (.bool true):=by rw[q4];show some (Value.bool st.dF)=_;rw[cV]
   have bM:=hid (HE.out.trans (if_pos cV))
   obtain⟨A2,c2,-,e2,hc2,-,-⟩:=sF.out.i.src
   have e2':iv=.slice A2 st.inner.length c2:=e2
   subst e2'
   have LU:=hid (sF.out.alloc (.cells #[.string x] 9))
   have aAF:=hid (eI.aO5 (o:=.cells #[.string x] 9) sF.out)
   have V_:st.inner.length+1≤1000000000:=by omega
   clear q4 cV HE e2
   go_wp2_with (at_builtin;go_must (refine BA rfl _ _ rfl base _ st.inner rfl LU.out.i _ _ 1 _ [x] _ rfl rfl uD rfl V_ LU.out.size ?_))
   intro v2 w3 E8 hg3 ZZ
   obtain⟨hb3,hs3,DJ⟩:=eI.aQQ (st:={ st with decl:=st.decl++[x] }) LU.out E8 hg3 (by simpa using ZZ) hl2
   obtain⟨A3,c3,-,e3,hc3,-,-⟩:=E8.src
   have e3':v2=.slice A3 (st.inner.length+1) c3:=by rw[e3];simp
   subst e3'
   clear e3
   have f3:=hb3.frozen 3
   have fG:=hid hs3
   have lK:=hid (FP.out.trans (aAF.out.trans DJ))
   clear E8 hg3 ZZ hs3 DJ LU aAF q0 q1 q2 q3 q4' q5 q6 q7
   obtain⟨q0,q1,q2,q3,q4,q5,q6,q7⟩:=EA hb3
   clear hb3
   go_wp2
   go_end0
   exact⟨rfl,_,_,_,by rw[bM.out];exact fG.out,lK.out⟩
  |false=>
   have q4':w2.cell? ⟨g,4,none⟩=some (.bool false):=by rw[q4];show some (Value.bool st.dF)=_;rw[cV]
   have bM:=hid (HE.out.trans (if_neg (by rw[cV];simp)))
   obtain⟨A2,c2,-,e2,hc2,-,-⟩:=sF.out.o.src
   have e2':ov=.slice A2 st.outer.length c2:=e2
   subst e2'
   have LU:=hid (sF.out.alloc (.cells #[.string x] 9))
   have aAF:=hid (eI.aO5 (o:=.cells #[.string x] 9) sF.out)
   have V_:st.outer.length+1≤1000000000:=by omega
   clear q4 cV HE e2
   go_wp2_with (at_builtin;go_must (refine BA rfl _ _ rfl base _ st.outer rfl LU.out.o _ _ 1 _ [x] _ rfl rfl uD rfl V_ LU.out.size ?_))
   intro v2 w3 E8 hg3 ZZ
   obtain⟨hb3,hs3,DJ⟩:=eI.aQP (st:={ st with decl:=st.decl++[x] }) LU.out E8 hg3 (by simpa using ZZ) hl2
   obtain⟨A3,c3,-,e3,hc3,-,-⟩:=E8.src
   have e3':v2=.slice A3 (st.outer.length+1) c3:=by rw[e3];simp
   subst e3'
   clear e3
   have f3:=hb3.frozen 2
   have fG:=hid hs3
   have lK:=hid (FP.out.trans (aAF.out.trans DJ))
   clear E8 hg3 ZZ hs3 DJ LU aAF q0 q1 q2 q3 q4' q5 q6 q7
   obtain⟨q0,q1,q2,q3,q4,q5,q6,q7⟩:=EA hb3
   clear hb3
   go_wp2
   go_end0
   exact⟨rfl,_,_,_,by rw[bM.out];exact fG.out,lK.out⟩
end
section
open Go.RowKit Go.ChangeMaps Go.MapKept Go.Maps
open Sl
def eC (w:World) (P:Program) (k:TypeId) (b:Nat) (M:List (Value×Value)):Prop:=
 ∃es clock,w.heap[b]?=some (.map es clock)∧es.toList.map (fun e=>(e.key,e.val))=M∧∀p∈M,∃l,keyOf P k p.1=some l
section
variable {w w':World} {P:Program} {k e t:TypeId} {b:Nat} {M:List (Value×Value)}
theorem eC.made (w:World) (P:Program) (k:TypeId):eC (w.alloc (.map #[] 0)) P k w.heap.size []:=
 ⟨#[],0,heap_alloc_new w _,rfl,fun p hp=>by cases hp⟩
theorem eC.lt (h:eC w P k b M):b<w.heap.size:=by
 obtain⟨es,clock,hb,_⟩:=h
 exact (Array.getElem?_eq_some_iff.1 hb).1
theorem eC.same (h:eC w P k b M) (hk:w'.heap[b]?=w.heap[b]?):eC w' P k b M:=by
 obtain⟨es,clock,hb,h⟩:=h
 exact⟨es,clock,hk.trans hb,h⟩
theorem eC.keys {es:Array MapEntry} (he:es.toList.map (fun e=>(e.key,e.val))=M) (hk:∀p∈M,∃l,keyOf P k p.1=some l):∀e∈es.toList,∃l,keyOf P k e.key=some l:=fun e h=>
 hk (e.key,e.val) (by rw[←he];exact List.mem_map.2 ⟨e,h,rfl⟩)
theorem eC.aQ2 (h:eC w P k b M) (K:Keyed P k) (ht:P.underlying t=some (.map k e)) {z:Value} (hz:(zeroValue e).run P w=.ok z w) {key:Value} {kl:Lit} (hkey:keyOf P k key=some kl) (hm:∀p∈M,p.1≠key) (c:Bool):
 (Instr.lookup t (.map (some b)) key c).run P w=.ok (if c then .tuple #[z,.bool false] else z) w:=by
 obtain⟨es,clock,hb,he,hk⟩:=h
 rcases K.find w hkey es.toList (eC.keys he hk) with⟨h1,h2⟩|⟨j,e0,h1,h2,h3⟩
 · simp[Instr.lookup,run_underlying ht,MapKept.run_getObj_map hb,K.check w _ hkey,h1,hz,Result.andThen]
 exact absurd h3 (hm (e0.key,e0.val) (by rw[←he];exact List.mem_map.2 ⟨e0,List.mem_of_getElem? h2,rfl⟩))
theorem eC.hit (h:eC w P k b M) (K:Keyed P k) (ht:P.underlying t=some (.map k e)) {key v:Value} {kl:Lit} (hkey:keyOf P k key=some kl) (hm:∀p∈M,p.1=key→p.2=v) (cV:∃p∈M,p.1=key) (c:Bool):
 (Instr.lookup t (.map (some b)) key c).run P w=.ok (if c then .tuple #[v,.bool true] else v) w:=by
 obtain⟨es,clock,hb,he,hk⟩:=h
 rcases K.find w hkey es.toList (eC.keys he hk) with⟨h1,h2⟩|⟨j,e0,h1,h2,h3⟩
 · obtain⟨p,hp,hpk⟩:=cV
   rw[←he] at hp
   obtain⟨e1,he1,rfl⟩:=List.mem_map.1 hp
   exact absurd hpk (h2 e1 he1)
 have hv:e0.val=v:=hm (e0.key,e0.val) (by rw[←he];exact List.mem_map.2 ⟨e0,List.mem_of_getElem? h2,rfl⟩) h3
 simp[Instr.lookup,run_underlying ht,MapKept.run_getObj_map hb,K.check w _ hkey,h1,Result.andThen,hv]
theorem eC.store (h:eC w P k b M) (K:Keyed P k) (ht:P.underlying t=some (.map k e)) {key v:Value} {kl:Lit} (hkey:keyOf P k key=some kl) (hm:∀p∈M,p.1≠key):
 ∃w',(Instr.mapUpdate t (.map (some b)) key v).run P w=.ok () w'∧eC w' P k b (M++[(key,v)])∧w.grownBy w' (some b):=by
 obtain⟨es,clock,hb,he,hk⟩:=h
 rcases K.find w hkey es.toList (eC.keys he hk) with⟨h1,h2⟩|⟨j,e0,h1,h2,h3⟩
 rotate_left
 · exact absurd h3 (hm (e0.key,e0.val) (by rw[←he];exact List.mem_map.2 ⟨e0,List.mem_of_getElem? h2,rfl⟩))
 refine⟨setBlock w b (.map (es.push ⟨key,v,clock⟩) (clock+1)),?_,⟨es.push ⟨key,v,clock⟩,clock+1,heap_setBlock_same hb _,?_,?_⟩,⟨rfl,rfl,rfl,by simp[setBlock],fun i _ hi=>heap_setBlock_other hb _ (fun e=>hi (by rw[e]))⟩⟩
 · simp[Instr.mapUpdate,run_underlying ht,MapKept.run_getObj_map hb,K.check w false hkey,h1,MapKept.run_setObj_map _ hb,Result.andThen,setBlock]
 · rw[Array.toList_push,List.map_append,he];rfl
 intro p hp
 rcases List.mem_append.1 hp with h|h
 · exact hk p h
 obtain rfl:=List.mem_singleton.1 h
 exact⟨kl,hkey⟩
end
theorem YN:Keyed Tryz.prog 9:=Maps.string_keyed Tryz.underlying9
theorem keyOf_str (x:aA) (hx:x.size≤140737488355328):∃l,keyOf Tryz.prog 9 (.string x)=some l:=by
 unfold keyOf mapKey
 simp[Tryz.underlying9]
 unfold maxLen
 omega
def uC (w:World) (gm:Nat) (ar:aA→Option Nat):Prop:=∃M,eC w Tryz.prog 9 gm M∧∀x,match ar x with
 |none=>∀p∈M,p.1≠.string x
 |some m=>(∃p∈M,p.1=.string x)∧∀p∈M,p.1=.string x→p.2=.int .i64 (m:Int)
theorem uC.same {w w':World} {gm:Nat} {ar:aA→Option Nat} (h:uC w gm ar) (hk:w'.heap[gm]?=w.heap[gm]?):uC w' gm ar:=by
 obtain⟨M,h1,h2⟩:=h
 exact⟨M,h1.same hk,h2⟩
theorem uC.none_ {w:World} {gm:Nat} {ar:aA→Option Nat} (h:uC w gm ar) {x:aA} (hs:x.size≤140737488355328) (hx:ar x=none):(Instr.lookup 170 (.map (some gm)) (.string x) true).run Tryz.prog w=.ok (.tuple #[.int .i64 0,.bool false]) w:=by
 obtain⟨M,h1,h2⟩:=h
 obtain⟨l,hl⟩:=keyOf_str x hs
 have h3:=h2 x
 rw[hx] at h3
 exact h1.aQ2 (e:=3) YN Tryz.underlying170 (Tryz.zeroValue3 w) hl h3 true
theorem uC.some_ {w:World} {gm:Nat} {ar:aA→Option Nat} (h:uC w gm ar) {x:aA} {m:Nat} (hs:x.size≤140737488355328) (hx:ar x=some m):(Instr.lookup 170 (.map (some gm)) (.string x) true).run Tryz.prog w=.ok (.tuple #[.int .i64 (m:Int),.bool true]) w:=by
 obtain⟨M,h1,h2⟩:=h
 obtain⟨l,hl⟩:=keyOf_str x hs
 have h3:=h2 x
 rw[hx] at h3
 exact h1.hit (e:=3) YN Tryz.underlying170 hl (fun p hp he=>h3.2 p hp he) h3.1 true
end
section
open Go.RowKit Go.ChangeMaps Go.MapKept Go.Maps
open Go.Lib (hid)
namespace Sl
def K_ (ar:aA→Option Nat) (k:Nat) (t:aA) (s:Fo) (ps:List aA) (b:Fo) (st:Sc):Sc:=
 if k=2 then scope ar s true (uses st t) else
 if k=5∨k=13 then
  match ar t with
  |none=>{ st with fault:=5 }
  |some m=>if m≠s.len then { st with fault:=1 } else scope ar s true st
 else if k=10 then { scope ar b false (ps.foldl declares { st with dF:=true,inner:=[] }) with dF:=false,inner:=[] }
 else scope ar s true st
def YY (ar:aA→Option Nat) (k:Nat) (t:aA) (s b e:Fo) (st:Sc):Sc:=
 if (scope ar s true st).fault≠0 then scope ar s true st else
 if k=14 then scope ar e false (scope ar b false (declares (scope ar s true st) t)) else
 if k=15 then scope ar e false (scope ar b false (uses (scope ar s true st) t)) else
 if k=21 then scope ar e false (declares (scope ar b false (scope ar s true st)) t) else
 scope ar e false (scope ar b false (scope ar s true st))
theorem aYX {ar:aA→Option Nat} {i:Nat} {l:Fo} {k:Nat} {t:aA} {n:Int} {s:Fo} {ps:List aA} {b e r:Fo} (h:Fo.drop i l=.cons k t n s ps b e r) (st:Sc):
 scope ar (Fo.drop i l) true st=(if st.fault≠0 then st else scope ar r true (K_ ar k t s ps b st))∧scope ar (Fo.drop i l) false st=(if st.fault≠0 then st else scope ar r false (YY ar k t s b e st)):=by
 rw[h,scope,scope]
 exact⟨rfl,rfl⟩
end Sl
open Sl
theorem Sl.uM.below {w w':World} {B:Nat} {a:Addr} {o k:Nat} {t:aA} {n:Int} {s:Fo} {ps:List aA} {b e:Fo} {sv pv bv ev:Value} (h:uM w B a o k t n s ps b e sv pv bv ev) (hb:Below B w w'):uM w' B a o k t n s ps b e sv pv bv ev where
 kind:=(hb.cell (by rw[f_];exact h.lt)).trans h.kind
 text:=(hb.cell (by rw[f_];exact h.lt)).trans h.text
 num:=(hb.cell (by rw[f_];exact h.lt)).trans h.num
 subs:=(hb.cell (by rw[f_];exact h.lt)).trans h.subs
 aX:=(hb.cell (by rw[f_];exact h.lt)).trans h.aX
 body:=(hb.cell (by rw[f_];exact h.lt)).trans h.body
 els:=(hb.cell (by rw[f_];exact h.lt)).trans h.els
 vals:=h.vals.below hb
 lt:=h.lt
abbrev F4 (f:Nat) (base g:Nat) (mv v:Value) (w:World) (go:Sc→Sc):Prop:=
 ∀(W:World) (st:Sc) (dv ov iv:Value),Below g w W→eI base g mv dv ov iv st W→Calls Tryz.prog f #[.pointer (some ⟨g,0,none⟩),v] W (NQ base g mv (go st) W)
theorem bEI (ar:aA→Option Nat) (base g gm B:Nat) (dv ov iv:Value) (st:Sc) (w:World) (h:eI base g (.map (some gm)) dv ov iv st w) (hA:uC w gm ar) (cN:B≤g)
 (a:Addr) (o k:Nat) (t:aA) (n:Int) (s:Fo) (ps:List aA) (b e:Fo) (sv pv bv ev:Value) (hn:uM w B a o k t n s ps b e sv pv bv ev) (ht:t.size≤140737488355328) (hpl:ps.length≤140737488355328)
 (HS:F4 252 base g (.map (some gm)) sv w (scope ar s true)) (HB:F4 157 base g (.map (some gm)) bv w (scope ar b false)):
 Calls Tryz.prog 270 #[.pointer (some ⟨g,0,none⟩),.pointer (some (a.add o))] w (NQ base g (.map (some gm)) (K_ ar k t s ps b st) w):=by
 obtain⟨q0,q1,q2,q3,q4,q5,q6,q7⟩:=EA h.blk
 obtain⟨As,cs,rfl,hcs⟩:=hn.vals.subs.form
 obtain⟨Ab,cb,rfl,hcb⟩:=hn.vals.body.form
 have uA:=hid hn.vals.aX
 obtain⟨Ap,cp,rfl,kX,-⟩:=hn.vals.aX
 obtain⟨c0,c1,c2,c3,c4,c5,c6⟩:=hn.cells
 have H:=hid h
 have HN:=hid hn
 have HA:=hid hA
 have Hs:=hid HS
 have Hb:=hid HB
 have HF:=hid (fun j=>h.blk.frozen j)
 have hat:=hn.lt
 clear h hn hA HS HB
 by_cases k2:k=2
 · subst k2
   have HU:=hid (a1B base g (.map (some gm)) dv ov iv st t w H.out)
   go_enter Tryz.func270,Tryz.ntmps270
   go_wp2_with fail
   refine (HU.out).mono ?_
   rintro e1 w4 ⟨rfl,AK,zU,zV,cU,hb4⟩
   have R:=hid cU
   have LR:=hid hb4
   clear cU hb4
   obtain⟨d0,d1,d2,d3,d4,d5,d6⟩:=(HN.out.below (LR.out.mono cN)).cells
   go_wp2_with fail
   refine (Hs.out w4 _ AK zU zV LR.out R.out).mono ?_
   rintro e1 w5 ⟨rfl,dv5,ov5,iv5,cU,hb4⟩
   have R2:=hid cU
   have LR2:=hid hb4
   clear cU hb4
   go_wp2
   go_end0
   exact⟨rfl,_,_,_,by rw[show K_ ar 2 t s ps b st=scope ar s true (uses st t) from rfl];exact R2.out,LR.out.trans LR2.out⟩
 by_cases k5:k=5∨k=13
 · have HE:=hid (show K_ ar k t s ps b st=match ar t with
    |none=>{ st with fault:=5 }
    |some m=>if m≠s.len then { st with fault:=1 } else scope ar s true st by unfold K_;rw[if_neg k2,if_pos k5])
   have hk2:((k:Int)==2)=false:=aP (by omega)
   clear k2
   cases CT:ar t with
   |none=>
    have bM:=hid (HE.out.trans (by rw[CT]))
    have hrun:=fun m:Nat=>(show uC (w.drewN m) gm ar from HA.out.same rfl).none_ ht CT
    have f5:=HF.out 5
    clear CT HE
    rcases k5 with rfl|rfl
    · go_enter Tryz.func270,Tryz.ntmps270
      go_wp2_with fail
      go_quiet (fail)
      go_wp2
      go_end0
      exact⟨rfl,_,_,_,by rw[bM.out];exact (H.out.step (below_drewN (Below.refl _ _) _)).cS 5 _ rfl (H.out.step (below_drewN (Below.refl _ _) _)).d (H.out.step (below_drewN (Below.refl _ _) _)).o (H.out.step (below_drewN (Below.refl _ _) _)).i H.out.ab H.out.ac H.out.bc H.out.len,uF (below_drewN (Below.refl _ _) _) 5 _⟩
    go_enter Tryz.func270,Tryz.ntmps270
    go_wp2_with fail
    go_quiet (fail)
    go_wp2
    go_end0
    exact⟨rfl,_,_,_,by rw[bM.out];exact (H.out.step (below_drewN (Below.refl _ _) _)).cS 5 _ rfl (H.out.step (below_drewN (Below.refl _ _) _)).d (H.out.step (below_drewN (Below.refl _ _) _)).o (H.out.step (below_drewN (Below.refl _ _) _)).i H.out.ab H.out.ac H.out.bc H.out.len,uF (below_drewN (Below.refl _ _) _) 5 _⟩
   |some m=>
    have hrun:=fun q:Nat=>(show uC (w.drewN q) gm ar from HA.out.same rfl).some_ ht CT
    by_cases hm:m=s.len
    rotate_left
    · have bM:=hid (HE.out.trans (by rw[CT]))
      have pK:=hid (bM.out.trans (if_pos hm))
      have b1:((m:Int) != (s.len:Int))=true:=bne_iff_ne.2 (by omega)
      have f5:=HF.out 5
      clear CT HE bM hm
      rcases k5 with rfl|rfl
      · go_enter Tryz.func270,Tryz.ntmps270
        go_wp2_with fail
        go_quiet (fail)
        go_wp2
        go_end0
        exact⟨rfl,_,_,_,by rw[pK.out];exact (H.out.step (below_drewN (Below.refl _ _) _)).cS 5 _ rfl (H.out.step (below_drewN (Below.refl _ _) _)).d (H.out.step (below_drewN (Below.refl _ _) _)).o (H.out.step (below_drewN (Below.refl _ _) _)).i H.out.ab H.out.ac H.out.bc H.out.len,uF (below_drewN (Below.refl _ _) _) 5 _⟩
      go_enter Tryz.func270,Tryz.ntmps270
      go_wp2_with fail
      go_quiet (fail)
      go_wp2
      go_end0
      exact⟨rfl,_,_,_,by rw[pK.out];exact (H.out.step (below_drewN (Below.refl _ _) _)).cS 5 _ rfl (H.out.step (below_drewN (Below.refl _ _) _)).d (H.out.step (below_drewN (Below.refl _ _) _)).o (H.out.step (below_drewN (Below.refl _ _) _)).i H.out.ab H.out.ac H.out.bc H.out.len,uF (below_drewN (Below.refl _ _) _) 5 _⟩
    have bM:=hid (HE.out.trans (by rw[CT]))
    have pK:=hid (bM.out.trans (if_neg (by simp[hm])))
    have b1:((m:Int) != (s.len:Int))=false:=by rw[hm];simp
    have Hm:=hid hm
    clear CT HE bM hm
    rcases k5 with rfl|rfl
    · go_enter Tryz.func270,Tryz.ntmps270
      go_wp2_with fail
      go_quiet (fail)
      go_wp2_with fail
      refine (Hs.out _ st dv ov iv (below_drewN (Below.refl _ _) _) (H.out.step (below_drewN (Below.refl _ _) _))).mono ?_
      rintro e1 w4 ⟨rfl,AK,zU,zV,cU,hb4⟩
      have R:=hid cU
      have LR:=hid (lM hb4)
      clear cU hb4
      go_wp2
      go_end0
      exact⟨rfl,_,_,_,by rw[pK.out];exact R.out,LR.out⟩
    go_enter Tryz.func270,Tryz.ntmps270
    go_wp2_with fail
    go_quiet (fail)
    go_wp2_with fail
    refine (Hs.out _ st dv ov iv (below_drewN (Below.refl _ _) _) (H.out.step (below_drewN (Below.refl _ _) _))).mono ?_
    rintro e1 w4 ⟨rfl,AK,zU,zV,cU,hb4⟩
    have R:=hid cU
    have LR:=hid (lM hb4)
    clear cU hb4
    go_wp2
    go_end0
    exact⟨rfl,_,_,_,by rw[pK.out];exact R.out,LR.out⟩
 have hk2:((k:Int)==2)=false:=aP (by omega)
 have hk5:((k:Int)==5)=false:=aP (by omega)
 have hk13:((k:Int)==13)=false:=aP (by omega)
 by_cases kA:k=10
 rotate_left
 · have HE:=hid (show K_ ar k t s ps b st=scope ar s true st by unfold K_;rw[if_neg k2,if_neg k5,if_neg kA])
   have hk10:((k:Int)==10)=false:=aP (by omega)
   clear k2 k5 kA
   go_enter Tryz.func270,Tryz.ntmps270
   go_wp2_with fail
   refine (Hs.out w st dv ov iv (Below.refl _ _) H.out).mono ?_
   rintro e1 w4 ⟨rfl,AK,zU,zV,cU,hb4⟩
   have R:=hid cU
   have LR:=hid hb4
   clear cU hb4
   go_wp2
   go_end0
   exact⟨rfl,_,_,_,by rw[HE.out];exact R.out,LR.out⟩
 subst kA
 have HE:=hid (show K_ ar 10 t s ps b st={ scope ar b false (ps.foldl declares { st with dF:=true,inner:=[] }) with dF:=false,inner:=[] } from rfl)
 have f4:=HF.out 4
 have hs1:=H.out.cS (st':={ st with dF:=true }) 4 (.bool true) rfl H.out.d H.out.o H.out.i H.out.ab H.out.ac H.out.bc H.out.len
 have hs2:=hs1.cS (st':={ st with dF:=true,inner:=[] }) (iv':=.slice none 0 0) 3 (.slice none 0 0) rfl hs1.d hs1.o (aF.nil _ _ rfl rfl) hs1.ab (fS.nil _) (fS.nil _) (by have:=hs1.len;simp at this ⊢;omega)
 have f3:=hs1.blk.frozen 3
 have gI:=hid hs2
 have KH:=hid (uF (uF (Below.refl g w) 4 (.bool true)) 3 (.slice none 0 0))
 clear k2 k5 hs1 hs2
 go_enter Tryz.func270,Tryz.ntmps270
 go_upto_region 12 with fail
 generalize (w.setCell ⟨g,4,none⟩ (.bool true)).setCell ⟨g,3,none⟩ (.slice none 0 0)=w2 at *
 obtain⟨d0,d1,d2,d3,d4,d5,d6⟩:=(HN.out.below (KH.out.mono cN)).cells
 go_upto_block 1 with fail
 go_cut [] (fun wx=>∃iH fP iv':Value,Hid (eI base g (.map (some gm)) iH fP iv' (ps.foldl declares { st with dF:=true,inner:=[] }) wx)∧Hid (Below g w2 wx))
 case first=>
  go_wp2_with fail
  go_loopg [63] ps.length (fun q i wr=>∃(j:Nat) (iH fP iv':Value),j≤ps.length∧q=ps.length-j∧i=.int .i64 j∧Hid (eI base g (.map (some gm)) iH fP iv' ((ps.take j).foldl declares { st with dF:=true,inner:=[] }) wr)∧Hid (Below g w2 wr))
  case atStart=>exact⟨0,_,_,_,Nat.zero_le _,rfl,rfl,gI,hid (Below.refl _ _)⟩
  obtain⟨j,iH,fP,iv',hj,hq,rfl,hR,hL⟩:=hrel
  have Hq:=hid hq
  clear hq
  obtain⟨wx,rfl⟩:∃x:World,x=wr:=⟨_,rfl⟩
  by_cases hlt:j<ps.length
  rotate_left
  · rw[List.take_of_length_le (show ps.length≤j by omega)] at hR
    go_wp2
    go_meet
    exact⟨iH,fP,iv',hR,hL⟩
  obtain⟨ap,hap,-,V8⟩:=FV (show Reads wx B 1 Ap ps.length (ps.map .string) by
   obtain⟨A',c',e',-,kC⟩:=uA.out
   cases e'
   exact kC.below ((KH.out.trans hL.out).mono cN)) hlt
  subst hap
  have HT:=hid (show (ps.take (j+1)).foldl declares { st with dF:=true,inner:=[] }=declares ((ps.take j).foldl declares { st with dF:=true,inner:=[] }) (ps.getD j ByteArray.empty) by
   rw[List.take_succ_eq_append_getElem hlt,List.foldl_append,dR,bX hlt]
   rfl)
  generalize ps.getD j ByteArray.empty=px at *
  generalize (ps.take j).foldl declares { st with dF:=true,inner:=[] }=lC at *
  have HD:=hid (aDK base g (.map (some gm)) iH fP iv' lC px wx hR.out)
  go_wp2_with fail
  refine HD.out.mono ?_
  rintro e1 w4 ⟨rfl,AK,zU,zV,cU,hb4⟩
  have R:=hid cU
  have LR:=hid (hL.out.trans hb4)
  clear cU hb4
  go_wp2
  go_roundg (ps.length-(j+1))
  case rel=>exact⟨j+1,AK,zU,zV,hlt,rfl,by go_num,by rw[HT.out];exact R,LR⟩
  rw[Hq.out];omega
 obtain⟨iH,fP,iv',hR,hL⟩:=hcut
 obtain⟨wx,rfl⟩:∃x:World,x=wc:=⟨_,rfl⟩
 clear d0 d1 d2 d3 d4 d5 d6
 have HLx:=hid (KH.out.trans hL.out)
 obtain⟨d0,d1,d2,d3,d4,d5,d6⟩:=(HN.out.below (HLx.out.mono cN)).cells
 generalize ps.foldl declares { st with dF:=true,inner:=[] }=jN at *
 go_wp2_with fail
 refine (Hb.out wx jN iH fP iv' HLx.out hR.out).mono ?_
 rintro e1 w5 ⟨rfl,dv5,ov5,iv5,hs5,aQ⟩
 have R5:=hid hs5
 have L5:=hid (HLx.out.trans aQ)
 clear hs5 aQ
 generalize scope ar b false jN=stq at *
 obtain⟨q0',q1',q2',q3',q4',q5',q6',q7'⟩:=EA R5.out.blk
 have g4:=R5.out.blk.frozen 4
 have eX:=R5.out.cS (st':={ stq with dF:=false }) 4 (.bool false) rfl R5.out.d R5.out.o R5.out.i R5.out.ab R5.out.ac R5.out.bc R5.out.len
 have J2:=eX.cS (st':={ stq with dF:=false,inner:=[] }) (iv':=.slice none 0 0) 3 (.slice none 0 0) rfl eX.d eX.o (aF.nil _ _ rfl rfl) eX.ab (fS.nil _) (fS.nil _) (by have:=eX.len;simp at this ⊢;omega)
 have g3:=eX.blk.frozen 3
 have TH:=hid J2
 have HL7:=hid (uF (uF L5.out 4 (.bool false)) 3 (.slice none 0 0))
 clear eX J2
 go_wp2
 go_end0
 exact⟨rfl,_,_,_,by rw[HE.out];exact TH.out,HL7.out⟩
end
end Go.Proofs.YtdlndhbkcgmkkaaGreatDoor
