/-
 Part 12 of 35 of a proof about the given program: facts on which the last part stands.
-/
import Derived.Test.YtdlndhbkcgmkkaaGreatDoorFL10
set_option maxHeartbeats 12800000
set_option linter.unusedVariables false
set_option linter.unusedSimpArgs false
set_option maxRecDepth 100000
namespace Go.Proofs.YtdlndhbkcgmkkaaGreatDoor
section
open Go.RowKit
open Sl
open Go.Lib (hid)
theorem bO7:(⟨#[45]⟩:aA).toList=[45]:=by rw[ByteArray.toList_eq]
theorem bO8:(⟨#[33]⟩:aA).toList=[33]:=by rw[ByteArray.toList_eq]
def NX (ex:Bool) (k:Nat) (t:aA) (n:Int) (s:Fo) (ps:List aA) (b e:Fo) (ins:Bool):Bool:=
 Sl.kindOk ex k&&dK nm op un k t n s.len ps b.len e.len ins&&bE (dK nm op un) s true ins&&bE (dK nm op un) b false (ins||decide (k=10))&&bE (dK nm op un) e false ins
theorem aZM (k:Nat) (t:aA) (n:Int) (sl:Nat) (ps:List aA) (bl el:Nat) (ins:Bool):dK nm op un k t n sl ps bl el ins=
 (decide ((nV k).1≤sl)&&decide (sl≤(nV k).2)&&EH nm op un k t&&kP k n&&(if k=10 then !ins&&mF nm ps else ps.isEmpty)&&(F3 k||decide (bl=0))&&(BL k||decide (el=0))):=rfl
def JR (k:Nat) (ps:List aA) (ins:Bool):Bool:=!(if k=10 then !ins&&mF nm ps else ps.isEmpty)
def OS (k bl el:Nat):Bool:=!((F3 k||decide (bl=0))&&(BL k||decide (el=0)))
theorem bLT {ex:Bool} {k:Nat} {t:aA} {n:Int} {s:Fo} {ps:List aA} {b e:Fo} {ins:Bool} (h:Sl.kindOk ex k=false∨¬(nV k).1≤s.len∨¬s.len≤(nV k).2∨EH nm op un k t=false∨kP k n=false∨JR k ps ins=true∨OS k b.len e.len=true∨
 bE (dK nm op un) s true ins=false∨bE (dK nm op un) b false (ins||decide (k=10))=false):NX ex k t n s ps b e ins=false:=by
 unfold NX
 rw[aZM]
 rcases h with h|h|h|h|h|h|h|h|h
 · rw[h];simp
 · rw[bP h];simp
 · rw[bP h];simp
 · rw[h];simp
 · rw[h];simp
 · unfold JR at h;rw[Bool.not_eq_true'] at h;rw[h];simp
 · unfold OS at h
   rw[Bool.not_eq_true',Bool.and_eq_false_iff] at h
   rcases h with h|h<;>rw[h]<;>simp
 · rw[h];simp
 rw[h];simp
theorem bM7 {ex:Bool} {k:Nat} {t:aA} {n:Int} {s:Fo} {ps:List aA} {b e:Fo} {ins:Bool} (h1:Sl.kindOk ex k=true) (h2:(nV k).1≤s.len) (h3:s.len≤(nV k).2) (h4:EH nm op un k t=true) (h5:kP k n=true) (h6:JR k ps ins=false) (h7:OS k b.len e.len=false)
 (h8:bE (dK nm op un) s true ins=true) (h9:bE (dK nm op un) b false (ins||decide (k=10))=true):NX ex k t n s ps b e ins=bE (dK nm op un) e false ins:=by
 unfold NX
 rw[aZM,h1,bF h2,bF h3,h4,h5,h8,h9]
 unfold JR at h6
 unfold OS at h7
 rw[Bool.not_eq_false'] at h6 h7
 rw[h6]
 rw[LM] at h7
 rw[h7.1,h7.2]
 simp
theorem bG3 (ex ins:Bool) (k:Nat) (t:aA) (n:Int) (s:Fo) (ps:List aA) (b e:Fo) (sv pv bv ev:Value) (B:Nat) (w:World) (hv:lY w B sv pv bv ev s ps b e) (hB:B≤w.heap.size) (bS9:k<256) (ht:t.size≤140737488355328) (hpl:ps.length≤140737488355328) (eF:∀x∈ps,x.size≤140737488355328) (hn:I64 n)
 (HS:∀W,Below w.heap.size w W→Calls Tryz.prog 132 #[sv,.bool true,.bool ins] W fun e w'=>e=.returned (.bool (bE (dK nm op un) s true ins))∧Below W.heap.size W w')
 (lL:∀W,Below w.heap.size w W→Calls Tryz.prog 132 #[bv,.bool false,.bool (ins||decide (k=10))] W fun e w'=>e=.returned (.bool (bE (dK nm op un) b false (ins||decide (k=10))))∧Below W.heap.size W w')
 (XD:∀W,Below w.heap.size w W→Calls Tryz.prog 132 #[ev,.bool false,.bool ins] W fun e_1 w'=>e_1=.returned (.bool (bE (dK nm op un) e false ins))∧Below W.heap.size W w'):
 Calls Tryz.prog 180 #[.agg #[.int .u8 k,.string t,.int .i64 n,sv,pv,bv,ev],.bool ex,.bool ins] w fun e_1 w'=>e_1=.returned (.bool (NX ex k t n s ps b e ins))∧Below w.heap.size w w':=by
 have H1:=hid HS
 have H2:=hid lL
 have H3:=hid XD
 clear HS lL XD
 obtain⟨As,cs,rfl,hcs⟩:=hv.subs.form
 obtain⟨Ab,cb,rfl,hcb⟩:=hv.body.form
 obtain⟨Ae,ce,rfl,hce⟩:=hv.els.form
 have HP:=hid hv.aX
 obtain⟨Ap,cp,rfl,kX,-⟩:=hv.aX
 clear hv
 have HPS:=hid eF
 clear eF
 have HO:=hid (@bLT ex k t n s ps b e ins)
 have HI:=hid (@bM7 ex k t n s ps b e ins)
 have HN:=hid hn
 clear hn
 have HA:=hid ((Below.refl w.heap.size w).alloc (aC _) (.cells #[.int .u8 k,.string t,.int .i64 n,.slice As s.len cs,.slice Ap ps.length cp,.slice Ab b.len cb,.slice Ae e.len ce] 69))
 have bN:=hid (aG.new w 69 #[.int .u8 k,.string t,.int .i64 n,.slice As s.len cs,.slice Ap ps.length cp,.slice Ab b.len cb,.slice Ae e.len ce])
 go_enter Tryz.func180,Tryz.ntmps180
 go_upto_region 1 with fail
 generalize w.alloc (.cells #[.int .u8 k,.string t,.int .i64 n,.slice As s.len cs,.slice Ap ps.length cp,.slice Ab b.len cb,.slice Ae e.len ce] 69)=w0 at *
 obtain⟨a0,a1,a2,a3,a4,a5,a6⟩:=j5 bN.out
 have hz0:=bN.out.lt
 go_cut [27] (fun x wx=>x=.bool (!Sl.kindOk ex k)∧w0=wx)
 case first=>as_aux_lemma=>
  have Ce:=hid (bF8 k w0)
  have Cs:=hid (aYA k w0)
  cases ex with
  |true=>
   have HE:=hid (show Sl.kindOk true k=pS k from rfl)
   generalize pS k=kx at *
   cases kx<;>
   (go_wp2_with (first|(go_at_call 220;refine Ce.out.mono ?_;rintro e1 w' ⟨rfl,rfl⟩))
    go_meet
    exact⟨by rw[HE.out];rfl,rfl⟩)
  |false=>
   have HE:=hid (show Sl.kindOk false k=k8 k from rfl)
   generalize k8 k=kx at *
   cases kx<;>
   (go_wp2_with (first|(go_at_call 144;refine Cs.out.mono ?_;rintro e1 w' ⟨rfl,rfl⟩))
    go_meet
    exact⟨by rw[HE.out];rfl,rfl⟩)
 obtain⟨rfl,rfl⟩:=hcut
 cases hk:Sl.kindOk ex k with
 |false=>
  have HR:=hid (HO.out (.inl hk))
  clear hk
  go_wp2
  go_ret
  exact⟨aR HR.out.symm,HA.out⟩
 |true=>
  have Hk:=hid hk
  have B1:1≤k∧k≤27:=by
   unfold Sl.kindOk pS k8 at hk
   cases ex<;>simp at hk<;>omega
  clear hk
  have Csb:=hid (bI8 k w0)
  obtain⟨lo,tV⟩:∃x,x=(nV k).1:=⟨_,rfl⟩
  obtain⟨hi,SD⟩:∃x,x=(nV k).2:=⟨_,rfl⟩
  rw[←tV,←SD] at Csb
  have Hlo:=hid tV
  have Hhi:=hid SD
  clear tV SD
  by_cases kW:s.len<lo
  · have HR:=hid (HO.out (.inr (.inl (by rw[←Hlo.out];omega))))
    have b1:decide ((s.len:Int)<(lo:Int))=true:=by simp;omega
    go_wp2_with fail
    refine Csb.out.mono ?_
    rintro e1 w' ⟨rfl,rfl⟩
    go_wp2
    go_ret
    exact⟨aR HR.out.symm,HA.out⟩
  have b1:decide ((s.len:Int)<(lo:Int))=false:=by simp;omega
  by_cases lS:s.len > hi
  · have HR:=hid (HO.out (.inr (.inr (.inl (by rw[←Hhi.out];omega)))))
    have b2:decide ((s.len:Int) > (hi:Int))=true:=by simp;omega
    go_wp2_with fail
    refine Csb.out.mono ?_
    rintro e1 w' ⟨rfl,rfl⟩
    go_wp2
    go_ret
    exact⟨aR HR.out.symm,HA.out⟩
  have b2:decide ((s.len:Int) > (hi:Int))=false:=by simp;omega
  have Hsl:=hid (show (nV k).1≤s.len by rw[←Hlo.out];omega)
  have Hsh:=hid (show s.len≤(nV k).2 by rw[←Hhi.out];omega)
  go_upto_region 6 with fail
  refine Csb.out.mono ?_
  rintro e1 w' ⟨rfl,rfl⟩
  go_upto_region 6 with fail
  clear Csb Hlo Hhi b1 b2 kW lS
  go_cut [9] (fun x wx=>(∃nd:Bool,x=.bool nd∧Hid (named k=nd))∧w0=wx)
  case first=>as_aux_lemma=>
   by_cases qN:k=2∨k=5∨k=13∨k=14∨k=15∨k=21
   · rcases qN with rfl|rfl|rfl|rfl|rfl|rfl<;>
     (go_wp2
      go_meet
      exact⟨⟨_,rfl,hid rfl⟩,rfl⟩)
   · have e2:((k:Int)==2)=false:=aP (by omega)
     have n2:((k:Int) != 2)=true:=bne_iff_ne.2 (by omega)
     have e5:((k:Int)==5)=false:=aP (by omega)
     have n5:((k:Int) != 5)=true:=bne_iff_ne.2 (by omega)
     have G_:((k:Int)==13)=false:=aP (by omega)
     have n13:((k:Int) != 13)=true:=bne_iff_ne.2 (by omega)
     have MO:((k:Int)==14)=false:=aP (by omega)
     have n14:((k:Int) != 14)=true:=bne_iff_ne.2 (by omega)
     have e15:((k:Int)==15)=false:=aP (by omega)
     have n15:((k:Int) != 15)=true:=bne_iff_ne.2 (by omega)
     have S7:((k:Int)==21)=false:=aP (by omega)
     have n21:((k:Int) != 21)=true:=bne_iff_ne.2 (by omega)
     have HE:=hid (show named k=false by unfold named;exact bP qN)
     clear qN
     go_wp2
     go_meet
     exact⟨⟨_,rfl,HE⟩,rfl⟩
  obtain⟨⟨nd,rfl,GP⟩,rfl⟩:=hcut
  go_upto_block 0 with fail
  go_cut [] (fun wx=>Hid (Below w0.heap.size w0 wx)∧Hid (EH nm op un k t=true))
  case first=>as_aux_lemma=>
   cases nd with
   |true=>
    have HT:=hid (show EH nm op un k t=nm t by unfold EH;rw[GP.out];rfl)
    have Cn:=hid (aM7 t w0 ht)
    clear GP
    cases hnt:nm t with
    |true=>
     rw[hnt] at Cn HT
     clear hnt
     go_wp2_with fail
     refine Cn.out.mono ?_
     rintro e1 w4 ⟨rfl,hb4⟩
     have bC:=hid hb4
     clear hb4
     go_wp2
     go_meet
     exact⟨bC,HT⟩
    |false=>
     rw[hnt] at Cn HT
     have HR:=hid (HO.out (.inr (.inr (.inr (.inl HT.out)))))
     clear hnt
     go_wp2_with fail
     refine Cn.out.mono ?_
     rintro e1 w4 ⟨rfl,hb4⟩
     have bC:=hid (HA.out.trans (hb4.mono (by omega)))
     clear hb4
     go_wp2
     go_ret
     exact⟨aR HR.out.symm,bC.out⟩
   |false=>
    by_cases h3:k=3
    · subst h3
      have HT:=hid (show EH nm op un 3 t=un t from rfl)
      by_cases x1:t=⟨#[45]⟩
      · subst x1
        have mV:=hid (HT.out.trans (show un ⟨#[45]⟩=true from rfl))
        clear GP
        go_wp2
        go_meet
        exact⟨hid (Below.refl _ _),mV⟩
      by_cases x2:t=⟨#[33]⟩
      · subst x2
        have mV:=hid (HT.out.trans (show un ⟨#[33]⟩=true from rfl))
        clear GP x1
        go_wp2
        go_meet
        exact⟨hid (Below.refl _ _),mV⟩
      have y1:(t.toList==[45])=false:=by rw[←bO7];exact (Lib.bytes_beq_false_iff _ _).2 x1
      have y2:(t.toList==[33])=false:=by rw[←bO8];exact (Lib.bytes_beq_false_iff _ _).2 x2
      have HR:=hid (HO.out (.inr (.inr (.inr (.inl (HT.out.trans (by unfold un;rw[bP x1,bP x2];rfl)))))))
      clear GP x1 x2
      go_wp2
      go_ret
      exact⟨aR HR.out.symm,HA.out⟩
    by_cases h4:k=4
    rotate_left
    · have HT:=hid (show EH nm op un k t=empty t by unfold EH;rw[GP.out,if_neg (by simp),if_neg h3,if_neg h4])
      have e3:((k:Int)==3)=false:=aP (by omega)
      have e4:((k:Int)==4)=false:=aP (by omega)
      by_cases R7:0<t.size
      · have y1:(t.toList != [])=true:=bne_iff_ne.2 (toList_cons R7)
        have y2:t.toList.isEmpty=false:=by cases h:t.toList with|nil=>exact absurd h (toList_cons R7)|cons=>rfl
        have HR:=hid (HO.out (.inr (.inr (.inr (.inl (HT.out.trans (bP (by omega))))))))
        clear GP h3 h4
        go_wp2
        go_ret
        exact⟨aR HR.out.symm,HA.out⟩
      have y1:t.toList=[]:=toList_nil R7
      have mV:=hid (HT.out.trans (bF (by omega)))
      clear GP h3 h4
      go_wp2
      go_meet
      exact⟨hid (Below.refl _ _),mV⟩
    subst h4
    have HT:=hid (show EH nm op un 4 t=op t from rfl)
    have Co:=hid (bE0 t w0)
    have hop:=a1T t
    cases hot:op t with
    |true=>
     rw[hot] at hop HT
     have hge:decide (F5 t<0)=false:=by have:=of_decide_eq_true hop;simp;omega
     clear hop hot GP
     generalize F5 t=on at *
     go_wp2_with fail
     refine Co.out.mono ?_
     rintro e1 w4 ⟨rfl,hb4⟩
     have bC:=hid hb4
     clear hb4
     go_wp2
     go_meet
     exact⟨bC,HT⟩
    |false=>
     rw[hot] at hop HT
     have hge:decide (F5 t<0)=true:=by have:=of_decide_eq_false hop;simp;omega
     have HR:=hid (HO.out (.inr (.inr (.inr (.inl HT.out)))))
     clear hop hot GP
     generalize F5 t=on at *
     go_wp2_with fail
     refine Co.out.mono ?_
     rintro e1 w4 ⟨rfl,hb4⟩
     have bC:=hid (HA.out.trans (hb4.mono (by omega)))
     clear hb4
     go_wp2
     go_ret
     exact⟨aR HR.out.symm,bC.out⟩
  obtain⟨aQ,HT⟩:=hcut
  have oC:=aQ.out.size
  have a_:=hid (HA.out.trans (aQ.out.mono (Nat.le_of_lt hz0)))
  have JT:=hid (bN.out.below aQ.out hz0)
  clear a0 a1 a2 a3 a4 a5 a6
  clear bN HA
  obtain⟨w5,rfl⟩:∃x:World,x=wc:=⟨_,rfl⟩
  have aRC:w.heap.size<w5.heap.size:=JT.out.lt
  clear aQ oC
  clear hz0
  obtain⟨a0,a1,a2,a3,a4,a5,a6⟩:=j5 JT.out
  go_upto_region 18 with fail
  go_cut [116] (fun x wx=>x=.bool (!kP k n)∧w5=wx)
  case first=>as_aux_lemma=>
   by_cases n1:n<0
   · have b1:decide (n<0)=true:=bF n1
     have HE:=hid (show kP k n=false by unfold kP;rw[b1];rfl)
     clear n1
     go_wp2
     go_meet
     exact⟨by rw[HE.out];rfl,rfl⟩
   have b1:decide (n<0)=false:=bP n1
   by_cases n2:n=0
   · subst n2
     have HE:=hid (show kP k 0=true by unfold kP;simp)
     go_wp2
     go_meet
     exact⟨by rw[HE.out];rfl,rfl⟩
   have b2:(n != 0)=true:=bne_iff_ne.2 n2
   by_cases n3:k=1
   · subst n3
     have HE:=hid (show kP 1 n=true by unfold kP;rw[b1];simp)
     clear n1 n2
     go_wp2
     go_meet
     exact⟨by rw[HE.out];rfl,rfl⟩
   have b3:((k:Int) != 1)=true:=bne_iff_ne.2 (by omega)
   have HE:=hid (show kP k n=false by unfold kP;rw[b1,bF (show n≠0 from n2),bF (show k≠1 from n3)];rfl)
   clear n1 n2 n3
   go_wp2
   go_meet
   exact⟨by rw[HE.out];rfl,rfl⟩
  obtain⟨rfl,rfl⟩:=hcut
  cases hno:kP k n with
  |false=>
   have HR:=hid (HO.out (.inr (.inr (.inr (.inr (.inl hno))))))
   clear hno
   go_wp2
   go_ret
   exact⟨aR HR.out.symm,a_.out⟩
  |true=>
   have HNo:=hid hno
   clear hno
   go_upto_region 20 with fail
   go_cut [139] (fun x wx=>x=.bool (JR k ps ins)∧Hid (Below w5.heap.size w5 wx))
   case first=>as_aux_lemma=>
    by_cases h10:k=10
    · subst h10
      have HE:=hid (show JR 10 ps ins=(ins||!mF nm ps) by unfold JR;cases ins<;>simp)
      have Cn:=hid (aY2 _ ps B w5 (HP.out.below (a_.out.mono hB)) (by omega) hpl HPS.out)
      generalize mF nm ps=nk at *
      cases ins with
      |true=>
       go_wp2
       go_meet
       exact⟨by rw[HE.out];rfl,hid (Below.refl _ _)⟩
      |false=>
       cases nk<;>
       (go_wp2_with fail
        refine Cn.out.mono ?_
        rintro e1 w6 ⟨rfl,b_⟩
        have fZ:=hid b_
        obtain⟨c0,c1,c2,c3,c4,c5,c6⟩:=j5 (JT.out.below b_ aRC)
        clear b_
        go_wp2
        go_meet
        exact⟨by rw[HE.out];rfl,fZ⟩)
    have B9:((k:Int)==10)=false:=aP (by omega)
    have m10:((k:Int) != 10)=true:=bne_iff_ne.2 (by omega)
    have HE:=hid (show JR k ps ins=decide (0<ps.length) by unfold JR;rw[if_neg h10];cases ps<;>simp)
    clear h10
    by_cases hp0:0<ps.length
    · have q1:decide (0<ps.length)=true:=bF hp0
      have q2:decide ((ps.length:Int) > 0)=true:=bF (by omega)
      have bM:=hid (HE.out.trans q1)
      go_wp2
      go_meet
      exact⟨by rw[bM.out],hid (Below.refl _ _)⟩
    have q1:decide (0<ps.length)=false:=bP hp0
    have q2:decide ((ps.length:Int) > 0)=false:=bP (by omega)
    have bM:=hid (HE.out.trans q1)
    go_wp2
    go_meet
    exact⟨by rw[bM.out],hid (Below.refl _ _)⟩
   obtain⟨rfl,b_⟩:=hcut
   have mN:=b_.out.size
   have fZ:=hid (a_.out.trans (b_.out.mono (Nat.le_of_lt aRC)))
   have Q9:=hid (JT.out.below b_.out aRC)
   clear a0 a1 a2 a3 a4 a5 a6
   obtain⟨w6,rfl⟩:∃x:World,x=wc:=⟨_,rfl⟩
   obtain⟨a0,a1,a2,a3,a4,a5,a6⟩:=j5 Q9.out
   cases aQ:JR k ps ins with
   |true=>
    have HR:=hid (HO.out (.inr (.inr (.inr (.inr (.inr (.inl aQ)))))))
    clear aQ
    go_wp2
    go_ret
    exact⟨aR HR.out.symm,fZ.out⟩
   |false=>
    have bSW:=hid aQ
    clear aQ
    go_upto_region 22 with fail
    go_cut [10] (fun x wx=>(∃bk:Bool,x=.bool bk∧Hid (F3 k=bk))∧w6=wx)
    case first=>as_aux_lemma=>
     by_cases qN:k=10∨k=17∨k=18∨k=21
     · rcases qN with rfl|rfl|rfl|rfl<;>
       (go_wp2
        go_meet
        exact⟨⟨_,rfl,hid rfl⟩,rfl⟩)
     · have B9:((k:Int)==10)=false:=aP (by omega)
       have n10:((k:Int) != 10)=true:=bne_iff_ne.2 (by omega)
       have FD:((k:Int)==17)=false:=aP (by omega)
       have n17:((k:Int) != 17)=true:=bne_iff_ne.2 (by omega)
       have r6:((k:Int)==18)=false:=aP (by omega)
       have n18:((k:Int) != 18)=true:=bne_iff_ne.2 (by omega)
       have S7:((k:Int)==21)=false:=aP (by omega)
       have n21:((k:Int) != 21)=true:=bne_iff_ne.2 (by omega)
       have HE:=hid (show F3 k=false by unfold F3;exact bP (by omega))
       clear qN
       go_wp2
       go_meet
       exact⟨⟨_,rfl,HE⟩,rfl⟩
    obtain⟨⟨bk,rfl,eH⟩,rfl⟩:=hcut
    go_upto_region 23 with fail
    go_cut [181] (fun x wx=>x=.bool (OS k b.len e.len)∧w6=wx)
    case first=>as_aux_lemma=>
     have HE:=hid (show OS k b.len e.len=((!F3 k&&decide (0<b.len))||(!BL k&&decide (0<e.len))) by
      have q1:decide (b.len=0)=!decide (0<b.len):=by by_cases h:b.len=0<;>simp[h]<;>omega
      have q2:decide (e.len=0)=!decide (0<e.len):=by by_cases h:e.len=0<;>simp[h]<;>omega
      unfold OS
      rw[q1,q2]
      cases F3 k<;>cases BL k<;>simp)
     have HF:=hid (show ∀n:Nat,decide ((n:Int) > 0)=decide (0<n) from fun n=>by rw[decide_eq_decide];omega)
     have HBd2:=hid eH.out
     rw[eH.out] at HE
     by_cases lI:k=17∨k=21
     · have he:BL k=true:=by unfold BL;exact bF lI
       rw[he] at HE
       rcases lI with rfl|rfl<;>(cases bk<;>cases lH:decide (0<b.len)<;>
       (have bM:=HE
        rw[lH] at bM
        have bRH:=(HF.out b.len).trans lH
        clear HE he
        go_wp2
        go_meet
        exact⟨by rw[bM.out];rfl,rfl⟩))
     have he:BL k=false:=by unfold BL;exact bP lI
     rw[he] at HE
     have m17:((k:Int) != 17)=true:=bne_iff_ne.2 (by omega)
     have m21:((k:Int) != 21)=true:=bne_iff_ne.2 (by omega)
     have n17:((k:Int)==17)=false:=aP (by omega)
     have n21:((k:Int)==21)=false:=aP (by omega)
     clear lI he
     cases bk<;>cases lH:decide (0<b.len)<;>cases hez:decide (0<e.len)<;>
     (have bM:=HE
      rw[lH,hez] at bM
      have bRH:=(HF.out b.len).trans lH
      have hez2:=(HF.out e.len).trans hez
      clear HE
      go_wp2
      go_meet
      exact⟨by rw[bM.out];rfl,rfl⟩)
    obtain⟨rfl,rfl⟩:=hcut
    cases b_:OS k b.len e.len with
    |true=>
     have HR:=hid (HO.out (.inr (.inr (.inr (.inr (.inr (.inr (.inl b_))))))))
     clear b_
     go_wp2
     go_ret
     exact⟨aR HR.out.symm,fZ.out⟩
    |false=>
     have FQ:=hid (HI.out Hk.out Hsl.out Hsh.out HT.out HNo.out bSW.out b_)
     clear b_
     have C1:=hid (H1.out w6 fZ.out)
     clear H1
     cases nE:bE (dK nm op un) s true ins with
     |false=>
      have HR:=hid (HO.out (.inr (.inr (.inr (.inr (.inr (.inr (.inr (.inl nE)))))))))
      rw[nE] at C1
      clear nE
      go_wp2_with fail
      refine C1.out.mono ?_
      rintro e1 w7 ⟨rfl,dI⟩
      have nP:=hid (fZ.out.trans (dI.mono (by have:=Q9.out.lt;omega)))
      clear dI
      go_wp2
      go_ret
      exact⟨aR HR.out.symm,nP.out⟩
     |true=>
      rw[nE] at C1
      have HI3:=hid (FQ.out nE)
      clear nE
      go_wp2_with fail
      refine C1.out.mono ?_
      rintro e1 w7 ⟨rfl,dI⟩
      have rS:=Q9.out.lt
      have aRA:=dI.size
      have nP:=hid (fZ.out.trans (dI.mono (by omega)))
      have aAM:=hid (Q9.out.below dI rS)
      clear dI a0 a1 a2 a3 a4 a5 a6
      obtain⟨a0,a1,a2,a3,a4,a5,a6⟩:=j5 aAM.out
      have C2:=hid (H2.out w7 nP.out)
      clear H2
      have a8R:Hid (∀fb:Bool,fb=bE (dK nm op un) b false (ins||decide (k=10))→NX ex k t n s ps b e ins=if fb then bE (dK nm op un) e false ins else false):=hid (fun fb fW=>by
       cases fb with
       |true=>exact HI3.out fW.symm
       |false=>exact HO.out (.inr (.inr (.inr (.inr (.inr (.inr (.inr (.inr fW.symm)))))))))
      obtain⟨fb,fW⟩:∃fb,fb=bE (dK nm op un) b false (ins||decide (k=10)):=⟨_,rfl⟩
      have HF:=hid (a8R.out fb fW)
      rw[←fW] at C2
      clear fW a8R HI3 FQ HI HO
      obtain⟨i2,jQ⟩:∃x,x=(ins||decide (k=10)):=⟨_,rfl⟩
      rw[←jQ] at C2
      have Hi2:=hid jQ
      clear jQ
      have C3:=hid (fun W h=>H3.out W h)
      clear H3
      have fin:∀(iv:Bool),(ins=true→iv=true)→(ins=false→iv=((k:Int)==10))→iv=i2:=fun iv q1 q2=>by
       rw[Hi2.out]
       cases ins with
       |true=>rw[q1 rfl];rfl
       |false=>rw[q2 rfl,Bool.false_or,Bool.eq_iff_iff,beq_iff_eq,decide_eq_true_eq];omega
      have jD:=hid fin
      clear fin
      cases ins with
      |true=>
       have sN:=C2
       rw[←jD.out true (fun _=>rfl) (fun h=>by cases h)] at sN
       clear C2 jD
       cases fb with
       |false=>
        have HR:=hid HF.out
        go_wp2_with fail
        refine sN.out.mono ?_
        rintro e1 w8 ⟨rfl,kG⟩
        have iV:=hid (nP.out.trans (kG.mono (by omega)))
        clear kG
        go_wp2
        go_ret
        exact⟨aR HR.out.symm,iV.out⟩
       |true=>as_aux_lemma=>
        have HR:=hid HF.out
        go_wp2_with fail
        refine sN.out.mono ?_
        rintro e1 w8 ⟨rfl,kG⟩
        have iV:=hid (nP.out.trans (kG.mono (by omega)))
        have hz8:=kG.size
        have aQ_:w.heap.size<w7.heap.size:=aAM.out.lt
        obtain⟨c0,c1,c2,c3,c4,c5,c6⟩:=j5 (aAM.out.below kG aQ_)
        clear kG
        have C4:=hid (C3.out w8 iV.out)
        clear C3
        go_wp2_with fail
        refine C4.out.mono ?_
        rintro e1 w9 ⟨rfl,pC⟩
        have CG:=hid (iV.out.trans (pC.mono (by omega)))
        clear pC
        go_wp2
        go_ret
        exact⟨aR HR.out.symm,CG.out⟩
      |false=>
       have sN:=C2
       rw[←jD.out ((k:Int)==10) (fun h=>by cases h) (fun _=>rfl)] at sN
       clear C2 jD
       cases fb with
       |false=>
        have HR:=hid HF.out
        go_wp2_with fail
        refine sN.out.mono ?_
        rintro e1 w8 ⟨rfl,kG⟩
        have iV:=hid (nP.out.trans (kG.mono (by omega)))
        clear kG
        go_wp2
        go_ret
        exact⟨aR HR.out.symm,iV.out⟩
       |true=>as_aux_lemma=>
        have HR:=hid HF.out
        go_wp2_with fail
        refine sN.out.mono ?_
        rintro e1 w8 ⟨rfl,kG⟩
        have iV:=hid (nP.out.trans (kG.mono (by omega)))
        have hz8:=kG.size
        have aQ_:w.heap.size<w7.heap.size:=aAM.out.lt
        obtain⟨c0,c1,c2,c3,c4,c5,c6⟩:=j5 (aAM.out.below kG aQ_)
        clear kG
        have C4:=hid (C3.out w8 iV.out)
        clear C3
        go_wp2_with fail
        refine C4.out.mono ?_
        rintro e1 w9 ⟨rfl,pC⟩
        have CG:=hid (iV.out.trans (pC.mono (by omega)))
        clear pC
        go_wp2
        go_ret
        exact⟨aR HR.out.symm,CG.out⟩
end
end Go.Proofs.YtdlndhbkcgmkkaaGreatDoor
