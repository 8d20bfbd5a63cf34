/-
  An evaluator for calls whose arguments are known: regions that draw their order. What is run.
-/
import Derived.Test.YtbhgcdkahblllaaGreatDoorEvR
import Derived.Orders
set_option linter.unusedVariables false
set_option linter.unusedSimpArgs false
namespace Go.Ev
open Go
noncomputable section
variable {P : Program}

/-! ### Whether two data are one -/
def fnEq : Fn → Fn → Bool
  | .func f, .func g => Nat.beq f g
  | _, _ => false
theorem fnEq_eq {f g : Fn} (h : fnEq f g = true) : f = g := by
  unfold fnEq at h
  split at h
  · rw [Nat.eq_of_beq_eq_true h]
  · cases h
def avEq : AV → AV → Bool
  | .bool a, .bool b => a == b
  | .int k a, .int l b => eqKd k l && eqI a b
  | .str n a, .str m b => Nat.beq n m && Nat.beq a b
  | .pnil, .pnil => true
  | .ptr b o, .ptr c p => Nat.beq b c && Nat.beq o p
  | .snil, .snil => true
  | .sl b o n c, .sl b' o' n' c' => Nat.beq b b' && (Nat.beq o o' && (Nat.beq n n' && Nat.beq c c'))
  | .slu b o n c, .slu b' o' n' c' => Nat.beq b b' && (Nat.beq o o' && (Nat.beq n n' && Nat.beq c c'))
  | .mnil, .mnil => true
  | .map b, .map c => Nat.beq b c
  | .fn f x y, .fn g x' y' => fnEq f g && (avEq x x' && avEq y y')
  | .fnil, .fnil => true
  | .inil, .inil => true
  | .iface t x, .iface u y => Nat.beq t u && avEq x y
  | .agg x, .agg y => avEq x y
  | .tup x, .tup y => avEq x y
  | .ge a, .ge b => Nat.beq a b
  | .nl, .nl => true
  | .cons a x, .cons b y => avEq a b && avEq x y
  | _, _ => false
theorem avEq_eq : ∀ {a b : AV}, avEq a b = true → a = b := by
  intro a
  induction a with
  | top => intro b h; cases b <;> cases h
  | bool a => intro b h; cases b <;> first | (cases h; done) | skip
              simp only [avEq, beq_iff_eq] at h; rw [h]
  | int k a => intro b h; cases b <;> first | (cases h; done) | skip
               simp only [avEq, Bool.and_eq_true] at h
               obtain ⟨h1, h2⟩ := h
               rw [eqI_eq, decide_eq_true_eq] at h2
               rw [eqKd_eq h1, h2]
  | str n x => intro b h; cases b <;> first | (cases h; done) | skip
               simp only [avEq, Bool.and_eq_true, Nat.beq_eq] at h; rw [h.1, h.2]
  | pnil => intro b h; cases b <;> first | (cases h; done) | rfl
  | ptr c o => intro b h; cases b <;> first | (cases h; done) | skip
               simp only [avEq, Bool.and_eq_true, Nat.beq_eq] at h; rw [h.1, h.2]
  | snil => intro b h; cases b <;> first | (cases h; done) | rfl
  | sl c o n k => intro b h; cases b <;> first | (cases h; done) | skip
                  simp only [avEq, Bool.and_eq_true, Nat.beq_eq] at h; rw [h.1, h.2.1, h.2.2.1, h.2.2.2]
  | slu c o n k => intro b h; cases b <;> first | (cases h; done) | skip
                   simp only [avEq, Bool.and_eq_true, Nat.beq_eq] at h; rw [h.1, h.2.1, h.2.2.1, h.2.2.2]
  | mnil => intro b h; cases b <;> first | (cases h; done) | rfl
  | map c => intro b h; cases b <;> first | (cases h; done) | skip
             simp only [avEq, Nat.beq_eq] at h; rw [h]
  | fn f x y ihx ihy => intro b h; cases b <;> first | (cases h; done) | skip
                        simp only [avEq, Bool.and_eq_true] at h
                        rw [fnEq_eq h.1, ihx h.2.1, ihy h.2.2]
  | fnil => intro b h; cases b <;> first | (cases h; done) | rfl
  | inil => intro b h; cases b <;> first | (cases h; done) | rfl
  | iface t x ih => intro b h; cases b <;> first | (cases h; done) | skip
                    simp only [avEq, Bool.and_eq_true, Nat.beq_eq] at h
                    rw [h.1, ih h.2]
  | agg x ih => intro b h; cases b <;> first | (cases h; done) | skip
                rw [ih h]
  | tup x ih => intro b h; cases b <;> first | (cases h; done) | skip
                rw [ih h]
  | ge n => intro b h; cases b <;> first | (cases h; done) | skip
            simp only [avEq, Nat.beq_eq] at h; rw [h]
  | nl => intro b h; cases b <;> first | (cases h; done) | rfl
  | cons a x iha ihx => intro b h; cases b <;> first | (cases h; done) | skip
                        simp only [avEq, Bool.and_eq_true] at h
                        rw [iha h.1, ihx h.2]
def csEq (c d : Cs) : Nat → Bool
  | 0 => true
  | j + 1 => avEq (c.get j) (d.get j) && csEq c d j
theorem csEq_get {c d : Cs} : ∀ {n : Nat}, csEq c d n = true → ∀ j, j < n → c.get j = d.get j
  | 0, _, j, h => by omega
  | n + 1, h, j, hj => by
    simp only [csEq, Bool.and_eq_true] at h
    by_cases e : j = n
    · subst e; exact avEq_eq h.1
    · exact csEq_get h.2 j (by omega)
def aoSame : AO → AO → Bool
  | .cells n c, .cells m d => Nat.beq n m && (Nat.ble n d.room && csEq c d n)
  | .map [], .map [] => true
  | _, _ => false
theorem RO.same {ι : Inj} {x y : AO} {l : Loc} {w : World} (h : aoSame x y = true) (r : RO ι x l w) : RO ι y l w := by
  unfold aoSame at h
  split at h
  · simp only [Bool.and_eq_true, Nat.beq_eq] at h
    obtain ⟨rfl, h1, h2⟩ := h
    obtain ⟨r1, r2, a, e, r3, r4, r5⟩ := r
    refine ⟨Nat.le_of_ble_eq_true h1, r2, a, e, r3, r4, fun i hi => ?_⟩
    rw [← csEq_get h2 i hi]; exact r5 i hi
  · exact r
  · cases h

/-! ### The plan of a region -/
structure Stp where
  i : Nat
  ls : List (Nat × Bool)
structure Ph where
  ns : List Stp
  re : List Stp
  e : Option Stp
structure Plan where
  big : Nat
  phs : List Ph
/-- Whether operation `j` comes ahead of operation `i`, whatever is drawn. -/
def inb (big i j : Nat) : Bool := Nat.beq (Nat.land (Nat.shiftRight big (Nat.add (Nat.mul 64 i) j)) 1) 1
def idxs : List Stp → List Nat
  | [] => []
  | s :: l => s.i :: idxs l
def eIdx : Option Stp → List Nat
  | none => []
  | some s => [s.i]
def opsOf : List Ph → List Nat
  | [] => []
  | p :: r => idxs p.ns ++ (eIdx p.e ++ opsOf r)
def hasN (i : Nat) : List Nat → Bool
  | [] => false
  | j :: l => Nat.beq i j || hasN i l
theorem hasN_iff {i : Nat} : ∀ {l : List Nat}, hasN i l = true ↔ i ∈ l
  | [] => by simp [hasN]
  | j :: l => by simp [hasN, hasN_iff (l := l)]
def goodPhs (big : Nat) : List Ph → Bool
  | [] => false
  | ph :: rest => (idxs ph.ns).all (fun i => hasN i (idxs ph.re)) && match ph.e, rest with
    | none, [] => true
    | some e, ph' :: _ => (opsOf rest).all (fun i => inb big i e.i && !Nat.beq i e.i) && ((idxs ph.re).all (fun i => !Nat.beq i e.i && (!hasN i (opsOf rest) && (inb big e.i i || hasN i (idxs ph'.re)))) && goodPhs big rest)
    | _, _ => false
def befOk (big : Nat) (n i : Nat) (o : Oper) : Bool := o.after.toList.all (fun e => !Region.binds .any e || Nat.blt e.on i) &&
  (List.range n).all fun j => !inb big i j || o.after.toList.any fun e => Region.binds .any e && (Nat.beq e.on j || inb big e.on j)
def dstOk (i : Nat) (o : Oper) (l : List (Oper × Nat)) : Bool := match o.dst with
  | none => true
  | some d => l.all fun p => match p.1.dst with
    | none => true
    | some d' => !Nat.beq d d' || Nat.beq i p.2
def lsOk (big : Nat) (l : List (Oper × Nat)) (s : Stp) : Bool := s.ls.all fun q => match q.2 with
  | true => l.any fun p => (match p.1.dst with | some d => Nat.beq d q.1 | none => false) && inb big s.i p.2
  | false => l.all fun p => (match p.1.dst with | some d => !Nat.beq d q.1 | none => true) || (Nat.beq s.i p.2 || inb big p.2 s.i)
def stepsOf : List Ph → List Stp
  | [] => []
  | p :: r => p.ns ++ (p.re ++ (p.e.toList ++ stepsOf r))
def goodPlan (ops : Array Oper) (pl : Plan) : Bool :=
  let l := ops.toList.zipIdx
  l.all (fun p => befOk pl.big ops.size p.2 p.1 && dstOk p.2 p.1 l) && ((stepsOf pl.phs).all (fun s => lsOk pl.big l s) && ((List.range ops.size).all (fun i => hasN i (opsOf pl.phs)) && goodPhs pl.big pl.phs))

/-! ### What is run -/
def maskK (T0 T : T) (l : List (Nat × Bool)) : Ev.T → (Ev.T → R) → R := List.rec (motive := fun _ => Ev.T → (Ev.T → R) → R)
  (fun M k => k M) (fun q _ ih M k => okK (Nat.ble q.1 255) (tsetK q.1 (Bool.rec (tgetS q.1 T0) (tgetS q.1 T) q.2) M fun M => ih M k)) l
def gS (P : Program) (Mo : Memo) (ev : Ev) (ops : Array Oper) (m : Nat) (T0 : T) (s : Stp) (T : Ev.T) (S : St) (k : KN) : R := match ops[s.i]? with
  | some o => maskK T0 T s.ls emT fun M => guardK ops o.guard M (putK m o.dst (.tup .nl) T fun T => k T S) (doK P Mo ev (kd P o.op) M S fun v S => putK m o.dst v T fun T => k T S)
  | none => .bad 101
abbrev Bs := List (Nat × Nat)
def nK (x : Kd) (T : T) (S : St) (k : AV → St → Option Nat → R) : R := match x with
  | .pure f => f T fun v => k v S none
  | .load f => f T S.h fun v => k v S none
  | .make f => f T fun b mk => newK S b fun i S => k (mk i) S (some i)
  | _ => .bad 102
def addB (i : Nat) (b : Option Nat) (bs : Bs) : Bs := match b with
  | none => bs
  | some b => (i, b) :: bs
def runN (P : Program) (ops : Array Oper) (m : Nat) (T0 : T) : List Stp → T → St → Bs → (T → St → Bs → R) → R
  | [], T, S, bs, k => k T S bs
  | s :: l, T, S, bs, k => match ops[s.i]? with
    | some o => maskK T0 T s.ls emT fun M => guardK ops o.guard M (putK m o.dst (.tup .nl) T fun T => runN P ops m T0 l T S bs k)
        (nK (kd P o.op) M S fun v S b => putK m o.dst v T fun T => runN P ops m T0 l T S (addB s.i b bs) k)
    | none => .bad 101
def okD (m : Nat) (d : Option Nat) (v : AV) (T : T) (k : R) : R := match d with
  | none => k
  | some d => okK (Nat.ble (Nat.succ d) m) (okK (avEq v (tgetS d T)) k)
def findB (i : Nat) : Bs → Option Nat
  | [] => none
  | (j, b) :: l => match Nat.beq i j with
    | true => some b
    | false => findB i l
theorem findB_mem {i b : Nat} : ∀ {bs : Bs}, findB i bs = some b → (i, b) ∈ bs
  | (j, c) :: l, h => by
    unfold findB at h
    split at h
    · rename_i e
      rw [Nat.eq_of_beq_eq_true e]; cases h; exact .head _
    · exact .tail _ (findB_mem h)
def chK (x : Kd) (M : T) (S : St) (i m : Nat) (d : Option Nat) (T : Ev.T) (bs : Bs) (k : R) : R := match x with
  | .pure f => f M fun v => okD m d v T k
  | .load f => f M S.h fun v => okD m d v T k
  | .make f => f M fun b mk => match findB i bs with
    | some j => okK (aoSame b (hget j S.h)) (okD m d (mk j) T k)
    | none => .bad 103
  | _ => .bad 104
def chks (P : Program) (ops : Array Oper) (m : Nat) (T0 : T) : List Stp → T → St → Bs → R → R
  | [], T, S, bs, k => k
  | s :: l, T, S, bs, k => match ops[s.i]? with
    | some o => maskK T0 T s.ls emT fun M => guardK ops o.guard M (okD m o.dst (.tup .nl) T (chks P ops m T0 l T S bs k)) (chK (kd P o.op) M S s.i m o.dst T bs (chks P ops m T0 l T S bs k))
    | none => .bad 101
def phsK (P : Program) (Mo : Memo) (ev : Ev) (ops : Array Oper) (m : Nat) (T0 : T) : List Ph → T → St → Bs → KN → R
  | [], T, S, bs, k => .bad 105
  | ph :: rest, T, S, bs, k => runN P ops m T0 ph.ns T S bs fun T S bs => chks P ops m T0 ph.re T S bs (match ph.e with
    | none => k T S
    | some e => gS P Mo ev ops m T0 e T S fun T S' => okK (Nat.ble S.n S'.n) (phsK P Mo ev ops m T0 rest T S' bs k))
end
end Go.Ev
