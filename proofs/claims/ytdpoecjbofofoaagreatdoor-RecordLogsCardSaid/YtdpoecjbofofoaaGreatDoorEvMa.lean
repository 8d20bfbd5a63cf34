/-
  An evaluator for calls whose arguments are known: its data. Sixteen-fold nodes, the values, the heap.
  An evaluator for calls whose arguments are known: what its data say of a world.
  An evaluator for calls whose arguments are known: the evaluator itself.
  An evaluator for calls whose arguments are known: temporaries and operands; the operations that only compute.
  An evaluator for calls whose arguments are known: the operations that only compute.
  An evaluator for calls whose arguments are known: addresses, slices, strings, binary operations.
  An evaluator for calls whose arguments are known: operations of two operands.
  An evaluator for calls whose arguments are known: loads, new blocks, stores.
  An evaluator for calls whose arguments are known: composite values, slices that are made.
  An evaluator for calls whose arguments are known: slices that are made; lengths; maps.
-/
import Derived.Calls
import Derived.RowKit3
import Derived.LoopN
import Derived.Scope
import Derived.Laws.CopyRow
import Derived.Below
import Derived.Laws.Rows
import Derived.Laws.Sem
import Derived.Laws.Build
import Derived.Laws.Entries
import Derived.Laws.Strings
import Derived.Laws.Slices
set_option linter.unusedVariables false
namespace Go.Ev
open Go
noncomputable section

inductive D16 where
  | d0
  | d1
  | d2
  | d3
  | d4
  | d5
  | d6
  | d7
  | d8
  | d9
  | d10
  | d11
  | d12
  | d13
  | d14
  | d15
structure N16 (α : Type) where
  a0 : α
  a1 : α
  a2 : α
  a3 : α
  a4 : α
  a5 : α
  a6 : α
  a7 : α
  a8 : α
  a9 : α
  a10 : α
  a11 : α
  a12 : α
  a13 : α
  a14 : α
  a15 : α
namespace N16
variable {α β : Type}
def get (d : D16) : N16 α → α := D16.rec (motive := fun _ => N16 α → α) N16.a0 N16.a1 N16.a2 N16.a3 N16.a4 N16.a5 N16.a6 N16.a7 N16.a8 N16.a9 N16.a10 N16.a11 N16.a12 N16.a13 N16.a14 N16.a15 d
def s0 (v : α) (n : N16 α) (c : N16 α → β) : β := N16.rec (motive := fun _ => β) (fun a0 a1 a2 a3 a4 a5 a6 a7 a8 a9 a10 a11 a12 a13 a14 a15 => c (N16.mk v a1 a2 a3 a4 a5 a6 a7 a8 a9 a10 a11 a12 a13 a14 a15)) n
def s1 (v : α) (n : N16 α) (c : N16 α → β) : β := N16.rec (motive := fun _ => β) (fun a0 a1 a2 a3 a4 a5 a6 a7 a8 a9 a10 a11 a12 a13 a14 a15 => c (N16.mk a0 v a2 a3 a4 a5 a6 a7 a8 a9 a10 a11 a12 a13 a14 a15)) n
def s2 (v : α) (n : N16 α) (c : N16 α → β) : β := N16.rec (motive := fun _ => β) (fun a0 a1 a2 a3 a4 a5 a6 a7 a8 a9 a10 a11 a12 a13 a14 a15 => c (N16.mk a0 a1 v a3 a4 a5 a6 a7 a8 a9 a10 a11 a12 a13 a14 a15)) n
def s3 (v : α) (n : N16 α) (c : N16 α → β) : β := N16.rec (motive := fun _ => β) (fun a0 a1 a2 a3 a4 a5 a6 a7 a8 a9 a10 a11 a12 a13 a14 a15 => c (N16.mk a0 a1 a2 v a4 a5 a6 a7 a8 a9 a10 a11 a12 a13 a14 a15)) n
def s4 (v : α) (n : N16 α) (c : N16 α → β) : β := N16.rec (motive := fun _ => β) (fun a0 a1 a2 a3 a4 a5 a6 a7 a8 a9 a10 a11 a12 a13 a14 a15 => c (N16.mk a0 a1 a2 a3 v a5 a6 a7 a8 a9 a10 a11 a12 a13 a14 a15)) n
def s5 (v : α) (n : N16 α) (c : N16 α → β) : β := N16.rec (motive := fun _ => β) (fun a0 a1 a2 a3 a4 a5 a6 a7 a8 a9 a10 a11 a12 a13 a14 a15 => c (N16.mk a0 a1 a2 a3 a4 v a6 a7 a8 a9 a10 a11 a12 a13 a14 a15)) n
def s6 (v : α) (n : N16 α) (c : N16 α → β) : β := N16.rec (motive := fun _ => β) (fun a0 a1 a2 a3 a4 a5 a6 a7 a8 a9 a10 a11 a12 a13 a14 a15 => c (N16.mk a0 a1 a2 a3 a4 a5 v a7 a8 a9 a10 a11 a12 a13 a14 a15)) n
def s7 (v : α) (n : N16 α) (c : N16 α → β) : β := N16.rec (motive := fun _ => β) (fun a0 a1 a2 a3 a4 a5 a6 a7 a8 a9 a10 a11 a12 a13 a14 a15 => c (N16.mk a0 a1 a2 a3 a4 a5 a6 v a8 a9 a10 a11 a12 a13 a14 a15)) n
def s8 (v : α) (n : N16 α) (c : N16 α → β) : β := N16.rec (motive := fun _ => β) (fun a0 a1 a2 a3 a4 a5 a6 a7 a8 a9 a10 a11 a12 a13 a14 a15 => c (N16.mk a0 a1 a2 a3 a4 a5 a6 a7 v a9 a10 a11 a12 a13 a14 a15)) n
def s9 (v : α) (n : N16 α) (c : N16 α → β) : β := N16.rec (motive := fun _ => β) (fun a0 a1 a2 a3 a4 a5 a6 a7 a8 a9 a10 a11 a12 a13 a14 a15 => c (N16.mk a0 a1 a2 a3 a4 a5 a6 a7 a8 v a10 a11 a12 a13 a14 a15)) n
def s10 (v : α) (n : N16 α) (c : N16 α → β) : β := N16.rec (motive := fun _ => β) (fun a0 a1 a2 a3 a4 a5 a6 a7 a8 a9 a10 a11 a12 a13 a14 a15 => c (N16.mk a0 a1 a2 a3 a4 a5 a6 a7 a8 a9 v a11 a12 a13 a14 a15)) n
def s11 (v : α) (n : N16 α) (c : N16 α → β) : β := N16.rec (motive := fun _ => β) (fun a0 a1 a2 a3 a4 a5 a6 a7 a8 a9 a10 a11 a12 a13 a14 a15 => c (N16.mk a0 a1 a2 a3 a4 a5 a6 a7 a8 a9 a10 v a12 a13 a14 a15)) n
def s12 (v : α) (n : N16 α) (c : N16 α → β) : β := N16.rec (motive := fun _ => β) (fun a0 a1 a2 a3 a4 a5 a6 a7 a8 a9 a10 a11 a12 a13 a14 a15 => c (N16.mk a0 a1 a2 a3 a4 a5 a6 a7 a8 a9 a10 a11 v a13 a14 a15)) n
def s13 (v : α) (n : N16 α) (c : N16 α → β) : β := N16.rec (motive := fun _ => β) (fun a0 a1 a2 a3 a4 a5 a6 a7 a8 a9 a10 a11 a12 a13 a14 a15 => c (N16.mk a0 a1 a2 a3 a4 a5 a6 a7 a8 a9 a10 a11 a12 v a14 a15)) n
def s14 (v : α) (n : N16 α) (c : N16 α → β) : β := N16.rec (motive := fun _ => β) (fun a0 a1 a2 a3 a4 a5 a6 a7 a8 a9 a10 a11 a12 a13 a14 a15 => c (N16.mk a0 a1 a2 a3 a4 a5 a6 a7 a8 a9 a10 a11 a12 a13 v a15)) n
def s15 (v : α) (n : N16 α) (c : N16 α → β) : β := N16.rec (motive := fun _ => β) (fun a0 a1 a2 a3 a4 a5 a6 a7 a8 a9 a10 a11 a12 a13 a14 a15 => c (N16.mk a0 a1 a2 a3 a4 a5 a6 a7 a8 a9 a10 a11 a12 a13 a14 v)) n
def setK (d : D16) : α → N16 α → (N16 α → β) → β := D16.rec (motive := fun _ => α → N16 α → (N16 α → β) → β) s0 s1 s2 s3 s4 s5 s6 s7 s8 s9 s10 s11 s12 s13 s14 s15 d
def set (d : D16) (v : α) (n : N16 α) : N16 α := setK d v n id
def all (x : α) : N16 α := N16.mk x x x x x x x x x x x x x x x x
theorem setK_eq (d : D16) (v : α) (n : N16 α) (c : N16 α → β) : setK d v n c = c (set d v n) := by cases d <;> rfl
theorem get_all (d : D16) (x : α) : get d (all x) = x := by cases d <;> rfl
theorem get_set_same (d : D16) (v : α) (n : N16 α) : get d (set d v n) = v := by cases d <;> rfl
theorem get_set_other {d e : D16} (h : d ≠ e) (v : α) (n : N16 α) : get e (set d v n) = get e n := by
  cases d <;> cases e <;> first | rfl | exact absurd rfl h
end N16
def toD (k : Nat) : D16 := Bool.rec (motive := fun _ => D16) (Bool.rec (motive := fun _ => D16) (Bool.rec (motive := fun _ => D16) (Bool.rec (motive := fun _ => D16) (.d15) (.d14) (Nat.beq (Nat.land k 1) 0)) (Bool.rec (motive := fun _ => D16) (.d13) (.d12) (Nat.beq (Nat.land k 1) 0)) (Nat.beq (Nat.land k 2) 0)) (Bool.rec (motive := fun _ => D16) (Bool.rec (motive := fun _ => D16) (.d11) (.d10) (Nat.beq (Nat.land k 1) 0)) (Bool.rec (motive := fun _ => D16) (.d9) (.d8) (Nat.beq (Nat.land k 1) 0)) (Nat.beq (Nat.land k 2) 0)) (Nat.beq (Nat.land k 4) 0)) (Bool.rec (motive := fun _ => D16) (Bool.rec (motive := fun _ => D16) (Bool.rec (motive := fun _ => D16) (.d7) (.d6) (Nat.beq (Nat.land k 1) 0)) (Bool.rec (motive := fun _ => D16) (.d5) (.d4) (Nat.beq (Nat.land k 1) 0)) (Nat.beq (Nat.land k 2) 0)) (Bool.rec (motive := fun _ => D16) (Bool.rec (motive := fun _ => D16) (.d3) (.d2) (Nat.beq (Nat.land k 1) 0)) (Bool.rec (motive := fun _ => D16) (.d1) (.d0) (Nat.beq (Nat.land k 1) 0)) (Nat.beq (Nat.land k 2) 0)) (Nat.beq (Nat.land k 4) 0)) (Nat.beq (Nat.land k 8) 0)
def D16.nat : D16 → Nat
  | .d0 => 0
  | .d1 => 1
  | .d2 => 2
  | .d3 => 3
  | .d4 => 4
  | .d5 => 5
  | .d6 => 6
  | .d7 => 7
  | .d8 => 8
  | .d9 => 9
  | .d10 => 10
  | .d11 => 11
  | .d12 => 12
  | .d13 => 13
  | .d14 => 14
  | .d15 => 15
theorem toD_fin : ∀ k : Fin 16, (toD k.val).nat = k.val := by decide
theorem toD_small {k : Nat} (h : k < 16) : (toD k).nat = k := toD_fin ⟨k, h⟩
theorem land_mod (k b : Nat) (hb : b < 4) : Nat.land k (2 ^ b) = Nat.land (k % 16) (2 ^ b) := by
  show k &&& 2 ^ b = (k % 16) &&& 2 ^ b
  apply Nat.eq_of_testBit_eq
  intro i
  rw [Nat.testBit_and, Nat.testBit_and, Nat.testBit_two_pow, show (16 : Nat) = 2 ^ 4 from rfl, Nat.testBit_mod_two_pow]
  by_cases h : b = i
  · subst h; simp [hb]
  · simp [h]
theorem toD_mod (k : Nat) : toD k = toD (k % 16) := by
  have h0 := land_mod k 0 (by decide)
  have h1 := land_mod k 1 (by decide)
  have h2 := land_mod k 2 (by decide)
  have h3 := land_mod k 3 (by decide)
  unfold toD
  simp only [Nat.reducePow] at h0 h1 h2 h3
  rw [h0, h1, h2, h3]
theorem toD_nat (k : Nat) : (toD k).nat = k % 16 := by rw [toD_mod, toD_small (Nat.mod_lt _ (by decide))]
theorem toD_inj {j k : Nat} (h : toD j = toD k) : j % 16 = k % 16 := by rw [← toD_nat, ← toD_nat, h]
theorem toD_ne {j k : Nat} (h : j % 16 ≠ k % 16) : toD j ≠ toD k := fun e => h (toD_inj e)
theorem toD_land (k : Nat) : toD (Nat.land k 15) = toD k := by
  have : Nat.land k 15 = k % 16 := Nat.and_two_pow_sub_one_eq_mod k 4
  rw [this, ← toD_mod]

/-- What is known of a value: 'top' nothing; 'ptr b o' the address of cell o of block b; 'sl b o n c' a slice from cell o of block b on, n elements long, of capacity c;
'slu b o n sz' one that reaches to the block's unknown end; a list of values is made of 'nl' and 'cons'. -/
inductive AV where
  | top
  | bool (b : Bool)
  | int (k : IntKind) (n : Int)
  | str (n x : Nat)
  | pnil
  | ptr (b o : Nat)
  | snil
  | sl (b o n c : Nat)
  | slu (b o n sz : Nat)
  | mnil
  | map (b : Nat)
  | fn (f : Fn) (first captured : AV)
  | fnil
  | inil
  | iface (t : Nat) (v : AV)
  | agg (l : AV)
  | tup (l : AV)
  | ge (n : Nat)
  | nl
  | cons (h t : AV)
  deriving Inhabited
/-- The bytes of a string as one number. -/
def packB : List UInt8 → Nat
  | [] => 0
  | b :: l => Nat.add b.toNat (Nat.mul 256 (packB l))
inductive Cs where
  | c1 (a : N16 AV)
  | c2 (a : N16 (N16 AV))
  | c3 (a : N16 (N16 (N16 AV)))
inductive AO where
  | gone
  | cells (n : Nat) (c : Cs)
  | map (es : List (AV × AV))
abbrev T := N16 (N16 AV)
abbrev Hp := N16 (N16 (N16 (N16 AO)))
structure St where
  h : Hp
  n : Nat
inductive R where
  | ok (v : AV) (s : St)
  | bad (why : Nat)
theorem R.bad_ne {w : Nat} {v : AV} {s : St} (h : R.bad w = .ok v s) : False := by cases h

def fN {β : Type} (n : Nat) (c : Nat → β) : β := Nat.rec (motive := fun _ => β) (c 0) (fun k _ => c (Nat.succ k)) n
theorem fN_eq {β : Type} (n : Nat) (c : Nat → β) : fN n c = c n := by cases n <;> rfl
def fI {β : Type} (n : Int) (c : Int → β) : β := Int.rec (motive := fun _ => β) (fun k => fN k fun k => c (.ofNat k)) (fun k => fN k fun k => c (.negSucc k)) n
theorem fI_eq {β : Type} (n : Int) (c : Int → β) : fI n c = c n := by
  cases n
  · exact fN_eq _ fun k => c (.ofNat k)
  · exact fN_eq _ fun k => c (.negSucc k)
def okB {β : Type} (bad : β) (b : Bool) (k : β) : β := Bool.rec (motive := fun _ => β) bad k b
theorem okB_inv {β : Type} {bad : β} {b : Bool} {k r : β} (h : okB bad b k = r) : r = bad ∨ b = true ∧ k = r := by
  cases b
  · exact .inl h.symm
  · exact .inr ⟨rfl, h⟩
def okK (b : Bool) (k : R) : R := Bool.rec (motive := fun _ => R) (.bad 1) k b
theorem okK_inv {b : Bool} {k : R} {v : AV} {s : St} (h : okK b k = .ok v s) : b = true ∧ k = .ok v s := by
  cases b
  · exact (R.bad_ne h).elim
  · exact ⟨rfl, h⟩

def emT : T := N16.all (N16.all .top)
def emH : Hp := N16.all (N16.all (N16.all (N16.all .gone)))
def tget (t : Nat) (T : T) : AV := N16.get (toD (Nat.land t 15)) (N16.get (toD (Nat.div t 16)) T)
def tsetK (t : Nat) (v : AV) (T : T) (c : Ev.T → R) : R :=
  N16.setK (toD (Nat.land t 15)) v (N16.get (toD (Nat.div t 16)) T) fun r => N16.setK (toD (Nat.div t 16)) r T c
def tset (t : Nat) (v : AV) (T : T) : Ev.T := N16.set (toD (Nat.div t 16)) (N16.set (toD (Nat.land t 15)) v (N16.get (toD (Nat.div t 16)) T)) T
theorem tsetK_eq (t : Nat) (v : AV) (T : T) (c : Ev.T → R) : tsetK t v T c = c (tset t v T) := by
  unfold tsetK tset; rw [N16.setK_eq, N16.setK_eq]
theorem tget_em (t : Nat) : tget t emT = .top := by unfold tget emT; rw [N16.get_all, N16.get_all]
theorem tget_same (t : Nat) (v : AV) (T : T) : tget t (tset t v T) = v := by
  unfold tget tset; rw [N16.get_set_same, N16.get_set_same]
theorem tget_other {t u : Nat} (ht : t < 256) (hu : u < 256) (h : t ≠ u) (v : AV) (T : T) : tget u (tset t v T) = tget u T := by
  unfold tget tset
  rw [toD_land, toD_land]
  by_cases e : toD (Nat.div t 16) = toD (Nat.div u 16)
  · rw [← e, N16.get_set_same]
    refine N16.get_set_other (toD_ne ?_) _ _
    have : (t / 16) % 16 = (u / 16) % 16 := toD_inj e
    omega
  · rw [N16.get_set_other e]

def hget (b : Nat) (h : Hp) : AO := N16.get (toD (Nat.land b 15)) (N16.get (toD (Nat.div b 16)) (N16.get (toD (Nat.div b 256)) (N16.get (toD (Nat.div b 4096)) h)))
def hsetK (b : Nat) (o : AO) (h : Hp) (c : Hp → R) : R :=
  (fun h3 => (fun h2 => (fun h1 => N16.setK (toD (Nat.land b 15)) o h1 fun h1 => N16.setK (toD (Nat.div b 16)) h1 h2 fun h2 => N16.setK (toD (Nat.div b 256)) h2 h3 fun h3 => N16.setK (toD (Nat.div b 4096)) h3 h c)
    (N16.get (toD (Nat.div b 16)) h2)) (N16.get (toD (Nat.div b 256)) h3)) (N16.get (toD (Nat.div b 4096)) h)
def hset (b : Nat) (o : AO) (h : Hp) : Hp :=
  N16.set (toD (Nat.div b 4096)) (N16.set (toD (Nat.div b 256)) (N16.set (toD (Nat.div b 16)) (N16.set (toD (Nat.land b 15)) o
    (N16.get (toD (Nat.div b 16)) (N16.get (toD (Nat.div b 256)) (N16.get (toD (Nat.div b 4096)) h)))) (N16.get (toD (Nat.div b 256)) (N16.get (toD (Nat.div b 4096)) h))) (N16.get (toD (Nat.div b 4096)) h)) h
theorem hsetK_eq (b : Nat) (o : AO) (h : Hp) (c : Hp → R) : hsetK b o h c = c (hset b o h) := by
  unfold hsetK hset; simp only [N16.setK_eq]
theorem hget_em (b : Nat) : hget b emH = .gone := by unfold hget emH; simp only [N16.get_all]
theorem hget_same (b : Nat) (o : AO) (h : Hp) : hget b (hset b o h) = o := by
  unfold hget hset; simp only [N16.get_set_same]
theorem hget_other {b e : Nat} (hb : b < 65536) (he : e < 65536) (hne : b ≠ e) (o : AO) (h : Hp) : hget e (hset b o h) = hget e h := by
  unfold hget hset
  rw [toD_land, toD_land]
  by_cases e3 : toD (Nat.div b 4096) = toD (Nat.div e 4096)
  · rw [← e3, N16.get_set_same]
    by_cases e2 : toD (Nat.div b 256) = toD (Nat.div e 256)
    · rw [← e2, N16.get_set_same]
      by_cases e1 : toD (Nat.div b 16) = toD (Nat.div e 16)
      · rw [← e1, N16.get_set_same]
        refine N16.get_set_other (toD_ne ?_) _ _
        have h3 : (b / 4096) % 16 = (e / 4096) % 16 := toD_inj e3
        have h2 : (b / 256) % 16 = (e / 256) % 16 := toD_inj e2
        have h1 : (b / 16) % 16 = (e / 16) % 16 := toD_inj e1
        omega
      · rw [N16.get_set_other e1]
    · rw [N16.get_set_other e2]
  · rw [N16.get_set_other e3]

/-- A row of cells that has room for so many. -/
def Cs.room : Cs → Nat
  | .c1 _ => 16
  | .c2 _ => 256
  | .c3 _ => 4096
def Cs.get (k : Nat) (c : Cs) : AV := Cs.rec (motive := fun _ => AV) (fun a => N16.get (toD k) a)
  (fun a => N16.get (toD (Nat.land k 15)) (N16.get (toD (Nat.div k 16)) a))
  (fun a => N16.get (toD (Nat.land k 15)) (N16.get (toD (Nat.div k 16)) (N16.get (toD (Nat.div k 256)) a))) c
def Cs.setK {β : Type} (bad : β) (k : Nat) (v : AV) (c : Cs) (f : Cs → β) : β := okB bad (Nat.ble (Nat.succ k) c.room) (Cs.rec (motive := fun _ => β) (fun a => N16.setK (toD k) v a fun a => f (.c1 a))
  (fun a => N16.setK (toD (Nat.land k 15)) v (N16.get (toD (Nat.div k 16)) a) fun r => N16.setK (toD (Nat.div k 16)) r a fun a => f (.c2 a))
  (fun a => (fun a1 => N16.setK (toD (Nat.land k 15)) v (N16.get (toD (Nat.div k 16)) a1) fun r => N16.setK (toD (Nat.div k 16)) r a1 fun a1 => N16.setK (toD (Nat.div k 256)) a1 a fun a => f (.c3 a)) (N16.get (toD (Nat.div k 256)) a)) c)
theorem Cs.setK_inv {β : Type} {bad : β} {k : Nat} {v : AV} {c : Cs} {f : Cs → β} {r : β} (h : Cs.setK bad k v c f = r) :
    r = bad ∨ ∃ c' : Cs, f c' = r ∧ k < c.room ∧ c'.room = c.room ∧ c'.get k = v ∧ ∀ j, j < c.room → j ≠ k → c'.get j = c.get j := by
  unfold Cs.setK at h
  rcases okB_inv h with h | ⟨hk, h⟩
  · exact .inl h
  refine .inr ?_
  have hk : k < c.room := Nat.le_of_ble_eq_true hk
  cases c with
  | c1 a =>
    simp only [N16.setK_eq] at h
    refine ⟨_, h, hk, rfl, N16.get_set_same _ _ _, fun j hj hn => N16.get_set_other (toD_ne ?_) _ _⟩
    simp only [Cs.room] at hk hj
    omega
  | c2 a =>
    simp only [N16.setK_eq] at h
    refine ⟨_, h, hk, rfl, ?_, fun j hj hn => ?_⟩
    · simp only [Cs.get, N16.get_set_same]
    · simp only [Cs.room] at hk hj
      simp only [Cs.get, toD_land]
      by_cases e : toD (Nat.div k 16) = toD (Nat.div j 16)
      · rw [← e, N16.get_set_same]
        refine N16.get_set_other (toD_ne ?_) _ _
        have : (k / 16) % 16 = (j / 16) % 16 := toD_inj e
        omega
      · rw [N16.get_set_other e]
  | c3 a =>
    simp only [N16.setK_eq] at h
    refine ⟨_, h, hk, rfl, ?_, fun j hj hn => ?_⟩
    · simp only [Cs.get, N16.get_set_same]
    · simp only [Cs.room] at hk hj
      simp only [Cs.get, toD_land]
      by_cases e2 : toD (Nat.div k 256) = toD (Nat.div j 256)
      · rw [← e2, N16.get_set_same]
        by_cases e : toD (Nat.div k 16) = toD (Nat.div j 16)
        · rw [← e, N16.get_set_same]
          refine N16.get_set_other (toD_ne ?_) _ _
          have h2 : (k / 256) % 16 = (j / 256) % 16 := toD_inj e2
          have h1 : (k / 16) % 16 = (j / 16) % 16 := toD_inj e
          omega
        · rw [N16.get_set_other e]
      · rw [N16.get_set_other e2]
def Cs.new (n : Nat) : Cs := Bool.rec (motive := fun _ => Cs) (Bool.rec (motive := fun _ => Cs) (.c3 (N16.all (N16.all (N16.all .top)))) (.c2 (N16.all (N16.all .top))) (Nat.ble n 256)) (.c1 (N16.all .top)) (Nat.ble n 16)
def AV.len : AV → Nat
  | .cons _ t => Nat.succ (AV.len t)
  | _ => 0
def AV.nth : AV → Nat → AV
  | .cons h _, 0 => h
  | .cons _ t, n + 1 => AV.nth t n
  | _, _ => .top
/-- A list of values. -/
def AV.isL : AV → Bool
  | .nl => true
  | .cons _ t => AV.isL t
  | _ => false
/-- The values of a list are laid out from a place on. -/
def putsK {β : Type} (bad : β) (l : AV) : Nat → Cs → (Nat → Cs → β) → β := AV.rec (motive := fun _ => Nat → Cs → (Nat → Cs → β) → β) (fun _ _ _ => bad) (fun _ _ _ _ => bad) (fun _ _ _ _ _ => bad) (fun _ _ _ _ _ => bad) (fun _ _ _ => bad) (fun _ _ _ _ _ => bad) (fun _ _ _ => bad) (fun _ _ _ _ _ _ _ => bad) (fun _ _ _ _ _ _ _ => bad) (fun _ _ _ => bad) (fun _ _ _ _ => bad) (fun _ _ _ _ _ _ _ _ => bad) (fun _ _ _ => bad) (fun _ _ _ => bad) (fun _ _ _ _ _ _ => bad) (fun _ _ _ _ _ => bad) (fun _ _ _ _ _ => bad) (fun _ _ _ _ => bad) (fun i c k => k i c) (fun h t _ ih i c k => Cs.setK bad i h c fun c => fN (Nat.succ i) fun i => ih i c k) l
theorem putsK_inv {β : Type} {bad : β} : ∀ {l : AV} {i : Nat} {c : Cs} {k : Nat → Cs → β} {r : β}, putsK bad l i c k = r →
    r = bad ∨ ∃ c' : Cs, k (i + l.len) c' = r ∧ l.isL = true ∧ c'.room = c.room ∧ (l.len = 0 ∨ i + l.len ≤ c.room) ∧ (∀ j, j < l.len → c'.get (i + j) = l.nth j) ∧ (∀ j, j < c.room → (j < i ∨ i + l.len ≤ j) → c'.get j = c.get j)
  | .nl, i, c, k, r, h => .inr ⟨c, h, rfl, rfl, .inl rfl, fun j hj => absurd hj (Nat.not_lt_zero _), fun _ _ _ => rfl⟩
  | .cons x t, i, c, k, r, h => by
    change Cs.setK bad i x c (fun c => fN (Nat.succ i) fun i => putsK bad t i c k) = _ at h
    rcases Cs.setK_inv h with h | ⟨c1, h1, hi, hr, hs, ho⟩
    · exact .inl h
    rw [fN_eq] at h1
    rcases putsK_inv h1 with h | ⟨c2, h2, hl, hr2, hd, hg, hk⟩
    · exact .inl h
    refine .inr ?_
    have e : Nat.succ i + t.len = i + (AV.cons x t).len := by simp only [AV.len]; omega
    rw [e] at h2
    refine ⟨c2, h2, hl, hr2.trans hr, .inr ?_, ?_, ?_⟩
    · simp only [AV.len]
      rcases hd with hd | hd
      · rw [hd]; omega
      · rw [hr] at hd; omega
    · intro j hj
      cases j with
      | zero =>
        rw [hk (i + 0) (by rw [hr]; exact hi) (.inl (by omega))]
        exact hs
      | succ j =>
        have := hg j (by simp only [AV.len] at hj; omega)
        rw [show i + (j + 1) = Nat.succ i + j by omega, this]
        rfl
    · intro j hj hc
      simp only [AV.len] at hc
      rw [hk j (by rw [hr]; exact hj) (by omega)]
      exact ho j hj (by omega)
  | .top, _, _, _, _, h => .inl h.symm
  | .bool _, _, _, _, _, h => .inl h.symm
  | .int _ _, _, _, _, _, h => .inl h.symm
  | .str _ _, _, _, _, _, h => .inl h.symm
  | .pnil, _, _, _, _, h => .inl h.symm
  | .ptr _ _, _, _, _, _, h => .inl h.symm
  | .snil, _, _, _, _, h => .inl h.symm
  | .sl _ _ _ _, _, _, _, _, h => .inl h.symm
  | .slu _ _ _ _, _, _, _, _, h => .inl h.symm
  | .mnil, _, _, _, _, h => .inl h.symm
  | .map _, _, _, _, _, h => .inl h.symm
  | .fn _ _ _, _, _, _, _, h => .inl h.symm
  | .fnil, _, _, _, _, h => .inl h.symm
  | .inil, _, _, _, _, h => .inl h.symm
  | .iface _ _, _, _, _, _, h => .inl h.symm
  | .agg _, _, _, _, _, h => .inl h.symm
  | .tup _, _, _, _, _, h => .inl h.symm
  | .ge _, _, _, _, _, h => .inl h.symm
/-- The n cells from a place on, as a list. -/
def takeK (c : Cs) (n : Nat) : Nat → (AV → R) → R := Nat.rec (motive := fun _ => Nat → (AV → R) → R) (fun _ k => k .nl)
  (fun _ ih i k => (fun v => fN (Nat.succ i) fun j => ih j fun l => k (.cons v l)) (Cs.get i c)) n
def takeL (c : Cs) : Nat → Nat → AV
  | 0, _ => .nl
  | n + 1, i => .cons (c.get i) (takeL c n (i + 1))
theorem takeK_eq (c : Cs) : ∀ (n i : Nat) (k : AV → R), takeK c n i k = k (takeL c n i)
  | 0, _, _ => rfl
  | n + 1, i, k => by
    change fN (Nat.succ i) (fun j => takeK c n j fun l => k (.cons (Cs.get i c) l)) = _
    rw [fN_eq, takeK_eq c n]; rfl
theorem takeL_len (c : Cs) : ∀ (n i : Nat), (takeL c n i).len = n
  | 0, _ => rfl
  | n + 1, i => by simp only [takeL, AV.len, takeL_len c n]
theorem takeL_isL (c : Cs) : ∀ (n i : Nat), (takeL c n i).isL = true
  | 0, _ => rfl
  | n + 1, i => by simp only [takeL, AV.isL, takeL_isL c n]
theorem takeL_nth (c : Cs) : ∀ (n i j : Nat), j < n → (takeL c n i).nth j = c.get (i + j)
  | 0, _, _, h => absurd h (Nat.not_lt_zero _)
  | n + 1, i, 0, _ => rfl
  | n + 1, i, j + 1, h => by
    simp only [takeL, AV.nth]
    rw [takeL_nth c n (i + 1) j (by omega), show i + 1 + j = i + (j + 1) by omega]
end
end Go.Ev
set_option linter.unusedVariables false
namespace Go.Ev
open Go

/-- Where a block lies: the world's block, the first cell there, and how many cells follow. -/
structure Loc where
  b : Nat
  d : Nat
  s : Nat
/-- Where each block lies that has been made; which names nothing else may be given (they wait for their making). -/
structure Inj where
  f : Nat → Option Loc
  res : Nat → Prop
instance : CoeFun Inj (fun _ => Nat → Option Loc) := ⟨Inj.f⟩

mutual
def RV (ι : Inj) : AV → Value → Prop
  | .top, _ => True
  | .bool b, v => v = .bool b
  | .int k n, v => v = .int k n
  | .str n x, v => ∃ s, v = .string s ∧ s.size = n ∧ packB s.data.toList = x
  | .pnil, v => v = .pointer none
  | .ptr b o, v => ∃ l, ι b = some l ∧ v = .pointer (some ⟨l.b, l.d + o, none⟩)
  | .snil, v => v = .slice none 0 0
  | .sl b o n c, v => ∃ l, ι b = some l ∧ v = .slice (some ⟨l.b, l.d + o, none⟩) n c
  | .slu b o n sz, v => ∃ l, ι b = some l ∧ ((∃ cap, v = .slice (some ⟨l.b, l.d + o, none⟩) n cap ∧ o + cap * sz = l.s ∧ n ≤ cap ∧ cap < 9223372036854775808) ∨ n = 0 ∧ ∃ a, v = .slice (some a) 0 0)
  | .mnil, v => v = .map none
  | .map b, v => ∃ l, ι b = some l ∧ v = .map (some l.b)
  | .fn f x y, v => ∃ a b, v = .func f a b ∧ RL ι x a.toList ∧ RL ι y b.toList
  | .fnil, v => v = .nilFunc
  | .inil, v => v = .nilIface
  | .iface t x, v => ∃ u, v = .iface t u ∧ RV ι x u
  | .agg l, v => ∃ a, v = .agg a ∧ RL ι l a.toList
  | .tup l, v => ∃ a, v = .tuple a ∧ RL ι l a.toList
  | .ge n, v => ∃ x : Nat, n ≤ x ∧ x < 9223372036854775808 ∧ v = .int .i64 x
  | .nl, _ => False
  | .cons _ _, _ => False
def RL (ι : Inj) : AV → List Value → Prop
  | .nl, l => l = []
  | .cons h t, l => ∃ u r, l = u :: r ∧ RV ι h u ∧ RL ι t r
  | .top, _ => False
  | .bool _, _ => False
  | .int _ _, _ => False
  | .str _ _, _ => False
  | .pnil, _ => False
  | .ptr _ _, _ => False
  | .snil, _ => False
  | .sl _ _ _ _, _ => False
  | .slu _ _ _ _, _ => False
  | .mnil, _ => False
  | .map _, _ => False
  | .fn _ _ _, _ => False
  | .fnil, _ => False
  | .inil, _ => False
  | .iface _ _, _ => False
  | .agg _, _ => False
  | .tup _, _ => False
  | .ge _, _ => False
end
/-- What is known later: more blocks. -/
def Inj.le (ι κ : Inj) : Prop := ∀ b l, ι b = some l → κ b = some l
theorem Inj.le.refl (ι : Inj) : ι.le ι := fun _ _ h => h
theorem Inj.le.trans {ι κ μ : Inj} (h : ι.le κ) (g : κ.le μ) : ι.le μ := fun b l e => g b l (h b l e)
mutual
theorem RV.mono {ι κ : Inj} (h : ι.le κ) : ∀ {x : AV} {v : Value}, RV ι x v → RV κ x v
  | .top, _, _ => trivial
  | .bool _, _, r => r
  | .int _ _, _, r => r
  | .str _ _, _, r => r
  | .pnil, _, r => r
  | .ptr b o, v, r => by
    simp only [RV] at r ⊢
    obtain ⟨l, e, r⟩ := r
    exact ⟨l, h b l e, r⟩
  | .snil, _, r => r
  | .sl b o n c, v, r => by
    simp only [RV] at r ⊢
    obtain ⟨l, e, r⟩ := r
    exact ⟨l, h b l e, r⟩
  | .slu b o n sz, v, r => by
    simp only [RV] at r ⊢
    obtain ⟨l, e, r⟩ := r
    exact ⟨l, h b l e, r⟩
  | .mnil, _, r => r
  | .map b, v, r => by
    simp only [RV] at r ⊢
    obtain ⟨l, e, r⟩ := r
    exact ⟨l, h b l e, r⟩
  | .fn f x y, v, r => by
    simp only [RV] at r ⊢
    obtain ⟨a, b, e, p, q⟩ := r
    exact ⟨a, b, e, RL.mono h p, RL.mono h q⟩
  | .fnil, _, r => r
  | .inil, _, r => r
  | .iface t x, v, r => by
    simp only [RV] at r ⊢
    obtain ⟨u, e, p⟩ := r
    exact ⟨u, e, RV.mono h p⟩
  | .agg l, v, r => by
    simp only [RV] at r ⊢
    obtain ⟨a, e, p⟩ := r
    exact ⟨a, e, RL.mono h p⟩
  | .ge n, v, r => r
  | .tup l, v, r => by
    simp only [RV] at r ⊢
    obtain ⟨a, e, p⟩ := r
    exact ⟨a, e, RL.mono h p⟩
  | .nl, _, r => r
  | .cons _ _, _, r => r
theorem RL.mono {ι κ : Inj} (h : ι.le κ) : ∀ {x : AV} {l : List Value}, RL ι x l → RL κ x l
  | .nl, _, r => r
  | .cons a t, l, r => by
    simp only [RL] at r ⊢
    obtain ⟨u, q, e, p, g⟩ := r
    exact ⟨u, q, e, RV.mono h p, RL.mono h g⟩
  | .top, _, r => r
  | .bool _, _, r => r
  | .int _ _, _, r => r
  | .str _ _, _, r => r
  | .pnil, _, r => r
  | .ptr _ _, _, r => r
  | .snil, _, r => r
  | .sl _ _ _ _, _, r => r
  | .slu _ _ _ _, _, r => r
  | .mnil, _, r => r
  | .map _, _, r => r
  | .fn _ _ _, _, r => r
  | .fnil, _, r => r
  | .inil, _, r => r
  | .iface _ _, _, r => r
  | .agg _, _, r => r
  | .tup _, _, r => r
  | .ge _, _, r => r
end

def RM (ι : Inj) : List (AV × AV) → List MapEntry → Prop
  | [], l => l = []
  | (a, v) :: r, l => ∃ e q, l = e :: q ∧ RV ι a e.key ∧ RV ι v e.val ∧ RM ι r q
theorem RM.mono {ι κ : Inj} (h : ι.le κ) : ∀ {x : List (AV × AV)} {l : List MapEntry}, RM ι x l → RM κ x l
  | [], _, r => r
  | (a, v) :: t, l, ⟨e, q, he, p, g, m⟩ => ⟨e, q, he, p.mono h, g.mono h, RM.mono h m⟩

/-- A row's mark keeps no store off: none, or one that lies behind its end (as a conversion of a string leaves it). -/
def FzOk (a : Array Value) (f : Nat × Nat) : Prop := f = (0, 0) ∨ f = (a.size, a.size + 1)
theorem FzOk.size {a b : Array Value} {f : Nat × Nat} (h : FzOk a f) (hs : b.size = a.size) : FzOk b f := by
  unfold FzOk at h ⊢; rw [hs]; exact h
/-- What a block of the heap says of the world. -/
def RO (ι : Inj) (o : AO) (l : Loc) (w : World) : Prop := match o with
  | .gone => True
  | .cells n c => n ≤ c.room ∧ n ≤ l.s ∧ ∃ a e f, w.heap[l.b]? = some (.cells a e f) ∧ FzOk a f ∧ a.size = l.d + l.s ∧ ∀ i, i < n → ∃ x, a[l.d + i]? = some x ∧ RV ι (c.get i) x
  | .map es => ∃ a k, w.heap[l.b]? = some (.map a k) ∧ RM ι es a.toList
theorem RO.mono {ι κ : Inj} (h : ι.le κ) {o : AO} {l : Loc} {w : World} (r : RO ι o l w) : RO κ o l w := by
  cases o with
  | gone => exact r
  | cells n c =>
    obtain ⟨h1, h2, a, e, f, h3, hf, h4, h5⟩ := r
    exact ⟨h1, h2, a, e, f, h3, hf, h4, fun i hi => let ⟨x, p, q⟩ := h5 i hi; ⟨x, p, q.mono h⟩⟩
  | map es =>
    obtain ⟨a, k, h1, h2⟩ := r
    exact ⟨a, k, h1, h2.mono h⟩
theorem RO.world {ι : Inj} {o : AO} {l : Loc} {w w' : World} (r : RO ι o l w) (h : w'.heap[l.b]? = w.heap[l.b]?) : RO ι o l w' := by
  cases o with
  | gone => exact r
  | cells n c => unfold RO at r ⊢; rw [h]; exact r
  | map es => unfold RO at r ⊢; rw [h]; exact r
theorem RO.lt {ι : Inj} {o : AO} {l : Loc} {w : World} (r : RO ι o l w) (ho : o ≠ .gone) : l.b < w.heap.size := by
  cases o with
  | gone => exact (ho rfl).elim
  | cells n c => obtain ⟨-, -, a, e, f, h, -⟩ := r; exact (Array.getElem?_eq_some_iff.1 h).1
  | map es => obtain ⟨a, k, h, -⟩ := r; exact (Array.getElem?_eq_some_iff.1 h).1

structure HR (ι : Inj) (S : St) (w : World) : Prop where
  lim : S.n ≤ 65536
  fresh : ∀ b, S.n ≤ b → ι b = none
  live : ∀ b l, ι b = some l → RO ι (hget b S.h) l w
  apart : ∀ b c l m, ι b = some l → ι c = some m → hget b S.h ≠ .gone → hget c S.h ≠ .gone → b ≠ c → l.b ≠ m.b
  resv : ∀ b, ι.res b → b < S.n
/-- What becomes of a world: of the blocks that are not known nothing has turned. -/
structure Ext (ι : Inj) (w : World) (κ : Inj) (w' : World) : Prop where
  os : w'.os = w.os
  tape : w'.tape = w.tape
  output : w'.output = w.output
  size : w.heap.size ≤ w'.heap.size
  le : ι.le κ
  keep : ∀ k, k < w.heap.size → (∀ b l, ι b = some l → l.b ≠ k) → w'.heap[k]? = w.heap[k]?
  new : ∀ b l, κ b = some l → (∃ b' l', ι b' = some l' ∧ l'.b = l.b) ∨ w.heap.size ≤ l.b
  same : κ.res = ι.res
  wait : ∀ b, ι.res b → ι b = none → κ b = none
theorem Ext.refl (ι : Inj) (w : World) : Ext ι w ι w := ⟨rfl, rfl, rfl, Nat.le_refl _, .refl _, fun _ _ _ => rfl, fun b l h => .inl ⟨b, l, h, rfl⟩, rfl, fun _ _ h => h⟩
theorem Ext.trans {ι κ μ : Inj} {w v u : World} (h : Ext ι w κ v) (g : Ext κ v μ u) : Ext ι w μ u where
  os := g.os.trans h.os
  tape := g.tape.trans h.tape
  output := g.output.trans h.output
  size := Nat.le_trans h.size g.size
  le := h.le.trans g.le
  keep k hk hn := (g.keep k (Nat.lt_of_lt_of_le hk h.size) fun b l hb e => by
    rcases h.new b l hb with ⟨b', l', h1, h2⟩ | h1
    · exact hn b' l' h1 (h2.trans e)
    · omega).trans (h.keep k hk hn)
  new b l hb := by
    rcases g.new b l hb with ⟨b', l', h1, h2⟩ | h1
    · rcases h.new b' l' h1 with ⟨b'', l'', h3, h4⟩ | h3
      · exact .inl ⟨b'', l'', h3, h4.trans h2⟩
      · exact .inr (h2 ▸ h3)
    · exact .inr (Nat.le_trans h.size h1)
  same := g.same.trans h.same
  wait b hr hn := g.wait b (by rw [h.same]; exact hr) (h.wait b hr hn)
theorem Ext.below {ι κ : Inj} {w w' : World} (h : Ext ι w κ w') (hι : ∀ b, ι b = none) : RowKit.Below w.heap.size w w' :=
  ⟨h.os, h.tape, h.output, h.size, fun k hk => h.keep k hk fun b l e => by rw [hι b] at e; cases e⟩
/-- A draw. -/
theorem HR.world {ι : Inj} {S : St} {w w' : World} (h : HR ι S w) (hw : ∀ k : Nat, w'.heap[k]? = w.heap[k]?) : HR ι S w' :=
  ⟨h.lim, h.fresh, fun b l e => (h.live b l e).world (hw _), h.apart, h.resv⟩
theorem Ext.world {ι : Inj} {w w' : World} (hos : w'.os = w.os) (ht : w'.tape = w.tape) (ho : w'.output = w.output) (hh : w'.heap = w.heap) : Ext ι w ι w' :=
  ⟨hos, ht, ho, by rw [hh]; exact Nat.le_refl _, .refl _, fun _ _ _ => by rw [hh], fun b l h => .inl ⟨b, l, h, rfl⟩, rfl, fun _ _ h => h⟩
def Inj.zero : Inj := ⟨fun _ => none, fun _ => False⟩
theorem HR.empty {w : World} : HR Inj.zero ⟨emH, 0⟩ w :=
  ⟨by decide, fun _ _ => rfl, (fun _ _ h => by cases h), (fun _ _ _ _ h => by cases h), fun _ h => h.elim⟩
theorem HR.ltn {ι : Inj} {S : St} {w : World} (h : HR ι S w) {b : Nat} {l : Loc} (e : ι b = some l) : b < S.n := by
  rcases Nat.lt_or_ge b S.n with h1 | h1
  · exact h1
  · rw [h.fresh b h1] at e; cases e
theorem HR.small {ι : Inj} {S : St} {w : World} (h : HR ι S w) {b : Nat} {l : Loc} (e : ι b = some l) : b < 65536 := Nat.lt_of_lt_of_le (h.ltn e) h.lim

/-- A block is put down ahead of its being made. -/
theorem HR.reserve {ι : Inj} {S : St} {w : World} (h : HR ι S w) (hn : S.n < 65536) (o : AO) : HR ι ⟨hset S.n o S.h, S.n + 1⟩ w := by
  have hg : ∀ b l, ι b = some l → hget b (hset S.n o S.h) = hget b S.h := fun b l e =>
    hget_other hn (h.small e) (fun hh => by have := h.ltn e; omega) _ _
  refine ⟨hn, fun b hb => h.fresh b (by have : S.n + 1 ≤ b := hb; omega), fun b l e => ?_, fun b c l m hb hc h1 h2 hne => ?_, fun b hb => Nat.lt_succ_of_lt (h.resv b hb)⟩
  · show RO ι (hget b (hset S.n o S.h)) l w
    rw [hg b l e]; exact h.live b l e
  · have h1 : hget b (hset S.n o S.h) ≠ .gone := h1
    have h2 : hget c (hset S.n o S.h) ≠ .gone := h2
    rw [hg b l hb] at h1
    rw [hg c m hc] at h2
    exact h.apart b c l m hb hc h1 h2 hne
def Inj.put (ι : Inj) (b : Nat) (l : Loc) : Inj := ⟨fun c => if c = b then some l else ι c, ι.res⟩
theorem Inj.put_same (ι : Inj) (b : Nat) (l : Loc) : ι.put b l b = some l := if_pos rfl
theorem Inj.put_other (ι : Inj) {b c : Nat} (l : Loc) (h : c ≠ b) : ι.put b l c = ι c := if_neg h
theorem Inj.le_put {ι : Inj} {b : Nat} (h : ι b = none) (l : Loc) : ι.le (ι.put b l) := fun c m e => by
  rw [Inj.put_other ι l (by rintro rfl; rw [h] at e; cases e)]; exact e
theorem heap_alloc_old {w : World} {o : Obj} {k : Nat} (h : k < w.heap.size) : (w.alloc o).heap[k]? = w.heap[k]? := by
  show (w.heap.push o)[k]? = _
  rw [Array.getElem?_push, if_neg (by omega)]
theorem heap_alloc_at {w : World} {o : Obj} : (w.alloc o).heap[w.heap.size]? = some o := by
  show (w.heap.push o)[w.heap.size]? = _
  simp
/-- A block that was put down is made (in a block of the world that nobody else has: 'l.b'). -/
theorem HR.make {ι : Inj} {S : St} {w w' : World} (h : HR ι S w) {b : Nat} (hb : ι b = none) (hv : ¬ ι.res b) (hlt : b < S.n) (l : Loc)
    (hos : w'.os = w.os) (htape : w'.tape = w.tape) (hout : w'.output = w.output) (hsz : w.heap.size ≤ w'.heap.size)
    (hk : ∀ k : Nat, k < w.heap.size → w'.heap[k]? = w.heap[k]?) (hl : w.heap.size ≤ l.b)
    (ho : RO (ι.put b l) (hget b S.h) l w') :
    HR (ι.put b l) S w' ∧ Ext ι w (ι.put b l) w' := by
  have hle := Inj.le_put hb l
  refine ⟨⟨h.lim, ?_, ?_, ?_, h.resv⟩, ⟨hos, htape, hout, hsz, hle, fun k hlt _ => hk k hlt, ?_, rfl, fun c hc hn => by rw [Inj.put_other _ _ (by rintro rfl; exact hv hc)]; exact hn⟩⟩
  · intro c hc
    rw [Inj.put_other _ _ (by omega)]
    exact h.fresh c hc
  · intro c m e
    by_cases hcb : c = b
    · subst hcb; rw [Inj.put_same] at e; cases e; exact ho
    · rw [Inj.put_other _ _ hcb] at e
      have := h.live c m e
      by_cases hg : hget c S.h = .gone
      · rw [hg]; exact trivial
      · exact (this.mono hle).world (hk _ (this.lt hg))
  · intro c e m n hc he hgc hge hne
    by_cases hcb : c = b
    · subst hcb
      rw [Inj.put_same] at hc; cases hc
      rw [Inj.put_other _ _ (fun h => hne h.symm)] at he
      exact fun hh => absurd ((h.live e n he).lt hge) (by omega)
    · rw [Inj.put_other _ _ hcb] at hc
      by_cases heb : e = b
      · subst heb
        rw [Inj.put_same] at he; cases he
        exact fun hh => absurd ((h.live c m hc).lt hgc) (by omega)
      · rw [Inj.put_other _ _ heb] at he
        exact h.apart c e m n hc he hgc hge hne
  · intro c m e
    by_cases hcb : c = b
    · subst hcb; rw [Inj.put_same] at e; cases e; exact .inr hl
    · rw [Inj.put_other _ _ hcb] at e; exact .inl ⟨c, m, e, rfl⟩
theorem heap_setRow {w : World} {g : Nat} {a c : Array Value} {t : TypeId} {f : Nat × Nat} (h : w.heap[g]? = some (.cells a t f)) :
    (w.setRow g c).heap[g]? = some (.cells c t f) := by
  simp only [World.setRow, Array.getElem?_modify, h]
  simp
/-- Values of one cell each, stored one behind the other into a row whose mark keeps none off. -/
theorem run_storeCells_fz {P : Program} (g o : Nat) (t : TypeId) (f : Nat × Nat) : ∀ (vs : List Value) (i : Nat) (cur : Array Value) (w : World), w.heap[g]? = some (.cells cur t f) → FzOk cur f → o + i + vs.length ≤ cur.size → (∀ v ∈ vs, v.oneCell' = true) →
    (storeCells ⟨g, o, none⟩ vs i).run P w = .ok () (w.setRow g (cur.toList.take (o + i) ++ vs ++ cur.toList.drop (o + i + vs.length)).toArray)
  | [], i, cur, w, hg, _, _, _ => by
    simp only [storeCells, List.append_nil, List.length_nil, Nat.add_zero, List.take_append_drop, Array.toArray_toList]
    rw [setRow_self w g cur t f hg]; rfl
  | v :: vs, i, cur, w, hg, hf, hl, h1 => by
    have hlen : o + i + (vs.length + 1) ≤ cur.size := by simpa using hl
    have hfz : w.frozen? ⟨g, o + i, none⟩ = false := by
      unfold World.frozen?
      rw [hg]
      obtain ⟨lo, hi⟩ := f
      rcases hf with hf | hf <;> cases hf
      · simp
      · simp; omega
    have hadd : (⟨g, o, none⟩ : Addr).add i = ⟨g, o + i, none⟩ := by unfold Addr.add; split <;> simp_all
    have hc : w.cell? ⟨g, o + i, none⟩ = some (cur[o + i]'(by omega)) := by
      unfold World.cell?; rw [hg]; simp
    have hs1 : (store ((⟨g, o, none⟩ : Addr).add i) v).run P w = .ok () (w.setRow g (cur.setIfInBounds (o + i) v)) := by
      rw [hadd, run_store P w _ v _ (h1 v List.mem_cons_self), hc]
      simp [hfz, setCell_eq_setRow w g (o + i) cur t f v hg]
    have hsz : (cur.setIfInBounds (o + i) v).size = cur.size := by simp
    have h2 := run_storeCells_fz (P := P) g o t f vs (i + 1) (cur.setIfInBounds (o + i) v) (w.setRow g (cur.setIfInBounds (o + i) v)) (heap_setRow hg) (hf.size hsz) (by rw [hsz]; omega) fun x hx => h1 x (List.mem_cons_of_mem _ hx)
    simp only [storeCells, Sem.run_bind, hs1, Result.andThen_ok, h2, setRow_setRow]
    congr 3
    have := list_seg_step cur.toList (o + i) v vs (by simp; omega)
    simpa [Array.toList_setIfInBounds, Nat.add_assoc] using this
theorem heap_setRow_other {w : World} {g k : Nat} {c : Array Value} (h : k ≠ g) : (w.setRow g c).heap[k]? = w.heap[k]? := by
  simp only [World.setRow, Array.getElem?_modify]
  rw [if_neg (by omega)]
/-- A block's content turns, in the heap and in the world alike. -/
theorem HR.turn {ι : Inj} {S : St} {w w' : World} (h : HR ι S w) {b : Nat} {l : Loc} (hb : ι b = some l) (hgb : hget b S.h ≠ .gone) (o : AO)
    (hos : w'.os = w.os) (htape : w'.tape = w.tape) (hout : w'.output = w.output) (hsz : w'.heap.size = w.heap.size)
    (hk : ∀ k : Nat, k ≠ l.b → w'.heap[k]? = w.heap[k]?) (ho : RO ι o l w') : HR ι ⟨hset b o S.h, S.n⟩ w' ∧ Ext ι w ι w' := by
  have hsm := h.small hb
  have hg : ∀ c m, ι c = some m → c ≠ b → hget c (hset b o S.h) = hget c S.h := fun c m e hcb => hget_other hsm (h.small e) (fun h => hcb h.symm) _ _
  refine ⟨⟨h.lim, h.fresh, ?_, ?_, h.resv⟩, ⟨hos, htape, hout, by omega, .refl _, fun k hlt hn => hk k (fun e => hn b l hb e.symm), fun c m e => .inl ⟨c, m, e, rfl⟩, rfl, fun _ _ h => h⟩⟩
  · intro c m e
    show RO ι (hget c (hset b o S.h)) m w'
    by_cases hcb : c = b
    · subst hcb
      rw [hb] at e; cases e
      rw [hget_same]; exact ho
    · rw [hg c m e hcb]
      by_cases hgc : hget c S.h = .gone
      · rw [hgc]; exact trivial
      · exact (h.live c m e).world (hk _ (h.apart c b m l e hb hgc hgb hcb))
  · intro c e m n hc he hgc0 hge0 hne
    have hgc : hget c (hset b o S.h) ≠ .gone := hgc0
    have hge : hget e (hset b o S.h) ≠ .gone := hge0
    clear hgc0 hge0
    by_cases hcb : c = b
    · subst hcb
      rw [hg e n he (fun h => hne h.symm)] at hge
      exact h.apart c e m n hc he hgb hge hne
    · rw [hg c m hc hcb] at hgc
      by_cases heb : e = b
      · subst heb; exact h.apart c e m n hc he hgc hgb hne
      · rw [hg e n he heb] at hge
        exact h.apart c e m n hc he hgc hge hne
/-- A block is given up. -/
theorem HR.kill {ι : Inj} {S : St} {w : World} (h : HR ι S w) {b : Nat} {l : Loc} (hb : ι b = some l) : HR ι ⟨hset b .gone S.h, S.n⟩ w := by
  have hsm := h.small hb
  have hg : ∀ c m, ι c = some m → c ≠ b → hget c (hset b .gone S.h) = hget c S.h := fun c m e hcb => hget_other hsm (h.small e) (fun h => hcb h.symm) _ _
  refine ⟨h.lim, h.fresh, ?_, ?_, h.resv⟩
  · intro c m e
    show RO ι (hget c (hset b .gone S.h)) m w
    by_cases hcb : c = b
    · subst hcb; rw [hget_same]; exact trivial
    · rw [hg c m e hcb]; exact h.live c m e
  · intro c e m n hc he hgc hge hne
    have hgc : hget c (hset b .gone S.h) ≠ .gone := hgc
    have hge : hget e (hset b .gone S.h) ≠ .gone := hge
    have hcb : c ≠ b := by rintro rfl; rw [hget_same] at hgc; exact hgc rfl
    have heb : e ≠ b := by rintro rfl; rw [hget_same] at hge; exact hge rfl
    rw [hg c m hc hcb] at hgc
    rw [hg e n he heb] at hge
    exact h.apart c e m n hc he hgc hge hne
end Go.Ev
set_option linter.unusedVariables false
namespace Go.Ev
open Go
noncomputable section

abbrev K := AV → St → R
abbrev KN := T → St → R
inductive Ex where
  | ex (id : Nat)
  | gt (l : Nat)
  | rt
abbrev KX := Ex → T → St → R
abbrev Evn := Nat → Code → T → St → KN → KX → R

/-! ### What is known of constants -/
mutual
def toAV : Value → AV
  | .bool b => .bool b
  | .int k n => .int k n
  | .string s => .str s.size (packB s.data.toList)
  | .pointer none => .pnil
  | .slice none 0 0 => .snil
  | .map none => .mnil
  | .nilFunc => .fnil
  | .nilIface => .inil
  | .func f ⟨[]⟩ ⟨[]⟩ => .fn f .nl .nl
  | .agg ⟨l⟩ => .agg (toL l)
  | _ => .top
def toL : List Value → AV
  | [] => .nl
  | v :: l => .cons (toAV v) (toL l)
end

/-! ### Taking values apart -/
def onPtr (v : AV) : (Nat → Nat → R) → R := AV.rec (motive := fun _ => (Nat → Nat → R) → R) (fun _ => .bad 11) (fun _ _ => .bad 11) (fun _ _ _ => .bad 11) (fun _ _ _ => .bad 11) (fun _ => .bad 11) (fun b o k => k b o) (fun _ => .bad 11) (fun _ _ _ _ _ => .bad 11) (fun _ _ _ _ _ => .bad 11) (fun _ => .bad 11) (fun _ _ => .bad 11) (fun _ _ _ _ _ _ => .bad 11) (fun _ => .bad 11) (fun _ => .bad 11) (fun _ _ _ _ => .bad 11) (fun _ _ _ => .bad 11) (fun _ _ _ => .bad 11) (fun _ _ => .bad 11) (fun _ => .bad 11) (fun _ _ _ _ _ => .bad 11) v
def onInt (v : AV) : R → (IntKind → Int → R) → R := AV.rec (motive := fun _ => R → (IntKind → Int → R) → R) (fun d _ => d) (fun _ d _ => d) (fun kd n _ k => k kd n) (fun _ _ d _ => d) (fun d _ => d) (fun _ _ d _ => d) (fun d _ => d) (fun _ _ _ _ d _ => d) (fun _ _ _ _ d _ => d) (fun d _ => d) (fun _ d _ => d) (fun _ _ _ _ _ d _ => d) (fun d _ => d) (fun d _ => d) (fun _ _ _ d _ => d) (fun _ _ d _ => d) (fun _ _ d _ => d) (fun _ d _ => d) (fun d _ => d) (fun _ _ _ _ d _ => d) v
def onNat (v : AV) : (Nat → R) → R := AV.rec (motive := fun _ => (Nat → R) → R) (fun _ => .bad 12) (fun _ _ => .bad 12) (fun _ n k => Int.rec (motive := fun _ => R) (fun m => k m) (fun _ => .bad 13) n) (fun _ _ _ => .bad 12) (fun _ => .bad 12) (fun _ _ _ => .bad 12) (fun _ => .bad 12) (fun _ _ _ _ _ => .bad 12) (fun _ _ _ _ _ => .bad 12) (fun _ => .bad 12) (fun _ _ => .bad 12) (fun _ _ _ _ _ _ => .bad 12) (fun _ => .bad 12) (fun _ => .bad 12) (fun _ _ _ _ => .bad 12) (fun _ _ _ => .bad 12) (fun _ _ _ => .bad 12) (fun _ _ => .bad 12) (fun _ => .bad 12) (fun _ _ _ _ _ => .bad 12) v
def onBool (v : AV) : R → R → R := AV.rec (motive := fun _ => R → R → R) (fun _ _ => .bad 14) (fun b t f => Bool.rec (motive := fun _ => R) f t b) (fun _ _ _ _ => .bad 14) (fun _ _ _ _ => .bad 14) (fun _ _ => .bad 14) (fun _ _ _ _ => .bad 14) (fun _ _ => .bad 14) (fun _ _ _ _ _ _ => .bad 14) (fun _ _ _ _ _ _ => .bad 14) (fun _ _ => .bad 14) (fun _ _ _ => .bad 14) (fun _ _ _ _ _ _ _ => .bad 14) (fun _ _ => .bad 14) (fun _ _ => .bad 14) (fun _ _ _ _ _ => .bad 14) (fun _ _ _ _ => .bad 14) (fun _ _ _ _ => .bad 14) (fun _ _ _ => .bad 14) (fun _ _ => .bad 14) (fun _ _ _ _ _ _ => .bad 14) v
def onAgg (v : AV) : (AV → R) → R := AV.rec (motive := fun _ => (AV → R) → R) (fun _ => .bad 15) (fun _ _ => .bad 15) (fun _ _ _ => .bad 15) (fun _ _ _ => .bad 15) (fun _ => .bad 15) (fun _ _ _ => .bad 15) (fun _ => .bad 15) (fun _ _ _ _ _ => .bad 15) (fun _ _ _ _ _ => .bad 15) (fun _ => .bad 15) (fun _ _ => .bad 15) (fun _ _ _ _ _ _ => .bad 15) (fun _ => .bad 15) (fun _ => .bad 15) (fun _ _ _ _ => .bad 15) (fun l _ k => k l) (fun _ _ _ => .bad 15) (fun _ _ => .bad 15) (fun _ => .bad 15) (fun _ _ _ _ _ => .bad 15) v
def onTup (v : AV) : (AV → R) → R := AV.rec (motive := fun _ => (AV → R) → R) (fun _ => .bad 16) (fun _ _ => .bad 16) (fun _ _ _ => .bad 16) (fun _ _ _ => .bad 16) (fun _ => .bad 16) (fun _ _ _ => .bad 16) (fun _ => .bad 16) (fun _ _ _ _ _ => .bad 16) (fun _ _ _ _ _ => .bad 16) (fun _ => .bad 16) (fun _ _ => .bad 16) (fun _ _ _ _ _ _ => .bad 16) (fun _ => .bad 16) (fun _ => .bad 16) (fun _ _ _ _ => .bad 16) (fun _ _ _ => .bad 16) (fun l _ k => k l) (fun _ _ => .bad 16) (fun _ => .bad 16) (fun _ _ _ _ _ => .bad 16) v
def onFn (v : AV) : (Nat → AV → AV → R) → R := AV.rec (motive := fun _ => (Nat → AV → AV → R) → R) (fun _ => .bad 17) (fun _ _ => .bad 17) (fun _ _ _ => .bad 17) (fun _ _ _ => .bad 17) (fun _ => .bad 17) (fun _ _ _ => .bad 17) (fun _ => .bad 17) (fun _ _ _ _ _ => .bad 17) (fun _ _ _ _ _ => .bad 17) (fun _ => .bad 17) (fun _ _ => .bad 17) (fun f a b _ _ k => Fn.rec (motive := fun _ => R) (fun f => k f a b) (fun _ => .bad 18) (fun _ _ => .bad 18) (fun _ _ _ _ => .bad 18) (fun _ => .bad 18) f) (fun _ => .bad 17) (fun _ => .bad 17) (fun _ _ _ _ => .bad 17) (fun _ _ _ => .bad 17) (fun _ _ _ => .bad 17) (fun _ _ => .bad 17) (fun _ => .bad 17) (fun _ _ _ _ _ => .bad 17) v
def onCells (o : AO) : (Nat → Cs → R) → R := AO.rec (motive := fun _ => (Nat → Cs → R) → R) (fun _ => .bad 19) (fun n c k => k n c) (fun _ _ => .bad 19) o
def onMap (o : AO) : (List (AV × AV) → R) → R := AO.rec (motive := fun _ => (List (AV × AV) → R) → R) (fun _ => .bad 20) (fun _ _ _ => .bad 20) (fun es k => k es) o
theorem onPtr_inv {v : AV} {k : Nat → Nat → R} {r : AV} {s : St} (h : onPtr v k = .ok r s) : ∃ b o, v = .ptr b o ∧ k b o = .ok r s := by
  cases v <;> first | exact (R.bad_ne h).elim | exact ⟨_, _, rfl, h⟩
theorem onInt_inv {v : AV} {d : R} {k : IntKind → Int → R} {r : AV} {s : St} (h : onInt v d k = .ok r s) : (∃ kd n, v = .int kd n ∧ k kd n = .ok r s) ∨ ((∀ kd n, v ≠ .int kd n) ∧ d = .ok r s) := by
  cases v <;> first | exact .inr ⟨(fun _ _ e => by cases e), h⟩ | exact .inl ⟨_, _, rfl, h⟩
theorem onNat_inv {v : AV} {k : Nat → R} {r : AV} {s : St} (h : onNat v k = .ok r s) : ∃ kd n, v = .int kd (.ofNat n) ∧ k n = .ok r s := by
  cases v with
  | int kd n => cases n <;> first | exact ⟨_, _, rfl, h⟩ | exact (R.bad_ne h).elim
  | _ => exact (R.bad_ne h).elim
theorem onBool_inv {v : AV} {t f : R} {r : AV} {s : St} (h : onBool v t f = .ok r s) : (v = .bool true ∧ t = .ok r s) ∨ (v = .bool false ∧ f = .ok r s) := by
  cases v with
  | bool b => cases b; exact .inr ⟨rfl, h⟩; exact .inl ⟨rfl, h⟩
  | _ => exact (R.bad_ne h).elim
theorem onAgg_inv {v : AV} {k : AV → R} {r : AV} {s : St} (h : onAgg v k = .ok r s) : ∃ l, v = .agg l ∧ k l = .ok r s := by
  cases v <;> first | exact (R.bad_ne h).elim | exact ⟨_, rfl, h⟩
theorem onTup_inv {v : AV} {k : AV → R} {r : AV} {s : St} (h : onTup v k = .ok r s) : ∃ l, v = .tup l ∧ k l = .ok r s := by
  cases v <;> first | exact (R.bad_ne h).elim | exact ⟨_, rfl, h⟩
theorem onFn_inv {v : AV} {k : Nat → AV → AV → R} {r : AV} {s : St} (h : onFn v k = .ok r s) : ∃ f a b, v = .fn (.func f) a b ∧ k f a b = .ok r s := by
  cases v with
  | fn f a b => cases f <;> first | exact (R.bad_ne h).elim | exact ⟨_, _, _, rfl, h⟩
  | _ => exact (R.bad_ne h).elim
theorem onCells_inv {o : AO} {k : Nat → Cs → R} {r : AV} {s : St} (h : onCells o k = .ok r s) : ∃ n c, o = .cells n c ∧ k n c = .ok r s := by
  cases o <;> first | exact (R.bad_ne h).elim | exact ⟨_, _, rfl, h⟩
theorem onMap_inv {o : AO} {k : List (AV × AV) → R} {r : AV} {s : St} (h : onMap o k = .ok r s) : ∃ es, o = .map es ∧ k es = .ok r s := by
  cases o <;> first | exact (R.bad_ne h).elim | exact ⟨_, rfl, h⟩

/-- The cells of a value. -/
def partsK (v : AV) (k : AV → R) : R := match v with
  | .agg l => k l
  | .top => .bad 21
  | .tup _ => .bad 21
  | .ge _ => .bad 21
  | .nl => .bad 21
  | .cons _ _ => .bad 21
  | v => k (.cons v .nl)
/-- A value of one cell, as far as is known. -/
def AV.one : AV → Bool
  | .top => false
  | .agg _ => false
  | .tup _ => false
  | .ge _ => false
  | .nl => false
  | .cons _ _ => false
  | _ => true
def AV.ones : AV → Bool
  | .nl => true
  | .cons h t => h.one && t.ones
  | _ => false
def AV.app : AV → AV → AV
  | .cons h t, l => .cons h (AV.app t l)
  | _, l => l
def AV.drop : AV → Nat → AV
  | .cons h t, n + 1 => AV.drop t n
  | l, _ => l
def AV.take : AV → Nat → AV
  | .cons h t, n + 1 => .cons h (AV.take t n)
  | _, _ => .nl
def AV.setN : AV → Nat → AV → AV
  | .cons _ t, 0, v => .cons v t
  | .cons h t, n + 1, v => .cons h (AV.setN t n v)
  | l, _, _ => l

/-! ### Operands -/
def tgetS (t : Nat) (T : T) : AV := Bool.rec (motive := fun _ => AV) .top (tget t T) (Nat.ble t 255)
def opnd (x : Operand) (T : T) : AV := Operand.rec (motive := fun _ => AV) (fun t => tgetS t T) toAV (fun _ => .top) (fun f => .fn (.func f) .nl .nl) x
def opndL (l : List Operand) (T : T) : AV := List.rec (motive := fun _ => AV) .nl (fun x _ ih => .cons (opnd x T) ih) l

/-! ### Integers -/
def natIn (k : IntKind) (m : Nat) : Bool := Nat.ble m (IntKind.rec (motive := fun _ => Nat) 127 32767 2147483647 9223372036854775807 255 65535 4294967295 18446744073709551615 k)
def wrapF (k : IntKind) (n : Int) : Int := Int.rec (motive := fun _ => Int) (fun m => Bool.rec (motive := fun _ => Int) (k.wrap (.ofNat m)) (.ofNat m) (natIn k m))
  (fun m => match k with | .i64 => (match Nat.ble m 9223372036854775807 with | true => .negSucc m | false => k.wrap (.negSucc m)) | k => k.wrap (.negSucc m)) n
def leI (x y : Int) : Bool := Int.rec (motive := fun _ => Bool) (fun a => Int.rec (motive := fun _ => Bool) (fun b => Nat.ble a b) (fun _ => false) y) (fun a => Int.rec (motive := fun _ => Bool) (fun _ => true) (fun b => Nat.ble b a) y) x
def eqI (x y : Int) : Bool := Int.rec (motive := fun _ => Bool) (fun a => Int.rec (motive := fun _ => Bool) (fun b => Nat.beq a b) (fun _ => false) y) (fun a => Int.rec (motive := fun _ => Bool) (fun _ => false) (fun b => Nat.beq b a) y) x
def kdN (k : IntKind) : Nat := IntKind.rec (motive := fun _ => Nat) 0 1 2 3 4 5 6 7 k
def eqKd (a b : IntKind) : Bool := Nat.beq (kdN a) (kdN b)
def bK (b : Bool) (k : AV → R) : R := Bool.rec (motive := fun _ => R) (k (.bool false)) (k (.bool true)) b
def iK (kd : IntKind) (n : Int) (k : AV → R) : R := fI n fun n => k (.int kd n)
theorem bK_eq (b : Bool) (k : AV → R) : bK b k = k (.bool b) := by cases b <;> rfl
theorem iK_eq (kd : IntKind) (n : Int) (k : AV → R) : iK kd n k = k (.int kd n) := fI_eq n fun n => k (.int kd n)
theorem leI_eq (x y : Int) : leI x y = decide (x ≤ y) := by
  cases x with
  | ofNat a => cases y with
    | ofNat b => rw [Bool.eq_iff_iff]; simp only [decide_eq_true_eq]; show Nat.ble a b = true ↔ _; rw [Nat.ble_eq]; exact Int.ofNat_le.symm
    | negSucc b => symm; simp only [decide_eq_false_iff_not, leI]; intro h; have := Int.negSucc_lt_zero b; have h2 : (0 : Int) ≤ Int.ofNat a := Int.natCast_nonneg a; omega
  | negSucc a => cases y with
    | ofNat b => symm; simp only [decide_eq_true_eq, leI]; have := Int.negSucc_lt_zero a; have h2 : (0 : Int) ≤ Int.ofNat b := Int.natCast_nonneg b; omega
    | negSucc b => rw [Bool.eq_iff_iff]; simp only [decide_eq_true_eq]; show Nat.ble b a = true ↔ _; rw [Nat.ble_eq]; omega
theorem eqI_eq (x y : Int) : eqI x y = decide (x = y) := by
  cases x with
  | ofNat a => cases y with
    | ofNat b => rw [Bool.eq_iff_iff]; simp only [decide_eq_true_eq]; show Nat.beq a b = true ↔ _; rw [Nat.beq_eq]; exact ⟨fun h => by rw [h], fun h => Int.ofNat.inj h⟩
    | negSucc b => symm; simp only [decide_eq_false_iff_not, eqI]; intro h; cases h
  | negSucc a => cases y with
    | ofNat b => symm; simp only [decide_eq_false_iff_not, eqI]; intro h; cases h
    | negSucc b => rw [Bool.eq_iff_iff]; simp only [decide_eq_true_eq]; show Nat.beq b a = true ↔ _; rw [Nat.beq_eq]; exact ⟨fun h => by rw [h], fun h => (Int.negSucc.inj h).symm⟩
theorem eqKd_eq {a b : IntKind} (h : eqKd a b = true) : a = b := by cases a <;> cases b <;> first | rfl | (exact absurd h (by decide))
theorem wrapF_eq (k : IntKind) (n : Int) : wrapF k n = k.wrap n := by
  cases n with
  | ofNat m =>
    show Bool.rec (motive := fun _ => Int) (k.wrap (.ofNat m)) (.ofNat m) (natIn k m) = _
    cases h : natIn k m with
    | false => rfl
    | true =>
      symm
      show k.wrap (m : Int) = (m : Int)
      have hb := Nat.le_of_ble_eq_true h
      cases k <;> simp only [IntKind.wrap, IntKind.bits, IntKind.signed] at hb ⊢ <;> simp <;> omega
  | negSucc m =>
    cases k with
    | i64 =>
      show (match Nat.ble m 9223372036854775807 with | true => Int.negSucc m | false => IntKind.i64.wrap (.negSucc m)) = _
      cases h : Nat.ble m 9223372036854775807 with
      | false => rfl
      | true =>
        have hb := Nat.le_of_ble_eq_true h
        simp only [IntKind.wrap, IntKind.bits, IntKind.signed]
        rw [Int.negSucc_eq]
        simp
        omega
    | _ => rfl
end
end Go.Ev
set_option linter.unusedVariables false
set_option linter.unusedSimpArgs false
namespace Go.Ev
open Go
noncomputable section

mutual
theorem toAV_rep (ι : Inj) : ∀ v : Value, RV ι (toAV v) v
  | .bool b => rfl
  | .int k n => rfl
  | .string s => ⟨s, rfl, rfl, rfl⟩
  | .pointer none => rfl
  | .pointer (some _) => trivial
  | .slice none 0 0 => rfl
  | .slice none 0 (_ + 1) => trivial
  | .slice none (_ + 1) _ => trivial
  | .slice (some _) _ _ => trivial
  | .map none => rfl
  | .map (some _) => trivial
  | .nilFunc => rfl
  | .nilIface => rfl
  | .func f ⟨[]⟩ ⟨[]⟩ => ⟨#[], #[], rfl, rfl, rfl⟩
  | .func f ⟨_ :: _⟩ _ => trivial
  | .func f ⟨[]⟩ ⟨_ :: _⟩ => trivial
  | .agg ⟨l⟩ => ⟨⟨l⟩, rfl, toL_rep ι l⟩
  | .float _ _ => trivial
  | .complex _ _ _ => trivial
  | .chan _ => trivial
  | .iface _ _ => trivial
  | .tuple _ => trivial
theorem toL_rep (ι : Inj) : ∀ l : List Value, RL ι (toL l) l
  | [] => rfl
  | v :: l => ⟨v, l, rfl, toAV_rep ι v, toL_rep ι l⟩
end
theorem toL_len : ∀ l : List Value, (toL l).len = l.length
  | [] => rfl
  | v :: l => congrArg Nat.succ (toL_len l)
theorem toL_isL : ∀ l : List Value, (toL l).isL = true
  | [] => rfl
  | v :: l => toL_isL l

/-- The temporaries. -/
structure RA (ι : Inj) (m : Nat) (T : T) (a : Act) : Prop where
  size : m ≤ a.tmps.size
  le : m ≤ 256
  val : ∀ t, t < 256 → RV ι (tget t T) (a.tmps.getD t undef)
theorem RA.mono {ι κ : Inj} {m : Nat} {T : T} {a : Act} (h : ι.le κ) (r : RA ι m T a) : RA κ m T a := ⟨r.size, r.le, fun t ht => (r.val t ht).mono h⟩
theorem RA.tmp {ι : Inj} {m : Nat} {T : T} {a : Act} (r : RA ι m T a) (t : Nat) : RV ι (tgetS t T) (a.tmps.getD t undef) := by
  unfold tgetS
  cases h : Nat.ble t 255 with
  | false => trivial
  | true => exact r.val t (by have := Nat.le_of_ble_eq_true h; omega)
theorem RA.put {ι : Inj} {m : Nat} {T : T} {a : Act} (r : RA ι m T a) {d : Nat} (hd : d < m) {v : AV} {u : Value} (h : RV ι v u) : RA ι m (tset d v T) (a.put (some d) u) := by
  have hm := r.le
  have hs := r.size
  refine ⟨by simpa [Act.put] using r.size, r.le, fun t ht => ?_⟩
  by_cases e : d = t
  · subst e
    rw [tget_same]
    have : (a.put (some d) u).tmps.getD d undef = u := by simp [Act.put, Array.getElem?_setIfInBounds, show d < a.tmps.size by omega]
    rw [this]; exact h
  · rw [tget_other (by omega) ht e]
    have : (a.put (some d) u).tmps.getD t undef = a.tmps.getD t undef := by simp [Act.put, Array.getElem?_setIfInBounds, e]
    rw [this]; exact r.val t ht
theorem opnd_rep {ι : Inj} {m : Nat} {T : T} {a : Act} (r : RA ι m T a) (x : Operand) : RV ι (opnd x T) (a.eval x) := by
  cases x with
  | tmp t => exact r.tmp t
  | const v => exact toAV_rep ι v
  | global g => exact trivial
  | func f => exact ⟨#[], #[], rfl, rfl, rfl⟩
theorem opndL_rep {ι : Inj} {m : Nat} {T : T} {a : Act} (r : RA ι m T a) : ∀ l : List Operand, RL ι (opndL l T) (l.map a.eval)
  | [] => rfl
  | x :: l => ⟨_, _, rfl, opnd_rep r x, opndL_rep r l⟩

/-! ### Values taken apart -/
section
variable {ι : Inj} {v : Value}
theorem rv_int {k : IntKind} {n : Int} (h : RV ι (.int k n) v) : v = .int k n := h
theorem RL.len {ι : Inj} : ∀ {x : AV} {l : List Value}, RL ι x l → x.len = l.length
  | .nl, l, h => by cases h; rfl
  | .cons a t, l, h => by
    obtain ⟨u, r, rfl, -, h2⟩ := h
    exact congrArg Nat.succ (RL.len h2)
  | .top, _, h => h.elim
  | .bool _, _, h => h.elim
  | .int _ _, _, h => h.elim
  | .str _ _, _, h => h.elim
  | .pnil, _, h => h.elim
  | .ptr _ _, _, h => h.elim
  | .snil, _, h => h.elim
  | .sl _ _ _ _, _, h => h.elim
  | .slu _ _ _ _, _, h => h.elim
  | .mnil, _, h => h.elim
  | .map _, _, h => h.elim
  | .fn _ _ _, _, h => h.elim
  | .fnil, _, h => h.elim
  | .inil, _, h => h.elim
  | .iface _ _, _, h => h.elim
  | .agg _, _, h => h.elim
  | .tup _, _, h => h.elim
  | .ge _, _, h => h.elim
theorem RL.isL {ι : Inj} : ∀ {x : AV} {l : List Value}, RL ι x l → x.isL = true
  | .nl, l, h => rfl
  | .cons a t, l, h => by
    obtain ⟨u, r, rfl, -, h2⟩ := h
    exact RL.isL (x := t) h2
  | .top, _, h => h.elim
  | .bool _, _, h => h.elim
  | .int _ _, _, h => h.elim
  | .str _ _, _, h => h.elim
  | .pnil, _, h => h.elim
  | .ptr _ _, _, h => h.elim
  | .snil, _, h => h.elim
  | .sl _ _ _ _, _, h => h.elim
  | .slu _ _ _ _, _, h => h.elim
  | .mnil, _, h => h.elim
  | .map _, _, h => h.elim
  | .fn _ _ _, _, h => h.elim
  | .fnil, _, h => h.elim
  | .inil, _, h => h.elim
  | .iface _ _, _, h => h.elim
  | .agg _, _, h => h.elim
  | .tup _, _, h => h.elim
  | .ge _, _, h => h.elim
/-- A list that is known value by value. -/
theorem RL.of {ι : Inj} : ∀ {x : AV} {l : List Value}, x.isL = true → x.len = l.length → (∀ i, i < x.len → ∃ u, l[i]? = some u ∧ RV ι (x.nth i) u) → RL ι x l
  | .nl, l, _, h, _ => by
    cases l with
    | nil => rfl
    | cons => cases h
  | .cons a t, l, hl, h, hv => by
    cases l with
    | nil => cases h
    | cons u r =>
      refine ⟨u, r, rfl, ?_, RL.of (x := t) hl (Nat.succ.inj h) fun i hi => ?_⟩
      · obtain ⟨u', h1, h2⟩ := hv 0 (Nat.succ_pos _)
        cases h1; exact h2
      · exact hv (i + 1) (Nat.succ_lt_succ hi)
  | .top, _, h, _, _ => by cases h
  | .bool _, _, h, _, _ => by cases h
  | .int _ _, _, h, _, _ => by cases h
  | .str _ _, _, h, _, _ => by cases h
  | .pnil, _, h, _, _ => by cases h
  | .ptr _ _, _, h, _, _ => by cases h
  | .snil, _, h, _, _ => by cases h
  | .sl _ _ _ _, _, h, _, _ => by cases h
  | .slu _ _ _ _, _, h, _, _ => by cases h
  | .mnil, _, h, _, _ => by cases h
  | .map _, _, h, _, _ => by cases h
  | .fn _ _ _, _, h, _, _ => by cases h
  | .fnil, _, h, _, _ => by cases h
  | .inil, _, h, _, _ => by cases h
  | .iface _ _, _, h, _, _ => by cases h
  | .agg _, _, h, _, _ => by cases h
  | .tup _, _, h, _, _ => by cases h
  | .ge _, _, h, _, _ => by cases h
theorem RL.nth {ι : Inj} : ∀ {x : AV} {l : List Value}, RL ι x l → ∀ i, i < x.len → ∃ u, l[i]? = some u ∧ RV ι (x.nth i) u
  | .nl, l, _, i, hi => absurd hi (Nat.not_lt_zero _)
  | .cons a t, l, h, i, hi => by
    obtain ⟨u, r, rfl, h1, h2⟩ := h
    cases i with
    | zero => exact ⟨u, rfl, h1⟩
    | succ i => exact RL.nth (x := t) h2 i (Nat.lt_of_succ_lt_succ hi)
  | .top, _, h, _, _ => h.elim
  | .bool _, _, h, _, _ => h.elim
  | .int _ _, _, h, _, _ => h.elim
  | .str _ _, _, h, _, _ => h.elim
  | .pnil, _, h, _, _ => h.elim
  | .ptr _ _, _, h, _, _ => h.elim
  | .snil, _, h, _, _ => h.elim
  | .sl _ _ _ _, _, h, _, _ => h.elim
  | .slu _ _ _ _, _, h, _, _ => h.elim
  | .mnil, _, h, _, _ => h.elim
  | .map _, _, h, _, _ => h.elim
  | .fn _ _ _, _, h, _, _ => h.elim
  | .fnil, _, h, _, _ => h.elim
  | .inil, _, h, _, _ => h.elim
  | .iface _ _, _, h, _, _ => h.elim
  | .agg _, _, h, _, _ => h.elim
  | .tup _, _, h, _, _ => h.elim
  | .ge _, _, h, _, _ => h.elim
end
theorem RL.drop {ι : Inj} : ∀ (n : Nat) {x : AV} {l : List Value}, RL ι x l → RL ι (x.drop n) (l.drop n)
  | 0, x, l, h => by cases x <;> exact h
  | n + 1, .nl, l, h => by cases h; rfl
  | n + 1, .cons a t, l, h => by
    obtain ⟨u, r, rfl, -, h2⟩ := h
    exact RL.drop n h2
  | n + 1, .top, _, h => h.elim
  | n + 1, .bool _, _, h => h.elim
  | n + 1, .int _ _, _, h => h.elim
  | n + 1, .str _ _, _, h => h.elim
  | n + 1, .pnil, _, h => h.elim
  | n + 1, .ptr _ _, _, h => h.elim
  | n + 1, .snil, _, h => h.elim
  | n + 1, .sl _ _ _ _, _, h => h.elim
  | n + 1, .slu _ _ _ _, _, h => h.elim
  | n + 1, .mnil, _, h => h.elim
  | n + 1, .map _, _, h => h.elim
  | n + 1, .fn _ _ _, _, h => h.elim
  | n + 1, .fnil, _, h => h.elim
  | n + 1, .inil, _, h => h.elim
  | n + 1, .iface _ _, _, h => h.elim
  | n + 1, .agg _, _, h => h.elim
  | n + 1, .tup _, _, h => h.elim
  | n + 1, .ge _, _, h => h.elim
theorem RL.take {ι : Inj} : ∀ (n : Nat) {x : AV} {l : List Value}, RL ι x l → RL ι (x.take n) (l.take n)
  | 0, x, l, h => by cases x <;> rfl
  | n + 1, .nl, l, h => by cases h; rfl
  | n + 1, .cons a t, l, h => by
    obtain ⟨u, r, rfl, h1, h2⟩ := h
    exact ⟨u, r.take n, rfl, h1, RL.take n h2⟩
  | n + 1, .top, _, h => h.elim
  | n + 1, .bool _, _, h => h.elim
  | n + 1, .int _ _, _, h => h.elim
  | n + 1, .str _ _, _, h => h.elim
  | n + 1, .pnil, _, h => h.elim
  | n + 1, .ptr _ _, _, h => h.elim
  | n + 1, .snil, _, h => h.elim
  | n + 1, .sl _ _ _ _, _, h => h.elim
  | n + 1, .slu _ _ _ _, _, h => h.elim
  | n + 1, .mnil, _, h => h.elim
  | n + 1, .map _, _, h => h.elim
  | n + 1, .fn _ _ _, _, h => h.elim
  | n + 1, .fnil, _, h => h.elim
  | n + 1, .inil, _, h => h.elim
  | n + 1, .iface _ _, _, h => h.elim
  | n + 1, .agg _, _, h => h.elim
  | n + 1, .tup _, _, h => h.elim
  | n + 1, .ge _, _, h => h.elim
theorem RL.app {ι : Inj} : ∀ {x y : AV} {l r : List Value}, RL ι x l → RL ι y r → RL ι (x.app y) (l ++ r)
  | .nl, y, l, r, h, g => by cases h; exact g
  | .cons a t, y, l, r, h, g => by
    obtain ⟨u, q, rfl, h1, h2⟩ := h
    exact ⟨u, q ++ r, rfl, h1, RL.app h2 g⟩
  | .top, _, _, _, h, _ => h.elim
  | .bool _, _, _, _, h, _ => h.elim
  | .int _ _, _, _, _, h, _ => h.elim
  | .str _ _, _, _, _, h, _ => h.elim
  | .pnil, _, _, _, h, _ => h.elim
  | .ptr _ _, _, _, _, h, _ => h.elim
  | .snil, _, _, _, h, _ => h.elim
  | .sl _ _ _ _, _, _, _, h, _ => h.elim
  | .slu _ _ _ _, _, _, _, h, _ => h.elim
  | .mnil, _, _, _, h, _ => h.elim
  | .map _, _, _, _, h, _ => h.elim
  | .fn _ _ _, _, _, _, h, _ => h.elim
  | .fnil, _, _, _, h, _ => h.elim
  | .inil, _, _, _, h, _ => h.elim
  | .iface _ _, _, _, _, h, _ => h.elim
  | .agg _, _, _, _, h, _ => h.elim
  | .tup _, _, _, _, h, _ => h.elim
  | .ge _, _, _, _, h, _ => h.elim
theorem partsK_inv {v : AV} {k : AV → R} {r : AV} {s : St} (h : partsK v k = .ok r s) :
    ∃ l, k l = .ok r s ∧ ∀ {ι : Inj} {u : Value}, RV ι v u → RL ι l u.cells.toList := by
  cases v <;> first
    | exact (R.bad_ne h).elim
    | exact ⟨_, h, fun {ι u} hr => by obtain ⟨a, rfl, hl⟩ := hr; exact hl⟩
    | (refine ⟨_, h, fun {ι u} hr => ⟨u, [], ?_, hr, rfl⟩⟩
       first
         | (cases hr; rfl)
         | (obtain ⟨_, rfl, -⟩ := hr; rfl)
         | (obtain ⟨_, -, rfl⟩ := hr; rfl)
         | (obtain ⟨_, -, ⟨_, rfl, -⟩ | ⟨-, _, rfl⟩⟩ := hr <;> rfl)
         | (obtain ⟨_, _, rfl, -⟩ := hr; rfl))
theorem one_cell {ι : Inj} {v : AV} {u : Value} (h : v.one = true) (hr : RV ι v u) : u.oneCell' = true := by
  cases v <;> first
    | (cases h; done)
    | (cases hr; rfl)
    | (obtain ⟨_, rfl, -⟩ := hr; rfl)
    | (obtain ⟨_, -, rfl⟩ := hr; rfl)
    | (obtain ⟨_, -, ⟨_, rfl, -⟩ | ⟨-, _, rfl⟩⟩ := hr <;> rfl)
    | (obtain ⟨_, _, rfl, -⟩ := hr; rfl)
theorem ones_cell {ι : Inj} : ∀ {x : AV} {l : List Value}, x.ones = true → RL ι x l → ∀ v ∈ l, v.oneCell' = true
  | .nl, l, _, h, v, hv => by cases h; cases hv
  | .cons a t, l, h, hr, v, hv => by
    obtain ⟨u, q, rfl, h1, h2⟩ := hr
    have h : (a.one && t.ones) = true := h
    rw [Bool.and_eq_true] at h
    rcases List.mem_cons.1 hv with rfl | hv
    · exact one_cell h.1 h1
    · exact ones_cell h.2 h2 v hv
  | .top, _, h, _, _, _ => by cases h
  | .bool _, _, h, _, _, _ => by cases h
  | .int _ _, _, h, _, _, _ => by cases h
  | .str _ _, _, h, _, _, _ => by cases h
  | .pnil, _, h, _, _, _ => by cases h
  | .ptr _ _, _, h, _, _, _ => by cases h
  | .snil, _, h, _, _, _ => by cases h
  | .sl _ _ _ _, _, h, _, _, _ => by cases h
  | .slu _ _ _ _, _, h, _, _, _ => by cases h
  | .mnil, _, h, _, _, _ => by cases h
  | .map _, _, h, _, _, _ => by cases h
  | .fn _ _ _, _, h, _, _, _ => by cases h
  | .fnil, _, h, _, _, _ => by cases h
  | .inil, _, h, _, _, _ => by cases h
  | .iface _ _, _, h, _, _, _ => by cases h
  | .agg _, _, h, _, _, _ => by cases h
  | .tup _, _, h, _, _, _ => by cases h
  | .ge _, _, h, _, _, _ => by cases h
end
end Go.Ev
set_option linter.unusedVariables false
set_option linter.unusedSimpArgs false
namespace Go.Ev
open Go
noncomputable section

inductive Kd where
  | pure (f : T → (AV → R) → R)
  | load (f : T → Hp → (AV → R) → R)
  | make (f : T → (AO → (Nat → AV) → R) → R)
  | eff (f : T → St → K → R)
  | call (f : T → (Nat → AV → R) → R)
  | no
def PureOk (P : Program) (o : Oper) (f : T → (AV → R) → R) : Prop := ∀ {T : T} {k : AV → R} {r : AV} {s : St}, f T k = .ok r s →
  ∃ v, k v = .ok r s ∧ ∀ {ι : Inj} {m : Nat} {a : Act} {w : World}, RA ι m T a → ∃ u, (execOp a.eval o).run P w = .ok (.value u) w ∧ RV ι v u
def LoadOk (P : Program) (o : Oper) (f : T → Hp → (AV → R) → R) : Prop := ∀ {T : T} {H : Hp} {k : AV → R} {r : AV} {s : St}, f T H k = .ok r s →
  ∃ v, k v = .ok r s ∧ ∀ {ι : Inj} {m n : Nat} {a : Act} {w : World}, RA ι m T a → HR ι ⟨H, n⟩ w → ∃ u, (execOp a.eval o).run P w = .ok (.value u) w ∧ RV ι v u
def MakeOk (P : Program) (o : Oper) (f : T → (AO → (Nat → AV) → R) → R) : Prop := ∀ {T : T} {k : AO → (Nat → AV) → R} {r : AV} {s : St}, f T k = .ok r s →
  ∃ b mk, k b mk = .ok r s ∧ b ≠ .gone ∧ ∀ {ι : Inj} {m : Nat} {a : Act} {w : World}, RA ι m T a → ∃ x sz u, (execOp a.eval o).run P w = .ok (.value u) (w.alloc x) ∧
    (∀ κ : Inj, ι.le κ → RO κ b ⟨w.heap.size, 0, sz⟩ (w.alloc x)) ∧ ∀ (κ : Inj) i, κ i = some ⟨w.heap.size, 0, sz⟩ → RV κ (mk i) u
def EffOk (P : Program) (o : Oper) (f : T → St → K → R) : Prop := ∀ {T : T} {S : St} {k : K} {r : AV} {s : St}, f T S k = .ok r s →
  ∃ v S', k v S' = .ok r s ∧ ∀ {ι : Inj} {m : Nat} {a : Act} {w : World}, RA ι m T a → HR ι S w → ∃ nx w' κ u, (execOp a.eval o).run P w = .ok nx w' ∧ (nx = .value u ∨ nx = .skip ∧ u = undef) ∧ RV κ v u ∧ HR κ S' w' ∧ Ext ι w κ w'
def CallOk (P : Program) (o : Oper) (f : T → (Nat → AV → R) → R) : Prop := ∀ {T : T} {k : Nat → AV → R} {r : AV} {s : St}, f T k = .ok r s →
  ∃ g l, k g l = .ok r s ∧ ∀ {ι : Inj} {m : Nat} {a : Act} {w : World}, RA ι m T a → ∃ vs : List Value, RL ι l vs ∧ ∀ fn, P.funcs[g]? = some fn → (fn.name == "runtime.NumGoroutine") = false → fn.body.isNone = false → (execOp a.eval o).run P w = .ok (.enter g vs.toArray) w
def KdOk (P : Program) (o : Oper) : Kd → Prop
  | .pure f => PureOk P o f
  | .load f => LoadOk P o f
  | .make f => MakeOk P o f
  | .eff f => EffOk P o f
  | .call f => CallOk P o f
  | .no => True

variable {P : Program} {o : Oper}
/-! ### Moving -/
def kMove (x : Operand) : Kd := .pure fun T k => k (opnd x T)
theorem kMove_ok {x : Operand} (ho : o.op = .move x ∨ o.op = .assign x) : KdOk P o (kMove x) := fun {T k r s} h =>
  ⟨_, h, fun {ι m a w} ra => ⟨a.eval x, by rcases ho with ho | ho <;> (unfold execOp; rw [ho]; rfl), opnd_rep ra x⟩⟩
def kPick (c x y : Operand) : Kd := .pure fun T k => onBool (opnd c T) (k (opnd x T)) (k (opnd y T))
theorem kPick_ok {c x y : Operand} (ho : o.op = .pick c x y) : KdOk P o (kPick c x y) := fun {T k r s} h => by
  rcases onBool_inv h with ⟨hc, h⟩ | ⟨hc, h⟩ <;> refine ⟨_, h, fun {ι m a w} ra => ⟨_, ?_, opnd_rep ra _⟩⟩ <;>
    (have e := opnd_rep ra c; rw [hc] at e; have e : a.eval c = _ := e; unfold execOp; rw [ho]; simp [e, asBool])
def nilK (v : AV) (k : R) : R := match v with
  | .ptr _ _ => k
  | .sl _ _ _ _ => k
  | .slu _ _ _ _ => k
  | .map _ => k
  | .iface _ _ => k
  | .fn (.func _) _ _ => k
  | _ => .bad 30
def kNil (x : Operand) : Kd := .pure fun T k => nilK (opnd x T) (k (opnd x T))
theorem kNil_ok {x : Operand} (ho : o.op = .nilCheck x) : KdOk P o (kNil x) := fun {T k r s} h => by
  have h : nilK (opnd x T) (k (opnd x T)) = .ok r s := h
  generalize hv : opnd x T = v at h
  cases v with
  | ptr b i =>
    refine ⟨_, h, fun {ι m a w} ra => ⟨a.eval x, ?_, hv ▸ opnd_rep ra x⟩⟩
    have e := opnd_rep ra x; rw [hv] at e
    obtain ⟨l, -, e⟩ := e
    unfold execOp; rw [ho]; simp [e]
  | sl b i n c =>
    refine ⟨_, h, fun {ι m a w} ra => ⟨a.eval x, ?_, hv ▸ opnd_rep ra x⟩⟩
    have e := opnd_rep ra x; rw [hv] at e
    obtain ⟨l, -, e⟩ := e
    unfold execOp; rw [ho]; simp [e]
  | slu b i n c =>
    refine ⟨_, h, fun {ι m a w} ra => ⟨a.eval x, ?_, hv ▸ opnd_rep ra x⟩⟩
    have e := opnd_rep ra x; rw [hv] at e
    obtain ⟨l, -, ⟨cap, e, -⟩ | ⟨-, cap, e⟩⟩ := e <;> (unfold execOp; rw [ho]; simp [e])
  | map b =>
    refine ⟨_, h, fun {ι m a w} ra => ⟨a.eval x, ?_, hv ▸ opnd_rep ra x⟩⟩
    have e := opnd_rep ra x; rw [hv] at e
    obtain ⟨l, -, e⟩ := e
    unfold execOp; rw [ho]; simp [e]
  | iface t y =>
    refine ⟨_, h, fun {ι m a w} ra => ⟨a.eval x, ?_, hv ▸ opnd_rep ra x⟩⟩
    have e := opnd_rep ra x; rw [hv] at e
    obtain ⟨u, e, -⟩ := e
    unfold execOp; rw [ho]; simp [e]
  | fn f p q =>
    cases f with
    | func g =>
      refine ⟨_, h, fun {ι m a w} ra => ⟨a.eval x, ?_, hv ▸ opnd_rep ra x⟩⟩
      have e := opnd_rep ra x; rw [hv] at e
      obtain ⟨p', q', e, -⟩ := e
      unfold execOp; rw [ho]; simp [e]
    | _ => exact (R.bad_ne h).elim
  | _ => exact (R.bad_ne h).elim
/-! ### One operand -/
def kNot (x : Operand) : Kd := .pure fun T k => onBool (opnd x T) (k (.bool false)) (k (.bool true))
theorem kNot_ok {x : Operand} {t : TypeId} (ho : o.op = .unOp .not t x) : KdOk P o (kNot x) := fun {T k r s} h => by
  rcases onBool_inv h with ⟨hc, h⟩ | ⟨hc, h⟩ <;> refine ⟨_, h, fun {ι m a w} ra => ⟨_, ?_, rfl⟩⟩ <;>
    (have e := opnd_rep ra x; rw [hc] at e; have e : a.eval x = _ := e; unfold execOp; rw [ho]; simp [e, Op.unary])
def kNeg (x : Operand) : Kd := .pure fun T k => onInt (opnd x T) (.bad 31) fun kd n => iK kd (wrapF kd (0 - n)) k
theorem kNeg_ok {x : Operand} {t : TypeId} (ho : o.op = .unOp .neg t x) : KdOk P o (kNeg x) := fun {T k r s} h => by
  rcases onInt_inv h with ⟨kd, n, hc, h⟩ | ⟨-, h⟩
  · rw [iK_eq, wrapF_eq] at h
    refine ⟨_, h, fun {ι m a w} ra => ⟨_, ?_, rfl⟩⟩
    have e := opnd_rep ra x; rw [hc] at e; have e : a.eval x = _ := e
    unfold execOp; rw [ho]; simp [e, Op.unary, Op.intArith]
  · exact (R.bad_ne h).elim
def kConv (P : Program) (src dst : TypeId) (x : Operand) : Kd := match P.underlying src, P.underlying dst with
  | some _, some (.int kd) => .pure fun T k => onInt (opnd x T) (.bad 32) fun _ n => iK kd (wrapF kd n) k
  | some _, some .string => .pure fun T k => match opnd x T with
    | .str n b => k (.str n b)
    | _ => .bad 32
  | _, _ => .no
theorem kConv_ok {src dst : TypeId} {x : Operand} (ho : o.op = .convert src dst x) : KdOk P o (kConv P src dst x) := by
  unfold kConv
  split
  · rename_i d kd h1 h2
    intro T k r s h
    rcases onInt_inv h with ⟨kd', n, hc, h⟩ | ⟨-, h⟩
    · rw [iK_eq, wrapF_eq] at h
      refine ⟨_, h, fun {ι m a w} ra => ⟨_, ?_, rfl⟩⟩
      have e := opnd_rep ra x; rw [hc] at e; have e : a.eval x = _ := e
      unfold execOp; rw [ho]; simp [e, convert, underlying, h1, h2, Conv.intToInt]
    · exact (R.bad_ne h).elim
  · rename_i d h1 h2
    intro T k r s h
    dsimp only at h
    split at h
    · rename_i n b hc
      refine ⟨_, h, fun {ι m a w} ra => ⟨a.eval x, ?_, hc ▸ opnd_rep ra x⟩⟩
      have e := opnd_rep ra x; rw [hc] at e; obtain ⟨z, e, -⟩ := e
      unfold execOp; rw [ho]; simp [e, convert, underlying, h1, h2]
    · exact (R.bad_ne h).elim
  · exact trivial
def kIface (P : Program) (t : TypeId) (x : Operand) : Kd := match P.underlying t with
  | some (.interface _) => .no
  | some _ => .pure fun T k => k (.iface t (opnd x T))
  | none => .no
theorem kIface_ok {t : TypeId} {x : Operand} (ho : o.op = .makeInterface t x) : KdOk P o (kIface P t x) := by
  unfold kIface
  split
  · exact trivial
  · rename_i d h1 h2
    intro T k r s h
    refine ⟨_, h, fun {ι m a w} ra => ⟨.iface t (a.eval x), ?_, ⟨_, rfl, opnd_rep ra x⟩⟩⟩
    unfold execOp; rw [ho]
    simp [Instr.makeInterface, underlying, h2]
  · exact trivial
def kFunc (f : Fn) (x y : Array Operand) : Kd := .pure fun T k => k (.fn f (opndL x.toList T) (opndL y.toList T))
theorem kFunc_ok {f : Fn} {x y : Array Operand} (ho : o.op = .makeFunc f x y) : KdOk P o (kFunc f x y) := fun {T k r s} h =>
  ⟨_, h, fun {ι m a w} ra => ⟨.func f (x.map a.eval) (y.map a.eval), by unfold execOp; rw [ho]; rfl,
    ⟨_, _, rfl, by rw [Array.toList_map]; exact opndL_rep ra _, by rw [Array.toList_map]; exact opndL_rep ra _⟩⟩⟩
def kExtract (x : Operand) (i : Nat) : Kd := .pure fun T k => onTup (opnd x T) fun l => okK (Nat.ble (Nat.succ i) l.len) (k (l.nth i))
theorem kExtract_ok {x : Operand} {i : Nat} (ho : o.op = .extract x i) : KdOk P o (kExtract x i) := fun {T k r s} h => by
  obtain ⟨l, hc, h⟩ := onTup_inv h
  obtain ⟨hi, h⟩ := okK_inv h
  refine ⟨_, h, fun {ι m a w} ra => ?_⟩
  have e := opnd_rep ra x; rw [hc] at e; obtain ⟨z, e, hl⟩ := e
  obtain ⟨u, hu, hr⟩ := hl.nth i (Nat.le_of_ble_eq_true hi)
  refine ⟨u, ?_, hr⟩
  unfold execOp; rw [ho]
  simp at hu
  simp [e, Instr.extract, hu]
/-! ### Parts of structs -/
def isAggD : TypeDesc → Bool
  | .struct _ => true
  | .array _ _ => true
  | _ => false
theorem run_isAgg {t : TypeId} {d : TypeDesc} {w : World} (h : P.underlying t = some d) : (isAgg t).run P w = .ok (isAggD d) w := by
  unfold isAgg underlying
  simp [h]
  cases d <;> rfl
/-- The part of a type at a place. -/
def partA (P : Program) (t : TypeId) (off : Nat) : Option (AV → (AV → R) → R) := match P.underlying t, P.info? t with
  | some d, some i => match isAggD d with
    | true => some fun l k => k (.agg ((l.drop off).take i.size))
    | false => some fun l k => okK (Nat.ble (Nat.succ off) l.len) (k (l.nth off))
  | _, _ => none
theorem run_part {t : TypeId} {off : Nat} {f : AV → (AV → R) → R} (hf : partA P t off = some f) {l : AV} {k : AV → R} {r : AV} {s : St} (h : f l k = .ok r s) :
    ∃ v, k v = .ok r s ∧ ∀ {ι : Inj} {z : Array Value} {w : World}, RL ι l z.toList → ∃ u, (part t z off).run P w = .ok u w ∧ RV ι v u := by
  unfold partA at hf
  split at hf
  · rename_i d i h1 h2
    split at hf
    · rename_i h3
      cases hf
      refine ⟨_, h, fun {ι z w} hl => ⟨.agg (z.extract off (off + i.size)), ?_, ⟨_, rfl, ?_⟩⟩⟩
      · unfold part
        simp [run_isAgg h1, h3, sizeOf, typeInfo, h2]
      · have : (z.extract off (off + i.size)).toList = (z.toList.drop off).take i.size := by simp [Array.toList_extract, List.extract, Nat.add_sub_cancel_left]
        rw [this]
        exact (hl.drop off).take _
    · rename_i h3
      cases hf
      obtain ⟨hi, h⟩ := okK_inv h
      refine ⟨_, h, fun {ι z w} hl => ?_⟩
      obtain ⟨u, hu, hr⟩ := hl.nth off (Nat.le_of_ble_eq_true hi)
      refine ⟨u, ?_, hr⟩
      simp at hu
      unfold part
      simp [run_isAgg h1, h3, hu]
  · cases hf
def kField (P : Program) (t : TypeId) (x : Operand) (i : Nat) : Kd := match P.underlying t with
  | some (.struct fs) => match fs[i]? with
    | some f => match partA P f.type f.offset with
      | some g => .pure fun T k => onAgg (opnd x T) fun l => g l k
      | none => .no
    | none => .no
  | _ => .no
theorem kField_ok {t : TypeId} {x : Operand} {i : Nat} (ho : o.op = .field t x i) : KdOk P o (kField P t x i) := by
  unfold kField
  split
  · rename_i fs h1
    split
    · rename_i f h2
      split
      · rename_i g h3
        intro T k r s h
        obtain ⟨l, hc, h⟩ := onAgg_inv h
        obtain ⟨v, h, hp⟩ := run_part h3 h
        refine ⟨v, h, fun {ι m a w} ra => ?_⟩
        have e := opnd_rep ra x; rw [hc] at e; obtain ⟨z, e, hl⟩ := e
        obtain ⟨u, hu, hr⟩ := hp (w := w) hl
        refine ⟨u, ?_, hr⟩
        unfold execOp; rw [ho]
        simp [e, Instr.field, underlying, h1, h2, asAgg, hu]
      · exact trivial
    · exact trivial
  · exact trivial
end
end Go.Ev
set_option linter.unusedVariables false
set_option linter.unusedSimpArgs false
namespace Go.Ev
open Go
noncomputable section
variable {P : Program} {o : Oper}

/-! ### Strings as numbers -/
theorem packB_cons (b : UInt8) (l : List UInt8) : packB (b :: l) = b.toNat + 256 * packB l := rfl
theorem packB_append : ∀ l m : List UInt8, packB (l ++ m) = packB l + 256 ^ l.length * packB m
  | [], m => by simp [packB]
  | b :: l, m => by
    simp only [List.cons_append, packB_cons, packB_append l m, List.length_cons, Nat.pow_succ]
    rw [Nat.mul_add, ← Nat.mul_assoc, Nat.mul_comm 256 (256 ^ l.length)]; omega
theorem packB_lt : ∀ l : List UInt8, packB l < 256 ^ l.length
  | [] => by simp [packB]
  | b :: l => by
    have h1 := packB_lt l
    have h2 : b.toNat < 256 := UInt8.toNat_lt b
    simp only [packB_cons, List.length_cons, Nat.pow_succ]
    omega
theorem packB_inj : ∀ {l m : List UInt8}, l.length = m.length → packB l = packB m → l = m
  | [], [], _, _ => rfl
  | [], _ :: _, h, _ => by cases h
  | _ :: _, [], h, _ => by cases h
  | b :: l, c :: m, h, e => by
    rw [packB_cons, packB_cons] at e
    have h1 : b.toNat < 256 := UInt8.toNat_lt b
    have h2 : c.toNat < 256 := UInt8.toNat_lt c
    have e1 : b.toNat = c.toNat := by omega
    have e2 : packB l = packB m := by omega
    rw [UInt8.toNat_inj.1 e1, packB_inj (Nat.succ.inj h) e2]
theorem packB_drop : ∀ (i : Nat) (l : List UInt8), packB (l.drop i) = packB l / 256 ^ i
  | 0, l => by simp
  | i + 1, [] => by simp [packB]
  | i + 1, b :: l => by
    have h1 : b.toNat < 256 := UInt8.toNat_lt b
    rw [List.drop_succ_cons, packB_drop i l, packB_cons, Nat.pow_succ, Nat.mul_comm (256 ^ i) 256, ← Nat.div_div_eq_div_mul]
    congr 1; omega
theorem packB_take (i : Nat) (l : List UInt8) (h : i ≤ l.length) : packB (l.take i) = packB l % 256 ^ i := by
  have h1 := packB_append (l.take i) (l.drop i)
  rw [List.take_append_drop, List.length_take, Nat.min_eq_left h] at h1
  have h2 := packB_lt (l.take i)
  rw [List.length_take, Nat.min_eq_left h] at h2
  rw [h1, Nat.add_mul_mod_self_left, Nat.mod_eq_of_lt h2]
theorem packB_get (i : Nat) (l : List UInt8) (c : UInt8) (h : l[i]? = some c) : packB l / 256 ^ i % 256 = c.toNat := by
  rw [← packB_drop]
  obtain ⟨hi, he⟩ := List.getElem?_eq_some_iff.1 h
  rw [List.drop_eq_getElem_cons hi, packB_cons, he]
  have h1 : c.toNat < 256 := UInt8.toNat_lt c
  omega
theorem size_list (s : ByteArray) : s.data.toList.length = s.size := by
  show s.data.toList.length = s.data.size; exact Array.length_toList
theorem str_eq {s t : ByteArray} : (s.size = t.size ∧ packB s.data.toList = packB t.data.toList) ↔ s.toList = t.toList := by
  rw [ByteArray.toList_eq, ByteArray.toList_eq]
  constructor
  · rintro ⟨h1, h2⟩
    exact packB_inj (by rw [size_list, size_list]; exact h1) h2
  · intro h
    refine ⟨?_, by rw [h]⟩
    rw [← size_list, ← size_list, h]

/-! ### Addresses -/
theorem addr_add (b o n : Nat) : (⟨b, o, none⟩ : Addr).add n = ⟨b, o + n, none⟩ := by
  unfold Addr.add; split <;> simp_all
def kFieldAddr (P : Program) (t : TypeId) (x : Operand) (i : Nat) : Kd := match P.underlying t with
  | some (.struct fs) => match fs[i]? with
    | some f => match P.info? f.type with
      | some j => match Nat.beq j.size 0 with
        | true => .no
        | false => .pure fun T k => onPtr (opnd x T) fun b o => fN (Nat.add o f.offset) fun o => k (.ptr b o)
      | none => .no
    | none => .no
  | _ => .no
theorem kFieldAddr_ok {t : TypeId} {x : Operand} {i : Nat} (ho : o.op = .fieldAddr t x i) : KdOk P o (kFieldAddr P t x i) := by
  unfold kFieldAddr
  split
  · rename_i fs h1
    split
    · rename_i f h2
      split
      · rename_i j h3
        split
        · exact trivial
        · rename_i h4
          have h4 : j.size ≠ 0 := Nat.ne_of_beq_eq_false h4
          intro T k r s h
          obtain ⟨b, n, hc, h⟩ := onPtr_inv h
          rw [fN_eq] at h
          refine ⟨_, h, fun {ι m a w} ra => ?_⟩
          have e := opnd_rep ra x; rw [hc] at e; obtain ⟨l, hl, e⟩ := e
          refine ⟨_, ?_, ⟨l, hl, rfl⟩⟩
          unfold execOp; rw [ho]
          simp [e, Instr.fieldAt, underlying, h1, h2, Instr.sureAddr, fieldPlace, sizeOf, typeInfo, h3, h4, addr_add, Nat.add_assoc]
      · exact trivial
    · exact trivial
  · exact trivial
/-- A slice that has a block. -/
def onSl (v : AV) (k : Nat → Nat → Nat → R) : R := match v with
  | .sl b o n _ => k b o n
  | .slu b o n _ => k b o n
  | _ => .bad 33
theorem onSl_inv {v : AV} {k : Nat → Nat → Nat → R} {r : AV} {s : St} (h : onSl v k = .ok r s) : ∃ b o n, ((∃ c, v = .sl b o n c) ∨ ∃ z, v = .slu b o n z) ∧ k b o n = .ok r s := by
  unfold onSl at h
  split at h
  · exact ⟨_, _, _, .inl ⟨_, rfl⟩, h⟩
  · exact ⟨_, _, _, .inr ⟨_, rfl⟩, h⟩
  · exact (R.bad_ne h).elim
theorem rv_sl {ι : Inj} {v : AV} {b i n : Nat} {u : Value} (h : (∃ c, v = .sl b i n c) ∨ ∃ z, v = .slu b i n z) (hn : 0 < n) (hr : RV ι v u) : ∃ l c, ι b = some l ∧ u = .slice (some ⟨l.b, l.d + i, none⟩) n c := by
  rcases h with ⟨c, rfl⟩ | ⟨z, rfl⟩
  · obtain ⟨l, hl, e⟩ := hr; exact ⟨l, c, hl, e⟩
  · obtain ⟨l, hl, ⟨c, e, -⟩ | ⟨h0, -⟩⟩ := hr
    · exact ⟨l, c, hl, e⟩
    · omega
def kIndexAddr (P : Program) (t : TypeId) (x i : Operand) : Kd := match P.underlying t with
  | some (.slice e) => match P.info? e with
    | some j => .pure fun T k => onSl (opnd x T) fun b o n => onNat (opnd i T) fun i => okK (Nat.ble (Nat.succ i) n) (fN (Nat.add o (Nat.mul i j.size)) fun o => k (.ptr b o))
    | none => .no
  | some (.array n e) => match P.info? e with
    | some j => .pure fun T k => onPtr (opnd x T) fun b o => onNat (opnd i T) fun i => okK (Nat.ble (Nat.succ i) n) (fN (Nat.add o (Nat.mul i j.size)) fun o => k (.ptr b o))
    | none => .no
  | _ => .no
theorem kIndexAddr_ok {t : TypeId} {x i : Operand} (ho : o.op = .indexAddr t x i) : KdOk P o (kIndexAddr P t x i) := by
  unfold kIndexAddr
  split
  · rename_i e h1
    split
    · rename_i j h2
      intro T k r s h
      obtain ⟨b, q, n, hc, h⟩ := onSl_inv h
      obtain ⟨kd, y, hi, h⟩ := onNat_inv h
      obtain ⟨hlt, h⟩ := okK_inv h
      have hlt : y < n := Nat.le_of_ble_eq_true hlt
      rw [fN_eq] at h
      refine ⟨_, h, fun {ι m a w} ra => ?_⟩
      obtain ⟨l, c, hl, e1⟩ := rv_sl hc (by omega) (opnd_rep ra x)
      have e2 := opnd_rep ra i; rw [hi] at e2; have e2 : a.eval i = _ := e2
      refine ⟨_, ?_, ⟨l, hl, rfl⟩⟩
      have h3 : (y : Int) < (n : Int) := by omega
      unfold execOp; rw [ho]
      simp [e1, e2, Instr.indexAt, underlying, h1, asIntOf, sizeOf, typeInfo, h2, h3, hlt, addr_add, Nat.add_assoc]
    · exact trivial
  · rename_i n e h1
    split
    · rename_i j h2
      intro T k r s h
      obtain ⟨b, q, hc, h⟩ := onPtr_inv h
      obtain ⟨kd, y, hi, h⟩ := onNat_inv h
      obtain ⟨hlt, h⟩ := okK_inv h
      have hlt : y < n := Nat.le_of_ble_eq_true hlt
      rw [fN_eq] at h
      refine ⟨_, h, fun {ι m a w} ra => ?_⟩
      have e1 := opnd_rep ra x; rw [hc] at e1; obtain ⟨l, hl, e1⟩ := e1
      have e2 := opnd_rep ra i; rw [hi] at e2; have e2 : a.eval i = _ := e2
      refine ⟨_, ?_, ⟨l, hl, rfl⟩⟩
      unfold execOp; rw [ho]
      simp [e1, e2, Instr.indexAt, underlying, h1, asIntOf, Instr.sureAddr, sizeOf, typeInfo, h2, hlt, addr_add, Nat.add_assoc]
    · exact trivial
  · exact trivial
def kIndex (P : Program) (t : TypeId) (x i : Operand) : Kd := match P.underlying t with
  | some .string => .pure fun T k => onNat (opnd i T) fun i => match opnd x T with
    | .str n b => okK (Nat.ble (Nat.succ i) n) (fN (Nat.mod (Nat.div b (Nat.pow 256 i)) 256) fun c => k (.int .u8 (.ofNat c)))
    | _ => .bad 34
  | _ => .no
theorem kIndex_ok {t : TypeId} {x i : Operand} (ho : o.op = .index t x i) : KdOk P o (kIndex P t x i) := by
  unfold kIndex
  split
  · rename_i h1
    intro T k r s h
    obtain ⟨kd, y, hi, h⟩ := onNat_inv h
    split at h
    · rename_i n b hc
      obtain ⟨hlt, h⟩ := okK_inv h
      have hlt : y < n := Nat.le_of_ble_eq_true hlt
      rw [fN_eq] at h
      refine ⟨_, h, fun {ι m a w} ra => ?_⟩
      have e1 := opnd_rep ra x; rw [hc] at e1; obtain ⟨z, e1, hz, hb⟩ := e1
      have e2 := opnd_rep ra i; rw [hi] at e2; have e2 : a.eval i = _ := e2
      have hy : y < z.size := by omega
      have hg : z.data.toList[y]? = some z[y] := by
        rw [List.getElem?_eq_getElem (by rw [size_list]; exact hy)]; rfl
      refine ⟨.int .u8 (.ofNat (z[y]).toNat), ?_, ?_⟩
      · unfold execOp; rw [ho]
        simp [e1, e2, Instr.index, underlying, h1, asIntOf, hy]
      · show Value.int .u8 _ = Value.int .u8 _
        congr 2
        rw [← packB_get y _ _ hg, hb]; rfl
    · exact (R.bad_ne h).elim
  · exact trivial
/-! ### Slicing -/
def ofO (x : Option Operand) (T : T) (d : Nat) (k : Nat → R) : R := match x with
  | none => k d
  | some x => onNat (opnd x T) k
theorem ofO_inv {x : Option Operand} {T : T} {d : Nat} {k : Nat → R} {r : AV} {s : St} (h : ofO x T d k = .ok r s) :
    ∃ n, k n = .ok r s ∧ (x = none → n = d) ∧ ∀ y, x = some y → ∃ kd, ∀ {ι : Inj} {m : Nat} {a : Act}, RA ι m T a → a.eval y = .int kd (.ofNat n) := by
  cases x with
  | none => exact ⟨d, h, fun _ => rfl, fun y e => by cases e⟩
  | some y =>
    obtain ⟨kd, n, hc, h⟩ := onNat_inv h
    refine ⟨n, h, (fun e => by cases e), fun z e => ?_⟩
    cases e
    refine ⟨kd, fun {ι m a} ra => ?_⟩
    have e := opnd_rep ra y; rw [hc] at e; exact e
theorem run_bound {w : World} {kd : IntKind} {n y : Nat} {c : BoundsCode} (h : n ≤ y) : (Instr.sliceBound (.int kd (n : Int)) y c).run P w = .ok n w := by
  unfold Instr.sliceBound
  have h1 : (n : Int) ≤ (y : Int) := by omega
  simp [asIntOf, h1, h]
theorem run_bounds {w : World} {isS : Bool} {len cap : Nat} {a : Act} {lo hi mx : Option Operand} {l h m : Nat} (hm : mx.isSome = true → hi.isSome = true)
    (h1 : lo = none → l = 0) (h2 : hi = none → h = len) (h3 : mx = none → m = cap)
    (g1 : ∀ y, lo = some y → ∃ kd, a.eval y = .int kd (.ofNat l)) (g2 : ∀ y, hi = some y → ∃ kd, a.eval y = .int kd (.ofNat h)) (g3 : ∀ y, mx = some y → ∃ kd, a.eval y = .int kd (.ofNat m))
    (hl : l ≤ h) (hh : hi.isSome = true → h ≤ m) (hc : m ≤ cap) : (Instr.sliceBounds isS len cap (lo.map a.eval) (hi.map a.eval) (mx.map a.eval)).run P w = .ok (l, h, m) w := by
  unfold Instr.sliceBounds
  cases mx with
  | none =>
    obtain rfl := h3 rfl
    cases hi with
    | none =>
      obtain rfl := h2 rfl
      cases lo with
      | none => obtain rfl := h1 rfl; simp
      | some y => obtain ⟨kd, e⟩ := g1 y rfl; simp only [Option.map_some, Option.map_none, e]; simp [run_bound hl]
    | some z =>
      obtain ⟨kz, ez⟩ := g2 z rfl
      cases lo with
      | none => obtain rfl := h1 rfl; simp only [Option.map_some, Option.map_none, ez]; simp [run_bound (hh rfl)]
      | some y => obtain ⟨kd, e⟩ := g1 y rfl; simp only [Option.map_some, Option.map_none, e, ez]; simp [run_bound hl, run_bound (hh rfl)]
  | some x =>
    obtain ⟨kx, ex⟩ := g3 x rfl
    cases hi with
    | none => exact absurd (hm rfl) (by simp)
    | some z =>
      obtain ⟨kz, ez⟩ := g2 z rfl
      cases lo with
      | none => obtain rfl := h1 rfl; simp only [Option.map_some, Option.map_none, ez, ex]; simp [run_bound (hh rfl), run_bound hc]
      | some y => obtain ⟨kd, e⟩ := g1 y rfl; simp only [Option.map_some, e, ez, ex]; simp [run_bound hl, run_bound (hh rfl), run_bound hc]
/-- A slice of something that has a known capacity: from cell o of block b on, n elements of sz cells, c at most. -/
def sliceK (sz b o n c : Nat) (lo hi mx : Option Operand) (T : T) (k : AV → R) : R := ofO lo T 0 fun l => ofO hi T n fun h => ofO mx T c fun m =>
  okK (Nat.ble l h) (okK (Nat.ble h m) (okK (Nat.ble m c) (fN (Nat.add o (Nat.mul (cond (Nat.beq m l) 0 l) sz)) fun o => fN (Nat.sub h l) fun n => fN (Nat.sub m l) fun c => k (.sl b o n c))))
def sliceU (sz b o n : Nat) (lo hi mx : Option Operand) (T : T) (k : AV → R) : R := match mx with
  | none => ofO lo T 0 fun l => ofO hi T n fun h => okK (Nat.ble l h) (okK (Nat.ble h n) (fN (Nat.add o (Nat.mul l sz)) fun o => fN (Nat.sub h l) fun n => k (.slu b o n sz)))
  | some _ => sliceK sz b o n n lo hi mx T k
def mxOk (hi mx : Option Operand) : Bool := match hi, mx with
  | none, some _ => false
  | _, _ => true
theorem mxOk_spec {hi mx : Option Operand} (h : mxOk hi mx = true) : mx.isSome = true → hi.isSome = true := by
  cases hi <;> cases mx <;> simp_all [mxOk]
def kSlice (P : Program) (t : TypeId) (x : Operand) (lo hi mx : Option Operand) : Kd := match mxOk hi mx, P.underlying t with
  | true, some .string => match mx with
    | none => .pure fun T k => match opnd x T with
      | .str n b => ofO lo T 0 fun l => ofO hi T n fun h => okK (Nat.ble l h) (okK (Nat.ble h n) (fN (Nat.sub h l) fun m => fN (Nat.mod (Nat.div b (Nat.pow 256 l)) (Nat.pow 256 m)) fun b => k (.str m b)))
      | _ => .bad 35
    | some _ => .no
  | true, some (.slice e) => match P.info? e with
    | some j => .pure fun T k => match opnd x T with
      | .snil => ofO lo T 0 fun l => ofO hi T 0 fun h => ofO mx T 0 fun m => okK (Nat.beq l 0) (okK (Nat.beq h 0) (okK (Nat.beq m 0) (k .snil)))
      | .sl b o n c => sliceK j.size b o n c lo hi mx T k
      | .slu b o n sz => okK (Nat.beq sz j.size) (okK (Nat.ble 1 n) (sliceU j.size b o n lo hi mx T k))
      | _ => .bad 35
    | none => .no
  | true, some (.array n e) => match P.info? e with
    | some j => .pure fun T k => onPtr (opnd x T) fun b o => sliceK j.size b o n n lo hi mx T k
    | none => .no
  | _, _ => .no
theorem sliceK_inv {sz b q n c : Nat} {lo hi mx : Option Operand} {T : T} {k : AV → R} {r : AV} {s : St} (hmx : mxOk hi mx = true) (h : sliceK sz b q n c lo hi mx T k = .ok r s) :
    ∃ l y m, k (.sl b (q + (if m = l then 0 else l) * sz) (y - l) (m - l)) = .ok r s ∧ l ≤ y ∧ y ≤ m ∧ m ≤ c ∧
      ∀ {ι : Inj} {mm : Nat} {a : Act} {w : World} {isS : Bool} (cap : Nat), (mx = none → cap = c) → c ≤ cap → RA ι mm T a → (Instr.sliceBounds isS n cap (lo.map a.eval) (hi.map a.eval) (mx.map a.eval)).run P w = .ok (l, y, m) w := by
  obtain ⟨l, h, a1, b1⟩ := ofO_inv h
  obtain ⟨y, h, a2, b2⟩ := ofO_inv h
  obtain ⟨m, h, a3, b3⟩ := ofO_inv h
  obtain ⟨c1, h⟩ := okK_inv h
  obtain ⟨c2, h⟩ := okK_inv h
  obtain ⟨c3, h⟩ := okK_inv h
  have c1 := Nat.le_of_ble_eq_true c1
  have c2 := Nat.le_of_ble_eq_true c2
  have c3 := Nat.le_of_ble_eq_true c3
  rw [fN_eq, fN_eq, fN_eq] at h
  have e : cond (Nat.beq m l) 0 l = if m = l then 0 else l := by
    by_cases e : m = l
    · subst e; simp
    · rw [if_neg e, show Nat.beq m l = false from by rw [Bool.eq_false_iff]; exact fun h => e (Nat.eq_of_beq_eq_true h)]; rfl
  rw [e] at h
  exact ⟨l, y, m, h, c1, c2, c3, fun {ι mm a w isS} cap hcap hc ra => run_bounds (mxOk_spec hmx) a1 a2 (fun e => (a3 e).trans (hcap e).symm) (fun y e => (b1 y e).imp fun _ h => h ra) (fun y e => (b2 y e).imp fun _ h => h ra) (fun y e => (b3 y e).imp fun _ h => h ra) c1 (fun _ => c2) (Nat.le_trans c3 hc)⟩
theorem rv_slice {ι : Inj} {b q l y m sz : Nat} {L : Loc} (hb : ι b = some L) : RV ι (.sl b (q + (if m = l then 0 else l) * sz) (y - l) (m - l))
    (.slice (if m = l then some ⟨L.b, L.d + q, none⟩ else some ((⟨L.b, L.d + q, none⟩ : Addr).add (l * sz))) (y - l) (m - l)) := by
  refine ⟨L, hb, ?_⟩
  by_cases e : m = l
  · simp [e]
  · simp [e, addr_add, Nat.add_assoc]
theorem kSlice_ok {t : TypeId} {x : Operand} {lo hi mx : Option Operand} (ho : o.op = .slice t x lo hi mx) : KdOk P o (kSlice P t x lo hi mx) := by
  unfold kSlice
  split
  · rename_i hmx h1
    split
    · intro T k r s h
      dsimp only at h
      split at h
      · rename_i n b hc
        obtain ⟨l, h, a1, b1⟩ := ofO_inv h
        obtain ⟨y, h, a2, b2⟩ := ofO_inv h
        obtain ⟨c1, h⟩ := okK_inv h
        obtain ⟨c2, h⟩ := okK_inv h
        have c1 := Nat.le_of_ble_eq_true c1
        have c2 := Nat.le_of_ble_eq_true c2
        rw [fN_eq, fN_eq] at h
        refine ⟨_, h, fun {ι mm a w} ra => ?_⟩
        have e1 := opnd_rep ra x; rw [hc] at e1; obtain ⟨z, e1, hz, hb⟩ := e1
        have hr := run_bounds (P := P) (w := w) (isS := false) (len := z.size) (cap := z.size) (a := a) (lo := lo) (hi := hi) (mx := none) (l := l) (h := y) (m := z.size) (by simp) a1 (by rw [hz]; exact a2) (fun _ => rfl)
          (fun y e => (b1 y e).imp fun _ h => h ra) (fun y e => (b2 y e).imp fun _ h => h ra) (fun y e => by cases e) c1 (fun _ => by omega) (Nat.le_refl _)
        simp only [Option.map_none] at hr
        refine ⟨.string (z.extract l y), ?_, ⟨_, rfl, ?_, ?_⟩⟩
        · unfold execOp; rw [ho]
          simp [e1, Instr.sliceAt, Instr.slice, underlying, h1, hr]
        · simp
          first | done | omega
        · have hd : (z.extract l y).data.toList = (z.data.toList.drop l).take (y - l) := by
            rw [ByteArray.data_extract, Array.toList_extract]
            first | done | rfl
          rw [hd, packB_take _ _ (by rw [List.length_drop, size_list]; omega), packB_drop, hb]
          first | done | rfl
      · exact (R.bad_ne h).elim
    · exact trivial
  · rename_i e hmx h1
    split
    · rename_i j h2
      intro T k r s h
      dsimp only at h
      split at h
      · rename_i hc
        obtain ⟨l, h, a1, b1⟩ := ofO_inv h
        obtain ⟨y, h, a2, b2⟩ := ofO_inv h
        obtain ⟨m, h, a3, b3⟩ := ofO_inv h
        obtain ⟨c1, h⟩ := okK_inv h
        obtain ⟨c2, h⟩ := okK_inv h
        obtain ⟨c3, h⟩ := okK_inv h
        obtain rfl := Nat.eq_of_beq_eq_true c1
        obtain rfl := Nat.eq_of_beq_eq_true c2
        obtain rfl := Nat.eq_of_beq_eq_true c3
        refine ⟨_, h, fun {ι mm a w} ra => ⟨.slice none 0 0, ?_, rfl⟩⟩
        have e1 := opnd_rep ra x; rw [hc] at e1; have e1 : a.eval x = _ := e1
        have hr := run_bounds (P := P) (w := w) (isS := true) (len := 0) (cap := 0) (a := a) (lo := lo) (hi := hi) (mx := mx) (l := 0) (h := 0) (m := 0) (mxOk_spec hmx) a1 a2 a3
          (fun y e => (b1 y e).imp fun _ h => h ra) (fun y e => (b2 y e).imp fun _ h => h ra) (fun y e => (b3 y e).imp fun _ h => h ra) (Nat.le_refl _) (fun _ => Nat.le_refl _) (Nat.le_refl _)
        unfold execOp; rw [ho]
        simp [e1, Instr.sliceAt, Instr.slice, underlying, h1, hr, sizeOf, typeInfo, h2]
      · rename_i b q n c hc
        obtain ⟨l, y, m, h, c1, c2, c3, hr⟩ := sliceK_inv (P := P) hmx h
        refine ⟨_, h, fun {ι mm a w} ra => ?_⟩
        have e1 := opnd_rep ra x; rw [hc] at e1; obtain ⟨L, hL, e1⟩ := e1
        refine ⟨_, ?_, rv_slice hL⟩
        unfold execOp; rw [ho]
        simp [e1, Instr.sliceAt, Instr.slice, underlying, h1, hr _ (fun _ => rfl) (Nat.le_refl _) ra, sizeOf, typeInfo, h2]
      · rename_i b q n sz hc
        obtain ⟨d1, g1⟩ := okK_inv h
        obtain ⟨d2, g2⟩ := okK_inv g1
        clear g1 h
        obtain rfl := Nat.eq_of_beq_eq_true d1
        have d2 := Nat.le_of_ble_eq_true d2
        unfold sliceU at g2
        cases mx with
        | none =>
          dsimp only at g2
          obtain ⟨l, h, a1, b1⟩ := ofO_inv g2
          obtain ⟨y, h, a2, b2⟩ := ofO_inv h
          obtain ⟨c1, h⟩ := okK_inv h
          obtain ⟨c2, h⟩ := okK_inv h
          have c1 := Nat.le_of_ble_eq_true c1
          have c2 := Nat.le_of_ble_eq_true c2
          rw [fN_eq, fN_eq] at h
          refine ⟨_, h, fun {ι mm a w} ra => ?_⟩
          have e1 := opnd_rep ra x; rw [hc] at e1; obtain ⟨L, hL, ⟨cap, e1, hcap, hnc, h63⟩ | ⟨h0, -⟩⟩ := e1
          · have hr := run_bounds (P := P) (w := w) (isS := true) (len := n) (cap := cap) (a := a) (lo := lo) (hi := hi) (mx := none) (l := l) (h := y) (m := cap) (by simp) a1 a2 (fun _ => rfl)
              (fun y e => (b1 y e).imp fun _ h => h ra) (fun y e => (b2 y e).imp fun _ h => h ra) (fun y e => by cases e) c1 (fun _ => by omega) (Nat.le_refl _)
            simp only [Option.map_none] at hr
            refine ⟨.slice (if cap = l then some ⟨L.b, L.d + q, none⟩ else some ((⟨L.b, L.d + q, none⟩ : Addr).add (l * j.size))) (y - l) (cap - l), ?_, ⟨L, hL, ?_⟩⟩
            · unfold execOp; rw [ho]
              simp [e1, Instr.sliceAt, Instr.slice, underlying, h1, hr, sizeOf, typeInfo, h2]
            · by_cases e : cap = l
              · right
                refine ⟨by show Nat.sub y l = 0; show y - l = 0; omega, ⟨L.b, L.d + q, none⟩, ?_⟩
                rw [if_pos e, show y - l = 0 by omega, show cap - l = 0 by omega]
              · left
                refine ⟨cap - l, ?_, ?_, ?_, ?_⟩
                · rw [if_neg e, addr_add, Nat.add_assoc]; rfl
                · show q + l * j.size + (cap - l) * j.size = L.s
                  rw [← hcap, Nat.add_assoc, ← Nat.add_mul, show l + (cap - l) = cap by omega]
                · show y - l ≤ cap - l; omega
                · omega
          · omega
        | some mx' =>
          dsimp only at g2
          obtain ⟨l, y, m, h, c1, c2, c3, hr⟩ := sliceK_inv (P := P) hmx g2
          refine ⟨_, h, fun {ι mm a w} ra => ?_⟩
          have e1 := opnd_rep ra x; rw [hc] at e1; obtain ⟨L, hL, ⟨cap, e1, hcap, hnc, h63⟩ | ⟨h0, -⟩⟩ := e1
          · refine ⟨.slice (if m = l then some ⟨L.b, L.d + q, none⟩ else some ((⟨L.b, L.d + q, none⟩ : Addr).add (l * j.size))) (y - l) (m - l), ?_, rv_slice hL⟩
            have hr2 := hr (w := w) (isS := true) cap (fun e => by cases e) hnc ra
            simp only [Option.map_some] at hr2
            unfold execOp; rw [ho]
            simp [e1, Instr.sliceAt, Instr.slice, underlying, h1, hr2, sizeOf, typeInfo, h2]
          · omega
      · exact (R.bad_ne h).elim
    · exact trivial
  · rename_i n e hmx h1
    split
    · rename_i j h2
      intro T k r s h
      obtain ⟨b, q, hc, h⟩ := onPtr_inv h
      obtain ⟨l, y, m, h, c1, c2, c3, hr⟩ := sliceK_inv (P := P) hmx h
      refine ⟨_, h, fun {ι mm a w} ra => ?_⟩
      have e1 := opnd_rep ra x; rw [hc] at e1; obtain ⟨L, hL, e1⟩ := e1
      refine ⟨_, ?_, rv_slice hL⟩
      unfold execOp; rw [ho]
      simp [e1, Instr.sliceAt, underlying, h1, hr _ (fun _ => rfl) (Nat.le_refl _) ra, sizeOf, typeInfo, h2, Instr.sureAddr]
      by_cases e : m = l <;> simp [e]
    · exact trivial
  · exact trivial
end
end Go.Ev
set_option linter.unusedVariables false
set_option linter.unusedSimpArgs false
namespace Go.Ev
open Go
noncomputable section
variable {P : Program} {o : Oper}

abbrev B2 := IntKind → Int → Int → (AV → R) → R
def binI : BinOp → Option B2
  | .add => some fun kd x y k => iK kd (wrapF kd (x + y)) k
  | .sub => some fun kd x y k => iK kd (wrapF kd (x - y)) k
  | .mul => some fun kd x y k => iK kd (wrapF kd (x * y)) k
  | .quo => some fun kd x y k => okK (!eqI y 0) (iK kd (wrapF kd (x.tdiv y)) k)
  | .rem => some fun kd x y k => okK (!eqI y 0) (iK kd (x.tmod y) k)
  | .and => some fun kd x y k => iK kd (wrapF kd (BitVec.ofInt kd.bits x &&& BitVec.ofInt kd.bits y).toNat) k
  | .or => some fun kd x y k => iK kd (wrapF kd (BitVec.ofInt kd.bits x ||| BitVec.ofInt kd.bits y).toNat) k
  | .xor => some fun kd x y k => iK kd (wrapF kd (BitVec.ofInt kd.bits x ^^^ BitVec.ofInt kd.bits y).toNat) k
  | .andNot => some fun kd x y k => iK kd (wrapF kd (BitVec.ofInt kd.bits x &&& ~~~BitVec.ofInt kd.bits y).toNat) k
  | .eql => some fun _ x y k => bK (eqI x y) k
  | .neq => some fun _ x y k => bK (!eqI x y) k
  | .lss => some fun _ x y k => bK (!leI y x) k
  | .leq => some fun _ x y k => bK (leI x y) k
  | .gtr => some fun _ x y k => bK (!leI x y) k
  | .geq => some fun _ x y k => bK (leI y x) k
  | .shl | .shr => none
theorem not_le_dec (x y : Int) : (!decide (x ≤ y)) = decide (y < x) := by rw [Bool.eq_iff_iff]; simp
theorem binI_ok {op : BinOp} {f : B2} (hf : binI op = some f) {kd : IntKind} {x y : Int} {k : AV → R} {r : AV} {s : St} (h : f kd x y k = .ok r s) :
    ∃ v, k v = .ok r s ∧ ∀ {ι : Inj} {t : TypeId} {w : World}, ∃ u, (binOp op t (.int kd x) (.int kd y)).run P w = .ok u w ∧ RV ι v u := by
  cases op <;> simp only [binI, Option.some.injEq] at hf <;> first | (cases hf; done) | skip
  all_goals subst hf
  all_goals try (simp only [iK_eq, wrapF_eq, bK_eq, leI_eq, eqI_eq] at h)
  case add => exact ⟨_, h, fun {ι t w} => ⟨_, by simp [binOp, Op.intArith], rfl⟩⟩
  case sub => exact ⟨_, h, fun {ι t w} => ⟨_, by simp [binOp, Op.intArith], rfl⟩⟩
  case mul => exact ⟨_, h, fun {ι t w} => ⟨_, by simp [binOp, Op.intArith], rfl⟩⟩
  case quo =>
    obtain ⟨hy, h⟩ := okK_inv h
    have hy : y ≠ 0 := by simpa using hy
    exact ⟨_, h, fun {ι t w} => ⟨_, by simp [binOp, Op.intDiv, hy], rfl⟩⟩
  case rem =>
    obtain ⟨hy, h⟩ := okK_inv h
    have hy : y ≠ 0 := by simpa using hy
    exact ⟨_, h, fun {ι t w} => ⟨_, by simp [binOp, Op.intDiv, hy], rfl⟩⟩
  case and => exact ⟨_, h, fun {ι t w} => ⟨_, by simp [binOp, Op.intBits], rfl⟩⟩
  case or => exact ⟨_, h, fun {ι t w} => ⟨_, by simp [binOp, Op.intBits], rfl⟩⟩
  case xor => exact ⟨_, h, fun {ι t w} => ⟨_, by simp [binOp, Op.intBits], rfl⟩⟩
  case andNot => exact ⟨_, h, fun {ι t w} => ⟨_, by simp [binOp, Op.intBits], rfl⟩⟩
  case eql => exact ⟨_, h, fun {ι t w} => ⟨.bool (decide (x = y)), by simp [binOp, Op.intCmp]; rfl, rfl⟩⟩
  case neq => exact ⟨_, h, fun {ι t w} => ⟨.bool (!decide (x = y)), by simp [binOp, Op.intCmp]; rfl, rfl⟩⟩
  case lss => exact ⟨_, h, fun {ι t w} => ⟨.bool (!decide (y ≤ x)), by rw [not_le_dec]; simp [binOp, Op.intCmp], rfl⟩⟩
  case leq => exact ⟨_, h, fun {ι t w} => ⟨.bool (decide (x ≤ y)), by simp [binOp, Op.intCmp], rfl⟩⟩
  case gtr => exact ⟨_, h, fun {ι t w} => ⟨.bool (!decide (x ≤ y)), by rw [not_le_dec]; simp [binOp, Op.intCmp], rfl⟩⟩
  case geq => exact ⟨_, h, fun {ι t w} => ⟨.bool (decide (y ≤ x)), by simp [binOp, Op.intCmp], rfl⟩⟩
theorem guard_int {op : BinOp} {t : TypeId} {x y : Operand} {k k' : IntKind} {a b : Int} {w : World} : (eqGuard op t x y (.int k a) (.int k' b)).run P w = .ok () w := by
  cases op <;> rfl
theorem guard_str {op : BinOp} {t : TypeId} {x y : Operand} {a b : ByteArray} {w : World} : (eqGuard op t x y (.string a) (.string b)).run P w = .ok () w := by
  cases op <;> rfl
def kInt (f : B2) (x y : Operand) : Kd := .pure fun T k => onInt (opnd x T) (.bad 40) fun kx a => onInt (opnd y T) (.bad 40) fun ky b => okK (eqKd kx ky) (f kx a b k)
theorem kInt_ok {op : BinOp} {f : B2} (hf : binI op = some f) {t u : TypeId} {x y : Operand} (ho : o.op = .binOp op t x y u) : KdOk P o (kInt f x y) := fun {T k r s} h => by
  rcases onInt_inv h with ⟨kx, a, h1, h⟩ | ⟨-, h⟩
  · rcases onInt_inv h with ⟨ky, b, h2, h⟩ | ⟨-, h⟩
    · obtain ⟨hk, g⟩ := okK_inv h
      clear h
      obtain rfl := eqKd_eq hk
      obtain ⟨v, h, hv⟩ := binI_ok (P := P) hf g
      refine ⟨v, h, fun {ι m ac w} ra => ?_⟩
      have e1 := opnd_rep ra x; rw [h1] at e1; have e1 : ac.eval x = _ := e1
      have e2 := opnd_rep ra y; rw [h2] at e2; have e2 : ac.eval y = _ := e2
      obtain ⟨u', hu, hr⟩ := hv (ι := ι) (t := t) (w := w)
      refine ⟨u', ?_, hr⟩
      unfold execOp; rw [ho]
      simp [e1, e2, guard_int, hu]
    · exact (R.bad_ne h).elim
  · exact (R.bad_ne h).elim
def kShift (left : Bool) (x y : Operand) : Kd := .pure fun T k => onInt (opnd x T) (.bad 41) fun kx a => onNat (opnd y T) fun b =>
  match left with
  | true => iK kx (wrapF kx (a * 2 ^ (min b kx.bits))) k
  | false => iK kx (a.fdiv (2 ^ (min b kx.bits))) k
theorem kShift_ok {left : Bool} {t u : TypeId} {x y : Operand} (ho : o.op = .binOp (if left then .shl else .shr) t x y u) : KdOk P o (kShift left x y) := fun {T k r s} h => by
  rcases onInt_inv h with ⟨kx, a, h1, h⟩ | ⟨-, h⟩
  · obtain ⟨ky, b, h2, h⟩ := onNat_inv h
    cases left with
    | true =>
      simp only [iK_eq, wrapF_eq] at h
      refine ⟨_, h, fun {ι m ac w} ra => ⟨_, ?_, rfl⟩⟩
      have e1 := opnd_rep ra x; rw [h1] at e1; have e1 : ac.eval x = _ := e1
      have e2 := opnd_rep ra y; rw [h2] at e2; have e2 : ac.eval y = _ := e2
      have hb : ¬ ((b : Int) < 0) := by omega
      unfold execOp; rw [ho]
      simp [e1, e2, guard_int, binOp, Op.shift, hb]
    | false =>
      simp only [iK_eq] at h
      refine ⟨_, h, fun {ι m ac w} ra => ⟨_, ?_, rfl⟩⟩
      have e1 := opnd_rep ra x; rw [h1] at e1; have e1 : ac.eval x = _ := e1
      have e2 := opnd_rep ra y; rw [h2] at e2; have e2 : ac.eval y = _ := e2
      have hb : ¬ ((b : Int) < 0) := by omega
      unfold execOp; rw [ho]
      simp [e1, e2, guard_int, binOp, Op.shift, hb]
  · exact (R.bad_ne h).elim
/-! ### Strings -/
def onStr (v : AV) (k : Nat → Nat → R) : R := match v with
  | .str n b => k n b
  | _ => .bad 42
theorem onStr_inv {v : AV} {k : Nat → Nat → R} {r : AV} {s : St} (h : onStr v k = .ok r s) : ∃ n b, v = .str n b ∧ k n b = .ok r s := by
  unfold onStr at h
  split at h
  · exact ⟨_, _, rfl, h⟩
  · exact (R.bad_ne h).elim
def kStrEq (neg : Bool) (x y : Operand) : Kd := .pure fun T k => onStr (opnd x T) fun n a => onStr (opnd y T) fun m b => bK (Bool.xor neg (Nat.beq n m && Nat.beq a b)) k
theorem kStrEq_ok {neg : Bool} {t u : TypeId} {x y : Operand} (ho : o.op = .binOp (if neg then .neq else .eql) t x y u) : KdOk P o (kStrEq neg x y) := fun {T k r s} h => by
  obtain ⟨n, a, h1, h⟩ := onStr_inv h
  obtain ⟨m, b, h2, h⟩ := onStr_inv h
  rw [bK_eq] at h
  refine ⟨_, h, fun {ι mm ac w} ra => ⟨_, ?_, rfl⟩⟩
  have e1 := opnd_rep ra x; rw [h1] at e1; obtain ⟨p, e1, hp, hpa⟩ := e1
  have e2 := opnd_rep ra y; rw [h2] at e2; obtain ⟨q, e2, hq, hqa⟩ := e2
  have hb : (Nat.beq n m && Nat.beq a b) = (p.toList == q.toList) := by
    rw [Bool.eq_iff_iff, Bool.and_eq_true, beq_iff_eq, ← str_eq, ← hp, ← hq, ← hpa, ← hqa, Nat.beq_eq, Nat.beq_eq]
  rw [hb]
  unfold execOp; rw [ho]
  cases neg <;> simp [e1, e2, guard_str, binOp, Op.stringOp]
def kStrAdd (x y : Operand) : Kd := .pure fun T k => onStr (opnd x T) fun n a => onStr (opnd y T) fun m b => fN (Nat.add n m) fun l => okK (Nat.ble l 1000000) (fN (Nat.add a (Nat.mul (Nat.pow 256 n) b)) fun c => k (.str l c))
theorem kStrAdd_ok {t u : TypeId} {x y : Operand} (ho : o.op = .binOp .add t x y u) : KdOk P o (kStrAdd x y) := fun {T k r s} h => by
  obtain ⟨n, a, h1, h⟩ := onStr_inv h
  obtain ⟨m, b, h2, h⟩ := onStr_inv h
  rw [fN_eq] at h
  obtain ⟨hl, h⟩ := okK_inv h
  rw [fN_eq] at h
  have hl : n + m ≤ 1000000 := Nat.le_of_ble_eq_true hl
  refine ⟨_, h, fun {ι mm ac w} ra => ?_⟩
  have e1 := opnd_rep ra x; rw [h1] at e1; obtain ⟨p, e1, hp, hpa⟩ := e1
  have e2 := opnd_rep ra y; rw [h2] at e2; obtain ⟨q, e2, hq, hqa⟩ := e2
  refine ⟨.string (p ++ q), ?_, ⟨p ++ q, rfl, ?_, ?_⟩⟩
  · unfold execOp; rw [ho]
    have hm : ¬ (((p.size + q.size : Nat) : Int) > IntKind.i64.max) := by
      rw [hp, hq]; simp only [IntKind.max, IntKind.signed, IntKind.bits, if_true]; omega
    have hs : (Op.stringOp .add p q).run P w = .ok (.string (p ++ q)) w := by
      unfold Op.stringOp
      dsimp only
      rw [if_neg hm]; rfl
    simp [e1, e2, guard_str, binOp, hs]
  · rw [ByteArray.size_append, hp, hq]; rfl
  · rw [ByteArray.data_append, Array.toList_append, packB_append, size_list, hp, hpa, hqa]; rfl
/-! ### Comparison with nil, and of Booleans -/
/-- Whether two values are equal, where that is seen from them alone. -/
def eqA (x y : AV) : Option Bool := match x, y with
  | .bool a, .bool b => some (a == b)
  | .pnil, .pnil => some true
  | .pnil, .ptr _ _ => some false
  | .ptr _ _, .pnil => some false
  | .snil, .snil => some true
  | .snil, .sl _ _ _ _ => some false
  | .snil, .slu _ _ _ _ => some false
  | .sl _ _ _ _, .snil => some false
  | .slu _ _ _ _, .snil => some false
  | .mnil, .mnil => some true
  | .mnil, .map _ => some false
  | .map _, .mnil => some false
  | .fnil, .fnil => some true
  | .fnil, .fn _ _ _ => some false
  | .fn _ _ _, .fnil => some false
  | .inil, .iface _ _ => some false
  | .iface _ _, .inil => some false
  | _, _ => none
def eqD (d : TypeDesc) (x : AV) : Bool := match d, x with
  | .bool, .bool _ => true
  | .pointer _, .pnil => true
  | .pointer _, .ptr _ _ => true
  | .slice _, .snil => true
  | .slice _, .sl _ _ _ _ => true
  | .slice _, .slu _ _ _ _ => true
  | .map _ _, .mnil => true
  | .map _ _, .map _ => true
  | .func _ _ _, .fnil => true
  | .func _ _ _, .fn _ _ _ => true
  | .interface _, .inil => true
  | .interface _, .iface _ _ => true
  | _, _ => false
theorem run_equalIn {n : Nat} {t : TypeId} {d : TypeDesc} (ht : P.underlying t = some d) {u v : Value} {w : World} {b : Bool}
    (h : (match d, u, v with
      | .bool, .bool a, .bool b => some (a == b)
      | .pointer _, .pointer none, .pointer b => some b.isNone
      | .pointer _, .pointer (some _), .pointer none => some false
      | .slice _, .slice none _ _, .slice b _ _ => some b.isNone
      | .slice _, .slice (some _) _ _, .slice none _ _ => some false
      | .map _ _, .map none, .map b => some b.isNone
      | .map _ _, .map (some _), .map none => some false
      | .func _ _ _, .nilFunc, .nilFunc => some true
      | .func _ _ _, .nilFunc, .func _ _ _ => some false
      | .func _ _ _, .func _ _ _, .nilFunc => some false
      | .interface _, .nilIface, .iface _ _ => some false
      | .interface _, .iface _ _, .nilIface => some false
      | _, _, _ => none) = some b) : (Op.equalIn (n + 1) t u v).run P w = .ok b w := by
  split at h <;> cases h <;> (rename_i ht2; simp [Op.equalIn, underlying, ht2])
theorem eqA_ok {d : TypeDesc} {x y : AV} {b : Bool} (h : eqA x y = some b) (hd : eqD d x = true) {t : TypeId} (ht : P.underlying t = some d) {ι : Inj} {u v : Value} (hu : RV ι x u) (hv : RV ι y v) {w : World} :
    (Op.equal t u v).run P w = .ok b w := by
  show (Op.equalIn (9999 + 1) t u v).run P w = _
  generalize 9999 = n
  refine run_equalIn ht ?_
  unfold eqA at h
  split at h <;> cases h <;> cases d <;> (try (cases hd; done))
  · cases hu; cases hv; rfl
  · cases hu; cases hv; rfl
  · cases hu; obtain ⟨_, -, rfl⟩ := hv; rfl
  · cases hv; obtain ⟨_, -, rfl⟩ := hu; rfl
  · cases hu; cases hv; rfl
  · cases hu; obtain ⟨_, -, rfl⟩ := hv; rfl
  · cases hu; obtain ⟨_, -, ⟨_, rfl, -⟩ | ⟨-, _, rfl⟩⟩ := hv <;> rfl
  · cases hv; obtain ⟨_, -, rfl⟩ := hu; rfl
  · cases hv; obtain ⟨_, -, ⟨_, rfl, -⟩ | ⟨-, _, rfl⟩⟩ := hu <;> rfl
  · cases hu; cases hv; rfl
  · cases hu; obtain ⟨_, -, rfl⟩ := hv; rfl
  · cases hv; obtain ⟨_, -, rfl⟩ := hu; rfl
  · cases hu; cases hv; rfl
  · cases hu; obtain ⟨_, _, rfl, -⟩ := hv; rfl
  · cases hv; obtain ⟨_, _, rfl, -⟩ := hu; rfl
  · cases hu; obtain ⟨_, rfl, -⟩ := hv; rfl
  · cases hv; obtain ⟨_, rfl, -⟩ := hu; rfl
theorem eqA_guard {x y : AV} {b : Bool} (h : eqA x y = some b) {ι : Inj} {u v : Value} (hu : RV ι x u) (hv : RV ι y v) {op : BinOp} {t : TypeId} {p q : Operand} {w : World} :
    (eqGuard op t p q u v).run P w = .ok () w := by
  unfold eqA at h
  split at h <;> cases h
  · cases hu; cases hv; cases op <;> rfl
  · cases hu; cases hv; cases op <;> rfl
  · cases hu; obtain ⟨_, -, rfl⟩ := hv; cases op <;> rfl
  · cases hv; obtain ⟨_, -, rfl⟩ := hu; cases op <;> rfl
  · cases hu; cases hv; cases op <;> rfl
  · cases hu; obtain ⟨_, -, rfl⟩ := hv; cases op <;> rfl
  · cases hu; obtain ⟨_, -, ⟨_, rfl, -⟩ | ⟨-, _, rfl⟩⟩ := hv <;> cases op <;> rfl
  · cases hv; obtain ⟨_, -, rfl⟩ := hu; cases op <;> rfl
  · cases hv; obtain ⟨_, -, ⟨_, rfl, -⟩ | ⟨-, _, rfl⟩⟩ := hu <;> cases op <;> rfl
  · cases hu; cases hv; cases op <;> rfl
  · cases hu; obtain ⟨_, -, rfl⟩ := hv; cases op <;> rfl
  · cases hv; obtain ⟨_, -, rfl⟩ := hu; cases op <;> rfl
  · cases hu; cases hv; cases op <;> rfl
  · cases hu; obtain ⟨_, _, rfl, -⟩ := hv; cases op <;> rfl
  · cases hv; obtain ⟨_, _, rfl, -⟩ := hu; cases op <;> rfl
  · cases hu; obtain ⟨_, rfl, -⟩ := hv; cases op <;> rfl
  · cases hv; obtain ⟨_, rfl, -⟩ := hu; cases op <;> rfl
theorem eqA_bin {x y : AV} {b : Bool} (h : eqA x y = some b) {ι : Inj} {u v : Value} (hu : RV ι x u) (hv : RV ι y v) {t : TypeId} :
    binOp .eql t u v = (do pure (.bool (← Op.equal t u v))) ∧ binOp .neq t u v = (do pure (.bool (!(← Op.equal t u v)))) := by
  unfold eqA at h
  split at h <;> cases h
  · cases hu; cases hv; exact ⟨rfl, rfl⟩
  · cases hu; cases hv; exact ⟨rfl, rfl⟩
  · cases hu; obtain ⟨_, -, rfl⟩ := hv; exact ⟨rfl, rfl⟩
  · cases hv; obtain ⟨_, -, rfl⟩ := hu; exact ⟨rfl, rfl⟩
  · cases hu; cases hv; exact ⟨rfl, rfl⟩
  · cases hu; obtain ⟨_, -, rfl⟩ := hv; exact ⟨rfl, rfl⟩
  · cases hu; obtain ⟨_, -, ⟨_, rfl, -⟩ | ⟨-, _, rfl⟩⟩ := hv <;> exact ⟨rfl, rfl⟩
  · cases hv; obtain ⟨_, -, rfl⟩ := hu; exact ⟨rfl, rfl⟩
  · cases hv; obtain ⟨_, -, ⟨_, rfl, -⟩ | ⟨-, _, rfl⟩⟩ := hu <;> exact ⟨rfl, rfl⟩
  · cases hu; cases hv; exact ⟨rfl, rfl⟩
  · cases hu; obtain ⟨_, -, rfl⟩ := hv; exact ⟨rfl, rfl⟩
  · cases hv; obtain ⟨_, -, rfl⟩ := hu; exact ⟨rfl, rfl⟩
  · cases hu; cases hv; exact ⟨rfl, rfl⟩
  · cases hu; obtain ⟨_, _, rfl, -⟩ := hv; exact ⟨rfl, rfl⟩
  · cases hv; obtain ⟨_, _, rfl, -⟩ := hu; exact ⟨rfl, rfl⟩
  · cases hu; obtain ⟨_, rfl, -⟩ := hv; exact ⟨rfl, rfl⟩
  · cases hv; obtain ⟨_, rfl, -⟩ := hu; exact ⟨rfl, rfl⟩
def kEq (neg : Bool) (d : TypeDesc) (x y : Operand) : Kd := .pure fun T k => okK (eqD d (opnd x T)) (match eqA (opnd x T) (opnd y T) with
  | some b => bK (Bool.xor neg b) k
  | none => .bad 43)
theorem kEq_ok {neg : Bool} {t u : TypeId} {d : TypeDesc} (ht : P.underlying t = some d) {x y : Operand} (ho : o.op = .binOp (if neg then .neq else .eql) t x y u) : KdOk P o (kEq neg d x y) := fun {T k r s} h => by
  obtain ⟨hd, h⟩ := okK_inv h
  split at h
  · rename_i b hb
    rw [bK_eq] at h
    refine ⟨_, h, fun {ι mm ac w} ra => ⟨_, ?_, rfl⟩⟩
    have e1 := opnd_rep ra x
    have e2 := opnd_rep ra y
    have he := eqA_ok (P := P) hb hd ht e1 e2 (w := w)
    have hg := fun op => eqA_guard (P := P) hb e1 e2 (op := op) (t := t) (p := x) (q := y) (w := w)
    have hbin := eqA_bin hb e1 e2 (t := t)
    unfold execOp; rw [ho]
    cases neg
    · simp [hg, hbin.1, he]
    · simp [hg, hbin.2, he]
  · exact (R.bad_ne h).elim
end
end Go.Ev
set_option linter.unusedVariables false
set_option linter.unusedSimpArgs false
namespace Go.Ev
open Go
noncomputable section
variable {P : Program} {o : Oper}

/-! ### Loads -/
theorem HR.cell {ι : Inj} {S : St} {w : World} (h : HR ι S w) {b : Nat} {l : Loc} (hb : ι b = some l) {n : Nat} {c : Cs} (hc : hget b S.h = .cells n c) {i : Nat} (hi : i < n) :
    ∃ x, w.cell? ⟨l.b, l.d + i, none⟩ = some x ∧ RV ι (c.get i) x := by
  have := h.live b l hb
  rw [hc] at this
  obtain ⟨-, -, a, e, f, h1, -, h2, h3⟩ := this
  obtain ⟨x, h4, h5⟩ := h3 i hi
  refine ⟨x, ?_, h5⟩
  unfold World.cell?
  rw [h1]; exact h4
theorem HR.cells {ι : Inj} {S : St} {w : World} (h : HR ι S w) {b : Nat} {l : Loc} (hb : ι b = some l) {m : Nat} {c : Cs} (hc : hget b S.h = .cells m c) (n q : Nat) (hn : q + n ≤ m) :
    ∃ vs : List Value, (loadCells ⟨l.b, l.d + q, none⟩ n).run P w = .ok vs.toArray w ∧ RL ι (takeL c n q) vs := by
  have hx : ∀ j, j < n → ∃ x, w.cell? ⟨l.b, l.d + (q + j), none⟩ = some x ∧ RV ι (c.get (q + j)) x := fun j hj => h.cell hb hc (by omega)
  refine ⟨(List.range n).map fun j => (w.cell? ⟨l.b, l.d + (q + j), none⟩).getD undef, ?_, ?_⟩
  · refine run_loadCells (P := P) w _ n _ fun j hj => ?_
    obtain ⟨x, h1, -⟩ := hx j hj
    rw [addr_add, Nat.add_assoc, h1]; rfl
  · refine RL.of (takeL_isL _ _ _) (by rw [takeL_len]; simp) fun i hi => ?_
    rw [takeL_len] at hi
    obtain ⟨x, h1, h2⟩ := hx i hi
    refine ⟨x, ?_, ?_⟩
    · simp [hi, h1]
    · rw [takeL_nth _ _ _ _ hi]; exact h2
/-- A variable's value. -/
def loadA (P : Program) (t : TypeId) : Option (AV → Hp → (AV → R) → R) := match P.underlying t, P.info? t with
  | some d, some i => match isAggD d with
    | true => some fun v H k => onPtr v fun b o => onCells (hget b H) fun n c => okK (Nat.ble (Nat.add o i.size) n) (takeK c i.size o fun l => k (.agg l))
    | false => some fun v H k => onPtr v fun b o => onCells (hget b H) fun n c => okK (Nat.ble (Nat.succ o) n) (k (c.get o))
  | _, _ => none
theorem loadA_ok {t : TypeId} {f : AV → Hp → (AV → R) → R} (hf : loadA P t = some f) {v : AV} {H : Hp} {k : AV → R} {r : AV} {s : St} (h : f v H k = .ok r s) :
    ∃ x, k x = .ok r s ∧ ∀ {ι : Inj} {n : Nat} {u : Value} {w : World}, RV ι v u → HR ι ⟨H, n⟩ w → ∃ a z, u = .pointer (some a) ∧ (loadVar t a).run P w = .ok z w ∧ RV ι x z := by
  unfold loadA at hf
  split at hf
  · rename_i d i h1 h2
    split at hf <;> cases hf
    · rename_i h3
      obtain ⟨b, q, rfl, h⟩ := onPtr_inv h
      obtain ⟨n, c, hc, h⟩ := onCells_inv h
      obtain ⟨hn, h⟩ := okK_inv h
      rw [takeK_eq] at h
      refine ⟨_, h, fun {ι n' u w} hu hr => ?_⟩
      obtain ⟨l, hl, rfl⟩ := hu
      obtain ⟨vs, g1, g2⟩ := hr.cells (P := P) hl hc i.size q (Nat.le_of_ble_eq_true hn)
      refine ⟨_, .agg vs.toArray, rfl, ?_, ⟨_, rfl, g2⟩⟩
      unfold loadVar
      simp [run_isAgg h1, h3, sizeOf, typeInfo, h2, g1]
    · rename_i h3
      obtain ⟨b, q, rfl, h⟩ := onPtr_inv h
      obtain ⟨n, c, hc, h⟩ := onCells_inv h
      obtain ⟨hn, h⟩ := okK_inv h
      refine ⟨_, h, fun {ι n' u w} hu hr => ?_⟩
      obtain ⟨l, hl, rfl⟩ := hu
      obtain ⟨x, g1, g2⟩ := hr.cell hl hc (Nat.le_of_ble_eq_true hn)
      refine ⟨_, x, rfl, ?_, g2⟩
      unfold loadVar
      simp [run_isAgg h1, h3, g1]
  · cases hf
def kLoad (P : Program) (t : TypeId) (x : Operand) : Kd := match loadA P t with
  | some f => .load fun T H k => f (opnd x T) H k
  | none => .no
theorem kLoad_ok {t : TypeId} {x : Operand} (ho : o.op = .load t x) : KdOk P o (kLoad P t x) := by
  unfold kLoad
  split
  · rename_i f hf
    intro T H k r s h
    obtain ⟨v, h, hv⟩ := loadA_ok hf h
    refine ⟨v, h, fun {ι m n a w} ra hr => ?_⟩
    obtain ⟨p, z, e, g1, g2⟩ := hv (opnd_rep ra x) hr
    refine ⟨z, ?_, g2⟩
    unfold execOp; rw [ho]
    simp [e, Instr.loadAt, Instr.sureAddr, g1]
  · exact trivial
/-! ### New blocks -/
theorem ro_new {κ : Inj} {w : World} {l : AV} {c : Cs} {n : Nat} {arr : Array Value} {e : TypeId} (hn : n = l.len) (hr : n ≤ c.room) (hg : ∀ j, j < l.len → c.get (0 + j) = l.nth j) (hl : RL κ l arr.toList) :
    RO κ (.cells n c) ⟨w.heap.size, 0, arr.size⟩ (w.alloc (.cells arr e)) := by
  have hlen : l.len = arr.size := by rw [hl.len]; simp
  refine ⟨hr, by show n ≤ arr.size; omega, arr, e, (0, 0), heap_alloc_at, .inl rfl, by simp, fun i hi => ?_⟩
  obtain ⟨u, h1, h2⟩ := hl.nth i (by omega)
  refine ⟨u, ?_, ?_⟩
  · simp at h1 ⊢; exact h1
  · have := hg i (by omega)
    rw [Nat.zero_add] at this
    rw [this]; exact h2
theorem puts_room {l : AV} {m : Nat} {c' : Cs} (hr : c'.room = (Cs.new m).room) (hd : l.len = 0 ∨ 0 + l.len ≤ (Cs.new m).room) : 0 + l.len ≤ c'.room := by
  rcases hd with h | h
  · rw [h]; exact Nat.zero_le _
  · omega
/-- A type's zero value, as cells. -/
def zeroA (P : Program) (t : TypeId) : Option (Value × AV) := match P.info? t with
  | some i => match i.zero with
    | some z => some (z, toL z.cells.toList)
    | none => none
  | none => none
theorem zeroA_ok {t : TypeId} {z : Value} {l : AV} (h : zeroA P t = some (z, l)) : (∀ w, (zeroValue t).run P w = .ok z w) ∧ ∀ ι, RL ι l z.cells.toList := by
  unfold zeroA at h
  split at h
  · rename_i i h1
    split at h
    · rename_i z' h2
      cases h
      refine ⟨fun w => ?_, fun ι => toL_rep ι _⟩
      unfold zeroValue typeInfo
      simp [h1, h2]
    · cases h
  · cases h
def kAlloc (P : Program) (t : TypeId) : Kd := match zeroA P t with
  | some (_, l) => putsK Kd.no l 0 (Cs.new l.len) fun n c => .make fun T k => k (.cells n c) fun b => .ptr b 0
  | none => .no
theorem kAlloc_ok {t : TypeId} (ho : o.op = .alloc t) : KdOk P o (kAlloc P t) := by
  unfold kAlloc
  split
  · rename_i z l hz
    obtain ⟨h1, h2⟩ := zeroA_ok hz
    rcases putsK_inv (rfl : putsK Kd.no l 0 (Cs.new l.len) (fun n c => Kd.make fun T k => k (.cells n c) fun b => .ptr b 0) = _) with h | ⟨c, h, -, hr, hd, hg, -⟩
    · rw [h]; exact trivial
    · rw [← h]
      intro T k r s g
      refine ⟨_, _, g, (fun e => by cases e), fun {ι m a w} ra => ⟨.cells z.cells t, z.cells.size, .pointer (some ⟨w.heap.size, 0, none⟩), ?_, fun κ _ => ?_, fun κ i hi => ⟨_, hi, rfl⟩⟩⟩
      · unfold execOp; rw [ho]
        simp [Instr.alloc, h1, newVar, newRow]
        first | done | rfl
      · exact ro_new (Nat.zero_add _) (puts_room hr hd) hg (h2 κ)
  · exact trivial
def kBox (x : Operand) : Kd := .make fun T k => partsK (opnd x T) fun l => putsK (R.bad 50) l 0 (Cs.new l.len) fun n c => k (.cells n c) fun b => .ptr b 0
theorem kBox_ok {t : TypeId} {x : Operand} (ho : o.op = .box t x) : KdOk P o (kBox x) := fun {T k r s} h => by
  obtain ⟨l, h, hl⟩ := partsK_inv h
  rcases putsK_inv h with h | ⟨c, h, -, hr, hd, hg, -⟩
  · exact (R.bad_ne h.symm).elim
  · refine ⟨_, _, h, (fun e => by cases e), fun {ι m a w} ra => ⟨.cells (a.eval x).cells t, (a.eval x).cells.size, .pointer (some ⟨w.heap.size, 0, none⟩), ?_, fun κ hκ => ?_, fun κ i hi => ⟨_, hi, rfl⟩⟩⟩
    · unfold execOp; rw [ho]
      simp [Instr.box, newVar, newRow]
      first | done | rfl
    · exact ro_new (Nat.zero_add _) (puts_room hr hd) hg ((hl (opnd_rep ra x)).mono hκ)
def kMakeMap (t : TypeId) (x : Option Operand) : Kd := match x with
  | none => .make fun T k => k (.map []) fun b => .map b
  | some _ => .no
theorem kMakeMap_ok {t : TypeId} {x : Option Operand} (ho : o.op = .makeMap t x) : KdOk P o (kMakeMap t x) := by
  unfold kMakeMap
  split
  · intro T k r s h
    refine ⟨_, _, h, (fun e => by cases e), fun {ι m a w} ra => ⟨.map #[] 0, 0, .map (some w.heap.size), ?_, fun κ _ => ⟨#[], 0, heap_alloc_at, rfl⟩, fun κ i hi => ⟨_, hi, rfl⟩⟩⟩
    unfold execOp; rw [ho]
    simp [Instr.makeMap]
    first | done | rfl
  · exact trivial
/-! ### Stores -/
theorem HR.put {ι : Inj} {S : St} {w : World} (h : HR ι S w) {b : Nat} {l : Loc} (hb : ι b = some l) {n : Nat} {c c' : Cs} (hc : hget b S.h = .cells n c) {q : Nat} {x : AV} {vs : List Value}
    (hr : c'.room = c.room) (hg : ∀ j, j < x.len → c'.get (q + j) = x.nth j) (hk : ∀ j, j < c.room → (j < q ∨ q + x.len ≤ j) → c'.get j = c.get j) (hq : q + x.len ≤ n) (hx : RL ι x vs) (h1 : ∀ v ∈ vs, v.oneCell' = true) :
    ∃ w', (storeCells ⟨l.b, l.d + q, none⟩ vs).run P w = .ok () w' ∧ HR ι ⟨hset b (.cells n c') S.h, S.n⟩ w' ∧ Ext ι w ι w' := by
  have hlive := h.live b l hb
  rw [hc] at hlive
  obtain ⟨g1, g2, a, e, f, g3, gf, g4, g5⟩ := hlive
  have hlen := hx.len
  have hrun := run_storeCells_fz (P := P) l.b (l.d + q) e f vs 0 a w g3 gf (by omega) h1
  refine ⟨_, hrun, h.turn hb (by rw [hc]; exact fun e => by cases e) _ rfl rfl rfl (by simp) (fun k hk => heap_setRow_other hk) ?_⟩
  have hsz : (a.toList.take (l.d + q + 0) ++ vs ++ a.toList.drop (l.d + q + 0 + vs.length)).length = a.size := by simp; omega
  refine ⟨by rw [hr]; exact g1, g2, _, e, f, heap_setRow g3, gf.size (by simpa using hsz), by rw [← g4]; simpa using hsz, fun i hi => ?_⟩
  have hget : ∀ j, (a.toList.take (l.d + q + 0) ++ vs ++ a.toList.drop (l.d + q + 0 + vs.length)).toArray[j]? = if j < l.d + q then a[j]? else if j < l.d + q + vs.length then vs[j - (l.d + q)]? else a[j]? := by
    intro j
    have hmin : min (l.d + q) a.size = l.d + q := by omega
    simp only [List.getElem?_toArray, Nat.add_zero, List.append_assoc]
    rw [List.getElem?_append]
    simp only [List.length_take, Array.length_toList, hmin]
    split
    · rename_i hj; rw [List.getElem?_take, if_pos hj]; simp
    · rename_i hj
      rw [List.getElem?_append]
      split
      · rename_i hj2; rw [if_pos (by omega)]
      · rename_i hj2
        rw [if_neg (by omega), List.getElem?_drop]
        simp only [Array.getElem?_toList]
        congr 1; omega
  rw [hget]
  by_cases hi1 : i < q
  · rw [if_pos (by omega), hk i (by omega) (.inl hi1)]
    exact g5 i hi
  · by_cases hi2 : i < q + x.len
    · rw [if_neg (by omega), if_pos (by omega)]
      obtain ⟨u, k1, k2⟩ := hx.nth (i - q) (by omega)
      refine ⟨u, by rw [show l.d + i - (l.d + q) = i - q by omega]; exact k1, ?_⟩
      have := hg (i - q) (by omega)
      rw [show q + (i - q) = i by omega] at this
      rw [this]; exact k2
    · rw [if_neg (by omega), if_neg (by omega), hk i (by omega) (.inr (by omega))]
      exact g5 i hi
/-- A list of values is stored into block b from cell q on. -/
def setK (b q : Nat) (l : AV) (S : St) (k : St → R) : R := onCells (hget b S.h) fun n c => okK (Nat.ble (Nat.add q l.len) n) (okK l.ones (putsK (R.bad 51) l q c fun _ c => hsetK b (.cells n c) S.h fun h => k ⟨h, S.n⟩))
theorem setK_inv {b q : Nat} {l : AV} {S : St} {k : St → R} {r : AV} {s : St} (h : setK b q l S k = .ok r s) :
    ∃ S', k S' = .ok r s ∧ ∀ {ι : Inj} {L : Loc} {vs : List Value} {w : World}, HR ι S w → ι b = some L → RL ι l vs →
      ∃ w', (storeCells ⟨L.b, L.d + q, none⟩ vs).run P w = .ok () w' ∧ HR ι S' w' ∧ Ext ι w ι w' := by
  obtain ⟨n, c, hc, h⟩ := onCells_inv h
  obtain ⟨h1, h⟩ := okK_inv h
  obtain ⟨h2, h⟩ := okK_inv h
  have h1 : q + l.len ≤ n := Nat.le_of_ble_eq_true h1
  rcases putsK_inv h with h | ⟨c', h, -, hr, -, hg, hk⟩
  · exact (R.bad_ne h.symm).elim
  · rw [hsetK_eq] at h
    exact ⟨_, h, fun {ι L vs w} hh hb hl => hh.put (P := P) hb hc hr hg hk h1 hl (ones_cell h2 hl)⟩
def kStore (P : Program) (t : TypeId) (a x : Operand) : Kd := match P.info? t with
  | some i => .eff fun T S k => onPtr (opnd a T) fun b o => partsK (opnd x T) fun l => okK (Nat.beq l.len i.size) (setK b o l S fun S => k (.tup .nl) S)
  | none => .no
theorem kStore_ok {t : TypeId} {a x : Operand} (ho : o.op = .store t a x) : KdOk P o (kStore P t a x) := by
  unfold kStore
  split
  · rename_i i hi
    intro T S k r s h
    obtain ⟨b, q, hc, h⟩ := onPtr_inv h
    obtain ⟨l, h, hl⟩ := partsK_inv h
    obtain ⟨h1, h⟩ := okK_inv h
    obtain ⟨S', h, hs⟩ := setK_inv (P := P) h
    refine ⟨_, _, h, fun {ι m ac w} ra hr => ?_⟩
    have e1 := opnd_rep ra a; rw [hc] at e1; obtain ⟨L, hL, e1⟩ := e1
    have e2 := hl (opnd_rep ra x)
    obtain ⟨w', g1, g2, g3⟩ := hs hr hL e2
    have hlen := e2.len
    rw [Nat.eq_of_beq_eq_true h1] at hlen
    refine ⟨.skip, w', ι, undef, ?_, .inr ⟨rfl, rfl⟩, ⟨#[], rfl, rfl⟩, g2, g3⟩
    unfold execOp; rw [ho]
    have hsz : (ac.eval x).cells.size = i.size := by rw [hlen]; simp
    simp [e1, Instr.storeAt, Instr.sureAddr, storeVar, sizeOf, typeInfo, hi, hsz, g1]
  · exact trivial
end
end Go.Ev
set_option linter.unusedVariables false
set_option linter.unusedSimpArgs false
namespace Go.Ev
open Go
noncomputable section
variable {P : Program} {o : Oper}

/-! ### Filling -/
def fillA (l : AV) (off : Nat) : AV → AV
  | .cons v vs => fillA (l.setN off v) (Nat.succ off) vs
  | _ => l
theorem RL.set {ι : Inj} : ∀ {x : AV} {l : List Value} (i : Nat) {v : AV} {u : Value}, RL ι x l → RV ι v u → RL ι (x.setN i v) (l.set i u)
  | .nl, l, i, v, u, h, _ => by cases h; cases i <;> rfl
  | .cons a t, l, 0, v, u, h, hv => by
    obtain ⟨p, q, rfl, h1, h2⟩ := h
    exact ⟨u, q, rfl, hv, h2⟩
  | .cons a t, l, i + 1, v, u, h, hv => by
    obtain ⟨p, q, rfl, h1, h2⟩ := h
    exact ⟨p, q.set i u, rfl, h1, RL.set (x := t) i h2 hv⟩
  | .top, _, _, _, _, h, _ => h.elim
  | .bool _, _, _, _, _, h, _ => h.elim
  | .int _ _, _, _, _, _, h, _ => h.elim
  | .str _ _, _, _, _, _, h, _ => h.elim
  | .pnil, _, _, _, _, h, _ => h.elim
  | .ptr _ _, _, _, _, _, h, _ => h.elim
  | .snil, _, _, _, _, h, _ => h.elim
  | .sl _ _ _ _, _, _, _, _, h, _ => h.elim
  | .slu _ _ _ _, _, _, _, _, h, _ => h.elim
  | .mnil, _, _, _, _, h, _ => h.elim
  | .map _, _, _, _, _, h, _ => h.elim
  | .fn _ _ _, _, _, _, _, h, _ => h.elim
  | .fnil, _, _, _, _, h, _ => h.elim
  | .inil, _, _, _, _, h, _ => h.elim
  | .iface _ _, _, _, _, _, h, _ => h.elim
  | .agg _, _, _, _, _, h, _ => h.elim
  | .tup _, _, _, _, _, h, _ => h.elim
  | .ge _, _, _, _, _, h, _ => h.elim
/-- The filling of one part, on lists. -/
def fillL (l : List Value) (off : Nat) : List Value → List Value
  | [] => l
  | v :: vs => fillL (l.set off v) (off + 1) vs
theorem fillL_length : ∀ (vs : List Value) (l : List Value) (off : Nat), (fillL l off vs).length = l.length
  | [], _, _ => rfl
  | v :: vs, l, off => by rw [fillL, fillL_length vs]; simp
theorem RL.fill {ι : Inj} : ∀ {x y : AV} {l vs : List Value} (i : Nat), RL ι x l → RL ι y vs → RL ι (fillA x i y) (fillL l i vs)
  | x, .nl, l, vs, i, h, hv => by cases hv; exact h
  | x, .cons a t, l, vs, i, h, hv => by
    obtain ⟨p, q, rfl, h1, h2⟩ := hv
    exact RL.fill (i + 1) (h.set i h1) h2
  | _, .top, _, _, _, _, h => h.elim
  | _, .bool _, _, _, _, _, h => h.elim
  | _, .int _ _, _, _, _, _, h => h.elim
  | _, .str _ _, _, _, _, _, h => h.elim
  | _, .pnil, _, _, _, _, h => h.elim
  | _, .ptr _ _, _, _, _, _, h => h.elim
  | _, .snil, _, _, _, _, h => h.elim
  | _, .sl _ _ _ _, _, _, _, _, h => h.elim
  | _, .slu _ _ _ _, _, _, _, _, h => h.elim
  | _, .mnil, _, _, _, _, h => h.elim
  | _, .map _, _, _, _, _, h => h.elim
  | _, .fn _ _ _, _, _, _, _, h => h.elim
  | _, .fnil, _, _, _, _, h => h.elim
  | _, .inil, _, _, _, _, h => h.elim
  | _, .iface _ _, _, _, _, _, h => h.elim
  | _, .agg _, _, _, _, _, h => h.elim
  | _, .tup _, _, _, _, _, h => h.elim
  | _, .ge _, _, _, _, _, h => h.elim
theorem fold_fill (off : Nat) : ∀ (vs : List Value) (j : Nat) (cs : Array Value),
    ((vs.zipIdx j).foldl (fun (cs : Array Value) (x : Value × Nat) => cs.setIfInBounds (off + x.2) x.1) cs).toList = fillL cs.toList (off + j) vs
  | [], _, _ => rfl
  | v :: vs, j, cs => by
    rw [List.zipIdx_cons, List.foldl_cons, fold_fill off vs (j + 1)]
    simp [fillL, Nat.add_assoc]
/-- The parts of a composite value are filled in. -/
def fillK (place : Nat → Option (Nat × Nat)) (total : Nat) (T : T) : List (Nat × Operand) → AV → (AV → R) → R
  | [], l, k => k l
  | (i, x) :: r, l, k => match place i with
    | some (off, size) => partsK (opnd x T) fun ps => okK (Nat.beq ps.len size) (okK (Nat.ble (Nat.add off size) total) (fillK place total T r (fillA l off ps) k))
    | none => .bad 52
theorem fillK_inv {place : Nat → Option (Nat × Nat)} {total : Nat} {T : T} : ∀ {ps : List (Nat × Operand)} {l : AV} {k : AV → R} {r : AV} {s : St}, fillK place total T ps l k = .ok r s →
    ∃ l', k l' = .ok r s ∧ ∀ {ι : Inj} {m : Nat} {a : Act} {cs : Array Value}, RA ι m T a → RL ι l cs.toList → cs.size = total →
      ∃ ds, Instr.fill place cs (ps.map fun p => (p.1, a.eval p.2)) = some ds ∧ RL ι l' ds.toList ∧ ds.size = total
  | [], l, k, r, s, h => ⟨l, h, fun {ι m a cs} _ hl hs => ⟨cs, rfl, hl, hs⟩⟩
  | (i, x) :: ps, l, k, r, s, h => by
    unfold fillK at h
    split at h
    · rename_i off size hp
      obtain ⟨q, h, hq⟩ := partsK_inv h
      obtain ⟨h1, h⟩ := okK_inv h
      obtain ⟨h2, h⟩ := okK_inv h
      have h2 : off + size ≤ total := Nat.le_of_ble_eq_true h2
      obtain ⟨l', h, hl'⟩ := fillK_inv h
      refine ⟨l', h, fun {ι m a cs} ra hl hs => ?_⟩
      have hx := hq (opnd_rep ra x)
      have hlen := hx.len
      rw [Nat.eq_of_beq_eq_true h1] at hlen
      have hsz : (a.eval x).cells.size = size := by rw [hlen]; simp
      have hfold : ((a.eval x).cells.zipIdx.foldl (fun (cs : Array Value) (x : Value × Nat) => cs.setIfInBounds (off + x.2) x.1) cs).toList = fillL cs.toList off (a.eval x).cells.toList := by
        rw [← Array.foldl_toList, Array.toList_zipIdx, fold_fill]; rfl
      obtain ⟨ds, g1, g2, g3⟩ := hl' (cs := (a.eval x).cells.zipIdx.foldl (fun (cs : Array Value) (x : Value × Nat) => cs.setIfInBounds (off + x.2) x.1) cs) ra (by rw [hfold]; exact hl.fill off hx)
        (by rw [← Array.length_toList, hfold, fillL_length, Array.length_toList, hs])
      refine ⟨ds, ?_, g2, g3⟩
      simp only [List.map_cons, Instr.fill, hp]
      rw [if_neg (by rw [hsz, hs]; simp; omega)]
      exact g1
    · exact (R.bad_ne h).elim
theorem map_pairs (f : Operand → Value) (ps : Array (Nat × Operand)) : (ps.map fun (i, x) => (i, f x)).toList = ps.toList.map fun p => (p.1, f p.2) := by
  rw [Array.toList_map]
/-- The places of a struct's fields. -/
def placesA (P : Program) : List Field → Option (List (Nat × Nat))
  | [] => some []
  | f :: fs => match P.info? f.type, placesA P fs with
    | some i, some l => some ((f.offset, i.size) :: l)
    | _, _ => none
theorem placesA_ok : ∀ {fs : List Field} {l : List (Nat × Nat)} {w : World}, placesA P fs = some l → (fs.mapM (m := Sem) fun f => do pure (f.offset, ← sizeOf f.type)).run P w = .ok l w
  | [], l, w, h => by cases h; rfl
  | f :: fs, l, w, h => by
    unfold placesA at h
    split at h
    · rename_i i l' h1 h2
      cases h
      have hs : (sizeOf f.type).run P w = .ok i.size w := by simp [sizeOf, typeInfo, h1]
      rw [List.mapM_cons]
      simp only [Sem.run_bind, hs, Result.andThen_ok, Sem.run_pure, placesA_ok h2]
    · cases h
def kBuild (P : Program) (t : TypeId) (ps : Array (Nat × Operand)) : Kd := match zeroA P t, P.underlying t with
  | some (z, l), some (.struct fs) => match placesA P fs.toList with
    | some pl => .pure fun T k => fillK (fun i => pl[i]?) l.len T ps.toList l fun l => k (.agg l)
    | none => .no
  | some (z, l), some (.array _ e) => match P.info? e with
    | some i => .pure fun T k => fillK (fun j => some (j * i.size, i.size)) l.len T ps.toList l fun l => k (.agg l)
    | none => .no
  | _, _ => .no
theorem kBuild_ok {t : TypeId} {ps : Array (Nat × Operand)} (ho : o.op = .build t ps) : KdOk P o (kBuild P t ps) := by
  unfold kBuild
  split
  · rename_i z l fs hz h1
    obtain ⟨z1, z2⟩ := zeroA_ok hz
    split
    · rename_i pl hpl
      intro T k r s h
      obtain ⟨l', h, hl⟩ := fillK_inv h
      refine ⟨_, h, fun {ι m a w} ra => ?_⟩
      obtain ⟨ds, g1, g2, -⟩ := hl (cs := z.cells) ra (z2 ι) (by rw [(z2 ι).len]; simp)
      refine ⟨.agg ds, ?_, ⟨ds, rfl, g2⟩⟩
      have hm : (fs.mapM (m := Sem) fun f => do pure (f.offset, ← sizeOf f.type)).run P w = .ok pl.toArray w := by
        rw [Array.mapM_eq_mapM_toList]
        simp only [Sem.run_map, placesA_ok hpl, Result.andThen_ok]
      simp only [bind_pure_comp] at hm
      unfold execOp; rw [ho]
      simp [Instr.build, z1, underlying, h1, hm, g1]
    · exact trivial
  · rename_i z l n e hz h1
    obtain ⟨z1, z2⟩ := zeroA_ok hz
    split
    · rename_i i h2
      intro T k r s h
      obtain ⟨l', h, hl⟩ := fillK_inv h
      refine ⟨_, h, fun {ι m a w} ra => ?_⟩
      obtain ⟨ds, g1, g2, -⟩ := hl (cs := z.cells) ra (z2 ι) (by rw [(z2 ι).len]; simp)
      refine ⟨.agg ds, ?_, ⟨ds, rfl, g2⟩⟩
      unfold execOp; rw [ho]
      simp [Instr.build, z1, underlying, h1, sizeOf, typeInfo, h2, g1]
    · exact trivial
  · exact trivial
end
end Go.Ev
set_option linter.unusedVariables false
set_option linter.unusedSimpArgs false
namespace Go.Ev
open Go
noncomputable section
variable {P : Program} {o : Oper}

/-- A list of values, so many times. -/
def zerosA (l : AV) : Nat → AV
  | 0 => .nl
  | n + 1 => l.app (zerosA l n)
theorem zeros_list (Z : Array Value) (sz : Nat) (h : Z.size = sz) : ∀ n, ((List.range (n * sz)).map fun i => Z[i % Z.size]!) = (List.replicate n Z.toList).flatten
  | 0 => by simp
  | n + 1 => by
    rw [show (n + 1) * sz = sz + n * sz by rw [Nat.add_mul, Nat.one_mul, Nat.add_comm], List.range_add, List.map_append, List.replicate_succ, List.flatten_cons, List.map_map]
    congr 1
    · apply List.ext_getElem
      · simp [h]
      · intro i h1 h2
        simp at h1 h2
        have : i % Z.size = i := Nat.mod_eq_of_lt (by omega)
        simp [this, h2]
    · rw [← zeros_list Z sz h n]
      apply List.map_congr_left
      intro i _
      simp [h]
theorem RL.zeros {ι : Inj} {l : AV} {Z : Array Value} {sz : Nat} (h : Z.size = sz) (hl : RL ι l Z.toList) : ∀ n, RL ι (zerosA l n) ((Array.range (n * sz)).map fun i => Z[i % Z.size]!).toList := by
  intro n
  rw [Array.toList_map, Array.toList_range, zeros_list Z sz h n]
  induction n with
  | zero => exact rfl
  | succ n ih => rw [List.replicate_succ, List.flatten_cons]; exact hl.app ih
theorem RL.zeros_len {ι : Inj} {l : AV} {Z : Array Value} {sz : Nat} (h : Z.size = sz) (hl : RL ι l Z.toList) (n : Nat) : (zerosA l n).len = n * sz := by
  rw [(hl.zeros h n).len]; simp
/-- What a slice's element is: its type, size, zero value. -/
structure El where
  e : TypeId
  size : Nat
  bytes : Nat
  z : Value
  l : AV
def elA (P : Program) (t : TypeId) : Option El := match P.underlying t with
  | some (.slice e) => match P.info? e, zeroA P e with
    | some i, some (z, l) => match Nat.beq l.len i.size && (Nat.ble 1 i.size && Nat.ble i.bytes 65536) with
      | true => some ⟨e, i.size, i.bytes, z, l⟩
      | false => none
    | _, _ => none
  | _ => none
structure ElOk (P : Program) (t : TypeId) (x : El) : Prop where
  under : P.underlying t = some (.slice x.e)
  info : ∃ i, P.info? x.e = some i ∧ i.size = x.size ∧ i.bytes = x.bytes
  zero : ∀ w, (zeroValue x.e).run P w = .ok x.z w
  rep : ∀ ι, RL ι x.l x.z.cells.toList
  len : x.z.cells.size = x.size
  pos : 1 ≤ x.size
  small : x.bytes ≤ 65536
theorem elA_ok {t : TypeId} {x : El} (h : elA P t = some x) : ElOk P t x := by
  unfold elA at h
  split at h
  · rename_i e h1
    split at h
    · rename_i i z l h2 h3
      split at h
      · rename_i h4
        cases h
        simp only [Bool.and_eq_true] at h4
        obtain ⟨z1, z2⟩ := zeroA_ok h3
        refine ⟨h1, ⟨i, h2, rfl, rfl⟩, z1, z2, ?_, Nat.le_of_ble_eq_true h4.2.1, Nat.le_of_ble_eq_true h4.2.2⟩
        have := (z2 Inj.zero).len
        rw [Nat.eq_of_beq_eq_true h4.1] at this
        rw [← Array.length_toList]; exact this.symm
      · cases h
    · cases h
  · cases h
theorem ElOk.sizeOf {t : TypeId} {x : El} (h : ElOk P t x) (w : World) : (sizeOf x.e).run P w = .ok x.size w := by
  obtain ⟨i, h1, h2, h3⟩ := h.info
  simp [Go.sizeOf, typeInfo, h1, h2]
theorem ElOk.typeInfo {t : TypeId} {x : El} (h : ElOk P t x) (w : World) : ∃ i, (typeInfo x.e).run P w = .ok i w ∧ i.size = x.size ∧ i.bytes = x.bytes := by
  obtain ⟨i, h1, h2, h3⟩ := h.info
  exact ⟨i, by simp [Go.typeInfo, h1], h2, h3⟩
theorem run_under {t : TypeId} {d : TypeDesc} {w : World} (h : P.underlying t = some d) : (underlying t).run P w = .ok d w := by simp [underlying, h]

def kBuildSlice (P : Program) (t : TypeId) (len : Nat) (ps : Array (Nat × Operand)) : Kd := match elA P t with
  | some x => match Nat.ble (len * x.size) 16777216 with
    | true => .make fun T k => fillK (fun j => some (j * x.size, x.size)) (len * x.size) T ps.toList (zerosA x.l len) fun l => putsK (R.bad 53) l 0 (Cs.new l.len) fun n c => k (.cells n c) fun b => .sl b 0 len len
    | false => .no
  | none => .no
theorem kBuildSlice_ok {t : TypeId} {len : Nat} {ps : Array (Nat × Operand)} (ho : o.op = .buildSlice t len ps) : KdOk P o (kBuildSlice P t len ps) := by
  unfold kBuildSlice
  split
  · rename_i x hx
    have ok := elA_ok hx
    split
    · rename_i hle
      have hle := Nat.le_of_ble_eq_true hle
      intro T k r s h
      obtain ⟨l, h, hl⟩ := fillK_inv h
      rcases putsK_inv h with h | ⟨c, h, -, hr, hd, hg, -⟩
      · exact (R.bad_ne h.symm).elim
      refine ⟨_, _, h, (fun e => by cases e), fun {ι m a w} ra => ?_⟩
      have hz : ∃ Z : Array Value, (len * x.size = 0 ∧ Z = #[] ∨ len * x.size ≠ 0 ∧ Z = x.z.cells) ∧ ((Array.range (len * x.size)).map fun i => Z[i % Z.size]!).size = len * x.size ∧ RL ι (zerosA x.l len) ((Array.range (len * x.size)).map fun i => Z[i % Z.size]!).toList := by
        by_cases e : len * x.size = 0
        · refine ⟨#[], .inl ⟨e, rfl⟩, by simp, ?_⟩
          have : len = 0 := by
            rcases Nat.mul_eq_zero.1 e with h | h
            · exact h
            · have := ok.pos; omega
          subst this
          simp [zerosA]; exact rfl
        · exact ⟨x.z.cells, .inr ⟨e, rfl⟩, by simp, (ok.rep ι).zeros ok.len len⟩
      obtain ⟨Z, hz1, hz2, hz3⟩ := hz
      obtain ⟨ds, g1, g2, g3⟩ := hl ra hz3 hz2
      refine ⟨.cells ds x.e, ds.size, .slice (some ⟨w.heap.size, 0, none⟩) len len, ?_, fun κ hκ => ro_new (Nat.zero_add _) (puts_room hr hd) hg (g2.mono hκ), fun κ i hi => ⟨_, hi, rfl⟩⟩
      unfold execOp; rw [ho]
      have hle2 : ¬ (len * x.size > 2 ^ 24) := by omega
      have g1' : Instr.fill (fun i => some (i * x.size, x.size)) ((Array.range (len * x.size)).map fun i => Z[i % Z.size]!) (ps.map fun p => (p.1, a.eval p.2)).toList = some ds := by rw [Array.toList_map]; exact g1
      simp only [Instr.buildSlice, Sem.run_bind, run_under ok.under, Result.andThen_ok, ok.sizeOf w]
      rw [if_neg hle2]
      rcases hz1 with ⟨e, rfl⟩ | ⟨e, rfl⟩
      · simp only [pure_bind, Sem.run_bind, Sem.run_pure, Result.andThen_ok]
        rw [if_pos e]
        simp only [pure_bind, g1', Sem.run_bind, Sem.run_pure, newRow, run_newObj, Result.andThen_ok]
        rfl
      · simp only [pure_bind, Sem.run_bind, Sem.run_pure, Result.andThen_ok]
        rw [if_neg e]
        simp only [pure_bind, bind_assoc, Sem.run_bind, ok.zero, Result.andThen_ok, g1', Sem.run_pure, newRow, run_newObj]
        rfl
    · exact trivial
  · exact trivial
def kMakeSlice (P : Program) (t : TypeId) (x y : Operand) : Kd := match elA P t with
  | some e => .make fun T k => onNat (opnd x T) fun n => onNat (opnd y T) fun c => okK (Nat.ble n c) (okK (Nat.ble c 1000000) (putsK (R.bad 54) (zerosA e.l c) 0 (Cs.new (Nat.mul c e.size)) fun m cs => k (.cells m cs) fun b => .sl b 0 n c))
  | none => .no
theorem wrap_small {n : Nat} (h : n ≤ 1000000) : IntKind.i64.wrap (n : Int) = n := by
  rw [← wrapF_eq]
  show Bool.rec (motive := fun _ => Int) _ _ (natIn .i64 n) = _
  have : natIn .i64 n = true := by show Nat.ble n 9223372036854775807 = true; rw [Nat.ble_eq]; omega
  rw [this]; rfl
theorem kMakeSlice_ok {t : TypeId} {x y : Operand} (ho : o.op = .makeSlice t x y) : KdOk P o (kMakeSlice P t x y) := by
  unfold kMakeSlice
  split
  · rename_i e he
    have ok := elA_ok he
    intro T k r s h
    obtain ⟨kn, n, h1, h⟩ := onNat_inv h
    obtain ⟨kc, c, h2, h⟩ := onNat_inv h
    obtain ⟨h3, h⟩ := okK_inv h
    obtain ⟨h4, h⟩ := okK_inv h
    have h3 := Nat.le_of_ble_eq_true h3
    have h4 := Nat.le_of_ble_eq_true h4
    rcases putsK_inv h with h | ⟨cs, h, -, hr, hd, hg, -⟩
    · exact (R.bad_ne h.symm).elim
    have hroom : 0 + (zerosA e.l c).len ≤ cs.room := by
      rcases hd with hd | hd
      · rw [hd]; exact Nat.zero_le _
      · rw [hr]; exact hd
    refine ⟨_, _, h, (fun e => by cases e), fun {ι m a w} ra => ?_⟩
    have e1 := opnd_rep ra x; rw [h1] at e1; have e1 : a.eval x = .int kn (n : Int) := e1
    have e2 := opnd_rep ra y; rw [h2] at e2; have e2 : a.eval y = .int kc (c : Int) := e2
    obtain ⟨i, hi, hi1, hi2⟩ := ok.typeInfo w
    have hb := ok.small
    have hmul : e.bytes * c ≤ 65536 * 1000000 := Nat.mul_le_mul hb h4
    have hmulZ : ((e.bytes : Int) * (c : Int)) ≤ 65536 * 1000000 := by rw [← Int.natCast_mul]; omega
    have wc := wrap_small h4
    have wn := wrap_small (Nat.le_trans h3 h4)
    have hz : ∃ Z : Array Value, (c * e.size = 0 ∧ Z = #[] ∨ c * e.size ≠ 0 ∧ Z = e.z.cells) ∧ RL ι (zerosA e.l c) ((Array.range (c * e.size)).map fun i => Z[i % Z.size]!).toList := by
      by_cases g : c * e.size = 0
      · refine ⟨#[], .inl ⟨g, rfl⟩, ?_⟩
        have : c = 0 := by
          rcases Nat.mul_eq_zero.1 g with h | h
          · exact h
          · have := ok.pos; omega
        subst this
        simp [zerosA]; exact rfl
      · exact ⟨e.z.cells, .inr ⟨g, rfl⟩, (ok.rep ι).zeros ok.len c⟩
    obtain ⟨Z, hz1, hz2⟩ := hz
    refine ⟨.cells ((Array.range (c * e.size)).map fun i => Z[i % Z.size]!) e.e, _, .slice (some ⟨w.heap.size, 0, none⟩) n c, ?_, fun κ hκ => ro_new (Nat.zero_add _) hroom hg (hz2.mono hκ), fun κ i hi => ⟨_, hi, rfl⟩⟩
    unfold execOp; rw [ho]
    have t3 : ¬ ((e.bytes : Int) * (c : Int) > 2 ^ 48) := by omega
    have t1 : decide ((c : Int) < 0) = false := decide_eq_false (by omega)
    have t2 : decide ((e.bytes : Int) * (c : Int) > 2 ^ 48) = false := decide_eq_false t3
    have t4 : decide ((n : Int) < 0) = false := decide_eq_false (by omega)
    have t5 : decide ((n : Int) > (c : Int)) = false := decide_eq_false (by omega)
    simp only [Instr.makeSlice, Sem.run_bind, run_under ok.under, Result.andThen_ok, e1, e2, asInt, asIntOf, Sem.run_pure, hi, hi1, hi2, wc, wn, ok.sizeOf w, pure_bind, run_askRoom, Int.toNat_natCast]
    rw [t1, t2, t4, t5]
    simp only [Bool.or_false, Bool.false_eq_true, if_false, Sem.run_bind, run_askRoom, Result.andThen_ok, ok.sizeOf w]
    rcases hz1 with ⟨g, rfl⟩ | ⟨g, rfl⟩
    · rw [if_pos g]
      simp only [newRow, Sem.run_bind, run_newObj, Sem.run_pure, Result.andThen_ok, pure_bind]
      rfl
    · rw [if_neg g]
      simp only [newRow, Sem.run_bind, run_newObj, Sem.run_pure, Result.andThen_ok, pure_bind, ok.zero, bind_assoc]
      rfl
  · exact trivial
end
end Go.Ev
