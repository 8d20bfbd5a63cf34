/-
  An evaluator for calls whose arguments are known: its data. Sixteen-fold nodes, the values, the heap.
-/
import Derived.Calls
import Derived.RowKit3
import Derived.LoopN
import Derived.Scope
set_option linter.unusedVariables false
namespace Go.Ev
open Go
noncomputable section

inductive D16 where
  | d0
  | d1
  | d2
  | d3
  | d4
  | d5
  | d6
  | d7
  | d8
  | d9
  | d10
  | d11
  | d12
  | d13
  | d14
  | d15
structure N16 (α : Type) where
  a0 : α
  a1 : α
  a2 : α
  a3 : α
  a4 : α
  a5 : α
  a6 : α
  a7 : α
  a8 : α
  a9 : α
  a10 : α
  a11 : α
  a12 : α
  a13 : α
  a14 : α
  a15 : α
namespace N16
variable {α β : Type}
def get (d : D16) : N16 α → α := D16.rec (motive := fun _ => N16 α → α) N16.a0 N16.a1 N16.a2 N16.a3 N16.a4 N16.a5 N16.a6 N16.a7 N16.a8 N16.a9 N16.a10 N16.a11 N16.a12 N16.a13 N16.a14 N16.a15 d
def s0 (v : α) (n : N16 α) (c : N16 α → β) : β := N16.rec (motive := fun _ => β) (fun a0 a1 a2 a3 a4 a5 a6 a7 a8 a9 a10 a11 a12 a13 a14 a15 => c (N16.mk v a1 a2 a3 a4 a5 a6 a7 a8 a9 a10 a11 a12 a13 a14 a15)) n
def s1 (v : α) (n : N16 α) (c : N16 α → β) : β := N16.rec (motive := fun _ => β) (fun a0 a1 a2 a3 a4 a5 a6 a7 a8 a9 a10 a11 a12 a13 a14 a15 => c (N16.mk a0 v a2 a3 a4 a5 a6 a7 a8 a9 a10 a11 a12 a13 a14 a15)) n
def s2 (v : α) (n : N16 α) (c : N16 α → β) : β := N16.rec (motive := fun _ => β) (fun a0 a1 a2 a3 a4 a5 a6 a7 a8 a9 a10 a11 a12 a13 a14 a15 => c (N16.mk a0 a1 v a3 a4 a5 a6 a7 a8 a9 a10 a11 a12 a13 a14 a15)) n
def s3 (v : α) (n : N16 α) (c : N16 α → β) : β := N16.rec (motive := fun _ => β) (fun a0 a1 a2 a3 a4 a5 a6 a7 a8 a9 a10 a11 a12 a13 a14 a15 => c (N16.mk a0 a1 a2 v a4 a5 a6 a7 a8 a9 a10 a11 a12 a13 a14 a15)) n
def s4 (v : α) (n : N16 α) (c : N16 α → β) : β := N16.rec (motive := fun _ => β) (fun a0 a1 a2 a3 a4 a5 a6 a7 a8 a9 a10 a11 a12 a13 a14 a15 => c (N16.mk a0 a1 a2 a3 v a5 a6 a7 a8 a9 a10 a11 a12 a13 a14 a15)) n
def s5 (v : α) (n : N16 α) (c : N16 α → β) : β := N16.rec (motive := fun _ => β) (fun a0 a1 a2 a3 a4 a5 a6 a7 a8 a9 a10 a11 a12 a13 a14 a15 => c (N16.mk a0 a1 a2 a3 a4 v a6 a7 a8 a9 a10 a11 a12 a13 a14 a15)) n
def s6 (v : α) (n : N16 α) (c : N16 α → β) : β := N16.rec (motive := fun _ => β) (fun a0 a1 a2 a3 a4 a5 a6 a7 a8 a9 a10 a11 a12 a13 a14 a15 => c (N16.mk a0 a1 a2 a3 a4 a5 v a7 a8 a9 a10 a11 a12 a13 a14 a15)) n
def s7 (v : α) (n : N16 α) (c : N16 α → β) : β := N16.rec (motive := fun _ => β) (fun a0 a1 a2 a3 a4 a5 a6 a7 a8 a9 a10 a11 a12 a13 a14 a15 => c (N16.mk a0 a1 a2 a3 a4 a5 a6 v a8 a9 a10 a11 a12 a13 a14 a15)) n
def s8 (v : α) (n : N16 α) (c : N16 α → β) : β := N16.rec (motive := fun _ => β) (fun a0 a1 a2 a3 a4 a5 a6 a7 a8 a9 a10 a11 a12 a13 a14 a15 => c (N16.mk a0 a1 a2 a3 a4 a5 a6 a7 v a9 a10 a11 a12 a13 a14 a15)) n
def s9 (v : α) (n : N16 α) (c : N16 α → β) : β := N16.rec (motive := fun _ => β) (fun a0 a1 a2 a3 a4 a5 a6 a7 a8 a9 a10 a11 a12 a13 a14 a15 => c (N16.mk a0 a1 a2 a3 a4 a5 a6 a7 a8 v a10 a11 a12 a13 a14 a15)) n
def s10 (v : α) (n : N16 α) (c : N16 α → β) : β := N16.rec (motive := fun _ => β) (fun a0 a1 a2 a3 a4 a5 a6 a7 a8 a9 a10 a11 a12 a13 a14 a15 => c (N16.mk a0 a1 a2 a3 a4 a5 a6 a7 a8 a9 v a11 a12 a13 a14 a15)) n
def s11 (v : α) (n : N16 α) (c : N16 α → β) : β := N16.rec (motive := fun _ => β) (fun a0 a1 a2 a3 a4 a5 a6 a7 a8 a9 a10 a11 a12 a13 a14 a15 => c (N16.mk a0 a1 a2 a3 a4 a5 a6 a7 a8 a9 a10 v a12 a13 a14 a15)) n
def s12 (v : α) (n : N16 α) (c : N16 α → β) : β := N16.rec (motive := fun _ => β) (fun a0 a1 a2 a3 a4 a5 a6 a7 a8 a9 a10 a11 a12 a13 a14 a15 => c (N16.mk a0 a1 a2 a3 a4 a5 a6 a7 a8 a9 a10 a11 v a13 a14 a15)) n
def s13 (v : α) (n : N16 α) (c : N16 α → β) : β := N16.rec (motive := fun _ => β) (fun a0 a1 a2 a3 a4 a5 a6 a7 a8 a9 a10 a11 a12 a13 a14 a15 => c (N16.mk a0 a1 a2 a3 a4 a5 a6 a7 a8 a9 a10 a11 a12 v a14 a15)) n
def s14 (v : α) (n : N16 α) (c : N16 α → β) : β := N16.rec (motive := fun _ => β) (fun a0 a1 a2 a3 a4 a5 a6 a7 a8 a9 a10 a11 a12 a13 a14 a15 => c (N16.mk a0 a1 a2 a3 a4 a5 a6 a7 a8 a9 a10 a11 a12 a13 v a15)) n
def s15 (v : α) (n : N16 α) (c : N16 α → β) : β := N16.rec (motive := fun _ => β) (fun a0 a1 a2 a3 a4 a5 a6 a7 a8 a9 a10 a11 a12 a13 a14 a15 => c (N16.mk a0 a1 a2 a3 a4 a5 a6 a7 a8 a9 a10 a11 a12 a13 a14 v)) n
def setK (d : D16) : α → N16 α → (N16 α → β) → β := D16.rec (motive := fun _ => α → N16 α → (N16 α → β) → β) s0 s1 s2 s3 s4 s5 s6 s7 s8 s9 s10 s11 s12 s13 s14 s15 d
def set (d : D16) (v : α) (n : N16 α) : N16 α := setK d v n id
def all (x : α) : N16 α := N16.mk x x x x x x x x x x x x x x x x
theorem setK_eq (d : D16) (v : α) (n : N16 α) (c : N16 α → β) : setK d v n c = c (set d v n) := by cases d <;> rfl
theorem get_all (d : D16) (x : α) : get d (all x) = x := by cases d <;> rfl
theorem get_set_same (d : D16) (v : α) (n : N16 α) : get d (set d v n) = v := by cases d <;> rfl
theorem get_set_other {d e : D16} (h : d ≠ e) (v : α) (n : N16 α) : get e (set d v n) = get e n := by
  cases d <;> cases e <;> first | rfl | exact absurd rfl h
end N16
def toD (k : Nat) : D16 := Bool.rec (motive := fun _ => D16) (Bool.rec (motive := fun _ => D16) (Bool.rec (motive := fun _ => D16) (Bool.rec (motive := fun _ => D16) (.d15) (.d14) (Nat.beq (Nat.land k 1) 0)) (Bool.rec (motive := fun _ => D16) (.d13) (.d12) (Nat.beq (Nat.land k 1) 0)) (Nat.beq (Nat.land k 2) 0)) (Bool.rec (motive := fun _ => D16) (Bool.rec (motive := fun _ => D16) (.d11) (.d10) (Nat.beq (Nat.land k 1) 0)) (Bool.rec (motive := fun _ => D16) (.d9) (.d8) (Nat.beq (Nat.land k 1) 0)) (Nat.beq (Nat.land k 2) 0)) (Nat.beq (Nat.land k 4) 0)) (Bool.rec (motive := fun _ => D16) (Bool.rec (motive := fun _ => D16) (Bool.rec (motive := fun _ => D16) (.d7) (.d6) (Nat.beq (Nat.land k 1) 0)) (Bool.rec (motive := fun _ => D16) (.d5) (.d4) (Nat.beq (Nat.land k 1) 0)) (Nat.beq (Nat.land k 2) 0)) (Bool.rec (motive := fun _ => D16) (Bool.rec (motive := fun _ => D16) (.d3) (.d2) (Nat.beq (Nat.land k 1) 0)) (Bool.rec (motive := fun _ => D16) (.d1) (.d0) (Nat.beq (Nat.land k 1) 0)) (Nat.beq (Nat.land k 2) 0)) (Nat.beq (Nat.land k 4) 0)) (Nat.beq (Nat.land k 8) 0)
def D16.nat : D16 → Nat
  | .d0 => 0
  | .d1 => 1
  | .d2 => 2
  | .d3 => 3
  | .d4 => 4
  | .d5 => 5
  | .d6 => 6
  | .d7 => 7
  | .d8 => 8
  | .d9 => 9
  | .d10 => 10
  | .d11 => 11
  | .d12 => 12
  | .d13 => 13
  | .d14 => 14
  | .d15 => 15
theorem toD_fin : ∀ k : Fin 16, (toD k.val).nat = k.val := by decide
theorem toD_small {k : Nat} (h : k < 16) : (toD k).nat = k := toD_fin ⟨k, h⟩
theorem land_mod (k b : Nat) (hb : b < 4) : Nat.land k (2 ^ b) = Nat.land (k % 16) (2 ^ b) := by
  show k &&& 2 ^ b = (k % 16) &&& 2 ^ b
  apply Nat.eq_of_testBit_eq
  intro i
  rw [Nat.testBit_and, Nat.testBit_and, Nat.testBit_two_pow, show (16 : Nat) = 2 ^ 4 from rfl, Nat.testBit_mod_two_pow]
  by_cases h : b = i
  · subst h; simp [hb]
  · simp [h]
theorem toD_mod (k : Nat) : toD k = toD (k % 16) := by
  have h0 := land_mod k 0 (by decide)
  have h1 := land_mod k 1 (by decide)
  have h2 := land_mod k 2 (by decide)
  have h3 := land_mod k 3 (by decide)
  unfold toD
  simp only [Nat.reducePow] at h0 h1 h2 h3
  rw [h0, h1, h2, h3]
theorem toD_nat (k : Nat) : (toD k).nat = k % 16 := by rw [toD_mod, toD_small (Nat.mod_lt _ (by decide))]
theorem toD_inj {j k : Nat} (h : toD j = toD k) : j % 16 = k % 16 := by rw [← toD_nat, ← toD_nat, h]
theorem toD_ne {j k : Nat} (h : j % 16 ≠ k % 16) : toD j ≠ toD k := fun e => h (toD_inj e)
theorem toD_land (k : Nat) : toD (Nat.land k 15) = toD k := by
  have : Nat.land k 15 = k % 16 := Nat.and_two_pow_sub_one_eq_mod k 4
  rw [this, ← toD_mod]

/-- What is known of a value: 'top' nothing; 'ptr b o' the address of cell o of block b; 'sl b o n c' a slice from cell o of block b on, n elements long, of capacity c;
'slu b o n sz' one that reaches to the block's unknown end; a list of values is made of 'nl' and 'cons'. -/
inductive AV where
  | top
  | bool (b : Bool)
  | int (k : IntKind) (n : Int)
  | str (n x : Nat)
  | pnil
  | ptr (b o : Nat)
  | snil
  | sl (b o n c : Nat)
  | slu (b o n sz : Nat)
  | mnil
  | map (b : Nat)
  | fn (f : Fn) (first captured : AV)
  | fnil
  | inil
  | iface (t : Nat) (v : AV)
  | agg (l : AV)
  | tup (l : AV)
  | ge (n : Nat)
  | nl
  | cons (h t : AV)
  deriving Inhabited
/-- The bytes of a string as one number. -/
def packB : List UInt8 → Nat
  | [] => 0
  | b :: l => Nat.add b.toNat (Nat.mul 256 (packB l))
inductive Cs where
  | c1 (a : N16 AV)
  | c2 (a : N16 (N16 AV))
  | c3 (a : N16 (N16 (N16 AV)))
inductive AO where
  | gone
  | cells (n : Nat) (c : Cs)
  | map (es : List (AV × AV))
abbrev T := N16 (N16 AV)
abbrev Hp := N16 (N16 (N16 (N16 AO)))
structure St where
  h : Hp
  n : Nat
inductive R where
  | ok (v : AV) (s : St)
  | bad (why : Nat)
theorem R.bad_ne {w : Nat} {v : AV} {s : St} (h : R.bad w = .ok v s) : False := by cases h

def fN {β : Type} (n : Nat) (c : Nat → β) : β := Nat.rec (motive := fun _ => β) (c 0) (fun k _ => c (Nat.succ k)) n
theorem fN_eq {β : Type} (n : Nat) (c : Nat → β) : fN n c = c n := by cases n <;> rfl
def fI {β : Type} (n : Int) (c : Int → β) : β := Int.rec (motive := fun _ => β) (fun k => fN k fun k => c (.ofNat k)) (fun k => fN k fun k => c (.negSucc k)) n
theorem fI_eq {β : Type} (n : Int) (c : Int → β) : fI n c = c n := by
  cases n
  · exact fN_eq _ fun k => c (.ofNat k)
  · exact fN_eq _ fun k => c (.negSucc k)
def okB {β : Type} (bad : β) (b : Bool) (k : β) : β := Bool.rec (motive := fun _ => β) bad k b
theorem okB_inv {β : Type} {bad : β} {b : Bool} {k r : β} (h : okB bad b k = r) : r = bad ∨ b = true ∧ k = r := by
  cases b
  · exact .inl h.symm
  · exact .inr ⟨rfl, h⟩
def okK (b : Bool) (k : R) : R := Bool.rec (motive := fun _ => R) (.bad 1) k b
theorem okK_inv {b : Bool} {k : R} {v : AV} {s : St} (h : okK b k = .ok v s) : b = true ∧ k = .ok v s := by
  cases b
  · exact (R.bad_ne h).elim
  · exact ⟨rfl, h⟩

def emT : T := N16.all (N16.all .top)
def emH : Hp := N16.all (N16.all (N16.all (N16.all .gone)))
def tget (t : Nat) (T : T) : AV := N16.get (toD (Nat.land t 15)) (N16.get (toD (Nat.div t 16)) T)
def tsetK (t : Nat) (v : AV) (T : T) (c : Ev.T → R) : R :=
  N16.setK (toD (Nat.land t 15)) v (N16.get (toD (Nat.div t 16)) T) fun r => N16.setK (toD (Nat.div t 16)) r T c
def tset (t : Nat) (v : AV) (T : T) : Ev.T := N16.set (toD (Nat.div t 16)) (N16.set (toD (Nat.land t 15)) v (N16.get (toD (Nat.div t 16)) T)) T
theorem tsetK_eq (t : Nat) (v : AV) (T : T) (c : Ev.T → R) : tsetK t v T c = c (tset t v T) := by
  unfold tsetK tset; rw [N16.setK_eq, N16.setK_eq]
theorem tget_em (t : Nat) : tget t emT = .top := by unfold tget emT; rw [N16.get_all, N16.get_all]
theorem tget_same (t : Nat) (v : AV) (T : T) : tget t (tset t v T) = v := by
  unfold tget tset; rw [N16.get_set_same, N16.get_set_same]
theorem tget_other {t u : Nat} (ht : t < 256) (hu : u < 256) (h : t ≠ u) (v : AV) (T : T) : tget u (tset t v T) = tget u T := by
  unfold tget tset
  rw [toD_land, toD_land]
  by_cases e : toD (Nat.div t 16) = toD (Nat.div u 16)
  · rw [← e, N16.get_set_same]
    refine N16.get_set_other (toD_ne ?_) _ _
    have : (t / 16) % 16 = (u / 16) % 16 := toD_inj e
    omega
  · rw [N16.get_set_other e]

def hget (b : Nat) (h : Hp) : AO := N16.get (toD (Nat.land b 15)) (N16.get (toD (Nat.div b 16)) (N16.get (toD (Nat.div b 256)) (N16.get (toD (Nat.div b 4096)) h)))
def hsetK (b : Nat) (o : AO) (h : Hp) (c : Hp → R) : R :=
  (fun h3 => (fun h2 => (fun h1 => N16.setK (toD (Nat.land b 15)) o h1 fun h1 => N16.setK (toD (Nat.div b 16)) h1 h2 fun h2 => N16.setK (toD (Nat.div b 256)) h2 h3 fun h3 => N16.setK (toD (Nat.div b 4096)) h3 h c)
    (N16.get (toD (Nat.div b 16)) h2)) (N16.get (toD (Nat.div b 256)) h3)) (N16.get (toD (Nat.div b 4096)) h)
def hset (b : Nat) (o : AO) (h : Hp) : Hp :=
  N16.set (toD (Nat.div b 4096)) (N16.set (toD (Nat.div b 256)) (N16.set (toD (Nat.div b 16)) (N16.set (toD (Nat.land b 15)) o
    (N16.get (toD (Nat.div b 16)) (N16.get (toD (Nat.div b 256)) (N16.get (toD (Nat.div b 4096)) h)))) (N16.get (toD (Nat.div b 256)) (N16.get (toD (Nat.div b 4096)) h))) (N16.get (toD (Nat.div b 4096)) h)) h
theorem hsetK_eq (b : Nat) (o : AO) (h : Hp) (c : Hp → R) : hsetK b o h c = c (hset b o h) := by
  unfold hsetK hset; simp only [N16.setK_eq]
theorem hget_em (b : Nat) : hget b emH = .gone := by unfold hget emH; simp only [N16.get_all]
theorem hget_same (b : Nat) (o : AO) (h : Hp) : hget b (hset b o h) = o := by
  unfold hget hset; simp only [N16.get_set_same]
theorem hget_other {b e : Nat} (hb : b < 65536) (he : e < 65536) (hne : b ≠ e) (o : AO) (h : Hp) : hget e (hset b o h) = hget e h := by
  unfold hget hset
  rw [toD_land, toD_land]
  by_cases e3 : toD (Nat.div b 4096) = toD (Nat.div e 4096)
  · rw [← e3, N16.get_set_same]
    by_cases e2 : toD (Nat.div b 256) = toD (Nat.div e 256)
    · rw [← e2, N16.get_set_same]
      by_cases e1 : toD (Nat.div b 16) = toD (Nat.div e 16)
      · rw [← e1, N16.get_set_same]
        refine N16.get_set_other (toD_ne ?_) _ _
        have h3 : (b / 4096) % 16 = (e / 4096) % 16 := toD_inj e3
        have h2 : (b / 256) % 16 = (e / 256) % 16 := toD_inj e2
        have h1 : (b / 16) % 16 = (e / 16) % 16 := toD_inj e1
        omega
      · rw [N16.get_set_other e1]
    · rw [N16.get_set_other e2]
  · rw [N16.get_set_other e3]

/-- A row of cells that has room for so many. -/
def Cs.room : Cs → Nat
  | .c1 _ => 16
  | .c2 _ => 256
  | .c3 _ => 4096
def Cs.get (k : Nat) (c : Cs) : AV := Cs.rec (motive := fun _ => AV) (fun a => N16.get (toD k) a)
  (fun a => N16.get (toD (Nat.land k 15)) (N16.get (toD (Nat.div k 16)) a))
  (fun a => N16.get (toD (Nat.land k 15)) (N16.get (toD (Nat.div k 16)) (N16.get (toD (Nat.div k 256)) a))) c
def Cs.setK {β : Type} (bad : β) (k : Nat) (v : AV) (c : Cs) (f : Cs → β) : β := okB bad (Nat.ble (Nat.succ k) c.room) (Cs.rec (motive := fun _ => β) (fun a => N16.setK (toD k) v a fun a => f (.c1 a))
  (fun a => N16.setK (toD (Nat.land k 15)) v (N16.get (toD (Nat.div k 16)) a) fun r => N16.setK (toD (Nat.div k 16)) r a fun a => f (.c2 a))
  (fun a => (fun a1 => N16.setK (toD (Nat.land k 15)) v (N16.get (toD (Nat.div k 16)) a1) fun r => N16.setK (toD (Nat.div k 16)) r a1 fun a1 => N16.setK (toD (Nat.div k 256)) a1 a fun a => f (.c3 a)) (N16.get (toD (Nat.div k 256)) a)) c)
theorem Cs.setK_inv {β : Type} {bad : β} {k : Nat} {v : AV} {c : Cs} {f : Cs → β} {r : β} (h : Cs.setK bad k v c f = r) :
    r = bad ∨ ∃ c' : Cs, f c' = r ∧ k < c.room ∧ c'.room = c.room ∧ c'.get k = v ∧ ∀ j, j < c.room → j ≠ k → c'.get j = c.get j := by
  unfold Cs.setK at h
  rcases okB_inv h with h | ⟨hk, h⟩
  · exact .inl h
  refine .inr ?_
  have hk : k < c.room := Nat.le_of_ble_eq_true hk
  cases c with
  | c1 a =>
    simp only [N16.setK_eq] at h
    refine ⟨_, h, hk, rfl, N16.get_set_same _ _ _, fun j hj hn => N16.get_set_other (toD_ne ?_) _ _⟩
    simp only [Cs.room] at hk hj
    omega
  | c2 a =>
    simp only [N16.setK_eq] at h
    refine ⟨_, h, hk, rfl, ?_, fun j hj hn => ?_⟩
    · simp only [Cs.get, N16.get_set_same]
    · simp only [Cs.room] at hk hj
      simp only [Cs.get, toD_land]
      by_cases e : toD (Nat.div k 16) = toD (Nat.div j 16)
      · rw [← e, N16.get_set_same]
        refine N16.get_set_other (toD_ne ?_) _ _
        have : (k / 16) % 16 = (j / 16) % 16 := toD_inj e
        omega
      · rw [N16.get_set_other e]
  | c3 a =>
    simp only [N16.setK_eq] at h
    refine ⟨_, h, hk, rfl, ?_, fun j hj hn => ?_⟩
    · simp only [Cs.get, N16.get_set_same]
    · simp only [Cs.room] at hk hj
      simp only [Cs.get, toD_land]
      by_cases e2 : toD (Nat.div k 256) = toD (Nat.div j 256)
      · rw [← e2, N16.get_set_same]
        by_cases e : toD (Nat.div k 16) = toD (Nat.div j 16)
        · rw [← e, N16.get_set_same]
          refine N16.get_set_other (toD_ne ?_) _ _
          have h2 : (k / 256) % 16 = (j / 256) % 16 := toD_inj e2
          have h1 : (k / 16) % 16 = (j / 16) % 16 := toD_inj e
          omega
        · rw [N16.get_set_other e]
      · rw [N16.get_set_other e2]
def Cs.new (n : Nat) : Cs := Bool.rec (motive := fun _ => Cs) (Bool.rec (motive := fun _ => Cs) (.c3 (N16.all (N16.all (N16.all .top)))) (.c2 (N16.all (N16.all .top))) (Nat.ble n 256)) (.c1 (N16.all .top)) (Nat.ble n 16)
def AV.len : AV → Nat
  | .cons _ t => Nat.succ (AV.len t)
  | _ => 0
def AV.nth : AV → Nat → AV
  | .cons h _, 0 => h
  | .cons _ t, n + 1 => AV.nth t n
  | _, _ => .top
/-- A list of values. -/
def AV.isL : AV → Bool
  | .nl => true
  | .cons _ t => AV.isL t
  | _ => false
/-- The values of a list are laid out from a place on. -/
def putsK {β : Type} (bad : β) (l : AV) : Nat → Cs → (Nat → Cs → β) → β := AV.rec (motive := fun _ => Nat → Cs → (Nat → Cs → β) → β) (fun _ _ _ => bad) (fun _ _ _ _ => bad) (fun _ _ _ _ _ => bad) (fun _ _ _ _ _ => bad) (fun _ _ _ => bad) (fun _ _ _ _ _ => bad) (fun _ _ _ => bad) (fun _ _ _ _ _ _ _ => bad) (fun _ _ _ _ _ _ _ => bad) (fun _ _ _ => bad) (fun _ _ _ _ => bad) (fun _ _ _ _ _ _ _ _ => bad) (fun _ _ _ => bad) (fun _ _ _ => bad) (fun _ _ _ _ _ _ => bad) (fun _ _ _ _ _ => bad) (fun _ _ _ _ _ => bad) (fun _ _ _ _ => bad) (fun i c k => k i c) (fun h t _ ih i c k => Cs.setK bad i h c fun c => fN (Nat.succ i) fun i => ih i c k) l
theorem putsK_inv {β : Type} {bad : β} : ∀ {l : AV} {i : Nat} {c : Cs} {k : Nat → Cs → β} {r : β}, putsK bad l i c k = r →
    r = bad ∨ ∃ c' : Cs, k (i + l.len) c' = r ∧ l.isL = true ∧ c'.room = c.room ∧ (l.len = 0 ∨ i + l.len ≤ c.room) ∧ (∀ j, j < l.len → c'.get (i + j) = l.nth j) ∧ (∀ j, j < c.room → (j < i ∨ i + l.len ≤ j) → c'.get j = c.get j)
  | .nl, i, c, k, r, h => .inr ⟨c, h, rfl, rfl, .inl rfl, fun j hj => absurd hj (Nat.not_lt_zero _), fun _ _ _ => rfl⟩
  | .cons x t, i, c, k, r, h => by
    change Cs.setK bad i x c (fun c => fN (Nat.succ i) fun i => putsK bad t i c k) = _ at h
    rcases Cs.setK_inv h with h | ⟨c1, h1, hi, hr, hs, ho⟩
    · exact .inl h
    rw [fN_eq] at h1
    rcases putsK_inv h1 with h | ⟨c2, h2, hl, hr2, hd, hg, hk⟩
    · exact .inl h
    refine .inr ?_
    have e : Nat.succ i + t.len = i + (AV.cons x t).len := by simp only [AV.len]; omega
    rw [e] at h2
    refine ⟨c2, h2, hl, hr2.trans hr, .inr ?_, ?_, ?_⟩
    · simp only [AV.len]
      rcases hd with hd | hd
      · rw [hd]; omega
      · rw [hr] at hd; omega
    · intro j hj
      cases j with
      | zero =>
        rw [hk (i + 0) (by rw [hr]; exact hi) (.inl (by omega))]
        exact hs
      | succ j =>
        have := hg j (by simp only [AV.len] at hj; omega)
        rw [show i + (j + 1) = Nat.succ i + j by omega, this]
        rfl
    · intro j hj hc
      simp only [AV.len] at hc
      rw [hk j (by rw [hr]; exact hj) (by omega)]
      exact ho j hj (by omega)
  | .top, _, _, _, _, h => .inl h.symm
  | .bool _, _, _, _, _, h => .inl h.symm
  | .int _ _, _, _, _, _, h => .inl h.symm
  | .str _ _, _, _, _, _, h => .inl h.symm
  | .pnil, _, _, _, _, h => .inl h.symm
  | .ptr _ _, _, _, _, _, h => .inl h.symm
  | .snil, _, _, _, _, h => .inl h.symm
  | .sl _ _ _ _, _, _, _, _, h => .inl h.symm
  | .slu _ _ _ _, _, _, _, _, h => .inl h.symm
  | .mnil, _, _, _, _, h => .inl h.symm
  | .map _, _, _, _, _, h => .inl h.symm
  | .fn _ _ _, _, _, _, _, h => .inl h.symm
  | .fnil, _, _, _, _, h => .inl h.symm
  | .inil, _, _, _, _, h => .inl h.symm
  | .iface _ _, _, _, _, _, h => .inl h.symm
  | .agg _, _, _, _, _, h => .inl h.symm
  | .tup _, _, _, _, _, h => .inl h.symm
  | .ge _, _, _, _, _, h => .inl h.symm
/-- The n cells from a place on, as a list. -/
def takeK (c : Cs) (n : Nat) : Nat → (AV → R) → R := Nat.rec (motive := fun _ => Nat → (AV → R) → R) (fun _ k => k .nl)
  (fun _ ih i k => (fun v => fN (Nat.succ i) fun j => ih j fun l => k (.cons v l)) (Cs.get i c)) n
def takeL (c : Cs) : Nat → Nat → AV
  | 0, _ => .nl
  | n + 1, i => .cons (c.get i) (takeL c n (i + 1))
theorem takeK_eq (c : Cs) : ∀ (n i : Nat) (k : AV → R), takeK c n i k = k (takeL c n i)
  | 0, _, _ => rfl
  | n + 1, i, k => by
    change fN (Nat.succ i) (fun j => takeK c n j fun l => k (.cons (Cs.get i c) l)) = _
    rw [fN_eq, takeK_eq c n]; rfl
theorem takeL_len (c : Cs) : ∀ (n i : Nat), (takeL c n i).len = n
  | 0, _ => rfl
  | n + 1, i => by simp only [takeL, AV.len, takeL_len c n]
theorem takeL_isL (c : Cs) : ∀ (n i : Nat), (takeL c n i).isL = true
  | 0, _ => rfl
  | n + 1, i => by simp only [takeL, AV.isL, takeL_isL c n]
theorem takeL_nth (c : Cs) : ∀ (n i j : Nat), j < n → (takeL c n i).nth j = c.get (i + j)
  | 0, _, _, h => absurd h (Nat.not_lt_zero _)
  | n + 1, i, 0, _ => rfl
  | n + 1, i, j + 1, h => by
    simp only [takeL, AV.nth]
    rw [takeL_nth c n (i + 1) j (by omega), show i + 1 + j = i + (j + 1) by omega]
end
end Go.Ev
