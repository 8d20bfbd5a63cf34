/-
  The table of hits, and what Hit computes: no program in sight.
-/
import Derived.Test.YtfpmbjobieeidaaPlainE
namespace Go.Proofs.Ytfpmbjobieeidaa.Rk

def hAdd (H : Nat → Nat) (n i : Nat) : Nat → Nat := fun n' => if n' = n then H n' ||| 2 ^ i else H n'
def hSet (H : Nat → Nat) (i : Nat) : List Int → Nat → Nat
  | [] => H
  | x :: s => hSet (hAdd H x.toNat i) i s
def hTo (ss : List (List Int)) : Nat → Nat → Nat
  | 0 => fun _ => 0
  | k + 1 => hSet (hTo ss k) k (ss.getD k [])
theorem hSet_snoc (i : Nat) : ∀ (s : List Int) (H : Nat → Nat) (x : Int), hSet H i (s ++ [x]) = hAdd (hSet H i s) x.toNat i
  | [], H, x => rfl
  | y :: s, H, x => by rw [List.cons_append, hSet, hSet_snoc i s, hSet]
theorem hSet_take (H : Nat → Nat) (i : Nat) (s : List Int) (k : Nat) (h : k < s.length) : hSet H i (s.take (k + 1)) = hAdd (hSet H i (s.take k)) (s.getD k 0).toNat i := by
  rw [List.take_succ_eq_append_getElem h, hSet_snoc, List.getD_eq_getElem?_getD, List.getElem?_eq_getElem h]; rfl

/-- The errors of Hit. -/
def hitErr (err : Int) (ok : Bool) (size : Int) : Int := if err ≠ 0 then err else if size < 0 then 1 else if 3 < size then 3 else if ok = true then 0 else 3
/-- The search at the smallest ones of some sets. -/
def hitRun (ss : List (List Int)) (size : Int) : Bool × List (List Int) := grow (hTo ss ss.length) ss size.toNat [] 0 []
end Go.Proofs.Ytfpmbjobieeidaa.Rk
