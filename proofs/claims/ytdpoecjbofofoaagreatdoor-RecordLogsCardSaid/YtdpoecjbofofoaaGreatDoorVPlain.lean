/-
  Logs as bytes, in plain words: what encoding and decoding compute, and that both decoders answer alike.
-/
namespace Go.Proofs.YtdpoecjbofofoaaGreatDoor.Rb

/-! ### Numbers as bytes -/
def vi (n : Nat) : List Nat := if n < 128 then [n] else (n % 128 + 128) :: vi (n / 128)
termination_by n
decreasing_by omega
theorem vi_small {n : Nat} (h : n < 128) : vi n = [n] := by rw [vi, if_pos h]
theorem vi_big {n : Nat} (h : 128 ≤ n) : vi n = (n % 128 + 128) :: vi (n / 128) := by rw [vi, if_neg (by omega)]
theorem vi_pos (n : Nat) : 1 ≤ (vi n).length := by
  rcases Nat.lt_or_ge n 128 with h | h
  · rw [vi_small h]; simp
  · rw [vi_big h]; simp
theorem vi_byte : ∀ (n : Nat), ∀ b ∈ vi n, b < 256 := by
  intro n
  induction n using Nat.strongRecOn with
  | _ n ih =>
    intro b hb
    rcases Nat.lt_or_ge n 128 with h | h
    · rw [vi_small h] at hb; simp at hb; omega
    · rw [vi_big h] at hb
      rcases List.mem_cons.1 hb with rfl | hb
      · omega
      · exact ih (n / 128) (by omega) b hb

/-- As the program reads a number: i bytes have been read, they come to acc. -/
def numPgo : List Nat → Nat → Nat → Option (Nat × List Nat)
  | [], _, _ => none
  | b :: r, i, acc => if 10 ≤ i then none else
    if b < 128 then some (acc ||| ((b % 128) <<< (7 * i)) % 18446744073709551616, r) else numPgo r (i + 1) (acc ||| ((b % 128) <<< (7 * i)) % 18446744073709551616)
def numP (s : List Nat) : Option (Nat × List Nat) := numPgo s 0 0
/-- As the specification reads it. -/
def numRgo : List Nat → Nat → Nat → Option (Nat × List Nat)
  | [], _, _ => none
  | b :: r, i, acc => if 10 ≤ i then none else if i = 9 ∧ 1 < b % 128 then none else
    if b < 128 then (if 0 < i ∧ b % 128 = 0 then none else some ((acc + ((b % 128) <<< (7 * i)) % 18446744073709551616) % 18446744073709551616, r))
    else numRgo r (i + 1) ((acc + ((b % 128) <<< (7 * i)) % 18446744073709551616) % 18446744073709551616)
def numR (s : List Nat) : Option (Nat × List Nat) := numRgo s 0 0

theorem pow_step (i : Nat) : 2 ^ (7 * (i + 1)) = 128 * 2 ^ (7 * i) := by rw [show 7 * (i + 1) = 7 * i + 7 by omega, Nat.pow_add]; omega
theorem pow_rest {i : Nat} (h : i ≤ 9) : 2 ^ (64 - 7 * i) * 2 ^ (7 * i) = 18446744073709551616 := by
  rw [← Nat.pow_add, show 64 - 7 * i + 7 * i = 64 by omega]
theorem pow_less {i : Nat} (h : i < 9) : 2 ^ (64 - 7 * i) = 128 * 2 ^ (64 - 7 * (i + 1)) := by
  rw [show 64 - 7 * i = 64 - 7 * (i + 1) + 7 by omega, Nat.pow_add]; omega
/-- What one byte adds. -/
theorem add_byte {i acc c n : Nat} (hi : i ≤ 9) (ha : acc < 2 ^ (7 * i)) (hn : n < 2 ^ (64 - 7 * i)) (hc : c ≤ n) :
    (c <<< (7 * i)) % 18446744073709551616 = c * 2 ^ (7 * i) ∧ acc + c * 2 ^ (7 * i) < 18446744073709551616 := by
  have h1 : (n + 1) * 2 ^ (7 * i) ≤ 2 ^ (64 - 7 * i) * 2 ^ (7 * i) := Nat.mul_le_mul_right _ hn
  rw [pow_rest hi] at h1
  have h2 : c * 2 ^ (7 * i) ≤ n * 2 ^ (7 * i) := Nat.mul_le_mul_right _ hc
  rw [Nat.add_mul, Nat.one_mul] at h1
  rw [Nat.shiftLeft_eq]
  refine ⟨Nat.mod_eq_of_lt (by omega), by omega⟩
theorem or_byte {i acc c : Nat} (ha : acc < 2 ^ (7 * i)) : acc ||| c * 2 ^ (7 * i) = acc + c * 2 ^ (7 * i) := by
  have := Nat.shiftLeft_add_eq_or_of_lt ha c
  rw [Nat.shiftLeft_eq] at this
  rw [Nat.or_comm, ← this, Nat.add_comm]
theorem numPgo_vi : ∀ (n i acc : Nat) (r : List Nat), i ≤ 9 → acc < 2 ^ (7 * i) → n < 2 ^ (64 - 7 * i) → numPgo (vi n ++ r) i acc = some (acc + n * 2 ^ (7 * i), r) := by
  intro n
  induction n using Nat.strongRecOn with
  | _ n ih =>
    intro i acc r hi ha hn
    rcases Nat.lt_or_ge n 128 with h | h
    · rw [vi_small h, List.cons_append, List.nil_append]
      show (if 10 ≤ i then none else _) = _
      rw [if_neg (by omega), if_pos h]
      obtain ⟨h1, h2⟩ := add_byte (c := n % 128) hi ha hn (by omega)
      rw [h1, or_byte ha, Nat.mod_eq_of_lt h]
    · have hi9 : i < 9 := by
        rcases Nat.lt_or_ge i 9 with g | g
        · exact g
        · have : i = 9 := by omega
          subst this
          have : n < 2 := by simpa using hn
          omega
      rw [vi_big h, List.cons_append]
      show (if 10 ≤ i then none else _) = _
      rw [if_neg (by omega), if_neg (by omega)]
      have e : (n % 128 + 128) % 128 = n % 128 := by omega
      rw [e]
      obtain ⟨h1, h2⟩ := add_byte (c := n % 128) hi ha hn (by omega)
      rw [h1, or_byte ha]
      have hp := pow_step i
      have hl := pow_less hi9
      have hlt : acc + n % 128 * 2 ^ (7 * i) < 2 ^ (7 * (i + 1)) := by
        have : n % 128 * 2 ^ (7 * i) ≤ 127 * 2 ^ (7 * i) := Nat.mul_le_mul_right _ (by omega)
        omega
      rw [ih (n / 128) (by omega) (i + 1) _ r (by omega) hlt (by omega)]
      congr 2
      rw [hp, Nat.add_assoc, ← Nat.mul_assoc, ← Nat.add_mul]
      congr 2
      omega
theorem numRgo_vi : ∀ (n i acc : Nat) (r : List Nat), i ≤ 9 → acc < 2 ^ (7 * i) → n < 2 ^ (64 - 7 * i) → (0 < i → 0 < n) → numRgo (vi n ++ r) i acc = some (acc + n * 2 ^ (7 * i), r) := by
  intro n
  induction n using Nat.strongRecOn with
  | _ n ih =>
    intro i acc r hi ha hn h0
    rcases Nat.lt_or_ge n 128 with h | h
    · rw [vi_small h, List.cons_append, List.nil_append]
      show (if 10 ≤ i then none else _) = _
      have h9 : ¬ (i = 9 ∧ 1 < n % 128) := by
        rintro ⟨rfl, g⟩
        have : n < 2 := by simpa using hn
        omega
      rw [if_neg (by omega), if_neg h9, if_pos h, if_neg (by omega)]
      obtain ⟨h1, h2⟩ := add_byte (c := n % 128) hi ha hn (by omega)
      rw [h1, Nat.mod_eq_of_lt h2, Nat.mod_eq_of_lt h]
    · have hi9 : i < 9 := by
        rcases Nat.lt_or_ge i 9 with g | g
        · exact g
        · have : i = 9 := by omega
          subst this
          have : n < 2 := by simpa using hn
          omega
      rw [vi_big h, List.cons_append]
      show (if 10 ≤ i then none else _) = _
      rw [if_neg (by omega), if_neg (by omega), if_neg (by omega)]
      have e : (n % 128 + 128) % 128 = n % 128 := by omega
      rw [e]
      obtain ⟨h1, h2⟩ := add_byte (c := n % 128) hi ha hn (by omega)
      rw [h1, Nat.mod_eq_of_lt h2]
      have hp := pow_step i
      have hl := pow_less hi9
      have hlt : acc + n % 128 * 2 ^ (7 * i) < 2 ^ (7 * (i + 1)) := by
        have : n % 128 * 2 ^ (7 * i) ≤ 127 * 2 ^ (7 * i) := Nat.mul_le_mul_right _ (by omega)
        omega
      rw [ih (n / 128) (by omega) (i + 1) _ r (by omega) hlt (by omega) (fun _ => by omega)]
      congr 2
      rw [hp, Nat.add_assoc, ← Nat.mul_assoc, ← Nat.add_mul]
      congr 2
      omega
theorem numRgo_inv : ∀ (s : List Nat) (i acc v : Nat) (r : List Nat), (∀ b ∈ s, b < 256) → acc < 2 ^ (7 * i) → numRgo s i acc = some (v, r) →
    ∃ n, s = vi n ++ r ∧ v = acc + n * 2 ^ (7 * i) ∧ n < 2 ^ (64 - 7 * i) ∧ (0 < i → 0 < n) ∧ i ≤ 9 := by
  intro s
  induction s with
  | nil => intro i acc v r _ _ h; cases h
  | cons b s ih =>
    intro i acc v r hb ha h
    have hb0 := hb b List.mem_cons_self
    change (if 10 ≤ i then none else _) = _ at h
    split at h
    · cases h
    · rename_i hi
      split at h
      · cases h
      · rename_i h9
        have hn9 : b % 128 < 2 ^ (64 - 7 * i) := by
          rcases Nat.lt_or_ge i 9 with g | g
          · have h8 : 2 ^ 8 ≤ 2 ^ (64 - 7 * i) := Nat.pow_le_pow_right (by omega) (by omega)
            omega
          · have : i = 9 := by omega
            subst this
            have : b % 128 ≤ 1 := by omega
            show b % 128 < 2
            omega
        obtain ⟨h1, h2⟩ := add_byte (c := b % 128) (i := i) (by omega) ha hn9 (Nat.le_refl _)
        rw [h1, Nat.mod_eq_of_lt h2] at h
        split at h
        · rename_i hlt
          split at h
          · cases h
          · rename_i h0
            cases h
            rw [Nat.mod_eq_of_lt hlt] at hn9 ⊢
            refine ⟨b, by rw [vi_small hlt]; rfl, rfl, hn9, fun h => ?_, by omega⟩
            rw [Nat.mod_eq_of_lt hlt] at h0
            omega
        · rename_i hge
          have hp := pow_step i
          have hlt : acc + b % 128 * 2 ^ (7 * i) < 2 ^ (7 * (i + 1)) := by
            have : b % 128 * 2 ^ (7 * i) ≤ 127 * 2 ^ (7 * i) := Nat.mul_le_mul_right _ (by omega)
            omega
          obtain ⟨n, hs, hv, hn, hn0, hi9⟩ := ih (i + 1) _ v r (fun x hx => hb x (List.mem_cons_of_mem _ hx)) hlt h
          have hn0 := hn0 (by omega)
          have hl := pow_less (i := i) (by omega)
          refine ⟨128 * n + b % 128, ?_, ?_, by omega, fun _ => by omega, by omega⟩
          · rw [vi_big (by omega), show (128 * n + b % 128) % 128 + 128 = b by omega, show (128 * n + b % 128) / 128 = n by omega, hs]; rfl
          · rw [hv, hp, Nat.add_mul, Nat.add_assoc]
            congr 1
            rw [Nat.add_comm, ← Nat.mul_assoc, Nat.mul_comm n 128]
theorem numP_vi {n : Nat} (h : n < 18446744073709551616) (r : List Nat) : numP (vi n ++ r) = some (n, r) := by
  have := numPgo_vi n 0 0 r (by omega) (by simp) (by simpa using h)
  simpa [numP] using this
theorem numR_vi {n : Nat} (h : n < 18446744073709551616) (r : List Nat) : numR (vi n ++ r) = some (n, r) := by
  have := numRgo_vi n 0 0 r (by omega) (by simp) (by simpa using h) (by omega)
  simpa [numR] using this
theorem numR_inv {s r : List Nat} {n : Nat} (hb : ∀ b ∈ s, b < 256) (h : numR s = some (n, r)) : s = vi n ++ r ∧ n < 18446744073709551616 := by
  obtain ⟨m, h1, h2, h3, -, -⟩ := numRgo_inv s 0 0 n r hb (by simp) h
  have : n = m := by simpa using h2
  subst this
  exact ⟨h1, by simpa using h3⟩

/-! ### Logs -/
structure Lg where
  steps : Int
  picks : List (Int × Int)
  inputs : List Int
  clocks : List Int
  sum : Nat
def zz (v : Int) : Nat := if v < 0 then 2 * (-(v + 1)).toNat + 1 else 2 * v.toNat
def unzz (n : Nat) : Int := if n % 2 = 1 then -((n / 2 : Nat) : Int) - 1 else ((n / 2 : Nat) : Int)
theorem unzz_zz (v : Int) : unzz (zz v) = v := by
  unfold zz unzz
  by_cases h : v < 0
  · rw [if_pos h, if_pos (by omega)]; omega
  · rw [if_neg h, if_neg (by omega)]; omega
theorem zz_unzz (n : Nat) : zz (unzz n) = n := by
  unfold unzz
  by_cases h : n % 2 = 1
  · rw [if_pos h]; unfold zz; rw [if_pos (by omega)]; omega
  · rw [if_neg h]; unfold zz; rw [if_neg (by omega)]; omega
def I64 (v : Int) : Prop := -9223372036854775808 ≤ v ∧ v < 9223372036854775808
theorem zz_lt {v : Int} (h : I64 v) : zz v < 18446744073709551616 := by
  obtain ⟨h1, h2⟩ := h
  unfold zz
  split <;> omega
def lows (n : Nat) : Nat → List Nat
  | 0 => []
  | k + 1 => n % 256 :: lows (n / 256) k
theorem lows_len : ∀ (k n : Nat), (lows n k).length = k
  | 0, _ => rfl
  | k + 1, n => congrArg Nat.succ (lows_len k (n / 256))
theorem lows_byte : ∀ (k n : Nat), ∀ b ∈ lows n k, b < 256
  | 0, _, _, h => by cases h
  | k + 1, n, b, h => by
    rcases List.mem_cons.1 h with rfl | h
    · omega
    · exact lows_byte k (n / 256) b h
/-- The number whose lowest bytes these are. -/
def sumOf : List Nat → Nat
  | [] => 0
  | b :: l => b + 256 * sumOf l
theorem sumOf_lows : ∀ (k n : Nat), n < 256 ^ k → sumOf (lows n k) = n
  | 0, n, h => by simp at h; subst h; rfl
  | k + 1, n, h => by
    rw [Nat.pow_succ] at h
    show n % 256 + 256 * sumOf (lows (n / 256) k) = n
    rw [sumOf_lows k (n / 256) (by omega)]
    omega
theorem lows_sumOf : ∀ (l : List Nat), (∀ b ∈ l, b < 256) → lows (sumOf l) l.length = l
  | [], _ => rfl
  | b :: l, h => by
    have hb := h b List.mem_cons_self
    show (b + 256 * sumOf l) % 256 :: lows ((b + 256 * sumOf l) / 256) l.length = b :: l
    rw [show (b + 256 * sumOf l) / 256 = sumOf l by omega, lows_sumOf l fun x hx => h x (List.mem_cons_of_mem _ hx)]
    congr 1
    omega
theorem sumOf_lt : ∀ (l : List Nat), (∀ b ∈ l, b < 256) → sumOf l < 256 ^ l.length
  | [], _ => by simp [sumOf]
  | b :: l, h => by
    have hb := h b List.mem_cons_self
    have := sumOf_lt l fun x hx => h x (List.mem_cons_of_mem _ hx)
    show b + 256 * sumOf l < 256 ^ (l.length + 1)
    rw [Nat.pow_succ]
    omega
def fnv (l : List Nat) : Nat := l.foldl (fun s c => (s ^^^ c) * 1099511628211 % 18446744073709551616) 14695981039346656037
def shapeGo : List (Int × Int) → Int → Int → Option Int
  | [], sum, _ => some sum
  | (t, c) :: r, sum, last => if t < 0 ∨ 8 ≤ t ∨ t = last ∨ c < 1 ∨ 65536 - sum < c then none else shapeGo r (sum + c) t
/-- What is said of a log: 0, or an error's number. -/
def shape (l : Lg) : Int := if 65536 < l.picks.length ∨ 1024 < l.inputs.length ∨ 1024 < l.clocks.length then 3 else match shapeGo l.picks 0 (-1) with
  | none => 4
  | some n => if n = l.steps then 0 else 4
theorem shapeGo_inv : ∀ {l : List (Int × Int)} {s last n : Int}, shapeGo l s last = some n → 0 ≤ s → s ≤ 65536 → s ≤ n ∧ n ≤ 65536 ∧ ∀ x ∈ l, 0 ≤ x.1 ∧ x.1 < 8 ∧ 1 ≤ x.2 ∧ x.2 ≤ 65536
  | [], s, last, n, h, h0, h1 => by cases h; exact ⟨Int.le_refl _, h1, fun x hx => by cases hx⟩
  | (t, c) :: r, s, last, n, h, h0, h1 => by
    unfold shapeGo at h
    split at h
    · cases h
    · rename_i hc
      obtain ⟨a, b, d⟩ := shapeGo_inv h (by omega) (by omega)
      refine ⟨by omega, b, fun x hx => ?_⟩
      rcases List.mem_cons.1 hx with rfl | hx
      · exact ⟨by show 0 ≤ t; omega, by show t < 8; omega, by show 1 ≤ c; omega, by show c ≤ 65536; omega⟩
      · exact d x hx
theorem shape_inv {l : Lg} (h : shape l = 0) : l.picks.length ≤ 65536 ∧ l.inputs.length ≤ 1024 ∧ l.clocks.length ≤ 1024 ∧ 0 ≤ l.steps ∧ l.steps ≤ 65536 ∧ ∀ x ∈ l.picks, 0 ≤ x.1 ∧ x.1 < 8 ∧ 1 ≤ x.2 ∧ x.2 ≤ 65536 := by
  unfold shape at h
  split at h
  · cases h
  · rename_i h1
    split at h
    · cases h
    · rename_i n hn
      split at h
      · rename_i he
        obtain ⟨a, b, c⟩ := shapeGo_inv hn (by omega) (by omega)
        subst he
        exact ⟨by omega, by omega, by omega, a, b, c⟩
      · cases h

def encP : List (Int × Int) → List Nat
  | [] => []
  | x :: l => vi x.1.toNat ++ (vi x.2.toNat ++ encP l)
def encV : List Int → List Nat
  | [] => []
  | v :: l => vi (zz v) ++ encV l
def values (l : List Int) : List Nat := vi l.length ++ encV l
def head : List Nat := [83, 76, 79, 71, 1]
/-- What follows the head. -/
def body (l : Lg) : List Nat := vi l.steps.toNat ++ (vi l.picks.length ++ (encP l.picks ++ (values l.inputs ++ (values l.clocks ++ lows l.sum 8))))
def enc (l : Lg) : List Nat := head ++ body l ++ lows (fnv (head ++ body l)) 4
theorem encP_len : ∀ l : List (Int × Int), 2 * l.length ≤ (encP l).length
  | [] => by simp [encP]
  | x :: l => by
    have := encP_len l
    have h1 := vi_pos x.1.toNat
    have h2 := vi_pos x.2.toNat
    simp only [encP, List.length_append, List.length_cons]
    omega
theorem encV_len : ∀ l : List Int, l.length ≤ (encV l).length
  | [] => by simp [encV]
  | x :: l => by
    have := encV_len l
    have h1 := vi_pos (zz x)
    simp only [encV, List.length_append, List.length_cons]
    omega

/-! ### The program's decoder -/
def numF (s : List Nat) (bad : Bool) : Nat × List Nat × Bool := match numP s with
  | some (n, r) => (n, r, bad)
  | none => (0, s, true)
def smallF (s : List Nat) (bad : Bool) : Nat × List Nat × Bool := if 65536 < (numF s bad).1 then (0, (numF s bad).2.1, true) else numF s bad
def manyF (s : List Nat) (bad : Bool) : Nat × List Nat × Bool := if (numF s bad).2.1.length < (numF s bad).1 then (0, (numF s bad).2.1, true) else numF s bad
def valsF : Nat → List Nat → Bool → List Int × List Nat × Bool
  | 0, s, b => ([], s, b)
  | k + 1, s, b => (unzz (numF s b).1 :: (valsF k (numF s b).2.1 (numF s b).2.2).1, (valsF k (numF s b).2.1 (numF s b).2.2).2)
def valuesF (s : List Nat) (bad : Bool) : List Int × List Nat × Bool := valsF (manyF s bad).1 (manyF s bad).2.1 (manyF s bad).2.2
def picksF : Nat → List Nat → Bool → List (Int × Int) × List Nat × Bool
  | 0, s, b => ([], s, b)
  | k + 1, s, b =>
    let x := smallF s b
    if x.2.2 then ([], x.2) else
    let y := smallF x.2.1 x.2.2
    if y.2.2 then ([], y.2) else
    let z := picksF k y.2.1 y.2.2
    (((x.1 : Int), (y.1 : Int)) :: z.1, z.2)
def logF (s : List Nat) : Lg × Bool :=
  let a := smallF s false
  let m := manyF a.2.1 a.2.2
  let p := picksF m.1 m.2.1 m.2.2
  let i := valuesF p.2.1 p.2.2
  let c := valuesF i.2.1 i.2.2
  (⟨a.1, p.1, i.1, c.1, sumOf c.2.1⟩, c.2.2 || !decide (c.2.1.length = 8))
/-- What the program's decoder answers: a log, or an error's number. -/
def decP (b : List Nat) : Lg ⊕ Int := if b.length < 4 then .inr 4 else
  if lows (fnv (b.take (b.length - 4))) 4 ≠ b.drop (b.length - 4) then .inr 10 else
  if (b.take (b.length - 4)).take 5 ≠ head then .inr 4 else
  if (logF ((b.take (b.length - 4)).drop 5)).2 then .inr 4 else
  if shape (logF ((b.take (b.length - 4)).drop 5)).1 ≠ 0 ∨ enc (logF ((b.take (b.length - 4)).drop 5)).1 ≠ b then .inr 4 else .inl (logF ((b.take (b.length - 4)).drop 5)).1

/-! ### The specification's decoder -/
def numG (s : List Nat) (bad : Bool) : Nat × List Nat × Bool := match numR s with
  | some (n, r) => (n, r, bad)
  | none => (0, s, true)
def countG (s : List Nat) (bad : Bool) : Nat × List Nat × Bool := if (numG s bad).2.1.length < (numG s bad).1 then (0, (numG s bad).2.1, true) else numG s bad
def boundG (s : List Nat) (bad : Bool) : Nat × List Nat × Bool := if 1073741824 < (numG s bad).1 then (0, (numG s bad).2.1, true) else numG s bad
def picksG : Nat → List Nat → Bool → List (Int × Int) × List Nat × Bool
  | 0, s, b => ([], s, b)
  | k + 1, s, b => if b then ([], s, b) else
    let x := boundG s b
    let y := boundG x.2.1 x.2.2
    let z := picksG k y.2.1 y.2.2
    (((x.1 : Int), (y.1 : Int)) :: z.1, z.2)
def valsG : Nat → List Nat → Bool → List Int × List Nat × Bool
  | 0, s, b => ([], s, b)
  | k + 1, s, b => if b then ([], s, b) else
    let x := numG s b
    let z := valsG k x.2.1 x.2.2
    (unzz x.1 :: z.1, z.2)
def valuesG (s : List Nat) (bad : Bool) : List Int × List Nat × Bool := valsG (countG s bad).1 (countG s bad).2.1 (countG s bad).2.2
def logG (s : List Nat) : Lg × Bool :=
  let a := boundG s false
  let m := countG a.2.1 a.2.2
  let p := picksG m.1 m.2.1 m.2.2
  let i := valuesG p.2.1 p.2.2
  let c := valuesG i.2.1 i.2.2
  (⟨a.1, p.1, i.1, c.1, sumOf c.2.1⟩, c.2.2 || !decide (c.2.1.length = 8))
def decR (b : List Nat) : Lg ⊕ Int := if b.length < 4 then .inr 4 else
  if lows (fnv (b.take (b.length - 4))) 4 ≠ b.drop (b.length - 4) then .inr 10 else
  if b.length < 17 ∨ b.take 5 ≠ head then .inr 4 else
  if (logG ((b.take (b.length - 4)).drop 5)).2 then .inr 4 else
  if shape (logG ((b.take (b.length - 4)).drop 5)).1 ≠ 0 then .inr 4 else .inl (logG ((b.take (b.length - 4)).drop 5)).1

/-! ### Both read what was written -/
def Fit (l : Lg) : Prop := shape l = 0 ∧ (∀ v ∈ l.inputs, I64 v) ∧ (∀ v ∈ l.clocks, I64 v) ∧ l.sum < 18446744073709551616
theorem numF_vi {n : Nat} (h : n < 18446744073709551616) (r : List Nat) (b : Bool) : numF (vi n ++ r) b = (n, r, b) := by unfold numF; rw [numP_vi h]
theorem numG_vi {n : Nat} (h : n < 18446744073709551616) (r : List Nat) (b : Bool) : numG (vi n ++ r) b = (n, r, b) := by unfold numG; rw [numR_vi h]
theorem smallF_vi {n : Nat} (h : n ≤ 65536) (r : List Nat) (b : Bool) : smallF (vi n ++ r) b = (n, r, b) := by
  unfold smallF; rw [numF_vi (by omega)]; exact if_neg (by show ¬ 65536 < n; omega)
theorem manyF_vi {n : Nat} (h : n < 18446744073709551616) (r : List Nat) (b : Bool) (hr : n ≤ r.length) : manyF (vi n ++ r) b = (n, r, b) := by
  unfold manyF; rw [numF_vi h]; exact if_neg (by show ¬ r.length < n; omega)
theorem boundG_vi {n : Nat} (h : n ≤ 65536) (r : List Nat) (b : Bool) : boundG (vi n ++ r) b = (n, r, b) := by
  unfold boundG; rw [numG_vi (by omega)]; exact if_neg (by show ¬ 1073741824 < n; omega)
theorem countG_vi {n : Nat} (h : n < 18446744073709551616) (r : List Nat) (b : Bool) (hr : n ≤ r.length) : countG (vi n ++ r) b = (n, r, b) := by
  unfold countG; rw [numG_vi h]; exact if_neg (by show ¬ r.length < n; omega)
theorem valsF_enc : ∀ (l : List Int) (r : List Nat) (b : Bool), (∀ v ∈ l, I64 v) → valsF l.length (encV l ++ r) b = (l, r, b)
  | [], r, b, _ => rfl
  | v :: l, r, b, h => by
    have e : encV (v :: l) ++ r = vi (zz v) ++ (encV l ++ r) := by simp [encV]
    rw [List.length_cons, e]
    unfold valsF
    rw [numF_vi (zz_lt (h v List.mem_cons_self))]
    simp only
    rw [valsF_enc l r b fun x hx => h x (List.mem_cons_of_mem _ hx), unzz_zz]
theorem valsG_enc : ∀ (l : List Int) (r : List Nat), (∀ v ∈ l, I64 v) → valsG l.length (encV l ++ r) false = (l, r, false)
  | [], r, _ => rfl
  | v :: l, r, h => by
    have e : encV (v :: l) ++ r = vi (zz v) ++ (encV l ++ r) := by simp [encV]
    rw [List.length_cons, e]
    unfold valsG
    rw [numG_vi (zz_lt (h v List.mem_cons_self))]
    simp only [Bool.false_eq_true, if_false]
    rw [valsG_enc l r fun x hx => h x (List.mem_cons_of_mem _ hx), unzz_zz]
theorem valuesF_enc {l : List Int} (hn : l.length ≤ 1024) (h : ∀ v ∈ l, I64 v) (r : List Nat) : valuesF (values l ++ r) false = (l, r, false) := by
  have hl := encV_len l
  have e : values l ++ r = vi l.length ++ (encV l ++ r) := by simp [values]
  unfold valuesF
  rw [e, manyF_vi (by omega) _ _ (by rw [List.length_append]; omega)]
  exact valsF_enc l r false h
theorem valuesG_enc {l : List Int} (hn : l.length ≤ 1024) (h : ∀ v ∈ l, I64 v) (r : List Nat) : valuesG (values l ++ r) false = (l, r, false) := by
  have hl := encV_len l
  have e : values l ++ r = vi l.length ++ (encV l ++ r) := by simp [values]
  unfold valuesG
  rw [e, countG_vi (by omega) _ _ (by rw [List.length_append]; omega)]
  exact valsG_enc l r h
theorem picksF_enc : ∀ (l : List (Int × Int)) (r : List Nat), (∀ x ∈ l, 0 ≤ x.1 ∧ x.1 < 8 ∧ 1 ≤ x.2 ∧ x.2 ≤ 65536) → picksF l.length (encP l ++ r) false = (l, r, false)
  | [], r, _ => rfl
  | x :: l, r, h => by
    have hx := h x List.mem_cons_self
    have e : encP (x :: l) ++ r = vi x.1.toNat ++ (vi x.2.toNat ++ (encP l ++ r)) := by simp [encP]
    rw [List.length_cons, e]
    unfold picksF
    rw [smallF_vi (by omega)]
    simp only [Bool.false_eq_true, if_false]
    rw [smallF_vi (by omega)]
    simp only [Bool.false_eq_true, if_false]
    rw [picksF_enc l r fun x hx => h x (List.mem_cons_of_mem _ hx), Int.toNat_of_nonneg hx.1, Int.toNat_of_nonneg (by omega)]
theorem picksG_enc : ∀ (l : List (Int × Int)) (r : List Nat), (∀ x ∈ l, 0 ≤ x.1 ∧ x.1 < 8 ∧ 1 ≤ x.2 ∧ x.2 ≤ 65536) → picksG l.length (encP l ++ r) false = (l, r, false)
  | [], r, _ => rfl
  | x :: l, r, h => by
    have hx := h x List.mem_cons_self
    have e : encP (x :: l) ++ r = vi x.1.toNat ++ (vi x.2.toNat ++ (encP l ++ r)) := by simp [encP]
    rw [List.length_cons, e]
    unfold picksG
    rw [boundG_vi (by omega)]
    simp only [Bool.false_eq_true, if_false]
    rw [boundG_vi (by omega)]
    simp only
    rw [picksG_enc l r fun x hx => h x (List.mem_cons_of_mem _ hx), Int.toNat_of_nonneg hx.1, Int.toNat_of_nonneg (by omega)]
theorem logF_body {l : Lg} (h : Fit l) : logF (body l) = (l, false) := by
  obtain ⟨hs, hi, hc, hsum⟩ := h
  obtain ⟨h1, h2, h3, h4, h5, h6⟩ := shape_inv hs
  have hp := encP_len l.picks
  unfold logF body
  rw [smallF_vi (by omega)]
  simp only
  rw [manyF_vi (by omega) _ _ (by rw [List.length_append]; omega)]
  simp only
  rw [picksF_enc _ _ h6]
  simp only
  rw [valuesF_enc h2 hi]
  simp only
  rw [valuesF_enc h3 hc]
  simp only [lows_len, decide_true, Bool.not_true, Bool.or_false]
  rw [sumOf_lows 8 _ (by simpa using hsum), Int.toNat_of_nonneg h4]
theorem logG_body {l : Lg} (h : Fit l) : logG (body l) = (l, false) := by
  obtain ⟨hs, hi, hc, hsum⟩ := h
  obtain ⟨h1, h2, h3, h4, h5, h6⟩ := shape_inv hs
  have hp := encP_len l.picks
  unfold logG body
  rw [boundG_vi (by omega)]
  simp only
  rw [countG_vi (by omega) _ _ (by rw [List.length_append]; omega)]
  simp only
  rw [picksG_enc _ _ h6]
  simp only
  rw [valuesG_enc h2 hi]
  simp only
  rw [valuesG_enc h3 hc]
  simp only [lows_len, decide_true, Bool.not_true, Bool.or_false]
  rw [sumOf_lows 8 _ (by simpa using hsum), Int.toNat_of_nonneg h4]
/-! ### What the specification's decoder takes was written so -/
def Bytes (s : List Nat) : Prop := ∀ b ∈ s, b < 256
theorem Bytes.right {s r : List Nat} (h : Bytes (s ++ r)) : Bytes r := fun b hb => h b (List.mem_append.2 (.inr hb))
theorem numG_ok {s : List Nat} {b : Bool} (hs : Bytes s) (h : (numG s b).2.2 = false) : b = false ∧ s = vi (numG s b).1 ++ (numG s b).2.1 ∧ (numG s b).1 < 18446744073709551616 := by
  unfold numG at h ⊢
  cases hn : numR s with
  | none => rw [hn] at h; cases h
  | some x =>
    obtain ⟨n, r⟩ := x
    rw [hn] at h
    obtain ⟨h1, h2⟩ := numR_inv hs hn
    exact ⟨h, h1, h2⟩
theorem boundG_ok {s : List Nat} {b : Bool} (hs : Bytes s) (h : (boundG s b).2.2 = false) : b = false ∧ s = vi (boundG s b).1 ++ (boundG s b).2.1 := by
  unfold boundG at h ⊢
  split at h
  · cases h
  · rename_i hc
    rw [if_neg hc]
    obtain ⟨h1, h2, -⟩ := numG_ok hs h
    exact ⟨h1, h2⟩
theorem countG_ok {s : List Nat} {b : Bool} (hs : Bytes s) (h : (countG s b).2.2 = false) : b = false ∧ s = vi (countG s b).1 ++ (countG s b).2.1 := by
  unfold countG at h ⊢
  split at h
  · cases h
  · rename_i hc
    rw [if_neg hc]
    obtain ⟨h1, h2, -⟩ := numG_ok hs h
    exact ⟨h1, h2⟩
theorem picksG_ok : ∀ {k : Nat} {s : List Nat} {b : Bool}, Bytes s → (picksG k s b).2.2 = false → b = false ∧ s = encP (picksG k s b).1 ++ (picksG k s b).2.1 ∧ (picksG k s b).1.length = k
  | 0, s, b, _, h => ⟨h, rfl, rfl⟩
  | k + 1, s, b, hs, h => by
    unfold picksG at h ⊢
    cases b with
    | true => cases h
    | false =>
      simp only [Bool.false_eq_true, if_false] at h ⊢
      have hz : (picksG k (boundG (boundG s false).2.1 (boundG s false).2.2).2.1 (boundG (boundG s false).2.1 (boundG s false).2.2).2.2).2.2 = false := h
      rcases hx : boundG s false with ⟨n1, r1, b1⟩
      rw [hx] at hz
      simp only at hz
      rcases hy : boundG r1 b1 with ⟨n2, r2, b2⟩
      rw [hy] at hz
      simp only at hz
      have hb2 : b2 = false := by
        cases b2 with
        | false => rfl
        | true => cases k <;> (unfold picksG at hz; simp at hz)
      subst hb2
      have hb1 : b1 = false := by
        cases b1 with
        | false => rfl
        | true =>
          have : (boundG r1 true).2.2 = true := by
            unfold boundG numG
            cases numR r1 <;> simp only <;> split <;> rfl
          rw [hy] at this; cases this
      subst hb1
      obtain ⟨-, e1⟩ := boundG_ok (b := false) hs (by rw [hx])
      rw [hx] at e1
      simp only at e1
      have hr1 : Bytes r1 := by rw [e1] at hs; exact hs.right
      obtain ⟨-, e2⟩ := boundG_ok (b := false) hr1 (by rw [hy])
      rw [hy] at e2
      simp only at e2
      have hr2 : Bytes r2 := by rw [e2] at hr1; exact hr1.right
      obtain ⟨-, e3, e4⟩ := picksG_ok hr2 hz
      simp only
      refine ⟨trivial, ?_, by simp [e4]⟩
      conv => lhs; rw [e1, e2, e3]
      simp [encP]
theorem unzz_i64 {n : Nat} (h : n < 18446744073709551616) : I64 (unzz n) := by
  unfold I64 unzz
  split <;> omega
theorem valsG_ok : ∀ {k : Nat} {s : List Nat} {b : Bool}, Bytes s → (valsG k s b).2.2 = false → b = false ∧ s = encV (valsG k s b).1 ++ (valsG k s b).2.1 ∧ (valsG k s b).1.length = k ∧ ∀ v ∈ (valsG k s b).1, I64 v
  | 0, s, b, _, h => ⟨h, rfl, rfl, fun v hv => by cases hv⟩
  | k + 1, s, b, hs, h => by
    unfold valsG at h ⊢
    cases b with
    | true => cases h
    | false =>
      simp only [Bool.false_eq_true, if_false] at h ⊢
      have hz : (valsG k (numG s false).2.1 (numG s false).2.2).2.2 = false := h
      rcases hx : numG s false with ⟨n1, r1, b1⟩
      rw [hx] at hz
      simp only at hz
      have hb1 : b1 = false := by
        cases b1 with
        | false => rfl
        | true => cases k <;> (unfold valsG at hz; simp at hz)
      subst hb1
      obtain ⟨-, e1, e2⟩ := numG_ok (b := false) hs (by rw [hx])
      rw [hx] at e1 e2
      simp only at e1 e2
      have hr1 : Bytes r1 := by rw [e1] at hs; exact hs.right
      obtain ⟨-, e3, e4, e5⟩ := valsG_ok hr1 hz
      simp only
      refine ⟨trivial, ?_, by simp [e4], fun v hv => ?_⟩
      · conv => lhs; rw [e1, e3]
        simp [encV, zz_unzz]
      · rcases List.mem_cons.1 hv with rfl | hv
        · exact unzz_i64 e2
        · exact e5 v hv
theorem valuesG_ok {s : List Nat} {b : Bool} (hs : Bytes s) (h : (valuesG s b).2.2 = false) : b = false ∧ s = values (valuesG s b).1 ++ (valuesG s b).2.1 ∧ ∀ v ∈ (valuesG s b).1, I64 v := by
  unfold valuesG at h ⊢
  rcases hx : countG s b with ⟨n1, r1, b1⟩
  rw [hx] at h
  simp only at h ⊢
  have hb1 : b1 = false := by
    cases b1 with
    | false => rfl
    | true => cases n1 <;> (unfold valsG at h; simp at h)
  subst hb1
  obtain ⟨e0, e1⟩ := countG_ok hs (by rw [hx])
  rw [hx] at e1
  simp only at e1
  have hr1 : Bytes r1 := by rw [e1] at hs; exact hs.right
  obtain ⟨-, e3, e4, e5⟩ := valsG_ok hr1 h
  refine ⟨e0, ?_, e5⟩
  conv => lhs; rw [e1, e3]
  simp [values, e4]
theorem logG_inv {s : List Nat} (hs : Bytes s) (h : (logG s).2 = false) (hsh : shape (logG s).1 = 0) : s = body (logG s).1 ∧ Fit (logG s).1 := by
  unfold logG at h hsh ⊢
  rcases h1 : boundG s false with ⟨n1, r1, b1⟩
  rw [h1] at h hsh
  simp only at h hsh ⊢
  rcases h2 : countG r1 b1 with ⟨n2, r2, b2⟩
  rw [h2] at h hsh
  simp only at h hsh ⊢
  rcases h3 : picksG n2 r2 b2 with ⟨l3, r3, b3⟩
  rw [h3] at h hsh
  simp only at h hsh ⊢
  rcases h4 : valuesG r3 b3 with ⟨l4, r4, b4⟩
  rw [h4] at h hsh
  simp only at h hsh ⊢
  rcases h5 : valuesG r4 b4 with ⟨l5, r5, b5⟩
  rw [h5] at h hsh
  simp only at h hsh ⊢
  simp only [Bool.or_eq_false_iff, Bool.not_eq_false', decide_eq_true_eq] at h
  obtain ⟨rfl, hlen⟩ := h
  -- the bytes are known from the first number on
  have numTrue : ∀ t, (numG t true).2.2 = true := fun t => by unfold numG; cases numR t <;> rfl
  have boundTrue : ∀ t, (boundG t true).2.2 = true := fun t => by unfold boundG; split; rfl; exact numTrue t
  have countTrue : ∀ t, (countG t true).2.2 = true := fun t => by unfold countG; split; rfl; exact numTrue t
  have valsTrue : ∀ k t, (valsG k t true).2.2 = true := fun k t => by cases k <;> (unfold valsG; simp)
  have picksTrue : ∀ k t, (picksG k t true).2.2 = true := fun k t => by cases k <;> (unfold picksG; simp)
  have valuesTrue : ∀ t, (valuesG t true).2.2 = true := fun t => by
    unfold valuesG
    rw [countTrue t]
    exact valsTrue _ _
  have hb4 : b4 = false := by cases b4 with | false => rfl | true => have := valuesTrue r4; rw [h5] at this; cases this
  subst hb4
  have hb3 : b3 = false := by cases b3 with | false => rfl | true => have := valuesTrue r3; rw [h4] at this; cases this
  subst hb3
  have hb2 : b2 = false := by cases b2 with | false => rfl | true => have := picksTrue n2 r2; rw [h3] at this; cases this
  subst hb2
  have hb1 : b1 = false := by cases b1 with | false => rfl | true => have := countTrue r1; rw [h2] at this; cases this
  subst hb1
  obtain ⟨-, e1⟩ := boundG_ok (b := false) hs (by rw [h1])
  rw [h1] at e1
  have q1 : Bytes r1 := by rw [e1] at hs; exact hs.right
  obtain ⟨-, e2⟩ := countG_ok (b := false) q1 (by rw [h2])
  rw [h2] at e2
  have q2 : Bytes r2 := by rw [e2] at q1; exact q1.right
  obtain ⟨-, e3, e3'⟩ := picksG_ok (k := n2) (b := false) q2 (by rw [h3])
  rw [h3] at e3 e3'
  have q3 : Bytes r3 := by rw [e3] at q2; exact q2.right
  obtain ⟨-, e4, e4'⟩ := valuesG_ok (b := false) q3 (by rw [h4])
  rw [h4] at e4 e4'
  have q4 : Bytes r4 := by rw [e4] at q3; exact q3.right
  obtain ⟨-, e5, e5'⟩ := valuesG_ok (b := false) q4 (by rw [h5])
  rw [h5] at e5 e5'
  have q5 : Bytes r5 := by rw [e5] at q4; exact q4.right
  simp only at e1 e2 e3 e3' e4 e4' e5 e5'
  refine ⟨?_, hsh, e4', e5', ?_⟩
  · have e6 : lows (sumOf r5) 8 = r5 := by have := lows_sumOf r5 q5; rwa [hlen] at this
    conv => lhs; rw [e1, e2, e3, e4, e5]
    unfold body
    simp only [e3', e6, Int.toNat_natCast]
  · have := sumOf_lt r5 q5
    rw [hlen] at this
    simpa using this
/-! ### The program's decoder takes logs that fit -/
theorem numPgo_lt : ∀ (s : List Nat) (i acc v : Nat) (r : List Nat), Bytes s → acc < 18446744073709551616 → numPgo s i acc = some (v, r) → v < 18446744073709551616 ∧ Bytes r
  | [], _, _, _, _, _, _, h => by cases h
  | b :: s, i, acc, v, r, hs, ha, h => by
    have hs' : Bytes s := fun x hx => hs x (List.mem_cons_of_mem _ hx)
    have hor : acc ||| ((b % 128) <<< (7 * i)) % 18446744073709551616 < 18446744073709551616 := by
      have := Nat.or_lt_two_pow (n := 64) (x := acc) (y := ((b % 128) <<< (7 * i)) % 18446744073709551616) ha (Nat.mod_lt _ (by omega))
      exact this
    change (if 10 ≤ i then none else _) = _ at h
    split at h
    · cases h
    · split at h
      · cases h; exact ⟨hor, hs'⟩
      · exact numPgo_lt s (i + 1) _ v r hs' hor h
theorem numF_ok {s : List Nat} (b : Bool) (hs : Bytes s) : (numF s b).1 < 18446744073709551616 ∧ Bytes (numF s b).2.1 := by
  unfold numF
  cases h : numP s with
  | none => exact ⟨by show 0 < _; omega, hs⟩
  | some x => exact numPgo_lt s 0 0 x.1 x.2 hs (by omega) h
theorem smallF_ok {s : List Nat} (b : Bool) (hs : Bytes s) : Bytes (smallF s b).2.1 := by
  unfold smallF; split <;> exact (numF_ok b hs).2
theorem manyF_ok {s : List Nat} (b : Bool) (hs : Bytes s) : Bytes (manyF s b).2.1 := by
  unfold manyF; split <;> exact (numF_ok b hs).2
theorem valsF_ok : ∀ (k : Nat) {s : List Nat} (b : Bool), Bytes s → Bytes (valsF k s b).2.1 ∧ ∀ v ∈ (valsF k s b).1, I64 v
  | 0, s, b, hs => ⟨hs, fun v hv => by cases hv⟩
  | k + 1, s, b, hs => by
    obtain ⟨h1, h2⟩ := numF_ok b hs
    obtain ⟨h3, h4⟩ := valsF_ok k (numF s b).2.2 h2
    refine ⟨h3, fun v hv => ?_⟩
    rcases List.mem_cons.1 hv with rfl | hv
    · exact unzz_i64 h1
    · exact h4 v hv
theorem valuesF_ok {s : List Nat} (b : Bool) (hs : Bytes s) : Bytes (valuesF s b).2.1 ∧ ∀ v ∈ (valuesF s b).1, I64 v := valsF_ok _ _ (manyF_ok b hs)
theorem picksF_ok : ∀ (k : Nat) {s : List Nat} (b : Bool), Bytes s → Bytes (picksF k s b).2.1
  | 0, s, b, hs => hs
  | k + 1, s, b, hs => by
    have h1 := smallF_ok b hs
    have h2 := smallF_ok (smallF s b).2.2 h1
    unfold picksF
    simp only
    split
    · exact h1
    · split
      · exact h2
      · exact picksF_ok k _ h2
theorem logF_fit {s : List Nat} (hs : Bytes s) (h : (logF s).2 = false) (hsh : shape (logF s).1 = 0) : Fit (logF s).1 := by
  have a1 := smallF_ok false hs
  unfold logF at h hsh ⊢
  rcases h1 : smallF s false with ⟨n1, r1, b1⟩
  rw [h1] at h hsh a1
  simp only at h hsh a1 ⊢
  have a2 := manyF_ok b1 a1
  rcases h2 : manyF r1 b1 with ⟨n2, r2, b2⟩
  rw [h2] at h hsh a2
  simp only at h hsh a2 ⊢
  have a3 := picksF_ok n2 b2 a2
  rcases h3 : picksF n2 r2 b2 with ⟨l3, r3, b3⟩
  rw [h3] at h hsh a3
  simp only at h hsh a3 ⊢
  have a4 := valuesF_ok b3 a3
  rcases h4 : valuesF r3 b3 with ⟨l4, r4, b4⟩
  rw [h4] at h hsh a4
  simp only at h hsh a4 ⊢
  have a5 := valuesF_ok b4 a4.1
  rcases h5 : valuesF r4 b4 with ⟨l5, r5, b5⟩
  rw [h5] at h hsh a5
  simp only at h hsh a5 ⊢
  simp only [Bool.or_eq_false_iff, Bool.not_eq_false', decide_eq_true_eq] at h
  refine ⟨hsh, a4.2, a5.2, ?_⟩
  have := sumOf_lt r5 a5.1
  rw [h.2] at this
  simpa using this
/-! ### Both decoders answer alike -/
theorem enc_parts (l : Lg) : (enc l).length = 5 + (body l).length + 4 ∧ (enc l).take ((enc l).length - 4) = head ++ body l ∧ (enc l).drop ((enc l).length - 4) = lows (fnv (head ++ body l)) 4 := by
  have hl : (enc l).length = 5 + (body l).length + 4 := by simp [enc, lows_len, head]; omega
  have e : (enc l).length - 4 = (head ++ body l).length := by rw [hl]; simp [head]; omega
  rw [e]
  unfold enc
  exact ⟨by simp [lows_len, head]; omega, List.take_left' rfl, List.drop_left' rfl⟩
theorem body_len (l : Lg) : 12 ≤ (body l).length := by
  have h1 := vi_pos l.steps.toNat
  have h2 := vi_pos l.picks.length
  have h3 := vi_pos l.inputs.length
  have h4 := vi_pos l.clocks.length
  simp only [body, values, List.length_append, lows_len]
  omega
theorem decP_enc {l : Lg} (h : Fit l) : decP (enc l) = .inl l := by
  obtain ⟨h1, h2, h3⟩ := enc_parts l
  unfold decP
  rw [h2, h3, if_neg (by omega), if_neg (by simp)]
  have e1 : (head ++ body l).take 5 = head := List.take_left' rfl
  have e2 : (head ++ body l).drop 5 = body l := List.drop_left' rfl
  rw [e1, e2, if_neg (by simp), logF_body h]
  simp [h.1]
theorem decR_enc {l : Lg} (h : Fit l) : decR (enc l) = .inl l := by
  obtain ⟨h1, h2, h3⟩ := enc_parts l
  have hb := body_len l
  unfold decR
  rw [h2, h3, if_neg (by omega), if_neg (by simp)]
  have e1 : (enc l).take 5 = head := by unfold enc; rw [List.append_assoc]; exact List.take_left' rfl
  have e2 : (head ++ body l).drop 5 = body l := List.drop_left' rfl
  rw [e1, e2, if_neg (by simp; omega), logG_body h]
  simp [h.1]
theorem decP_inl {b : List Nat} (hb : Bytes b) {l : Lg} (h : decP b = .inl l) : Fit l ∧ enc l = b := by
  unfold decP at h
  split at h
  · cases h
  split at h
  · cases h
  split at h
  · cases h
  split at h
  · cases h
  split at h
  · cases h
  rename_i _ _ _ h4 h5
  have h : (logF ((b.take (b.length - 4)).drop 5)).1 = l := by injection h
  rw [not_or, Classical.not_not, Classical.not_not] at h5
  have hs : Bytes ((b.take (b.length - 4)).drop 5) := fun x hx => hb x (List.mem_of_mem_take (List.mem_of_mem_drop hx))
  have := logF_fit hs (by simpa using h4) h5.1
  rw [h] at this h5
  exact ⟨this, h5.2⟩
theorem decR_inl {b : List Nat} (hb : Bytes b) {l : Lg} (h : decR b = .inl l) : Fit l ∧ enc l = b := by
  unfold decR at h
  split at h
  · cases h
  split at h
  · cases h
  split at h
  · cases h
  split at h
  · cases h
  split at h
  · cases h
  rename_i h1 h2 h3 h4 h5
  have h : (logG ((b.take (b.length - 4)).drop 5)).1 = l := by injection h
  rw [Classical.not_not] at h5 h2
  rw [not_or, Classical.not_not] at h3
  have hs : Bytes ((b.take (b.length - 4)).drop 5) := fun x hx => hb x (List.mem_of_mem_take (List.mem_of_mem_drop hx))
  obtain ⟨e1, e2⟩ := logG_inv hs (by simpa using h4) h5
  rw [h] at e1 e2
  refine ⟨e2, ?_⟩
  have e3 : b.take (b.length - 4) = head ++ body l := by
    rw [← e1, ← List.take_append_drop 5 (b.take (b.length - 4))]
    congr 1
    · rw [List.take_take, Nat.min_eq_left (by omega)]; exact h3.2
    · rw [List.take_append_drop]
  unfold enc
  rw [← e3, h2, List.take_append_drop]
theorem tail3 {α : Type} {c1 c2 c3 : Prop} [Decidable c1] [Decidable c2] [Decidable c3] {x : α} {e : Int} (h : (if c1 then (.inr 4 : α ⊕ Int) else if c2 then .inr 4 else if c3 then .inr 4 else .inl x) = .inr e) : e = 4 := by
  split at h
  · exact (Sum.inr.inj h).symm
  · split at h
    · exact (Sum.inr.inj h).symm
    · split at h
      · exact (Sum.inr.inj h).symm
      · cases h
theorem dec_eq {b : List Nat} (hb : Bytes b) : decP b = decR b := by
  cases hp : decP b with
  | inl l => obtain ⟨h1, h2⟩ := decP_inl hb hp; rw [← h2, decR_enc h1]
  | inr e =>
    cases hr : decR b with
    | inl l => obtain ⟨h1, h2⟩ := decR_inl hb hr; rw [← h2, decP_enc h1] at hp; cases hp
    | inr f =>
      unfold decP at hp
      unfold decR at hr
      split at hp
      · rename_i h; rw [if_pos h] at hr; rw [← hp, ← hr]
      · rename_i h
        rw [if_neg h] at hr
        split at hp
        · rename_i h2; rw [if_pos h2] at hr; rw [← hp, ← hr]
        · rename_i h2
          rw [if_neg h2] at hr
          rw [tail3 hp, tail3 hr]
end Go.Proofs.YtdpoecjbofofoaaGreatDoor.Rb
