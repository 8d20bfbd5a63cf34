/-
  An evaluator for calls whose arguments are known: temporaries and operands; the operations that only compute.
-/
import Derived.Test.YtbhgcdkahblllaaGreatDoorEvC
import Derived.Laws.Sem
import Derived.Laws.Build
import Derived.Laws.Entries
set_option linter.unusedVariables false
set_option linter.unusedSimpArgs false
namespace Go.Ev
open Go
noncomputable section

mutual
theorem toAV_rep (ι : Inj) : ∀ v : Value, RV ι (toAV v) v
  | .bool b => rfl
  | .int k n => rfl
  | .string s => ⟨s, rfl, rfl, rfl⟩
  | .pointer none => rfl
  | .pointer (some _) => trivial
  | .slice none 0 0 => rfl
  | .slice none 0 (_ + 1) => trivial
  | .slice none (_ + 1) _ => trivial
  | .slice (some _) _ _ => trivial
  | .map none => rfl
  | .map (some _) => trivial
  | .nilFunc => rfl
  | .nilIface => rfl
  | .func f ⟨[]⟩ ⟨[]⟩ => ⟨#[], #[], rfl, rfl, rfl⟩
  | .func f ⟨_ :: _⟩ _ => trivial
  | .func f ⟨[]⟩ ⟨_ :: _⟩ => trivial
  | .agg ⟨l⟩ => ⟨⟨l⟩, rfl, toL_rep ι l⟩
  | .float _ _ => trivial
  | .complex _ _ _ => trivial
  | .chan _ => trivial
  | .iface _ _ => trivial
  | .tuple _ => trivial
theorem toL_rep (ι : Inj) : ∀ l : List Value, RL ι (toL l) l
  | [] => rfl
  | v :: l => ⟨v, l, rfl, toAV_rep ι v, toL_rep ι l⟩
end
theorem toL_len : ∀ l : List Value, (toL l).len = l.length
  | [] => rfl
  | v :: l => congrArg Nat.succ (toL_len l)
theorem toL_isL : ∀ l : List Value, (toL l).isL = true
  | [] => rfl
  | v :: l => toL_isL l

/-- The temporaries. -/
structure RA (ι : Inj) (m : Nat) (T : T) (a : Act) : Prop where
  size : m ≤ a.tmps.size
  le : m ≤ 256
  val : ∀ t, t < 256 → RV ι (tget t T) (a.tmps.getD t undef)
theorem RA.mono {ι κ : Inj} {m : Nat} {T : T} {a : Act} (h : ι.le κ) (r : RA ι m T a) : RA κ m T a := ⟨r.size, r.le, fun t ht => (r.val t ht).mono h⟩
theorem RA.tmp {ι : Inj} {m : Nat} {T : T} {a : Act} (r : RA ι m T a) (t : Nat) : RV ι (tgetS t T) (a.tmps.getD t undef) := by
  unfold tgetS
  cases h : Nat.ble t 255 with
  | false => trivial
  | true => exact r.val t (by have := Nat.le_of_ble_eq_true h; omega)
theorem RA.put {ι : Inj} {m : Nat} {T : T} {a : Act} (r : RA ι m T a) {d : Nat} (hd : d < m) {v : AV} {u : Value} (h : RV ι v u) : RA ι m (tset d v T) (a.put (some d) u) := by
  have hm := r.le
  have hs := r.size
  refine ⟨by simpa [Act.put] using r.size, r.le, fun t ht => ?_⟩
  by_cases e : d = t
  · subst e
    rw [tget_same]
    have : (a.put (some d) u).tmps.getD d undef = u := by simp [Act.put, Array.getElem?_setIfInBounds, show d < a.tmps.size by omega]
    rw [this]; exact h
  · rw [tget_other (by omega) ht e]
    have : (a.put (some d) u).tmps.getD t undef = a.tmps.getD t undef := by simp [Act.put, Array.getElem?_setIfInBounds, e]
    rw [this]; exact r.val t ht
theorem opnd_rep {ι : Inj} {m : Nat} {T : T} {a : Act} (r : RA ι m T a) (x : Operand) : RV ι (opnd x T) (a.eval x) := by
  cases x with
  | tmp t => exact r.tmp t
  | const v => exact toAV_rep ι v
  | global g => exact trivial
  | func f => exact ⟨#[], #[], rfl, rfl, rfl⟩
theorem opndL_rep {ι : Inj} {m : Nat} {T : T} {a : Act} (r : RA ι m T a) : ∀ l : List Operand, RL ι (opndL l T) (l.map a.eval)
  | [] => rfl
  | x :: l => ⟨_, _, rfl, opnd_rep r x, opndL_rep r l⟩

/-! ### Values taken apart -/
section
variable {ι : Inj} {v : Value}
theorem rv_int {k : IntKind} {n : Int} (h : RV ι (.int k n) v) : v = .int k n := h
theorem RL.len {ι : Inj} : ∀ {x : AV} {l : List Value}, RL ι x l → x.len = l.length
  | .nl, l, h => by cases h; rfl
  | .cons a t, l, h => by
    obtain ⟨u, r, rfl, -, h2⟩ := h
    exact congrArg Nat.succ (RL.len h2)
  | .top, _, h => h.elim
  | .bool _, _, h => h.elim
  | .int _ _, _, h => h.elim
  | .str _ _, _, h => h.elim
  | .pnil, _, h => h.elim
  | .ptr _ _, _, h => h.elim
  | .snil, _, h => h.elim
  | .sl _ _ _ _, _, h => h.elim
  | .slu _ _ _ _, _, h => h.elim
  | .mnil, _, h => h.elim
  | .map _, _, h => h.elim
  | .fn _ _ _, _, h => h.elim
  | .fnil, _, h => h.elim
  | .inil, _, h => h.elim
  | .iface _ _, _, h => h.elim
  | .agg _, _, h => h.elim
  | .tup _, _, h => h.elim
  | .ge _, _, h => h.elim
theorem RL.isL {ι : Inj} : ∀ {x : AV} {l : List Value}, RL ι x l → x.isL = true
  | .nl, l, h => rfl
  | .cons a t, l, h => by
    obtain ⟨u, r, rfl, -, h2⟩ := h
    exact RL.isL (x := t) h2
  | .top, _, h => h.elim
  | .bool _, _, h => h.elim
  | .int _ _, _, h => h.elim
  | .str _ _, _, h => h.elim
  | .pnil, _, h => h.elim
  | .ptr _ _, _, h => h.elim
  | .snil, _, h => h.elim
  | .sl _ _ _ _, _, h => h.elim
  | .slu _ _ _ _, _, h => h.elim
  | .mnil, _, h => h.elim
  | .map _, _, h => h.elim
  | .fn _ _ _, _, h => h.elim
  | .fnil, _, h => h.elim
  | .inil, _, h => h.elim
  | .iface _ _, _, h => h.elim
  | .agg _, _, h => h.elim
  | .tup _, _, h => h.elim
  | .ge _, _, h => h.elim
/-- A list that is known value by value. -/
theorem RL.of {ι : Inj} : ∀ {x : AV} {l : List Value}, x.isL = true → x.len = l.length → (∀ i, i < x.len → ∃ u, l[i]? = some u ∧ RV ι (x.nth i) u) → RL ι x l
  | .nl, l, _, h, _ => by
    cases l with
    | nil => rfl
    | cons => cases h
  | .cons a t, l, hl, h, hv => by
    cases l with
    | nil => cases h
    | cons u r =>
      refine ⟨u, r, rfl, ?_, RL.of (x := t) hl (Nat.succ.inj h) fun i hi => ?_⟩
      · obtain ⟨u', h1, h2⟩ := hv 0 (Nat.succ_pos _)
        cases h1; exact h2
      · exact hv (i + 1) (Nat.succ_lt_succ hi)
  | .top, _, h, _, _ => by cases h
  | .bool _, _, h, _, _ => by cases h
  | .int _ _, _, h, _, _ => by cases h
  | .str _ _, _, h, _, _ => by cases h
  | .pnil, _, h, _, _ => by cases h
  | .ptr _ _, _, h, _, _ => by cases h
  | .snil, _, h, _, _ => by cases h
  | .sl _ _ _ _, _, h, _, _ => by cases h
  | .slu _ _ _ _, _, h, _, _ => by cases h
  | .mnil, _, h, _, _ => by cases h
  | .map _, _, h, _, _ => by cases h
  | .fn _ _ _, _, h, _, _ => by cases h
  | .fnil, _, h, _, _ => by cases h
  | .inil, _, h, _, _ => by cases h
  | .iface _ _, _, h, _, _ => by cases h
  | .agg _, _, h, _, _ => by cases h
  | .tup _, _, h, _, _ => by cases h
  | .ge _, _, h, _, _ => by cases h
theorem RL.nth {ι : Inj} : ∀ {x : AV} {l : List Value}, RL ι x l → ∀ i, i < x.len → ∃ u, l[i]? = some u ∧ RV ι (x.nth i) u
  | .nl, l, _, i, hi => absurd hi (Nat.not_lt_zero _)
  | .cons a t, l, h, i, hi => by
    obtain ⟨u, r, rfl, h1, h2⟩ := h
    cases i with
    | zero => exact ⟨u, rfl, h1⟩
    | succ i => exact RL.nth (x := t) h2 i (Nat.lt_of_succ_lt_succ hi)
  | .top, _, h, _, _ => h.elim
  | .bool _, _, h, _, _ => h.elim
  | .int _ _, _, h, _, _ => h.elim
  | .str _ _, _, h, _, _ => h.elim
  | .pnil, _, h, _, _ => h.elim
  | .ptr _ _, _, h, _, _ => h.elim
  | .snil, _, h, _, _ => h.elim
  | .sl _ _ _ _, _, h, _, _ => h.elim
  | .slu _ _ _ _, _, h, _, _ => h.elim
  | .mnil, _, h, _, _ => h.elim
  | .map _, _, h, _, _ => h.elim
  | .fn _ _ _, _, h, _, _ => h.elim
  | .fnil, _, h, _, _ => h.elim
  | .inil, _, h, _, _ => h.elim
  | .iface _ _, _, h, _, _ => h.elim
  | .agg _, _, h, _, _ => h.elim
  | .tup _, _, h, _, _ => h.elim
  | .ge _, _, h, _, _ => h.elim
end
theorem RL.drop {ι : Inj} : ∀ (n : Nat) {x : AV} {l : List Value}, RL ι x l → RL ι (x.drop n) (l.drop n)
  | 0, x, l, h => by cases x <;> exact h
  | n + 1, .nl, l, h => by cases h; rfl
  | n + 1, .cons a t, l, h => by
    obtain ⟨u, r, rfl, -, h2⟩ := h
    exact RL.drop n h2
  | n + 1, .top, _, h => h.elim
  | n + 1, .bool _, _, h => h.elim
  | n + 1, .int _ _, _, h => h.elim
  | n + 1, .str _ _, _, h => h.elim
  | n + 1, .pnil, _, h => h.elim
  | n + 1, .ptr _ _, _, h => h.elim
  | n + 1, .snil, _, h => h.elim
  | n + 1, .sl _ _ _ _, _, h => h.elim
  | n + 1, .slu _ _ _ _, _, h => h.elim
  | n + 1, .mnil, _, h => h.elim
  | n + 1, .map _, _, h => h.elim
  | n + 1, .fn _ _ _, _, h => h.elim
  | n + 1, .fnil, _, h => h.elim
  | n + 1, .inil, _, h => h.elim
  | n + 1, .iface _ _, _, h => h.elim
  | n + 1, .agg _, _, h => h.elim
  | n + 1, .tup _, _, h => h.elim
  | n + 1, .ge _, _, h => h.elim
theorem RL.take {ι : Inj} : ∀ (n : Nat) {x : AV} {l : List Value}, RL ι x l → RL ι (x.take n) (l.take n)
  | 0, x, l, h => by cases x <;> rfl
  | n + 1, .nl, l, h => by cases h; rfl
  | n + 1, .cons a t, l, h => by
    obtain ⟨u, r, rfl, h1, h2⟩ := h
    exact ⟨u, r.take n, rfl, h1, RL.take n h2⟩
  | n + 1, .top, _, h => h.elim
  | n + 1, .bool _, _, h => h.elim
  | n + 1, .int _ _, _, h => h.elim
  | n + 1, .str _ _, _, h => h.elim
  | n + 1, .pnil, _, h => h.elim
  | n + 1, .ptr _ _, _, h => h.elim
  | n + 1, .snil, _, h => h.elim
  | n + 1, .sl _ _ _ _, _, h => h.elim
  | n + 1, .slu _ _ _ _, _, h => h.elim
  | n + 1, .mnil, _, h => h.elim
  | n + 1, .map _, _, h => h.elim
  | n + 1, .fn _ _ _, _, h => h.elim
  | n + 1, .fnil, _, h => h.elim
  | n + 1, .inil, _, h => h.elim
  | n + 1, .iface _ _, _, h => h.elim
  | n + 1, .agg _, _, h => h.elim
  | n + 1, .tup _, _, h => h.elim
  | n + 1, .ge _, _, h => h.elim
theorem RL.app {ι : Inj} : ∀ {x y : AV} {l r : List Value}, RL ι x l → RL ι y r → RL ι (x.app y) (l ++ r)
  | .nl, y, l, r, h, g => by cases h; exact g
  | .cons a t, y, l, r, h, g => by
    obtain ⟨u, q, rfl, h1, h2⟩ := h
    exact ⟨u, q ++ r, rfl, h1, RL.app h2 g⟩
  | .top, _, _, _, h, _ => h.elim
  | .bool _, _, _, _, h, _ => h.elim
  | .int _ _, _, _, _, h, _ => h.elim
  | .str _ _, _, _, _, h, _ => h.elim
  | .pnil, _, _, _, h, _ => h.elim
  | .ptr _ _, _, _, _, h, _ => h.elim
  | .snil, _, _, _, h, _ => h.elim
  | .sl _ _ _ _, _, _, _, h, _ => h.elim
  | .slu _ _ _ _, _, _, _, h, _ => h.elim
  | .mnil, _, _, _, h, _ => h.elim
  | .map _, _, _, _, h, _ => h.elim
  | .fn _ _ _, _, _, _, h, _ => h.elim
  | .fnil, _, _, _, h, _ => h.elim
  | .inil, _, _, _, h, _ => h.elim
  | .iface _ _, _, _, _, h, _ => h.elim
  | .agg _, _, _, _, h, _ => h.elim
  | .tup _, _, _, _, h, _ => h.elim
  | .ge _, _, _, _, h, _ => h.elim
theorem partsK_inv {v : AV} {k : AV → R} {r : AV} {s : St} (h : partsK v k = .ok r s) :
    ∃ l, k l = .ok r s ∧ ∀ {ι : Inj} {u : Value}, RV ι v u → RL ι l u.cells.toList := by
  cases v <;> first
    | exact (R.bad_ne h).elim
    | exact ⟨_, h, fun {ι u} hr => by obtain ⟨a, rfl, hl⟩ := hr; exact hl⟩
    | (refine ⟨_, h, fun {ι u} hr => ⟨u, [], ?_, hr, rfl⟩⟩
       first
         | (cases hr; rfl)
         | (obtain ⟨_, rfl, -⟩ := hr; rfl)
         | (obtain ⟨_, -, rfl⟩ := hr; rfl)
         | (obtain ⟨_, -, ⟨_, rfl, -⟩ | ⟨-, _, rfl⟩⟩ := hr <;> rfl)
         | (obtain ⟨_, _, rfl, -⟩ := hr; rfl))
theorem one_cell {ι : Inj} {v : AV} {u : Value} (h : v.one = true) (hr : RV ι v u) : u.oneCell' = true := by
  cases v <;> first
    | (cases h; done)
    | (cases hr; rfl)
    | (obtain ⟨_, rfl, -⟩ := hr; rfl)
    | (obtain ⟨_, -, rfl⟩ := hr; rfl)
    | (obtain ⟨_, -, ⟨_, rfl, -⟩ | ⟨-, _, rfl⟩⟩ := hr <;> rfl)
    | (obtain ⟨_, _, rfl, -⟩ := hr; rfl)
theorem ones_cell {ι : Inj} : ∀ {x : AV} {l : List Value}, x.ones = true → RL ι x l → ∀ v ∈ l, v.oneCell' = true
  | .nl, l, _, h, v, hv => by cases h; cases hv
  | .cons a t, l, h, hr, v, hv => by
    obtain ⟨u, q, rfl, h1, h2⟩ := hr
    have h : (a.one && t.ones) = true := h
    rw [Bool.and_eq_true] at h
    rcases List.mem_cons.1 hv with rfl | hv
    · exact one_cell h.1 h1
    · exact ones_cell h.2 h2 v hv
  | .top, _, h, _, _, _ => by cases h
  | .bool _, _, h, _, _, _ => by cases h
  | .int _ _, _, h, _, _, _ => by cases h
  | .str _ _, _, h, _, _, _ => by cases h
  | .pnil, _, h, _, _, _ => by cases h
  | .ptr _ _, _, h, _, _, _ => by cases h
  | .snil, _, h, _, _, _ => by cases h
  | .sl _ _ _ _, _, h, _, _, _ => by cases h
  | .slu _ _ _ _, _, h, _, _, _ => by cases h
  | .mnil, _, h, _, _, _ => by cases h
  | .map _, _, h, _, _, _ => by cases h
  | .fn _ _ _, _, h, _, _, _ => by cases h
  | .fnil, _, h, _, _, _ => by cases h
  | .inil, _, h, _, _, _ => by cases h
  | .iface _ _, _, h, _, _, _ => by cases h
  | .agg _, _, h, _, _, _ => by cases h
  | .tup _, _, h, _, _, _ => by cases h
  | .ge _, _, h, _, _, _ => by cases h
end
end Go.Ev
