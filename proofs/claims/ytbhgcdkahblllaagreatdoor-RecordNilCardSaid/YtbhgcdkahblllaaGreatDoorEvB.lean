/-
  An evaluator for calls whose arguments are known: what its data say of a world.
-/
import Derived.Test.YtbhgcdkahblllaaGreatDoorEvA
import Derived.Laws.CopyRow
import Derived.Below
import Derived.Laws.Rows
set_option linter.unusedVariables false
namespace Go.Ev
open Go

/-- Where a block lies: the world's block, the first cell there, and how many cells follow. -/
structure Loc where
  b : Nat
  d : Nat
  s : Nat
/-- Where each block lies that has been made; which names nothing else may be given (they wait for their making). -/
structure Inj where
  f : Nat → Option Loc
  res : Nat → Prop
instance : CoeFun Inj (fun _ => Nat → Option Loc) := ⟨Inj.f⟩

mutual
def RV (ι : Inj) : AV → Value → Prop
  | .top, _ => True
  | .bool b, v => v = .bool b
  | .int k n, v => v = .int k n
  | .str n x, v => ∃ s, v = .string s ∧ s.size = n ∧ packB s.data.toList = x
  | .pnil, v => v = .pointer none
  | .ptr b o, v => ∃ l, ι b = some l ∧ v = .pointer (some ⟨l.b, l.d + o, none⟩)
  | .snil, v => v = .slice none 0 0
  | .sl b o n c, v => ∃ l, ι b = some l ∧ v = .slice (some ⟨l.b, l.d + o, none⟩) n c
  | .slu b o n sz, v => ∃ l, ι b = some l ∧ ((∃ cap, v = .slice (some ⟨l.b, l.d + o, none⟩) n cap ∧ o + cap * sz = l.s ∧ n ≤ cap ∧ cap < 9223372036854775808) ∨ n = 0 ∧ ∃ a, v = .slice (some a) 0 0)
  | .mnil, v => v = .map none
  | .map b, v => ∃ l, ι b = some l ∧ v = .map (some l.b)
  | .fn f x y, v => ∃ a b, v = .func f a b ∧ RL ι x a.toList ∧ RL ι y b.toList
  | .fnil, v => v = .nilFunc
  | .inil, v => v = .nilIface
  | .iface t x, v => ∃ u, v = .iface t u ∧ RV ι x u
  | .agg l, v => ∃ a, v = .agg a ∧ RL ι l a.toList
  | .tup l, v => ∃ a, v = .tuple a ∧ RL ι l a.toList
  | .ge n, v => ∃ x : Nat, n ≤ x ∧ x < 9223372036854775808 ∧ v = .int .i64 x
  | .nl, _ => False
  | .cons _ _, _ => False
def RL (ι : Inj) : AV → List Value → Prop
  | .nl, l => l = []
  | .cons h t, l => ∃ u r, l = u :: r ∧ RV ι h u ∧ RL ι t r
  | .top, _ => False
  | .bool _, _ => False
  | .int _ _, _ => False
  | .str _ _, _ => False
  | .pnil, _ => False
  | .ptr _ _, _ => False
  | .snil, _ => False
  | .sl _ _ _ _, _ => False
  | .slu _ _ _ _, _ => False
  | .mnil, _ => False
  | .map _, _ => False
  | .fn _ _ _, _ => False
  | .fnil, _ => False
  | .inil, _ => False
  | .iface _ _, _ => False
  | .agg _, _ => False
  | .tup _, _ => False
  | .ge _, _ => False
end
/-- What is known later: more blocks. -/
def Inj.le (ι κ : Inj) : Prop := ∀ b l, ι b = some l → κ b = some l
theorem Inj.le.refl (ι : Inj) : ι.le ι := fun _ _ h => h
theorem Inj.le.trans {ι κ μ : Inj} (h : ι.le κ) (g : κ.le μ) : ι.le μ := fun b l e => g b l (h b l e)
mutual
theorem RV.mono {ι κ : Inj} (h : ι.le κ) : ∀ {x : AV} {v : Value}, RV ι x v → RV κ x v
  | .top, _, _ => trivial
  | .bool _, _, r => r
  | .int _ _, _, r => r
  | .str _ _, _, r => r
  | .pnil, _, r => r
  | .ptr b o, v, r => by
    simp only [RV] at r ⊢
    obtain ⟨l, e, r⟩ := r
    exact ⟨l, h b l e, r⟩
  | .snil, _, r => r
  | .sl b o n c, v, r => by
    simp only [RV] at r ⊢
    obtain ⟨l, e, r⟩ := r
    exact ⟨l, h b l e, r⟩
  | .slu b o n sz, v, r => by
    simp only [RV] at r ⊢
    obtain ⟨l, e, r⟩ := r
    exact ⟨l, h b l e, r⟩
  | .mnil, _, r => r
  | .map b, v, r => by
    simp only [RV] at r ⊢
    obtain ⟨l, e, r⟩ := r
    exact ⟨l, h b l e, r⟩
  | .fn f x y, v, r => by
    simp only [RV] at r ⊢
    obtain ⟨a, b, e, p, q⟩ := r
    exact ⟨a, b, e, RL.mono h p, RL.mono h q⟩
  | .fnil, _, r => r
  | .inil, _, r => r
  | .iface t x, v, r => by
    simp only [RV] at r ⊢
    obtain ⟨u, e, p⟩ := r
    exact ⟨u, e, RV.mono h p⟩
  | .agg l, v, r => by
    simp only [RV] at r ⊢
    obtain ⟨a, e, p⟩ := r
    exact ⟨a, e, RL.mono h p⟩
  | .ge n, v, r => r
  | .tup l, v, r => by
    simp only [RV] at r ⊢
    obtain ⟨a, e, p⟩ := r
    exact ⟨a, e, RL.mono h p⟩
  | .nl, _, r => r
  | .cons _ _, _, r => r
theorem RL.mono {ι κ : Inj} (h : ι.le κ) : ∀ {x : AV} {l : List Value}, RL ι x l → RL κ x l
  | .nl, _, r => r
  | .cons a t, l, r => by
    simp only [RL] at r ⊢
    obtain ⟨u, q, e, p, g⟩ := r
    exact ⟨u, q, e, RV.mono h p, RL.mono h g⟩
  | .top, _, r => r
  | .bool _, _, r => r
  | .int _ _, _, r => r
  | .str _ _, _, r => r
  | .pnil, _, r => r
  | .ptr _ _, _, r => r
  | .snil, _, r => r
  | .sl _ _ _ _, _, r => r
  | .slu _ _ _ _, _, r => r
  | .mnil, _, r => r
  | .map _, _, r => r
  | .fn _ _ _, _, r => r
  | .fnil, _, r => r
  | .inil, _, r => r
  | .iface _ _, _, r => r
  | .agg _, _, r => r
  | .tup _, _, r => r
  | .ge _, _, r => r
end

def RM (ι : Inj) : List (AV × AV) → List MapEntry → Prop
  | [], l => l = []
  | (a, v) :: r, l => ∃ e q, l = e :: q ∧ RV ι a e.key ∧ RV ι v e.val ∧ RM ι r q
theorem RM.mono {ι κ : Inj} (h : ι.le κ) : ∀ {x : List (AV × AV)} {l : List MapEntry}, RM ι x l → RM κ x l
  | [], _, r => r
  | (a, v) :: t, l, ⟨e, q, he, p, g, m⟩ => ⟨e, q, he, p.mono h, g.mono h, RM.mono h m⟩

/-- What a block of the heap says of the world. -/
def RO (ι : Inj) (o : AO) (l : Loc) (w : World) : Prop := match o with
  | .gone => True
  | .cells n c => n ≤ c.room ∧ n ≤ l.s ∧ ∃ a e, w.heap[l.b]? = some (.cells a e (0, 0)) ∧ a.size = l.d + l.s ∧ ∀ i, i < n → ∃ x, a[l.d + i]? = some x ∧ RV ι (c.get i) x
  | .map es => ∃ a k, w.heap[l.b]? = some (.map a k) ∧ RM ι es a.toList
theorem RO.mono {ι κ : Inj} (h : ι.le κ) {o : AO} {l : Loc} {w : World} (r : RO ι o l w) : RO κ o l w := by
  cases o with
  | gone => exact r
  | cells n c =>
    obtain ⟨h1, h2, a, e, h3, h4, h5⟩ := r
    exact ⟨h1, h2, a, e, h3, h4, fun i hi => let ⟨x, p, q⟩ := h5 i hi; ⟨x, p, q.mono h⟩⟩
  | map es =>
    obtain ⟨a, k, h1, h2⟩ := r
    exact ⟨a, k, h1, h2.mono h⟩
theorem RO.world {ι : Inj} {o : AO} {l : Loc} {w w' : World} (r : RO ι o l w) (h : w'.heap[l.b]? = w.heap[l.b]?) : RO ι o l w' := by
  cases o with
  | gone => exact r
  | cells n c => unfold RO at r ⊢; rw [h]; exact r
  | map es => unfold RO at r ⊢; rw [h]; exact r
theorem RO.lt {ι : Inj} {o : AO} {l : Loc} {w : World} (r : RO ι o l w) (ho : o ≠ .gone) : l.b < w.heap.size := by
  cases o with
  | gone => exact (ho rfl).elim
  | cells n c => obtain ⟨-, -, a, e, h, -⟩ := r; exact (Array.getElem?_eq_some_iff.1 h).1
  | map es => obtain ⟨a, k, h, -⟩ := r; exact (Array.getElem?_eq_some_iff.1 h).1

structure HR (ι : Inj) (S : St) (w : World) : Prop where
  lim : S.n ≤ 65536
  fresh : ∀ b, S.n ≤ b → ι b = none
  live : ∀ b l, ι b = some l → RO ι (hget b S.h) l w
  apart : ∀ b c l m, ι b = some l → ι c = some m → hget b S.h ≠ .gone → hget c S.h ≠ .gone → b ≠ c → l.b ≠ m.b
  resv : ∀ b, ι.res b → b < S.n
/-- What becomes of a world: of the blocks that are not known nothing has turned. -/
structure Ext (ι : Inj) (w : World) (κ : Inj) (w' : World) : Prop where
  os : w'.os = w.os
  tape : w'.tape = w.tape
  output : w'.output = w.output
  size : w.heap.size ≤ w'.heap.size
  le : ι.le κ
  keep : ∀ k, k < w.heap.size → (∀ b l, ι b = some l → l.b ≠ k) → w'.heap[k]? = w.heap[k]?
  new : ∀ b l, κ b = some l → (∃ b' l', ι b' = some l' ∧ l'.b = l.b) ∨ w.heap.size ≤ l.b
  same : κ.res = ι.res
  wait : ∀ b, ι.res b → ι b = none → κ b = none
theorem Ext.refl (ι : Inj) (w : World) : Ext ι w ι w := ⟨rfl, rfl, rfl, Nat.le_refl _, .refl _, fun _ _ _ => rfl, fun b l h => .inl ⟨b, l, h, rfl⟩, rfl, fun _ _ h => h⟩
theorem Ext.trans {ι κ μ : Inj} {w v u : World} (h : Ext ι w κ v) (g : Ext κ v μ u) : Ext ι w μ u where
  os := g.os.trans h.os
  tape := g.tape.trans h.tape
  output := g.output.trans h.output
  size := Nat.le_trans h.size g.size
  le := h.le.trans g.le
  keep k hk hn := (g.keep k (Nat.lt_of_lt_of_le hk h.size) fun b l hb e => by
    rcases h.new b l hb with ⟨b', l', h1, h2⟩ | h1
    · exact hn b' l' h1 (h2.trans e)
    · omega).trans (h.keep k hk hn)
  new b l hb := by
    rcases g.new b l hb with ⟨b', l', h1, h2⟩ | h1
    · rcases h.new b' l' h1 with ⟨b'', l'', h3, h4⟩ | h3
      · exact .inl ⟨b'', l'', h3, h4.trans h2⟩
      · exact .inr (h2 ▸ h3)
    · exact .inr (Nat.le_trans h.size h1)
  same := g.same.trans h.same
  wait b hr hn := g.wait b (by rw [h.same]; exact hr) (h.wait b hr hn)
theorem Ext.below {ι κ : Inj} {w w' : World} (h : Ext ι w κ w') (hι : ∀ b, ι b = none) : RowKit.Below w.heap.size w w' :=
  ⟨h.os, h.tape, h.output, h.size, fun k hk => h.keep k hk fun b l e => by rw [hι b] at e; cases e⟩
/-- A draw. -/
theorem HR.world {ι : Inj} {S : St} {w w' : World} (h : HR ι S w) (hw : ∀ k : Nat, w'.heap[k]? = w.heap[k]?) : HR ι S w' :=
  ⟨h.lim, h.fresh, fun b l e => (h.live b l e).world (hw _), h.apart, h.resv⟩
theorem Ext.world {ι : Inj} {w w' : World} (hos : w'.os = w.os) (ht : w'.tape = w.tape) (ho : w'.output = w.output) (hh : w'.heap = w.heap) : Ext ι w ι w' :=
  ⟨hos, ht, ho, by rw [hh]; exact Nat.le_refl _, .refl _, fun _ _ _ => by rw [hh], fun b l h => .inl ⟨b, l, h, rfl⟩, rfl, fun _ _ h => h⟩
def Inj.zero : Inj := ⟨fun _ => none, fun _ => False⟩
theorem HR.empty {w : World} : HR Inj.zero ⟨emH, 0⟩ w :=
  ⟨by decide, fun _ _ => rfl, (fun _ _ h => by cases h), (fun _ _ _ _ h => by cases h), fun _ h => h.elim⟩
theorem HR.ltn {ι : Inj} {S : St} {w : World} (h : HR ι S w) {b : Nat} {l : Loc} (e : ι b = some l) : b < S.n := by
  rcases Nat.lt_or_ge b S.n with h1 | h1
  · exact h1
  · rw [h.fresh b h1] at e; cases e
theorem HR.small {ι : Inj} {S : St} {w : World} (h : HR ι S w) {b : Nat} {l : Loc} (e : ι b = some l) : b < 65536 := Nat.lt_of_lt_of_le (h.ltn e) h.lim

/-- A block is put down ahead of its being made. -/
theorem HR.reserve {ι : Inj} {S : St} {w : World} (h : HR ι S w) (hn : S.n < 65536) (o : AO) : HR ι ⟨hset S.n o S.h, S.n + 1⟩ w := by
  have hg : ∀ b l, ι b = some l → hget b (hset S.n o S.h) = hget b S.h := fun b l e =>
    hget_other hn (h.small e) (fun hh => by have := h.ltn e; omega) _ _
  refine ⟨hn, fun b hb => h.fresh b (by have : S.n + 1 ≤ b := hb; omega), fun b l e => ?_, fun b c l m hb hc h1 h2 hne => ?_, fun b hb => Nat.lt_succ_of_lt (h.resv b hb)⟩
  · show RO ι (hget b (hset S.n o S.h)) l w
    rw [hg b l e]; exact h.live b l e
  · have h1 : hget b (hset S.n o S.h) ≠ .gone := h1
    have h2 : hget c (hset S.n o S.h) ≠ .gone := h2
    rw [hg b l hb] at h1
    rw [hg c m hc] at h2
    exact h.apart b c l m hb hc h1 h2 hne
def Inj.put (ι : Inj) (b : Nat) (l : Loc) : Inj := ⟨fun c => if c = b then some l else ι c, ι.res⟩
theorem Inj.put_same (ι : Inj) (b : Nat) (l : Loc) : ι.put b l b = some l := if_pos rfl
theorem Inj.put_other (ι : Inj) {b c : Nat} (l : Loc) (h : c ≠ b) : ι.put b l c = ι c := if_neg h
theorem Inj.le_put {ι : Inj} {b : Nat} (h : ι b = none) (l : Loc) : ι.le (ι.put b l) := fun c m e => by
  rw [Inj.put_other ι l (by rintro rfl; rw [h] at e; cases e)]; exact e
theorem heap_alloc_old {w : World} {o : Obj} {k : Nat} (h : k < w.heap.size) : (w.alloc o).heap[k]? = w.heap[k]? := by
  show (w.heap.push o)[k]? = _
  rw [Array.getElem?_push, if_neg (by omega)]
theorem heap_alloc_at {w : World} {o : Obj} : (w.alloc o).heap[w.heap.size]? = some o := by
  show (w.heap.push o)[w.heap.size]? = _
  simp
/-- A block that was put down is made (in a block of the world that nobody else has: 'l.b'). -/
theorem HR.make {ι : Inj} {S : St} {w w' : World} (h : HR ι S w) {b : Nat} (hb : ι b = none) (hv : ¬ ι.res b) (hlt : b < S.n) (l : Loc)
    (hos : w'.os = w.os) (htape : w'.tape = w.tape) (hout : w'.output = w.output) (hsz : w.heap.size ≤ w'.heap.size)
    (hk : ∀ k : Nat, k < w.heap.size → w'.heap[k]? = w.heap[k]?) (hl : w.heap.size ≤ l.b)
    (ho : RO (ι.put b l) (hget b S.h) l w') :
    HR (ι.put b l) S w' ∧ Ext ι w (ι.put b l) w' := by
  have hle := Inj.le_put hb l
  refine ⟨⟨h.lim, ?_, ?_, ?_, h.resv⟩, ⟨hos, htape, hout, hsz, hle, fun k hlt _ => hk k hlt, ?_, rfl, fun c hc hn => by rw [Inj.put_other _ _ (by rintro rfl; exact hv hc)]; exact hn⟩⟩
  · intro c hc
    rw [Inj.put_other _ _ (by omega)]
    exact h.fresh c hc
  · intro c m e
    by_cases hcb : c = b
    · subst hcb; rw [Inj.put_same] at e; cases e; exact ho
    · rw [Inj.put_other _ _ hcb] at e
      have := h.live c m e
      by_cases hg : hget c S.h = .gone
      · rw [hg]; exact trivial
      · exact (this.mono hle).world (hk _ (this.lt hg))
  · intro c e m n hc he hgc hge hne
    by_cases hcb : c = b
    · subst hcb
      rw [Inj.put_same] at hc; cases hc
      rw [Inj.put_other _ _ (fun h => hne h.symm)] at he
      exact fun hh => absurd ((h.live e n he).lt hge) (by omega)
    · rw [Inj.put_other _ _ hcb] at hc
      by_cases heb : e = b
      · subst heb
        rw [Inj.put_same] at he; cases he
        exact fun hh => absurd ((h.live c m hc).lt hgc) (by omega)
      · rw [Inj.put_other _ _ heb] at he
        exact h.apart c e m n hc he hgc hge hne
  · intro c m e
    by_cases hcb : c = b
    · subst hcb; rw [Inj.put_same] at e; cases e; exact .inr hl
    · rw [Inj.put_other _ _ hcb] at e; exact .inl ⟨c, m, e, rfl⟩
theorem heap_setRow {w : World} {g : Nat} {a c : Array Value} {t : TypeId} {f : Nat × Nat} (h : w.heap[g]? = some (.cells a t f)) :
    (w.setRow g c).heap[g]? = some (.cells c t f) := by
  simp only [World.setRow, Array.getElem?_modify, h]
  simp
theorem heap_setRow_other {w : World} {g k : Nat} {c : Array Value} (h : k ≠ g) : (w.setRow g c).heap[k]? = w.heap[k]? := by
  simp only [World.setRow, Array.getElem?_modify]
  rw [if_neg (by omega)]
/-- A block's content turns, in the heap and in the world alike. -/
theorem HR.turn {ι : Inj} {S : St} {w w' : World} (h : HR ι S w) {b : Nat} {l : Loc} (hb : ι b = some l) (hgb : hget b S.h ≠ .gone) (o : AO)
    (hos : w'.os = w.os) (htape : w'.tape = w.tape) (hout : w'.output = w.output) (hsz : w'.heap.size = w.heap.size)
    (hk : ∀ k : Nat, k ≠ l.b → w'.heap[k]? = w.heap[k]?) (ho : RO ι o l w') : HR ι ⟨hset b o S.h, S.n⟩ w' ∧ Ext ι w ι w' := by
  have hsm := h.small hb
  have hg : ∀ c m, ι c = some m → c ≠ b → hget c (hset b o S.h) = hget c S.h := fun c m e hcb => hget_other hsm (h.small e) (fun h => hcb h.symm) _ _
  refine ⟨⟨h.lim, h.fresh, ?_, ?_, h.resv⟩, ⟨hos, htape, hout, by omega, .refl _, fun k hlt hn => hk k (fun e => hn b l hb e.symm), fun c m e => .inl ⟨c, m, e, rfl⟩, rfl, fun _ _ h => h⟩⟩
  · intro c m e
    show RO ι (hget c (hset b o S.h)) m w'
    by_cases hcb : c = b
    · subst hcb
      rw [hb] at e; cases e
      rw [hget_same]; exact ho
    · rw [hg c m e hcb]
      by_cases hgc : hget c S.h = .gone
      · rw [hgc]; exact trivial
      · exact (h.live c m e).world (hk _ (h.apart c b m l e hb hgc hgb hcb))
  · intro c e m n hc he hgc0 hge0 hne
    have hgc : hget c (hset b o S.h) ≠ .gone := hgc0
    have hge : hget e (hset b o S.h) ≠ .gone := hge0
    clear hgc0 hge0
    by_cases hcb : c = b
    · subst hcb
      rw [hg e n he (fun h => hne h.symm)] at hge
      exact h.apart c e m n hc he hgb hge hne
    · rw [hg c m hc hcb] at hgc
      by_cases heb : e = b
      · subst heb; exact h.apart c e m n hc he hgc hgb hne
      · rw [hg e n he heb] at hge
        exact h.apart c e m n hc he hgc hge hne
/-- A block is given up. -/
theorem HR.kill {ι : Inj} {S : St} {w : World} (h : HR ι S w) {b : Nat} {l : Loc} (hb : ι b = some l) : HR ι ⟨hset b .gone S.h, S.n⟩ w := by
  have hsm := h.small hb
  have hg : ∀ c m, ι c = some m → c ≠ b → hget c (hset b .gone S.h) = hget c S.h := fun c m e hcb => hget_other hsm (h.small e) (fun h => hcb h.symm) _ _
  refine ⟨h.lim, h.fresh, ?_, ?_, h.resv⟩
  · intro c m e
    show RO ι (hget c (hset b .gone S.h)) m w
    by_cases hcb : c = b
    · subst hcb; rw [hget_same]; exact trivial
    · rw [hg c m e hcb]; exact h.live c m e
  · intro c e m n hc he hgc hge hne
    have hgc : hget c (hset b .gone S.h) ≠ .gone := hgc
    have hge : hget e (hset b .gone S.h) ≠ .gone := hge
    have hcb : c ≠ b := by rintro rfl; rw [hget_same] at hgc; exact hgc rfl
    have heb : e ≠ b := by rintro rfl; rw [hget_same] at hge; exact hge rfl
    rw [hg c m hc hcb] at hgc
    rw [hg e n he heb] at hge
    exact h.apart c e m n hc he hgc hge hne
end Go.Ev
