/-
  An evaluator for calls whose arguments are known: regions that draw their order. Every order.
-/
import Derived.Test.YtbhgcdkahblllaaGreatDoorEvT
set_option linter.unusedVariables false
set_option linter.unusedSimpArgs false
namespace Go.Ev
open Go
noncomputable section
variable {P : Program}

def Ls (L : Array Bool) (i : Nat) : Prop := L.getD i false = true
theorem ls_set {L : Array Bool} {i j : Nat} (hi : i < L.size) : Ls (L.setIfInBounds i true) j ↔ j = i ∨ Ls L j := by
  unfold Ls
  by_cases e : i = j
  · subst e; simp [hi]
  · rw [getD_set_ne false e]
    exact ⟨.inr, fun h => h.resolve_left fun h => e h.symm⟩
theorem ls_true {L : Array Bool} {i : Nat} (hi : i < L.size) : L.getD i true = false ↔ ¬ Ls L i := by
  unfold Ls
  simp [hi]
theorem put_getD {a : Act} {d : Option Nat} {u : Value} {t : Nat} (h : d ≠ some t) : (a.put d u).tmps.getD t undef = a.tmps.getD t undef := by
  cases d with
  | none => rfl
  | some d =>
    have : d ≠ t := fun e => h (e ▸ rfl)
    simp [Act.put, Array.getElem?_setIfInBounds, this]
theorem put_getD_same {a : Act} {u : Value} {t : Nat} (h : t < a.tmps.size) : (a.put (some t) u).tmps.getD t undef = u := by
  simp [Act.put, Array.getElem?_setIfInBounds, h]
theorem put_size {a : Act} {d : Option Nat} {u : Value} : (a.put d u).tmps.size = a.tmps.size := by
  cases d <;> simp [Act.put]

section
variable {ops : Array Oper} {big m n0 : Nat} {T0 : T} {ι0 : Inj} {w0 : World} {ds : List Deferred}

structure Inv (ops : Array Oper) (big m : Nat) (T0 : T) (ι0 : Inj) (w0 : World) (ds : List Deferred) (L : Array Bool) (T : T) (S : St) (bs : Bs) (a : Act) (w : World) (ι : Inj) : Prop where
  size : L.size = ops.size
  cl : ∀ i j, i < ops.size → j < ops.size → Ls L i → inb big i j = true → Ls L j
  hr : HR ι S w
  ext : Ext ι0 w0 (ι.on ι0.res) w
  old : ∀ t, (∀ i, Wr ops t i → ¬ Ls L i) → RV ι (tgetS t T0) (a.tmps.getD t undef)
  new : ∀ t i, Wr ops t i → Ls L i → RV ι (tgetS t T) (a.tmps.getD t undef)
  tsz : m ≤ a.tmps.size
  dfs : a.defers = ds
  keep : ∀ b, ι0.res b → ι.res b
  wait : ∀ i b, (i, b) ∈ bs → ¬ Ls L i → ι.res b ∧ ι b = none
theorem Inv.next {L : Array Bool} {T T' : Ev.T} {S S' : St} {bs : Bs} {a : Act} {w w' : World} {ι κ : Inj} (h : Inv ops big m T0 ι0 w0 ds L T S bs a w ι) (F : Facts ops big) {i : Nat} {o : Oper} (ho : ops[i]? = some o) (hn : ¬ Ls L i)
    (hp : ∀ e ∈ o.after, Region.binds .any e = true → Ls L e.on) (hb : BsOk n0 bs S) (h0 : ∀ b, ι0.res b → b < n0) (hk : HR κ S' w') (hx : Ext (ι.on fun b => ι.res b ∧ (i, b) ∉ bs) w κ w')
    (hT : ∀ t, o.dst ≠ some t → tgetS t T' = tgetS t T) {u : Value} (hu : ∀ d, o.dst = some d → d < m ∧ RV κ (tgetS d T') u) :
    Inv ops big m T0 ι0 w0 ds (L.setIfInBounds i true) T' S' bs (a.put o.dst u) w' κ := by
  have hi : i < ops.size := (Array.getElem?_eq_some_iff.1 ho).1
  have hiL : i < L.size := by rw [h.size]; exact hi
  have hle : ι.le κ := hx.le
  have hkr : κ.res = fun b => ι.res b ∧ (i, b) ∉ bs := hx.same
  have hkeep : ∀ b, ι0.res b → ι.res b ∧ (i, b) ∉ bs := fun b hb' => ⟨h.keep b hb', fun hm => by have := hb.lo _ _ hm; have := h0 b hb'; omega⟩
  refine ⟨by simpa using h.size, fun i' j hi' hj hl hij => ?_, hk, h.ext.step hx hkeep, fun t ht => ?_, fun t i' hw hl => ?_, by rw [put_size]; exact h.tsz, by rw [put_defers']; exact h.dfs, fun b hb' => by rw [hkr]; exact hkeep b hb', fun i' b hm hl => ?_⟩
  · rw [ls_set hiL] at hl ⊢
    right
    rcases hl with rfl | hl
    · obtain ⟨e, he, hbi, h1⟩ := F.bef _ _ ho j hj hij
      have he' := hp e he hbi
      rcases h1 with rfl | h1
      · exact he'
      · exact h.cl e.on j (Nat.lt_trans (F.back _ _ ho e he hbi) hi) hj he' h1
    · exact h.cl i' j hi' hj hl hij
  · have hd : o.dst ≠ some t := fun e => ht i ⟨o, ho, e⟩ ((ls_set hiL).2 (.inl rfl))
    rw [put_getD hd]
    exact (h.old t fun j hj hl => ht j hj ((ls_set hiL).2 (.inr hl))).mono hle
  · by_cases e : o.dst = some t
    · obtain ⟨h1, h2⟩ := hu t e
      rw [e, put_getD_same (Nat.lt_of_lt_of_le h1 h.tsz)]
      exact h2
    · rw [put_getD e, hT t e]
      rcases (ls_set hiL).1 hl with rfl | hl
      · obtain ⟨o', ho', hd'⟩ := hw
        rw [ho] at ho'; cases ho'
        exact absurd hd' e
      · exact (h.new t i' hw hl).mono hle
  · have hl' : ¬ Ls L i' := fun hh => hl ((ls_set hiL).2 (.inr hh))
    have hne : i' ≠ i := fun hh => hl ((ls_set hiL).2 (.inl hh))
    obtain ⟨h1, h2⟩ := h.wait i' b hm hl'
    have h3 : (i, b) ∉ bs := fun hh => hne (hb.inj _ _ _ hm hh)
    exact ⟨by rw [hkr]; exact ⟨h1, h3⟩, hx.wait b ⟨h1, h3⟩ h2⟩
theorem Inv.mask {L : Array Bool} {T : Ev.T} {S : St} {bs : Bs} {a : Act} {w : World} {ι : Inj} (h : Inv ops big m T0 ι0 w0 ds L T S bs a w ι) (F : Facts ops big) {q : Stp} (hq : LsOk ops big q) {o : Oper} (ho : ops[q.i]? = some o) (hn : ¬ Ls L q.i)
    (hp : ∀ e ∈ o.after, Region.binds .any e = true → Ls L e.on) (r : Nat → Prop) : MaskRV T0 T q (ι.on r) a := by
  have hi : q.i < ops.size := (Array.getElem?_eq_some_iff.1 ho).1
  intro t f hf
  refine RV.mono (ι := ι) (κ := ι.on r) (fun _ _ h => h) ?_
  obtain ⟨h1, h2⟩ := hq t f hf
  cases f with
  | false =>
    refine h.old t fun i hw hl => ?_
    rcases h2 rfl i hw with e | e
    · exact hn (e ▸ hl)
    · obtain ⟨o', ho', -⟩ := hw
      exact hn (h.cl i q.i (Array.getElem?_eq_some_iff.1 ho').1 hi hl e)
  | true =>
    obtain ⟨i, hw, e⟩ := h1 rfl
    obtain ⟨o', ho', -⟩ := id hw
    have hi' : i < ops.size := (Array.getElem?_eq_some_iff.1 ho').1
    obtain ⟨ed, he, hbi, h3⟩ := F.bef _ _ ho i hi' e
    have he' := hp ed he hbi
    refine h.new t i hw ?_
    rcases h3 with rfl | h3
    · exact he'
    · exact h.cl ed.on i (Nat.lt_trans (F.back _ _ ho ed he hbi) hi) hi' he' h3

/-! ### What is still to be done -/
def Cov (ops : Array Oper) (ph : Ph) (rest : List Ph) (L : Array Bool) : Prop :=
  (∀ i, i < ops.size → ¬ Ls L i → i ∈ idxs ph.re ∨ i ∈ eIdx ph.e ∨ i ∈ opsOf rest) ∧ (∀ i ∈ eIdx ph.e, ¬ Ls L i) ∧ ∀ i ∈ opsOf rest, ¬ Ls L i
theorem mem_idxs {i : Nat} : ∀ {l : List Stp}, i ∈ idxs l → ∃ q ∈ l, q.i = i
  | q :: l, h => by
    cases h with
    | head => exact ⟨q, .head _, rfl⟩
    | tail _ h => obtain ⟨p, h1, h2⟩ := mem_idxs h; exact ⟨p, .tail _ h1, h2⟩
def cnt (L : Array Bool) : Nat := L.toList.count false
theorem cnt_set {L : Array Bool} {i : Nat} (hi : i < L.size) (h : ¬ Ls L i) : cnt (L.setIfInBounds i true) + 1 = cnt L := by
  have hf : L[i] = false := by
    unfold Ls at h
    simpa [hi] using h
  unfold cnt
  rw [Array.toList_setIfInBounds, List.count_set (by simpa using hi)]
  have hpos : 0 < L.toList.count false := List.count_pos_iff.2 (by
    have := Array.getElem_mem hi
    rw [hf] at this
    simpa using this)
  have h1 : L.toList[i]'(by simpa using hi) = false := by simpa using hf
  rw [h1]
  simp only [beq_self_eq_true, if_true, show (true == false) = false from rfl, Bool.false_eq_true, if_false]
  omega
theorem cnt_zero {L : Array Bool} (h : cnt L = 0) {i : Nat} (hi : i < L.size) : Ls L i := by
  unfold Ls
  cases hb : L[i] with
  | true => simp [hi, hb]
  | false =>
    have := Array.getElem_mem hi
    rw [hb] at this
    have := List.count_pos_iff.2 (show false ∈ L.toList by simpa using this)
    unfold cnt at h
    omega
theorem ready_nil {L : Array Bool} (F : Facts ops big) (hs : L.size = ops.size) (h : Region.ready .any ops L = []) : ∀ i, i < ops.size → Ls L i := by
  intro i
  induction i using Nat.strongRecOn with
  | ind i ih =>
    intro hi
    apply Classical.byContradiction
    intro hn
    have : i ∈ Region.ready .any ops L := by
      rw [mem_ready]
      refine ⟨(ls_true (by omega)).2 hn, ops[i], by simp [hi], fun e he hb => ?_⟩
      have hlt := F.back i ops[i] (by simp [hi]) e he hb
      exact ih e.on hlt (by omega)
    rw [h] at this
    cases this
theorem all_ready {L : Array Bool} (hs : L.size = ops.size) (h : ∀ i, i < ops.size → Ls L i) : Region.ready .any ops L = [] := by
  apply List.eq_nil_iff_forall_not_mem.2
  intro i hi
  rw [mem_ready] at hi
  obtain ⟨h1, o, ho, -⟩ := hi
  have hlt := (Array.getElem?_eq_some_iff.1 ho).1
  exact (ls_true (by omega)).1 h1 (h i hlt)

/-- A phase: whatever comes first of what may come, until the phase's end. -/
theorem mid {Q : Exit → Act → World → Prop} (F : Facts ops big) (h0 : ∀ b, ι0.res b → b < n0) {ph : Ph} {rest : List Ph} {T : Ev.T} {S : St} {bs : Bs} (hb : BsOk n0 bs S)
    (hre : ∀ q ∈ ph.re, LsOk ops big q ∧ ChkSays P ops m T0 q T S bs) (hdis : ∀ i ∈ idxs ph.re, i ∉ eIdx ph.e ∧ i ∉ opsOf rest) (hlater : ∀ i ∈ opsOf rest, ∀ j ∈ eIdx ph.e, inb big i j = true)
    (hlt : ∀ i ∈ eIdx ph.e, i < ops.size) (hend : ph.e = none → rest = [])
    (hfin : ph.e = none → ∀ L a w ι, (∀ i, i < ops.size → Ls L i) → Inv ops big m T0 ι0 w0 ds L T S bs a w ι → Q .normal a w)
    (heff : ∀ q, ph.e = some q → ∀ fuel L a w ι, Inv ops big m T0 ι0 w0 ds L T S bs a w ι → Cov ops ph rest L → ¬ Ls L q.i → (∀ o, ops[q.i]? = some o → ∀ e ∈ o.after, Region.binds .any e = true → Ls L e.on) → cnt L ≤ fuel + 1 →
      wpOp P ops Q q.i (wpAny P .any ops Q fuel (L.setIfInBounds q.i true)) a w) :
    ∀ fuel L a w ι, Inv ops big m T0 ι0 w0 ds L T S bs a w ι → Cov ops ph rest L → cnt L ≤ fuel → wpAny P .any ops Q fuel L a w := by
  have last : ∀ L a w ι, (∀ i, i < ops.size → Ls L i) → Inv ops big m T0 ι0 w0 ds L T S bs a w ι → Cov ops ph rest L → Q .normal a w := by
    intro L a w ι hall hinv hcov
    refine hfin ?_ L a w ι hall hinv
    cases he : ph.e with
    | none => rfl
    | some q =>
      have hq : q.i ∈ eIdx ph.e := by rw [he]; exact .head _
      exact absurd (hall _ (hlt _ hq)) (hcov.2.1 _ hq)
  intro fuel
  induction fuel with
  | zero =>
    intro L a w ι hinv hcov hc
    have hall : ∀ i, i < ops.size → Ls L i := fun i hi => cnt_zero (by omega) (by rw [hinv.size]; exact hi)
    exact ⟨all_ready hinv.size hall, last L a w ι hall hinv hcov⟩
  | succ fuel ih =>
    intro L a w ι hinv hcov hc
    refine ⟨fun hr => last L a w ι (ready_nil F hinv.size hr) hinv hcov, fun i hi => ?_⟩
    obtain ⟨h1, o, ho, hp⟩ := mem_ready.1 hi
    have hi' : i < ops.size := (Array.getElem?_eq_some_iff.1 ho).1
    have hn : ¬ Ls L i := (ls_true (by rw [hinv.size]; exact hi')).1 h1
    rcases hcov.1 i hi' hn with h | h | h
    · obtain ⟨q, hq, rfl⟩ := mem_idxs h
      obtain ⟨hls, o', ho', hsay⟩ := hre q hq
      rw [ho] at ho'; cases ho'
      have hmask := hinv.mask F hls ho hn hp fun b => ι.res b ∧ (q.i, b) ∉ bs
      have hr := hinv.hr.on (r := fun b => ι.res b ∧ (q.i, b) ∉ bs) fun b hb' => hinv.hr.resv b hb'.1
      obtain ⟨u, w', κ, g1, g2, g3, g4⟩ := hsay hmask hinv.tsz hr fun b hm => ⟨(hinv.wait q.i b hm hn).2, fun hh => hh.2 hm⟩
      have hnext := hinv.next F ho hn hp hb h0 g2 g3 (fun t _ => rfl) g4
      refine g1 _ Q (ih _ _ _ κ hnext ⟨fun j hj hl => ?_, fun j hj hl => ?_, fun j hj hl => ?_⟩ ?_)
      · exact hcov.1 j hj fun hh => hl ((ls_set (by rw [hinv.size]; exact hi')).2 (.inr hh))
      · rcases (ls_set (by rw [hinv.size]; exact hi')).1 hl with rfl | hl
        · exact (hdis _ h).1 hj
        · exact hcov.2.1 j hj hl
      · rcases (ls_set (by rw [hinv.size]; exact hi')).1 hl with rfl | hl
        · exact (hdis _ h).2 hj
        · exact hcov.2.2 j hj hl
      · have := cnt_set (by rw [hinv.size]; exact hi') hn
        omega
    · cases he : ph.e with
      | none => rw [he] at h; cases h
      | some q =>
        rw [he] at h
        have : i = q.i := by simpa [eIdx] using h
        subst this
        exact heff q he fuel L a w ι hinv hcov hn (fun o' ho' => by rw [ho] at ho'; cases ho'; exact hp) hc
    · exfalso
      cases he : ph.e with
      | none => rw [hend he] at h; cases h
      | some q =>
        have hq : q.i ∈ eIdx ph.e := by rw [he]; exact .head _
        obtain ⟨ed, hed, hbi, h3⟩ := F.bef _ _ ho q.i (hlt _ hq) (hlater i h q.i hq)
        have he' := hp ed hed hbi
        refine hcov.2.1 _ hq ?_
        rcases h3 with h3 | h3
        · rw [← h3]; exact he'
        · exact hinv.cl ed.on q.i (Nat.lt_trans (F.back _ _ ho ed hed hbi) hi') (hlt _ hq) he' h3
end
end
end Go.Ev
