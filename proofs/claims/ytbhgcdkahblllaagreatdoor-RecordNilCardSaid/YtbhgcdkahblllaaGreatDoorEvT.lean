/-
  An evaluator for calls whose arguments are known: regions that draw their order. What each step comes to.
-/
import Derived.Test.YtbhgcdkahblllaaGreatDoorEvS
set_option linter.unusedVariables false
set_option linter.unusedSimpArgs false
namespace Go.Ev
open Go
noncomputable section
variable {P : Program}

def Inj.on (ι : Inj) (r : Nat → Prop) : Inj := ⟨ι.f, r⟩
theorem HR.on {ι : Inj} {S : St} {w : World} (h : HR ι S w) {r : Nat → Prop} (hr : ∀ b, r b → b < S.n) : HR (ι.on r) S w :=
  ⟨h.lim, h.fresh, fun b l e => RO.mono (ι := ι) (κ := ι.on r) (fun _ _ h => h) (h.live b l e), h.apart, hr⟩
theorem Ext.step {ι ι' κ : Inj} {w v u : World} {r : Nat → Prop} (h : Ext ι w (ι'.on ι.res) v) (g : Ext (ι'.on r) v κ u) (hk : ∀ b, ι.res b → r b) : Ext ι w (κ.on ι.res) u where
  os := g.os.trans h.os
  tape := g.tape.trans h.tape
  output := g.output.trans h.output
  size := Nat.le_trans h.size g.size
  le := fun b l e => g.le b l (h.le b l e)
  keep k hk hn := (g.keep k (Nat.lt_of_lt_of_le hk h.size) fun b l hb e => by
    rcases h.new b l hb with ⟨b', l', h1, h2⟩ | h1
    · exact hn b' l' h1 (h2.trans e)
    · omega).trans (h.keep k hk hn)
  new b l hb := by
    rcases g.new b l hb with ⟨b', l', h1, h2⟩ | h1
    · rcases h.new b' l' h1 with ⟨b'', l'', h3, h4⟩ | h3
      · exact .inl ⟨b'', l'', h3, h4.trans h2⟩
      · exact .inr (h2 ▸ h3)
    · exact .inr (Nat.le_trans h.size h1)
  same := rfl
  wait b hr hn := g.wait b (hk b hr) (h.wait b hr hn)

def Wr (ops : Array Oper) (t i : Nat) : Prop := ∃ o, ops[i]? = some o ∧ o.dst = some t
structure Facts (ops : Array Oper) (big : Nat) : Prop where
  back : ∀ i o, ops[i]? = some o → ∀ e ∈ o.after, Region.binds .any e = true → e.on < i
  bef : ∀ i o, ops[i]? = some o → ∀ j, j < ops.size → inb big i j = true → ∃ e ∈ o.after, Region.binds .any e = true ∧ (e.on = j ∨ inb big e.on j = true)
  one : ∀ t i j, Wr ops t i → Wr ops t j → i = j
def LsOk (ops : Array Oper) (big : Nat) (s : Stp) : Prop := ∀ t f, (t, f) ∈ s.ls → (f = true → ∃ i, Wr ops t i ∧ inb big s.i i = true) ∧ (f = false → ∀ i, Wr ops t i → s.i = i ∨ inb big i s.i = true)

theorem zip_all {ops : Array Oper} {p : Oper × Nat → Bool} (h : ops.toList.zipIdx.all p = true) {i : Nat} {o : Oper} (ho : ops[i]? = some o) : p (o, i) = true := by
  rw [List.all_eq_true] at h
  exact h _ (List.mk_mem_zipIdx_iff_getElem?.2 (by rw [Array.getElem?_toList]; exact ho))
theorem zip_any {ops : Array Oper} {p : Oper × Nat → Bool} (h : ops.toList.zipIdx.any p = true) : ∃ i o, ops[i]? = some o ∧ p (o, i) = true := by
  rw [List.any_eq_true] at h
  obtain ⟨⟨o, i⟩, h1, h2⟩ := h
  have := List.mk_mem_zipIdx_iff_getElem?.1 h1
  rw [Array.getElem?_toList] at this
  exact ⟨i, o, this, h2⟩
theorem goodPlan_inv {ops : Array Oper} {pl : Plan} (h : goodPlan ops pl = true) :
    Facts ops pl.big ∧ (∀ s ∈ stepsOf pl.phs, LsOk ops pl.big s) ∧ (∀ i, i < ops.size → i ∈ opsOf pl.phs) ∧ goodPhs pl.big pl.phs = true := by
  unfold goodPlan at h
  simp only [Bool.and_eq_true] at h
  obtain ⟨h1, h2, h3, h4⟩ := h
  refine ⟨⟨fun i o ho e he hb => ?_, fun i o ho j hj hij => ?_, ?_⟩, fun s hs t f hf => ?_, fun i hi => ?_, h4⟩
  · have := zip_all h1 ho
    simp only [Bool.and_eq_true, befOk] at this
    have := List.all_eq_true.1 this.1.1 e (by simpa using he)
    simp only [hb, Bool.not_true, Bool.false_or] at this
    simpa [Nat.blt_eq] using this
  · have := zip_all h1 ho
    simp only [Bool.and_eq_true, befOk] at this
    have := List.all_eq_true.1 this.1.2 j (List.mem_range.2 hj)
    simp only [hij, Bool.not_true, Bool.false_or, List.any_eq_true, Bool.and_eq_true, Bool.or_eq_true, Nat.beq_eq] at this
    obtain ⟨e, he, h5, h6⟩ := this
    exact ⟨e, by simpa using he, h5, h6⟩
  · rintro t i j ⟨o, ho, hd⟩ ⟨o', ho', hd'⟩
    have := zip_all h1 ho
    simp only [Bool.and_eq_true, dstOk, hd] at this
    have := zip_all this.2 ho'
    simp only [hd'] at this
    simpa using this
  · have := List.all_eq_true.1 h2 s hs
    unfold lsOk at this
    have := List.all_eq_true.1 this _ hf
    refine ⟨?_, ?_⟩
    · rintro rfl
      dsimp only at this
      obtain ⟨i, o, ho, hp⟩ := zip_any this
      simp only [Bool.and_eq_true] at hp
      refine ⟨i, ⟨o, ho, ?_⟩, hp.2⟩
      have := hp.1
      split at this
      · rename_i d hd; rw [hd, Nat.eq_of_beq_eq_true this]
      · cases this
    · rintro rfl i ⟨o, ho, hd⟩
      dsimp only at this
      have := zip_all this ho
      simp only [hd, Bool.or_eq_true] at this
      rcases this with h | h | h
      · simp at h
      · exact .inl (Nat.eq_of_beq_eq_true h)
      · exact .inr h
  · exact hasN_iff.1 (List.all_eq_true.1 h3 i (List.mem_range.2 hi))

def MaskRV (T0 T : T) (s : Stp) (ι : Inj) (a : Act) : Prop := ∀ t f, (t, f) ∈ s.ls → RV ι (Bool.rec (tgetS t T0) (tgetS t T) f : AV) (a.tmps.getD t undef)
theorem RA.em {ι : Inj} {m : Nat} {a : Act} (h : m ≤ a.tmps.size) (hm : m ≤ 256) : RA ι m emT a := ⟨h, hm, fun t ht => by rw [tget_em]; exact trivial⟩
theorem RA.mark {ι : Inj} {m t : Nat} {M : T} {a : Act} {v : AV} (ra : RA ι m M a) (ht : t < 256) (hv : RV ι v (a.tmps.getD t undef)) : RA ι m (tset t v M) a :=
  ⟨ra.size, ra.le, fun u hu => by
    by_cases e : t = u
    · subst e; rw [tget_same]; exact hv
    · rw [tget_other ht hu e]; exact ra.val u hu⟩
theorem maskK_inv' {T0 T : T} : ∀ {l : List (Nat × Bool)} {M : Ev.T} {k : Ev.T → R} {r : AV} {s : St}, maskK T0 T l M k = .ok r s →
    ∃ M', k M' = .ok r s ∧ ∀ {ι : Inj} {m : Nat} {a : Act}, RA ι m M a → (∀ t f, (t, f) ∈ l → RV ι (Bool.rec (tgetS t T0) (tgetS t T) f : AV) (a.tmps.getD t undef)) → RA ι m M' a
  | [], M, k, r, s, h => ⟨M, h, fun ra _ => ra⟩
  | (t, f) :: l, M, k, r, s, h => by
    change okK (Nat.ble t 255) (tsetK t (Bool.rec (tgetS t T0) (tgetS t T) f) M fun M => maskK T0 T l M k) = _ at h
    obtain ⟨h1, h⟩ := okK_inv h
    have h1 := Nat.le_of_ble_eq_true h1
    rw [tsetK_eq] at h
    obtain ⟨M', h, hM⟩ := maskK_inv' h
    exact ⟨M', h, fun ra hl => hM (ra.mark (by omega) (hl t f (.head _))) fun t' f' h' => hl t' f' (.tail _ h')⟩
theorem maskK_inv {T0 T : T} {q : Stp} {k : Ev.T → R} {r : AV} {s : St} (h : maskK T0 T q.ls emT k = .ok r s) :
    ∃ M, k M = .ok r s ∧ ∀ {ι : Inj} {m : Nat} {a : Act}, m ≤ a.tmps.size → m ≤ 256 → MaskRV T0 T q ι a → RA ι m M a := by
  obtain ⟨M, h, hM⟩ := maskK_inv' h
  exact ⟨M, h, fun h1 h2 h3 => hM (RA.em h1 h2) h3⟩
theorem putK_get {m : Nat} {d : Option Nat} {v : AV} {T : T} {k : Ev.T → R} {r : AV} {s : St} (hm : m ≤ 256) (h : putK m d v T k = .ok r s) :
    ∃ T', k T' = .ok r s ∧ (∀ t, d ≠ some t → tgetS t T' = tgetS t T) ∧ ∀ t, d = some t → t < m ∧ tgetS t T' = v := by
  cases d with
  | none => exact ⟨T, h, fun t _ => rfl, fun t h => by cases h⟩
  | some d =>
    obtain ⟨h1, h⟩ := okK_inv h
    have h1 : d < m := Nat.le_of_ble_eq_true h1
    rw [tsetK_eq] at h
    refine ⟨_, h, fun t ht => ?_, fun t ht => ?_⟩
    · unfold tgetS
      cases hb : Nat.ble t 255 with
      | false => rfl
      | true =>
        have := Nat.le_of_ble_eq_true hb
        exact tget_other (by omega) (by omega) (by rintro rfl; exact ht rfl) _ _
    · cases ht
      refine ⟨h1, ?_⟩
      unfold tgetS
      rw [show Nat.ble d 255 = true from Nat.ble_eq_true_of_le (by omega)]
      exact tget_same _ _ _

/-! ### Operations that may come at any time -/
structure BsOk (n0 : Nat) (bs : Bs) (S : St) : Prop where
  lo : ∀ i b, (i, b) ∈ bs → n0 ≤ b
  hi : ∀ i b, (i, b) ∈ bs → b < S.n
  inj : ∀ i j b, (i, b) ∈ bs → (j, b) ∈ bs → i = j
theorem runN_inv {ops : Array Oper} {m : Nat} (hm : m ≤ 256) {T0 : T} {n0 : Nat} : ∀ {ns : List Stp} {T : Ev.T} {S : St} {bs : Bs} {k : Ev.T → St → Bs → R} {r : AV} {s : St}, runN P ops m T0 ns T S bs k = .ok r s → BsOk n0 bs S → n0 ≤ S.n →
    ∃ T1 S1 bs1, k T1 S1 bs1 = .ok r s ∧ S.n ≤ S1.n ∧ (∀ ι w, HR ι S w → HR ι S1 w) ∧ BsOk n0 bs1 S1 ∧ (∀ i b, (i, b) ∈ bs1 → (i, b) ∈ bs ∨ S.n ≤ b) ∧ ∀ t, (∀ i ∈ idxs ns, ¬ Wr ops t i) → tgetS t T1 = tgetS t T
  | [], T, S, bs, k, r, s, h, hb, hn => ⟨T, S, bs, h, Nat.le_refl _, fun _ _ h => h, hb, fun _ _ h => .inl h, fun _ _ => rfl⟩
  | q :: l, T, S, bs, k, r, s, h, hb, hn => by
    unfold runN at h
    split at h
    · rename_i o ho
      obtain ⟨M, h, -⟩ := maskK_inv h
      obtain ⟨b, h, -⟩ := guardK_inv h
      have fin : ∀ {v : AV} {T' : Ev.T}, (∀ t, o.dst ≠ some t → tgetS t T' = tgetS t T) → ∀ t, (∀ i ∈ idxs (q :: l), ¬ Wr ops t i) → tgetS t T' = tgetS t T := by
        intro v T' hT t ht
        exact hT t fun e => ht q.i (.head _) ⟨o, ho, e⟩
      cases b with
      | false =>
        rw [if_neg (by decide)] at h
        obtain ⟨T', h, hT, -⟩ := putK_get hm h
        obtain ⟨T1, S1, bs1, h, g1, g2, g3, g4, g5⟩ := runN_inv hm h hb hn
        exact ⟨T1, S1, bs1, h, g1, g2, g3, g4, fun t ht => (g5 t fun i hi => ht i (.tail _ hi)).trans (fin (v := .top) hT t ht)⟩
      | true =>
        rw [if_pos rfl] at h
        have hkd := kd_ok (P := P) (o := o)
        unfold nK at h
        split at h
        · rename_i f hf
          rw [hf] at hkd
          obtain ⟨v, h, -⟩ := hkd h
          obtain ⟨T', h, hT, -⟩ := putK_get hm h
          obtain ⟨T1, S1, bs1, h, g1, g2, g3, g4, g5⟩ := runN_inv hm h hb hn
          exact ⟨T1, S1, bs1, h, g1, g2, g3, g4, fun t ht => (g5 t fun i hi => ht i (.tail _ hi)).trans (fin (v := .top) hT t ht)⟩
        · rename_i f hf
          rw [hf] at hkd
          obtain ⟨v, h, -⟩ := hkd h
          obtain ⟨T', h, hT, -⟩ := putK_get hm h
          obtain ⟨T1, S1, bs1, h, g1, g2, g3, g4, g5⟩ := runN_inv hm h hb hn
          exact ⟨T1, S1, bs1, h, g1, g2, g3, g4, fun t ht => (g5 t fun i hi => ht i (.tail _ hi)).trans (fin (v := .top) hT t ht)⟩
        · rename_i f hf
          rw [hf] at hkd
          obtain ⟨ao, mk, h, -⟩ := hkd h
          obtain ⟨hlt, h⟩ := newK_inv h
          obtain ⟨T', h, hT, -⟩ := putK_get hm h
          have hb' : BsOk n0 ((q.i, S.n) :: bs) ⟨hset S.n ao S.h, S.n + 1⟩ := by
            refine ⟨fun i b hi => ?_, fun i b hi => ?_, fun i j b hi hj => ?_⟩
            · cases hi with
              | head => exact hn
              | tail _ hi => exact hb.lo i b hi
            · cases hi with
              | head => exact Nat.lt_succ_self _
              | tail _ hi => exact Nat.lt_succ_of_lt (hb.hi i b hi)
            · cases hi with
              | head => cases hj with
                | head => rfl
                | tail _ hj => exact absurd (hb.hi _ _ hj) (Nat.lt_irrefl _)
              | tail _ hi => cases hj with
                | head => exact absurd (hb.hi _ _ hi) (Nat.lt_irrefl _)
                | tail _ hj => exact hb.inj i j b hi hj
          obtain ⟨T1, S1, bs1, h, g1, g2, g3, g4, g5⟩ := runN_inv hm h hb' (Nat.le_succ_of_le hn)
          refine ⟨T1, S1, bs1, h, Nat.le_trans (Nat.le_succ _) g1, fun ι w hr => g2 ι w (hr.reserve hlt ao), g3, fun i b hi => ?_, fun t ht => (g5 t fun i hi => ht i (.tail _ hi)).trans (fin (v := .top) hT t ht)⟩
          rcases g4 i b hi with h | h
          · cases h with
            | head => exact .inr (Nat.le_refl _)
            | tail _ h => exact .inl h
          · exact .inr (Nat.le_trans (Nat.le_succ _) h)
        · exact (R.bad_ne h).elim
    · exact (R.bad_ne h).elim
/-- What an operation comes to whenever it comes. -/
def ChkSays (P : Program) (ops : Array Oper) (m : Nat) (T0 : T) (s : Stp) (T : Ev.T) (S : St) (bs : Bs) : Prop := ∃ o, ops[s.i]? = some o ∧ ∀ {ι : Inj} {a : Act} {w : World}, MaskRV T0 T s ι a → m ≤ a.tmps.size → HR ι S w →
  (∀ b, (s.i, b) ∈ bs → ι b = none ∧ ¬ ι.res b) → ∃ u w' κ, (∀ (K : Act → World → Prop) (Q : Exit → Act → World → Prop), K (a.put o.dst u) w' → wpOp P ops Q s.i K a w) ∧ HR κ S w' ∧ Ext ι w κ w' ∧ ∀ d, o.dst = some d → d < m ∧ RV κ (tgetS d T) u
theorem okD_inv {m : Nat} {d : Option Nat} {v : AV} {T : T} {k : R} {r : AV} {s : St} (h : okD m d v T k = .ok r s) : k = .ok r s ∧ ∀ t, d = some t → t < m ∧ v = tgetS t T := by
  cases d with
  | none => exact ⟨h, fun t h => by cases h⟩
  | some d =>
    obtain ⟨h1, h⟩ := okK_inv h
    obtain ⟨h2, h⟩ := okK_inv h
    exact ⟨h, fun t ht => by cases ht; exact ⟨Nat.le_of_ble_eq_true h1, avEq_eq h2⟩⟩
theorem chks_inv {ops : Array Oper} {m : Nat} (hm : m ≤ 256) {T0 : T} {T : Ev.T} {S : St} {bs : Bs} {n0 : Nat} (hb : BsOk n0 bs S) : ∀ {l : List Stp} {k : R} {r : AV} {s : St}, chks P ops m T0 l T S bs k = .ok r s →
    k = .ok r s ∧ ∀ q ∈ l, ChkSays P ops m T0 q T S bs
  | [], k, r, s, h => ⟨h, fun q hq => by cases hq⟩
  | q :: l, k, r, s, h => by
    unfold chks at h
    split at h
    · rename_i o ho
      obtain ⟨M, h, hM⟩ := maskK_inv h
      obtain ⟨b, h, hg⟩ := guardK_inv h
      have fin : ∀ {k' : R}, chks P ops m T0 l T S bs k = k' → k' = .ok r s → ChkSays P ops m T0 q T S bs → k = .ok r s ∧ ∀ q' ∈ q :: l, ChkSays P ops m T0 q' T S bs := by
        intro k' e h hq
        obtain ⟨h1, h2⟩ := chks_inv hm hb (e.trans h)
        exact ⟨h1, fun q' h' => by cases h' with
          | head => exact hq
          | tail _ h' => exact h2 q' h'⟩
      cases b with
      | false =>
        rw [if_neg (by decide)] at h
        obtain ⟨h, hd⟩ := okD_inv h
        refine fin rfl h ⟨o, ho, fun {ι a w} hmask hsz hr hbs => ⟨undef, w, ι, fun K Q hK => ?_, hr, Ext.refl _ _, fun d hdd => ?_⟩⟩
        · unfold wpOp
          simp only [ho, hg (hM hsz hm hmask), Bool.false_eq_true, if_false]
          exact hK
        · obtain ⟨h1, h2⟩ := hd d hdd
          exact ⟨h1, h2 ▸ ⟨#[], rfl, rfl⟩⟩
      | true =>
        rw [if_pos rfl] at h
        have hkd := kd_ok (P := P) (o := o)
        have run : ∀ {ι : Inj} {a : Act} {w w' : World} {u : Value}, MaskRV T0 T q ι a → m ≤ a.tmps.size → (execOp a.eval o).run P w = .ok (.value u) w' →
            ∀ (K : Act → World → Prop) (Q : Exit → Act → World → Prop), K (a.put o.dst u) w' → wpOp P ops Q q.i K a w := by
          intro ι a w w' u hmask hsz hx K Q hK
          unfold wpOp
          simp only [ho, hg (hM hsz hm hmask), if_true]
          refine .inl ?_
          unfold Oper.wp
          rw [hx, Oper.upon_value]; exact hK
        unfold chK at h
        split at h
        · rename_i f hf
          rw [hf] at hkd
          obtain ⟨v, h, hv⟩ := hkd h
          obtain ⟨h, hd⟩ := okD_inv h
          refine fin rfl h ⟨o, ho, fun {ι a w} hmask hsz hr hbs => ?_⟩
          obtain ⟨u, h1, h2⟩ := hv (w := w) (hM hsz hm hmask)
          exact ⟨u, w, ι, run hmask hsz h1, hr, Ext.refl _ _, fun d hdd => ⟨(hd d hdd).1, (hd d hdd).2 ▸ h2⟩⟩
        · rename_i f hf
          rw [hf] at hkd
          obtain ⟨v, h, hv⟩ := hkd h
          obtain ⟨h, hd⟩ := okD_inv h
          refine fin rfl h ⟨o, ho, fun {ι a w} hmask hsz hr hbs => ?_⟩
          obtain ⟨u, h1, h2⟩ := hv (w := w) (hM hsz hm hmask) (n := S.n) hr
          exact ⟨u, w, ι, run hmask hsz h1, hr, Ext.refl _ _, fun d hdd => ⟨(hd d hdd).1, (hd d hdd).2 ▸ h2⟩⟩
        · rename_i f hf
          rw [hf] at hkd
          obtain ⟨ao, mk, h, hne, hv⟩ := hkd h
          split at h
          · rename_i j hj
            have hj := findB_mem hj
            obtain ⟨hs, h⟩ := okK_inv h
            obtain ⟨h, hd⟩ := okD_inv h
            refine fin rfl h ⟨o, ho, fun {ι a w} hmask hsz hr hbs => ?_⟩
            obtain ⟨x, sz, u, h1, h2, h3⟩ := hv (w := w) (hM hsz hm hmask)
            obtain ⟨b1, b2⟩ := hbs j hj
            have hmk := hr.make b1 b2 (hb.hi _ _ hj) ⟨w.heap.size, 0, sz⟩ (w' := w.alloc x) rfl rfl rfl (by simp) (fun k hk => heap_alloc_old hk) (Nat.le_refl _) ((h2 _ (Inj.le_put b1 _)).same hs)
            exact ⟨u, _, _, run hmask hsz h1, hmk.1, hmk.2, fun d hdd => ⟨(hd d hdd).1, (hd d hdd).2 ▸ h3 _ _ (Inj.put_same _ _ _)⟩⟩
          · exact (R.bad_ne h).elim
        · exact (R.bad_ne h).elim
    · exact (R.bad_ne h).elim
/-! ### Operations whose place is fixed -/
def EffSays (P : Program) (ops : Array Oper) (m : Nat) (T0 : T) (s : Stp) (T : Ev.T) (S : St) (T' : Ev.T) (S' : St) : Prop := ∃ o, ops[s.i]? = some o ∧ (∀ t, o.dst ≠ some t → tgetS t T' = tgetS t T) ∧ ∀ {ι : Inj} {a : Act} {w : World}, MaskRV T0 T s ι a → m ≤ a.tmps.size → HR ι S w →
  ∀ (K : Act → World → Prop) (Q : Exit → Act → World → Prop), (∀ κ u w', HR κ S' w' → Ext ι w κ w' → (∀ d, o.dst = some d → d < m ∧ RV κ (tgetS d T') u) → K (a.put o.dst u) w') → wpOp P ops Q s.i K a w
theorem gS_inv {Mo : Memo} (hMo : MemoOk P Mo) {ev : Ev} (hev : EvOk P ev) {ops : Array Oper} {m : Nat} (hm : m ≤ 256) {T0 : T} {q : Stp} {T : Ev.T} {S : St} {k : KN} {r : AV} {s : St} (h : gS P Mo ev ops m T0 q T S k = .ok r s) :
    ∃ T' S', k T' S' = .ok r s ∧ EffSays P ops m T0 q T S T' S' := by
  unfold gS at h
  split at h
  · rename_i o ho
    obtain ⟨M, h, hM⟩ := maskK_inv h
    obtain ⟨b, h, hg⟩ := guardK_inv h
    cases b with
    | false =>
      rw [if_neg (by decide)] at h
      obtain ⟨T', h, hT, hd⟩ := putK_get hm h
      refine ⟨T', S, h, o, ho, hT, fun {ι a w} hmask hsz hr K Q hK => ?_⟩
      unfold wpOp
      simp only [ho, hg (hM hsz hm hmask), Bool.false_eq_true, if_false]
      exact hK ι undef w hr (Ext.refl _ _) fun d hdd => ⟨(hd d hdd).1, (hd d hdd).2 ▸ ⟨#[], rfl, rfl⟩⟩
    | true =>
      rw [if_pos rfl] at h
      obtain ⟨v, S', h, hv⟩ := doK_inv hMo hev kd_ok h
      obtain ⟨T', h, hT, hd⟩ := putK_get hm h
      refine ⟨T', S', h, o, ho, hT, fun {ι a w} hmask hsz hr K Q hK => ?_⟩
      unfold wpOp
      simp only [ho, hg (hM hsz hm hmask), if_true]
      exact .inl (hv (hM hsz hm hmask) hr fun κ u w' h1 h2 h3 => hK κ u w' h2 h3 fun d hdd => ⟨(hd d hdd).1, (hd d hdd).2 ▸ h1⟩)
  · exact (R.bad_ne h).elim
end
end Go.Ev
