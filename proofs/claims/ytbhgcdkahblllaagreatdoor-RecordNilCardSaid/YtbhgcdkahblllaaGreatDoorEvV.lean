/-
  An evaluator for calls whose arguments are known: regions that draw their order.
-/
import Derived.Test.YtbhgcdkahblllaaGreatDoorEvU
set_option linter.unusedVariables false
set_option linter.unusedSimpArgs false
namespace Go.Ev
open Go
noncomputable section
variable {P : Program}
section
variable {ops : Array Oper} {big m n0 : Nat} {T0 : T}

theorem RV.on' {ι : Inj} {r : Nat → Prop} {x : AV} {v : Value} (h : RV ι x v) : RV (ι.on r) x v := RV.mono (ι := ι) (κ := ι.on r) (fun _ _ h => h) h
theorem Inv.start {ι0 : Inj} {w0 : World} {ds : List Deferred} {L : Array Bool} {T T1 : Ev.T} {S S1 : St} {bs bs1 : Bs} {a : Act} {w : World} {ι : Inj} (h : Inv ops big m T0 ι0 w0 ds L T S bs a w ι) (F : Facts ops big)
    (g1 : S.n ≤ S1.n) (g2 : ∀ ι w, HR ι S w → HR ι S1 w) (g3 : BsOk n0 bs1 S1) (g4 : ∀ i b, (i, b) ∈ bs1 → (i, b) ∈ bs ∨ S.n ≤ b) {ns : List Stp} (g5 : ∀ t, (∀ i ∈ idxs ns, ¬ Wr ops t i) → tgetS t T1 = tgetS t T)
    (hun : ∀ i ∈ idxs ns, ¬ Ls L i) : Inv ops big m T0 ι0 w0 ds L T1 S1 bs1 a w (ι.on fun b => ι.res b ∨ S.n ≤ b ∧ b < S1.n) := by
  refine ⟨h.size, h.cl, (g2 _ _ h.hr).on fun b hb => ?_, h.ext, fun t ht => (h.old t ht).on', fun t i hw hl => ?_, h.tsz, h.dfs, fun b hb => .inl (h.keep b hb), fun i b hm hl => ?_⟩
  · rcases hb with hb | hb
    · exact Nat.lt_of_lt_of_le (h.hr.resv b hb) g1
    · exact hb.2
  · rw [g5 t fun j hj hw' => hun j hj (F.one t i j hw hw' ▸ hl)]
    exact (h.new t i hw hl).on'
  · rcases g4 i b hm with h1 | h1
    · exact ⟨.inl (h.wait i b h1 hl).1, (h.wait i b h1 hl).2⟩
    · exact ⟨.inr ⟨h1, g3.hi i b hm⟩, h.hr.fresh b h1⟩
theorem phs_inv (F : Facts ops big) {Mo : Memo} (hMo : MemoOk P Mo) {ev : Ev} (hev : EvOk P ev) (hm : m ≤ 256) : ∀ {ph : Ph} {rest : List Ph} {T : Ev.T} {S : St} {bs : Bs} {k : KN} {r : AV} {s : St}, phsK P Mo ev ops m T0 (ph :: rest) T S bs k = .ok r s →
    goodPhs big (ph :: rest) = true → (∀ q ∈ stepsOf (ph :: rest), LsOk ops big q) → BsOk n0 bs S → n0 ≤ S.n →
    ∃ T' S', k T' S' = .ok r s ∧ (∀ t, (∀ i, ¬ Wr ops t i) → tgetS t T' = tgetS t T) ∧ ∀ {ι0 : Inj} {w0 : World} {ds : List Deferred} {Q : Exit → Act → World → Prop}, (∀ b, ι0.res b → b < n0) →
      (∀ L a w ι bs', (∀ i, i < ops.size → Ls L i) → Inv ops big m T0 ι0 w0 ds L T' S' bs' a w ι → Q .normal a w) →
      ∀ fuel L a w ι, Inv ops big m T0 ι0 w0 ds L T S bs a w ι → Cov ops ph rest L → (∀ i ∈ idxs ph.ns, ¬ Ls L i) → cnt L ≤ fuel → wpAny P .any ops Q fuel L a w := by
  intro ph rest
  induction rest generalizing ph with
  | nil =>
    intro T S bs k r s h hg hls hb hn
    unfold phsK at h
    obtain ⟨T1, S1, bs1, h, g1, g2, g3, g4, g5⟩ := runN_inv hm h hb hn
    obtain ⟨h, hre⟩ := chks_inv hm g3 h
    unfold goodPhs at hg
    rw [Bool.and_eq_true] at hg
    cases he : ph.e with
    | some e => rw [he] at hg; cases hg.2
    | none =>
      rw [he] at h
      refine ⟨T1, S1, h, fun t ht => g5 t fun i _ => ht i, fun {ι0 w0 ds Q} h0 hQ fuel L a w ι hinv hcov hun hc => ?_⟩
      refine mid F h0 g3 (ph := ph) (rest := []) (T := T1) (fun q hq => ⟨hls q (by unfold stepsOf; simp [hq]), hre q hq⟩) ?_ ?_ ?_ (fun _ => rfl) (fun _ L a w ι hall hinv => hQ L a w ι bs1 hall hinv) ?_ fuel L a w _ (hinv.start F g1 g2 g3 g4 g5 hun) hcov hc
      · intro i _; rw [he]; exact ⟨by simp [eIdx], by simp [opsOf]⟩
      · intro i hi; cases hi
      · intro i hi; rw [he] at hi; cases hi
      · intro q hq; rw [he] at hq; cases hq
  | cons ph' rest' ih =>
    intro T S bs k r s h hg hls hb hn
    unfold phsK at h
    obtain ⟨T1, S1, bs1, h, g1, g2, g3, g4, g5⟩ := runN_inv hm h hb hn
    obtain ⟨h, hre⟩ := chks_inv hm g3 h
    unfold goodPhs at hg
    rw [Bool.and_eq_true] at hg
    obtain ⟨hg1, hg⟩ := hg
    cases he : ph.e with
    | none => rw [he] at hg; cases hg
    | some e =>
      rw [he] at h hg
      dsimp only at h hg
      simp only [Bool.and_eq_true] at hg
      obtain ⟨hga, hgb, hgc⟩ := hg
      obtain ⟨T2, S2, h, hE⟩ := gS_inv hMo hev hm h
      obtain ⟨hle, h⟩ := okK_inv h
      have hle := Nat.le_of_ble_eq_true hle
      obtain ⟨T', S', h, hT', hrest⟩ := ih h hgc (fun q hq => hls q (by unfold stepsOf; simp [hq])) ⟨g3.lo, fun i b hi => Nat.lt_of_lt_of_le (g3.hi i b hi) hle, g3.inj⟩ (Nat.le_trans hn (Nat.le_trans g1 hle))
      obtain ⟨o, ho, hT2, hsay⟩ := hE
      refine ⟨T', S', h, fun t ht => (hT' t ht).trans ((hT2 t fun hd => ht e.i ⟨o, ho, hd⟩).trans (g5 t fun i _ => ht i)), fun {ι0 w0 ds Q} h0 hQ fuel L a w ι hinv hcov hun hc => ?_⟩
      have hei : e.i < ops.size := (Array.getElem?_eq_some_iff.1 ho).1
      have hla : ∀ i ∈ opsOf (ph' :: rest'), inb big i e.i = true ∧ i ≠ e.i := fun i hi => by
        have := List.all_eq_true.1 hga i hi
        simp only [Bool.and_eq_true, Bool.not_eq_true'] at this
        exact ⟨this.1, Nat.ne_of_beq_eq_false this.2⟩
      have hlb : ∀ i ∈ idxs ph.re, i ≠ e.i ∧ i ∉ opsOf (ph' :: rest') ∧ (inb big e.i i = true ∨ i ∈ idxs ph'.re) := fun i hi => by
        have := List.all_eq_true.1 hgb i hi
        simp only [Bool.and_eq_true, Bool.or_eq_true, Bool.not_eq_true', hasN_iff] at this
        refine ⟨?_, ?_, this.2.2⟩
        · rintro rfl
          have := this.1
          simp at this
        · intro hh
          have h2 := this.2.1
          rw [hasN_iff.2 hh] at h2
          cases h2
      have hlt : ∀ i ∈ eIdx ph.e, i < ops.size := fun i hi => by
        rw [he] at hi
        have : i = e.i := by simpa [eIdx] using hi
        rw [this]; exact hei
      refine mid F h0 g3 (ph := ph) (rest := ph' :: rest') (T := T1) (fun q hq => ⟨hls q (by unfold stepsOf; simp [hq]), hre q hq⟩) ?_ ?_ hlt (fun hh => by rw [he] at hh; cases hh) (fun hh => by rw [he] at hh; cases hh) ?_ fuel L a w _ (hinv.start F g1 g2 g3 g4 g5 hun) hcov hc
      · intro i hi
        refine ⟨?_, (hlb i hi).2.1⟩
        rw [he]; simpa [eIdx] using (hlb i hi).1
      · intro i hi j hj
        rw [he] at hj
        have : j = e.i := by simpa [eIdx] using hj
        rw [this]; exact (hla i hi).1
      · intro q hq fuel L a w ι hinv hcov hnq hpq hc
        rw [he] at hq; cases hq
        have hp := hpq o ho
        have hls' : LsOk ops big e := hls e (by unfold stepsOf; simp [he])
        have hmask := hinv.mask F hls' ho hnq hp fun b => ι.res b ∧ (e.i, b) ∉ bs1
        have hr := hinv.hr.on (r := fun b => ι.res b ∧ (e.i, b) ∉ bs1) fun b hb' => hinv.hr.resv b hb'.1
        refine hsay hmask hinv.tsz hr _ Q fun κ u w' k1 k2 k3 => ?_
        have hnext := hinv.next F ho hnq hp g3 h0 k1 k2 hT2 k3
        have heL : e.i < L.size := by rw [hinv.size]; exact hei
        refine hrest h0 hQ fuel _ _ _ κ hnext ⟨fun i hi hl => ?_, fun i hi hl => ?_, fun i hi hl => ?_⟩ (fun i hi hl => ?_) (by have := cnt_set heL hnq; omega)
        · have hl' : ¬ Ls L i := fun hh => hl ((ls_set heL).2 (.inr hh))
          rcases hcov.1 i hi hl' with h1 | h1 | h1
          · rcases (hlb i h1).2.2 with h2 | h2
            · exact absurd (hnext.cl e.i i hei hi ((ls_set heL).2 (.inl rfl)) h2) hl
            · exact .inl h2
          · rw [he] at h1
            have : i = e.i := by simpa [eIdx] using h1
            exact absurd ((ls_set heL).2 (.inl this)) hl
          · unfold opsOf at h1
            rw [List.mem_append, List.mem_append] at h1
            rcases h1 with h1 | h1 | h1
            · have := hgc
              unfold goodPhs at this
              rw [Bool.and_eq_true] at this
              exact .inl (hasN_iff.1 (List.all_eq_true.1 this.1 i h1))
            · exact .inr (.inl h1)
            · exact .inr (.inr h1)
        · have hm' : i ∈ opsOf (ph' :: rest') := by unfold opsOf; simp [hi]
          rcases (ls_set heL).1 hl with h1 | h1
          · exact (hla i hm').2 h1
          · exact hcov.2.2 i hm' h1
        · have hm' : i ∈ opsOf (ph' :: rest') := by unfold opsOf; simp [hi]
          rcases (ls_set heL).1 hl with h1 | h1
          · exact (hla i hm').2 h1
          · exact hcov.2.2 i hm' h1
        · have hm' : i ∈ opsOf (ph' :: rest') := by unfold opsOf; simp [hi]
          rcases (ls_set heL).1 hl with h1 | h1
          · exact (hla i hm').2 h1
          · exact hcov.2.2 i hm' h1
end

/-! ### A plan -/
def befs : List Oper → Nat → Nat → Nat
  | [], _, big => big
  | o :: l, i, big => befs l (i + 1) (Nat.lor big (Nat.shiftLeft (o.after.toList.foldl (fun x e => match Region.binds .any e with
    | true => Nat.lor x (Nat.lor (Nat.shiftLeft 1 e.on) (Nat.land (Nat.shiftRight big (Nat.mul 64 e.on)) 18446744073709551615))
    | false => x) 0) (Nat.mul 64 i)))
def isEff (P : Program) (o : Oper) : Bool := match kd P o.op with
  | .pure _ => false
  | .load _ => false
  | .make _ => false
  | _ => true
def stpOf (ops : Array Oper) (big i : Nat) (o : Oper) : Stp := ⟨i, (o.looksAt ops).map fun t => (t, ops.toList.zipIdx.any fun p => (match p.1.dst with | some d => Nat.beq d t | none => false) && inb big i p.2)⟩
def mkPhs (big : Nat) (ns : List (Nat × Stp)) : List Stp → List Stp → Nat → List Ph
  | carry, [], j => [⟨(ns.filter fun p => Nat.beq p.1 j).map (·.2), carry ++ (ns.filter fun p => Nat.beq p.1 j).map (·.2), none⟩]
  | carry, e :: es, j => ⟨(ns.filter fun p => Nat.beq p.1 j).map (·.2), carry ++ (ns.filter fun p => Nat.beq p.1 j).map (·.2), some e⟩ ::
      mkPhs big ns ((carry ++ (ns.filter fun p => Nat.beq p.1 j).map (·.2)).filter fun s => !inb big e.i s.i) es (j + 1)
def plan (P : Program) (ops : Array Oper) : Plan :=
  let big := befs ops.toList 0 0
  let all := ops.toList.zipIdx.map fun p => (isEff P p.1, stpOf ops big p.2 p.1)
  let es := (all.filter (·.1)).map (·.2)
  let ns := (all.filter (!·.1)).map fun p => ((es.filter fun e => inb big p.2.i e.i).length, p.2)
  ⟨big, mkPhs big ns [] es 0⟩
def drawn (P : Program) : Drawn := fun Mo ev m ops T S k => okK (P.follows .mixedOrders) (okK (Nat.ble m 256) (okK (goodPlan ops (plan P ops)) (phsK P Mo ev ops m T (plan P ops).phs T S [] k)))
theorem drawn_ok : DrawnOk P (drawn P) := by
  intro Mo hMo ev hev m ops T S k r s h
  obtain ⟨hf, h⟩ := okK_inv h
  obtain ⟨hm, h⟩ := okK_inv h
  obtain ⟨hg, h⟩ := okK_inv h
  have hm := Nat.le_of_ble_eq_true hm
  revert h hg
  generalize plan P ops = pl
  intro hg h
  obtain ⟨F, hls, hall, hgp⟩ := goodPlan_inv hg
  obtain ⟨big, phs⟩ := pl
  dsimp only at hls hall hgp h F
  cases phs with
  | nil => cases hgp
  | cons ph rest =>
    obtain ⟨T', S', h, hT', hw⟩ := phs_inv (n0 := S.n) F hMo hev hm h hgp hls ⟨(fun _ _ h => by cases h), (fun _ _ h => by cases h), (fun _ _ _ h => by cases h)⟩ (Nat.le_refl _)
    refine ⟨T', S', h, fun {id ι a w} ra hr => wp_region_any hf ?_⟩
    have hno : ∀ i, ¬ Ls (Array.replicate ops.size false) i := by
      intro i
      unfold Ls
      by_cases hi : i < ops.size <;> simp [hi, Array.getElem?_replicate]
    refine hw (ι0 := ι) (w0 := w) (ds := a.defers) (fun b hb => hr.resv b hb) ?_ _ _ _ _ ι ⟨by simp, fun i j _ _ hl => absurd hl (hno i), hr.world (w' := { w with drawn := w.drawn + 1 }) (fun _ => rfl), Ext.world (ι := ι) rfl rfl rfl rfl, fun t _ => ra.tmp t, fun t i _ hl => absurd hl (hno i), ra.size, rfl, fun _ h => h, (fun _ _ h => by cases h)⟩ ⟨fun i hi _ => ?_, fun i _ => hno i, fun i _ => hno i⟩ (fun i _ => hno i) ?_
    · intro L a' w' κ bs' hl hinv
      refine ⟨rfl, κ.on ι.res, ⟨hinv.tsz, hm, fun t ht => ?_⟩, hinv.hr.on fun b hb => hinv.hr.resv b (hinv.keep b hb), hinv.ext, hinv.dfs⟩
      have e1 : ∀ T : Ev.T, tgetS t T = tget t T := fun T => by
        unfold tgetS
        rw [show Nat.ble t 255 = true from Nat.ble_eq_true_of_le (by omega)]
      refine RV.on' (ι := κ) ?_
      by_cases hw' : ∃ i, Wr ops t i
      · obtain ⟨i, hi⟩ := hw'
        have hlt : i < ops.size := by obtain ⟨o, ho, -⟩ := hi; exact (Array.getElem?_eq_some_iff.1 ho).1
        rw [← e1]; exact hinv.new t i hi (hl i hlt)
      · have hw' : ∀ i, ¬ Wr ops t i := fun i hi => hw' ⟨i, hi⟩
        rw [← e1, hT' t hw']
        exact hinv.old t fun i hi => absurd hi (hw' i)
    · have := hall i hi
      unfold opsOf at this
      rw [List.mem_append, List.mem_append] at this
      rcases this with h1 | h1 | h1
      · have := hgp
        unfold goodPhs at this
        rw [Bool.and_eq_true] at this
        exact .inl (hasN_iff.1 (List.all_eq_true.1 this.1 i h1))
      · exact .inr (.inl h1)
      · exact .inr (.inr h1)
    · unfold cnt
      simp [List.count_replicate]
end
end Go.Ev
