/-
  Sorting sets in their order.
  slices.Sort on a row of numbers of the call's own.
-/
import Derived.Test.YtfpmbjobieeidaaGreatSets1
import Derived.Test.YtfpmbjobieeidaaGreatClone
import Derived.Test.YtfpmbjobieeidaaGreatPlainA
namespace Go.Proofs.YtfpmbjobieeidaaGreat
open Go.RowKit Go.Lib Go.Sort

section
variable {α : Type} [Inhabited α]
theorem size_putCells (enc : α → Value) (off : Nat) (d : Array α) (c : Array Value) : (putCells enc off d c).size = c.size := by simp [putCells]
theorem sortWorld_grown (enc : α → Value) (w : World) (g off m : Nat) (d : Array α) (os : Array Obj) : w.grownBy (sortWorld enc w g off m d os) (some g) := by
  refine ⟨rfl, rfl, rfl, by simp [sortWorld], fun i hi hne => ?_⟩
  have hne' : g ≠ i := fun e => hne (by rw [e])
  simp only [sortWorld, putRow, mapBlock, Sort.grow, Array.getElem?_append, Array.size_modify, heap_ahead, hi, if_true, Array.getElem?_modify, if_neg hne']
theorem sortWorld_own (enc : α → Value) {w : World} {base e g n cap m : Nat} {vs : List Value} {d : Array α} {os : Array Obj} (hd : d.size = n) (h : w.ownsRow base e 1 (.slice (some ⟨g, 0, none⟩) n cap) n vs) :
    (sortWorld enc w g 0 m d os).ownsRow base e 1 (.slice (some ⟨g, 0, none⟩) n cap) n (d.toList.map enc) := by
  obtain ⟨_, h⟩ := h
  refine ⟨by simp [hd], .inr ?_⟩
  rcases h with ⟨hv, _⟩ | ⟨g', cap', cur, hv, hb, hh, hnc, hcm, hcs, _⟩
  · cases hv
  · have e1 : g = g' ∧ cap = cap' := by
      injection hv with h1 _ h2
      injection h1 with h1
      injection h1 with h1 _ _
      exact ⟨h1, h2⟩
    obtain ⟨rfl, rfl⟩ := e1
    have hlt : g < w.heap.size := (Array.getElem?_eq_some_iff.1 hh).1
    refine ⟨g, cap, putCells enc 0 d cur, rfl, hb, ?_, hnc, hcm, by rw [size_putCells, hcs], ?_⟩
    · simp only [sortWorld, putRow, mapBlock, Sort.grow, Array.getElem?_append, Array.size_modify, heap_ahead, hlt, if_true, Array.getElem?_modify, hh, Option.map_some, onCells]
    · apply List.ext_getElem?
      intro i
      by_cases hi : i < n
      · have hic : i < cur.size := by omega
        have hid : i < d.size := by omega
        rw [List.getElem?_take_of_lt (by omega), Array.getElem?_toList, List.getElem?_map, Array.getElem?_toList]
        simp only [putCells, Array.getElem?_mapIdx, Array.getElem?_eq_getElem hic, Option.map_some, Nat.zero_le, true_and, Nat.zero_add, hid, if_true, Nat.sub_zero, Array.getElem?_eq_getElem hid]
        rw [getElem!_pos d i hid]
      · rw [List.getElem?_eq_none (by simp; omega), List.getElem?_eq_none (by simp; omega)]
theorem holds_of_own (enc : α → Value) {w : World} {base e g n cap : Nat} {d : Array α} (hd : d.size = n) (h : w.ownsRow base e 1 (.slice (some ⟨g, 0, none⟩) n cap) n (d.toList.map enc)) : Holds enc w g 0 d := by
  intro j hj
  obtain ⟨_, h⟩ := h
  rcases h with ⟨hv, _⟩ | ⟨g', cap', cur, hv, hb, hh, hnc, hcm, hcs, ht⟩
  · cases hv
  · have e1 : g = g' := by
      injection hv with h1 _ h2
      injection h1 with h1
      injection h1
    subst e1
    have hjc : j < cur.size := by omega
    constructor
    · rw [Nat.zero_add, cell_of_row w g j cur e (0, 0) hh, getElem!_pos d j hj]
      have := congrArg (fun l => l[j]?) ht
      simp only [List.getElem?_take_of_lt (show j < n * 1 by omega), Array.getElem?_toList, List.getElem?_map, Array.getElem?_eq_getElem hj, Option.map_some] at this
      exact this
    · simp [World.frozen?, hh]
end

/-- A set in memory: a value, and the list that it reads as. -/
structure SetIn (R : Value → List Int → Prop) where
  val : Value
  list : List Int
  ok : R val list
def SetIn.enc {R : Value → List Int → Prop} (p : SetIn R) : Value := p.val
def SetIn.cf {R : Value → List Int → Prop} (p q : SetIn R) : Int := Rk.ord p.list q.list
theorem Ints.one {w : World} {B : Nat} {v : Value} {xs : List Int} (h : Ints w B v xs) : v.oneCell' = true := by
  obtain ⟨A, c, rfl, _⟩ := h
  rfl

theorem setSwo (R : Value → List Int → Prop) : SWO (ltOf (SetIn.cf (R := R))) where
  irrefl x := by simp [ltOf, SetIn.cf, Rk.ord_self]
  trans x y z h1 h2 := decide_eq_true (Rk.ord_trans (of_decide_eq_true h1) (of_decide_eq_true h2))
  ntrans x y z h1 h2 := decide_eq_false (Int.not_lt.2 (Rk.ord_ntrans (Int.not_lt.1 (of_decide_eq_false h1)) (Int.not_lt.1 (of_decide_eq_false h2))))

section
variable {R : Value → List Int → Prop} {vs : List Value} {xss : List (List Int)}
/-- The elements of a row of sets, each with what it reads as. -/
def setArr (h : ∀ i, i < xss.length → ∃ u, vs[i]? = some u ∧ R u (xss.getD i [])) : Array (SetIn R) :=
  Array.ofFn (n := xss.length) fun i => ⟨vs.getD i (.slice none 0 0), xss.getD i [], by
    obtain ⟨u, h1, h2⟩ := h i i.isLt
    rw [List.getD_eq_getElem?_getD, h1]
    exact h2⟩
theorem setArr_size (h : ∀ i, i < xss.length → ∃ u, vs[i]? = some u ∧ R u (xss.getD i [])) : (setArr h).size = xss.length := Array.size_ofFn
theorem setArr_get (h : ∀ i, i < xss.length → ∃ u, vs[i]? = some u ∧ R u (xss.getD i [])) (i : Nat) (hi : i < (setArr h).size) :
    (setArr h)[i].val = vs.getD i (.slice none 0 0) ∧ (setArr h)[i].list = xss.getD i [] := by
  unfold setArr at hi ⊢
  rw [Array.getElem_ofFn]
  exact ⟨rfl, rfl⟩
theorem setArr_vals (h : ∀ i, i < xss.length → ∃ u, vs[i]? = some u ∧ R u (xss.getD i [])) (hl : vs.length = xss.length) :
    (setArr h).toList.map SetIn.enc = vs ∧ (setArr h).toList.map SetIn.list = xss := by
  have hs := setArr_size h
  constructor <;> (apply List.ext_getElem?; intro i; rw [List.getElem?_map, Array.getElem?_toList]; by_cases hi : i < xss.length)
  · rw [Array.getElem?_eq_getElem (by omega), List.getElem?_eq_getElem (by omega), Option.map_some, SetIn.enc, (setArr_get h i _).1, List.getD_eq_getElem?_getD, List.getElem?_eq_getElem (show i < vs.length by omega)]
    rfl
  · rw [Array.getElem?_eq_none (by omega), List.getElem?_eq_none (by omega)]; rfl
  · rw [Array.getElem?_eq_getElem (by omega), List.getElem?_eq_getElem hi, Option.map_some, (setArr_get h i _).2, List.getD_eq_getElem?_getD, List.getElem?_eq_getElem hi]
    rfl
  · rw [Array.getElem?_eq_none (by omega), List.getElem?_eq_none (by omega)]; rfl

/-- slices.SortFunc(l, order[int]) on a row of sets of the call's own, whatever keeps the sets readable while the row is turned. -/
theorem sortSets_gen {w : World} {base n : Nat} {v : Value} (hn : n = xss.length) (hown : w.ownsRow base 26 1 v n vs)
    (hR : ∀ u xs, R u xs → u.oneCell' = true ∧ ∀ w', w.grownBy w' v.ownBlock → ∃ B, Ints w' B u xs)
    (h : ∀ i, i < xss.length → ∃ u, vs[i]? = some u ∧ R u (xss.getD i [])) (hsz : n < 4611686018427387904) :
    Calls Tryz.prog 63 #[v, .func (.func 64) #[] #[]] w fun e w' => e = .returned (.tuple #[]) ∧
      ∃ vs', w'.ownsRow base 26 1 v n vs' ∧ w.grownBy w' v.ownBlock ∧ ∀ i, i < n → ∃ u, vs'[i]? = some u ∧ R u ((Rk.sortSets xss).getD i []) := by
  subst hn
  rcases hown.2 with ⟨rfl, h0⟩ | ⟨g, cap, cur, rfl, hb, hh, hnc, hcm, hcs, ht⟩
  · have hx : xss = [] := List.eq_nil_of_length_eq_zero h0
    subst hx
    haveI : Inhabited Value := ⟨.slice none 0 0⟩
    refine (Tryz.slices_SortFunc_none (α := Value) none 0 _ w).mono ?_
    rintro e w' ⟨rfl, rfl⟩
    exact ⟨rfl, vs, hown, World.grownBy.refl _ _, fun i hi => by simp at hi⟩
  · rcases Nat.eq_zero_or_pos xss.length with h0 | hpos
    · have hx : xss = [] := List.eq_nil_of_length_eq_zero h0
      subst hx
      haveI : Inhabited Value := ⟨.slice none 0 0⟩
      refine (Tryz.slices_SortFunc_none (α := Value) (some ⟨g, 0, none⟩) cap _ w).mono ?_
      rintro e w' ⟨rfl, rfl⟩
      exact ⟨rfl, vs, hown, World.grownBy.refl _ _, fun i hi => by simp at hi⟩
    · have hl : vs.length = xss.length := by simpa using hown.1
      obtain ⟨hv1, hv2⟩ := setArr_vals h hl
      have hds : (setArr h).size = xss.length := setArr_size h
      haveI : Inhabited (SetIn R) := ⟨(setArr h)[0]'(by omega)⟩
      have hH : Holds SetIn.enc w g 0 (setArr h) := holds_of_own (base := base) (e := 26) (cap := cap) SetIn.enc hds (by rw [hv1]; exact hown)
      have hlt : g < w.heap.size := (Array.getElem?_eq_some_iff.1 hh).1
      have eg : ∀ args w, (callFunc 64 args).run Tryz.prog w = .ok (.enter 64 args) w := enters_of Tryz.func64 (by kernel_rfl) rfl
      have hcmp : CmpReads Tryz.prog 64 #[] (SetIn.enc (R := R)) SetIn.cf g 0 (setArr h).size w := by
        intro m os dk hs x y
        have hg := sortWorld_grown (SetIn.enc (R := R)) w g 0 m dk os
        obtain ⟨B1, h1⟩ := (hR _ _ x.ok).2 _ hg
        obtain ⟨B2, h2⟩ := (hR _ _ y.ok).2 _ hg
        exact (order_any _ _ _ _ (max B1 B2) _ (h1.more (Nat.le_max_left _ _)) (h2.more (Nat.le_max_right _ _))).mono fun e w' ⟨he, hw⟩ => ⟨he, 0, hw.symm⟩
      have hc := Tryz.slices_SortFunc SetIn.enc (fun x => (hR _ _ x.ok).1) SetIn.cf (setSwo R) 64 #[] g 0 cap (setArr h) w eg hcmp.lays hH hlt (by omega)
      rw [hds] at hc
      refine hc.mono ?_
      rintro e w' ⟨he, d', m, os, ⟨hp1, hp2, hp3⟩, hso, rfl⟩
      have hd' : d'.size = xss.length := by omega
      have hperm : (d'.toList).Perm (setArr h).toList := by
        have e1 : (d'.extract 0 xss.length) = d' := by rw [← hd']; simp
        have e2 : ((setArr h).extract 0 xss.length) = setArr h := by rw [← hds]; simp
        rwa [e1, e2] at hp3
      have hg := sortWorld_grown (SetIn.enc (R := R)) w g 0 m d' os
      have hsorted : d'.toList.map SetIn.list = Rk.sortSets xss := by
        refine Rk.sortSets_unique ?_ ?_
        · have := hperm.map SetIn.list
          rwa [hv2] at this
        · rw [List.pairwise_map, List.pairwise_iff_getElem]
          intro i j hi hj hij
          simp only [Array.length_toList] at hi hj
          have := hso i j (Nat.zero_le _) hij (by omega)
          rw [getElem!_pos d' i hi, getElem!_pos d' j hj] at this
          have h0 : 0 ≤ Rk.ord d'[j].list d'[i].list := Int.not_lt.1 (of_decide_eq_false this)
          have e := Rk.ord_swap (d'[j].list) (d'[i].list)
          simp only [Array.getElem_toList]
          omega
      refine ⟨he, d'.toList.map SetIn.enc, sortWorld_own SetIn.enc hd' hown, hg, fun i hi => ?_⟩
      have hid : i < d'.size := by omega
      refine ⟨d'[i].val, ?_, ?_⟩
      · rw [List.getElem?_map, Array.getElem?_toList, Array.getElem?_eq_getElem hid]; rfl
      · rw [← hsorted, List.getD_eq_getElem?_getD, List.getElem?_map, Array.getElem?_toList, Array.getElem?_eq_getElem hid]
        exact d'[i].ok

/-- The sets lie below the row. -/
theorem sortSets_any {w : World} {B base n : Nat} {v : Value} (hn : n = xss.length) (hown : w.ownsRow base 26 1 v n vs) (hB : B ≤ base) (hBs : B ≤ w.heap.size)
    (h : ∀ i, i < xss.length → ∃ u, vs[i]? = some u ∧ Ints w B u (xss.getD i [])) (hsz : n < 4611686018427387904) :
    Calls Tryz.prog 63 #[v, .func (.func 64) #[] #[]] w fun e w' => e = .returned (.tuple #[]) ∧
      ∃ vs', w'.ownsRow base 26 1 v n vs' ∧ w.grownBy w' v.ownBlock ∧ ∀ i, i < n → ∃ u, vs'[i]? = some u ∧ Ints w' B u ((Rk.sortSets xss).getD i []) := by
  have keep : ∀ w', w.grownBy w' v.ownBlock → ∀ p : Addr, p.block < B → w'.cell? p = w.cell? p := fun w' hg p hp => World.cell?_of_block (hg.block p.block (by omega) (fun e => by
    obtain ⟨A, c, rfl, _, _, hb⟩ := own_form hown
    cases A with
    | none => simp [Value.ownBlock] at e
    | some ad => simp [Value.ownBlock] at e; have := hb ad rfl; omega))
  refine (sortSets_gen (R := Ints w B) hn hown (fun u xs hu => ⟨hu.one, fun w' hg => ⟨B, hu.keep (keep w' hg)⟩⟩) h hsz).mono ?_
  rintro e w' ⟨he, vs', h1, hg, h2⟩
  exact ⟨he, vs', h1, hg, fun i hi => by obtain ⟨u, h3, h4⟩ := h2 i hi; exact ⟨u, h3, h4.keep (keep w' hg)⟩⟩
end

/-- The sets are rows of the call's own. -/
theorem sortSets_own {w : World} {base : Nat} {v : Value} {xss : List (List Int)} (hown : OwnSets w base v xss) (hsz : xss.length < 4611686018427387904) (hls : ∀ xs ∈ xss, xs.length ≤ 17592186043904) :
    Calls Tryz.prog 63 #[v, .func (.func 64) #[] #[]] w fun e w' => e = .returned (.tuple #[]) ∧ OwnSets w' base v (Rk.sortSets xss) ∧ w.grownBy w' v.ownBlock := by
  obtain ⟨us, hr, hi⟩ := hown
  have keep : ∀ w', w.grownBy w' v.ownBlock → ∀ u xs, OwnInts w base u xs → OwnInts w' base u xs := fun w' hg u xs hu => own_kept hu hg (fun g e => own_own_ne hr hu (by decide) e)
  refine (sortSets_gen (R := fun u xs => OwnInts w base u xs ∧ xs.length ≤ 17592186043904) rfl hr (fun u xs hu => ⟨(hu.1.reads hu.2).one, fun w' hg => ⟨_, (keep w' hg u xs hu.1).reads hu.2⟩⟩) (fun i h => by
    obtain ⟨u, h1, h2⟩ := hi i h
    exact ⟨u, h1, h2, hls _ (by rw [List.getD_eq_getElem?_getD, List.getElem?_eq_getElem h]; exact List.getElem_mem h)⟩) hsz).mono ?_
  rintro e w' ⟨he, vs', h1, hg, h2⟩
  have hlen : (Rk.sortSets xss).length = xss.length := (Rk.sortSets_perm xss).length_eq
  refine ⟨he, ⟨vs', by rw [hlen]; exact h1, fun i hi => ?_⟩, hg⟩
  obtain ⟨u, h3, h4, _⟩ := h2 i (by omega)
  exact ⟨u, h3, keep w' hg u _ h4⟩
end Go.Proofs.YtfpmbjobieeidaaGreat
namespace Go.Proofs.YtfpmbjobieeidaaGreat
open Go.RowKit Go.Lib Go.Sort

theorem sortInts_any {w : World} {base : Nat} {v : Value} {l : List Int} (hown : OwnInts w base v l) (hsz : l.length < 4611686018427387904) :
    Calls Tryz.prog 62 #[v] w fun e w' => e = .returned (.tuple #[]) ∧ OwnInts w' base v (Rk.sortInts l) ∧ w.grownBy w' v.ownBlock := by
  have hlen : (Rk.sortInts l).length = l.length := (List.mergeSort_perm l _).length_eq
  rcases hown.2 with ⟨rfl, h0⟩ | ⟨g, cap, cur, rfl, hb, hh, hnc, hcm, hcs, ht⟩
  · have hx : l = [] := List.eq_nil_of_length_eq_zero h0
    subst hx
    refine (Tryz.slices_Sort_int_none none 0 w).mono ?_
    rintro e w' ⟨rfl, rfl⟩
    exact ⟨rfl, by simpa [Rk.sortInts] using hown, World.grownBy.refl _ _⟩
  · have hlt : g < w.heap.size := (Array.getElem?_eq_some_iff.1 hh).1
    have hH : Holds (Value.int .i64) w g 0 l.toArray := holds_of_own (base := base) (e := 3) (cap := cap) (Value.int .i64) (by simp) hown
    refine (Tryz.slices_Sort_int g 0 cap l w hH hlt hsz).mono ?_
    rintro e w' ⟨rfl, m, os, rfl⟩
    refine ⟨rfl, ?_, sortWorld_grown (Value.int .i64) w g 0 m _ os⟩
    unfold OwnInts
    rw [hlen]
    have h := sortWorld_own (m := m) (os := os) (d := (Rk.sortInts l).toArray) (Value.int .i64) (by simp [hlen]) hown
    exact h
end Go.Proofs.YtfpmbjobieeidaaGreat
