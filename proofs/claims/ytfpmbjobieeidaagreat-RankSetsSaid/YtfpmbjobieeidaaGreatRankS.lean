/-
  Standings in memory, and how they are sorted.
-/
import Derived.Test.YtfpmbjobieeidaaGreatScores
import Derived.Test.YtfpmbjobieeidaaGreatStable
import Derived.Test.YtfpmbjobieeidaaGreatCmp
import Derived.Test.YtfpmbjobieeidaaGreatPlainA
import Derived.Test.YtfpmbjobieeidaaGreatSort
namespace Go.Proofs.YtfpmbjobieeidaaGreat
open Go.Shelf Go.RowKit Go.Lib Go.Sort

/-- A component and its score. -/
structure StV where
  part : Nat
  sc : Int × Int
  n0 : -9223372036854775808 ≤ sc.1
  n1 : sc.1 ≤ 9223372036854775807
  d0 : 0 < sc.2
  d1 : sc.2 ≤ 9223372036854775807
instance : Inhabited StV := ⟨⟨0, (0, 1), by decide, by decide, by decide, by decide⟩⟩
def StV.enc (x : StV) : List Value := [.int .i64 x.part, .int .i64 x.sc.1, .int .i64 x.sc.2, .int .i64 0, .int .i64 0]
def StV.cf (x y : StV) : Int := Rk.cmpF y.sc x.sc
theorem stvSwo : SWO (ltOf StV.cf) where
  irrefl x := decide_eq_false (by unfold StV.cf; rw [Rk.cmpF_self]; omega)
  trans x y z h1 h2 := decide_eq_true (Rk.cmpF_lt1 (of_decide_eq_true h2) (Int.le_of_lt (of_decide_eq_true h1)))
  ntrans x y z h1 h2 := by
    have a1 : ¬ StV.cf x y < 0 := of_decide_eq_false h1
    have a2 : ¬ StV.cf y z < 0 := of_decide_eq_false h2
    unfold StV.cf at a1 a2
    have s1 := Rk.cmpF_swap y.sc x.sc
    have s2 := Rk.cmpF_swap z.sc y.sc
    have s3 := Rk.cmpF_swap z.sc x.sc
    have := Rk.cmpF_trans (a := x.sc) (b := y.sc) (c := z.sc) (by omega) (by omega)
    exact decide_eq_false (show ¬ Rk.cmpF z.sc x.sc < 0 by omega)

set_option maxHeartbeats 800000 in
theorem rank1_any (x y : StV) (w : World) :
    Calls Tryz.prog 42 #[.agg x.enc.toArray, .agg y.enc.toArray] w fun e w' => e = .returned (.int .i64 (x.cf y)) ∧ LaysN w w' := by
  obtain ⟨p, ⟨a, b⟩, h1, h2, h3, h4⟩ := x
  obtain ⟨q, ⟨c, d⟩, k1, k2, k3, k4⟩ := y
  simp only at h1 h2 h3 h4 k1 k2 k3 k4
  have HC := Lib.hid (fun W => compare_pos c d a b k1 k2 k3 k4 h1 h2 h3 h4 W)
  show Calls Tryz.prog 42 #[.agg #[.int .i64 p, .int .i64 a, .int .i64 b, .int .i64 0, .int .i64 0], .agg #[.int .i64 q, .int .i64 c, .int .i64 d, .int .i64 0, .int .i64 0]] w fun e w' => e = .returned (.int .i64 (Rk.cmp c d a b)) ∧ LaysN w w'
  generalize Rk.cmp c d a b = r at *
  go_enter Tryz.func42, Tryz.ntmps42
  go_wp2_with fail
  refine (HC.out _).mono ?_
  rintro e w1 ⟨rfl, hl⟩
  have HL := Lib.hid hl
  clear hl
  go_wp2
  go_ret
  exact ⟨rfl, (lays2 w _ _ 0).trans HL.out⟩

theorem rank1_enter (args : Array Value) (w : World) : (callFunc 42 args).run Tryz.prog w = .ok (.enter 42 args) w := run_enter Tryz.func42 (by kernel_rfl) rfl args w

theorem swk_grown {enc : StV → List Value} {w w' : World} {g off : Nat} {d : Array StV} (h : SWK enc 5 w g off d w') : w.grownBy w' (some g) := by
  obtain ⟨m, os, rfl⟩ := h
  exact sortWorld_grown id w g off m (flatK enc 5 d) os

/-- The cells of n standings, in block g. -/
def StC (w : World) (g n : Nat) (S : Nat → Nat → Int) : Prop :=
  g < w.heap.size ∧ ∀ c j, c < n → j < 5 → w.cell? ⟨g, c * 5 + j, none⟩ = some (.int .i64 (S c j)) ∧ w.frozen? ⟨g, c * 5 + j, none⟩ = false
section
variable {w w' : World} {g n : Nat} {S : Nat → Nat → Int}
theorem StC.congr (h : StC w g n S) {T : Nat → Nat → Int} (e : ∀ c j, c < n → j < 5 → S c j = T c j) : StC w g n T :=
  ⟨h.1, fun c j hc hj => by rw [← e c j hc hj]; exact h.2 c j hc hj⟩
theorem StC.set_ (h : StC w g n S) {c j : Nat} (hc : c < n) (hj : j < 5) (v : Int) : StC (w.setCell ⟨g, c * 5 + j, none⟩ (.int .i64 v)) g n (Rk.upd S c j v) := by
  refine ⟨by simpa using h.1, fun c' j' hc' hj' => ⟨?_, by rw [World.frozen?_setCell]; exact (h.2 c' j' hc' hj').2⟩⟩
  unfold Rk.upd
  by_cases e : c' = c ∧ j' = j
  · rw [if_pos e, e.1, e.2]
    exact World.cell?_setCell_same' _ _ _ (by rw [(h.2 c j hc hj).1]; rfl)
  · rw [if_neg e]
    refine (World.cell?_setCell_other _ _ _ _ (fun e2 => e ?_)).trans (h.2 c' j' hc' hj').1
    injection e2 with _ e2 _
    constructor <;> omega
theorem StC.below {B : Nat} (h : StC w g n S) (hb : Below B w w') (hg : g < B) : StC w' g n S :=
  ⟨Nat.lt_of_lt_of_le h.1 hb.size, fun c j hc hj => ⟨(hb.cell hg).trans (h.2 c j hc hj).1, (hb.frozen hg).trans (h.2 c j hc hj).2⟩⟩
theorem StC.drewN (h : StC w g n S) (q : Nat) : StC (w.drewN q) g n S := h
end

/-- The fields of a sorted standing while best and worst are not told. -/
def stS (sc : Nat → Rk.Fr) (n : Nat) (p j : Nat) : Int :=
  match j with
  | 0 => (Rk.order sc n).getD p 0
  | 1 => (sc ((Rk.order sc n).getD p 0)).1
  | 2 => (sc ((Rk.order sc n).getD p 0)).2
  | _ => 0
def stnArr (sc : Nat → Rk.Fr) (n : Nat) (h : ∀ c, (-9223372036854775808 ≤ (sc c).1 ∧ (sc c).1 ≤ 9223372036854775807) ∧ 0 < (sc c).2 ∧ (sc c).2 ≤ 9223372036854775807) : Array StV :=
  Array.ofFn (n := n) fun c => ⟨c, sc c, (h c).1.1, (h c).1.2, (h c).2.1, (h c).2.2⟩
section
variable {sc : Nat → Rk.Fr} {n : Nat} (h : ∀ c, (-9223372036854775808 ≤ (sc c).1 ∧ (sc c).1 ≤ 9223372036854775807) ∧ 0 < (sc c).2 ∧ (sc c).2 ≤ 9223372036854775807)
theorem stnArr_size : (stnArr sc n h).size = n := Array.size_ofFn
theorem stnArr_get (c : Nat) (hc : c < n) : (stnArr sc n h)[c]!.part = c ∧ (stnArr sc n h)[c]!.sc = sc c := by
  rw [getElem!_pos _ c (by rw [stnArr_size]; exact hc)]
  unfold stnArr
  rw [Array.getElem_ofFn]
  exact ⟨rfl, rfl⟩
/-- What the sort leaves: the order. -/
theorem sorted_order {d : Array StV} (hp : Rk.Post (ltOf StV.cf) StV.part 0 n (stnArr sc n h) d) : d.size = n ∧ ∀ p, p < n → d[p]!.part = (Rk.order sc n).getD p 0 ∧ d[p]!.sc = sc ((Rk.order sc n).getD p 0) := by
  have hs0 := stnArr_size h (n := n)
  have hsz : d.size = n := hp.1.1.trans hs0
  have hmem : ∀ p, p < n → d[p]!.sc = sc d[p]!.part := fun p hpn =>
    permIn_all (stnArr sc n h) d 0 n (fun x => x.sc = sc x.part) (by omega) hp.1 (fun k _ hk => by
      obtain ⟨e1, e2⟩ := stnArr_get h k hk
      show (stnArr sc n h)[k]!.sc = sc (stnArr sc n h)[k]!.part
      rw [e1, e2]) p (Nat.zero_le _) hpn
  have hl : d.toList.map StV.part = Rk.order sc n := by
    refine Rk.order_unique ?_ ?_
    · have h1 := hp.1.2.2
      rw [show d.extract 0 n = d by rw [← hsz]; simp, show (stnArr sc n h).extract 0 n = stnArr sc n h by conv => lhs; arg 3; rw [← hs0]
                                                                                                          simp] at h1
      refine (h1.map StV.part).trans (List.Perm.of_eq ?_)
      apply List.ext_getElem
      · simp [hs0]
      · intro i h2 h3
        have hi : i < n := by simpa using h3
        have := (stnArr_get h i hi).1
        rw [getElem!_pos _ i (by omega)] at this
        simpa using this
    · refine List.pairwise_iff_getElem.2 fun i j hi hj hij => ?_
      simp only [List.length_map, Array.length_toList] at hi hj
      have hx := hp.2 i j (Nat.zero_le _) hij (by omega)
      have mi := hmem i (by omega)
      have mj := hmem j (by omega)
      rw [getElem!_pos d i hi] at hx mi
      rw [getElem!_pos d j hj] at hx mj
      simp only [List.getElem_map, Array.getElem_toList]
      obtain ⟨q1, q2⟩ := Rk.ltx_not.1 hx
      have q1' : ¬ Rk.cmpF d[i].sc d[j].sc < 0 := of_decide_eq_false q1
      have sw := Rk.cmpF_swap d[i].sc d[j].sc
      unfold Rk.ahead
      rw [← mi, ← mj]
      refine decide_eq_true ?_
      rcases q2 with q2 | q2
      · exact .inl (of_decide_eq_true q2)
      · by_cases e : Rk.cmpF d[j].sc d[i].sc < 0
        · exact .inl e
        · exact .inr ⟨by omega, q2⟩
  refine ⟨hsz, fun p hpn => ?_⟩
  have e : d[p]!.part = (Rk.order sc n).getD p 0 := by
    rw [← hl, List.getD_eq_getElem?_getD, List.getElem?_map, Array.getElem?_toList, Array.getElem?_eq_getElem (by omega), getElem!_pos d p (by omega)]
    rfl
  exact ⟨e, by rw [← e]; exact hmem p hpn⟩

/-- The cells of unsorted standings. -/
def stCells (sc : Nat → Rk.Fr) (c : Nat) : List Value := (List.range c).flatMap fun (i : Nat) => [Value.int .i64 (i : Int), .int .i64 (sc i).1, .int .i64 (sc i).2, .int .i64 0, .int .i64 0]
theorem stCells_succ (sc : Nat → Rk.Fr) (c : Nat) : stCells sc (c + 1) = stCells sc c ++ [.int .i64 c, .int .i64 (sc c).1, .int .i64 (sc c).2, .int .i64 0, .int .i64 0] := by
  unfold stCells
  rw [List.range_succ, List.flatMap_append]
  simp
theorem stCells_length (sc : Nat → Rk.Fr) (c : Nat) : (stCells sc c).length = c * 5 := by
  induction c with
  | zero => rfl
  | succ c ih => rw [stCells_succ, List.length_append, ih]; simp; omega
theorem stCells_get (sc : Nat → Rk.Fr) : ∀ (n c j : Nat), c < n → j < 5 → (stCells sc n)[c * 5 + j]? = [Value.int .i64 c, .int .i64 (sc c).1, .int .i64 (sc c).2, .int .i64 0, .int .i64 0][j]?
  | n + 1, c, j, hc, hj => by
    rw [stCells_succ]
    have hl := stCells_length sc n
    by_cases e : c < n
    · rw [List.getElem?_append_left (by omega)]
      exact stCells_get sc n c j e hj
    · obtain rfl : c = n := by omega
      rw [List.getElem?_append_right (by omega), hl]
      congr 1
      omega

theorem enc_len (x : StV) : x.enc.length = 5 := rfl
theorem enc_one (x : StV) : ∀ v ∈ x.enc, v.oneCell' = true := fun v hv => by
  unfold StV.enc at hv
  simp only [List.mem_cons, List.not_mem_nil, or_false] at hv
  rcases hv with rfl | rfl | rfl | rfl | rfl <;> rfl

theorem holds_stn {w : World} {base g cap : Nat} (hown : w.ownsRow base 64 5 (.slice (some ⟨g, 0, none⟩) n cap) n (stCells sc n)) : HoldsK StV.enc 5 w g 0 (stnArr sc n h) ∧ g < w.heap.size := by
  obtain ⟨_, hv | ⟨g', cap', cur, hv, hb, hh, hnc, hcm, hcs, ht⟩⟩ := hown
  · cases hv.1
  · have e1 : g = g' := by
      injection hv with h1 _ h2
      injection h1 with h1
      injection h1
    subst e1
    refine ⟨fun t htl => ?_, (Array.getElem?_eq_some_iff.1 hh).1⟩
    rw [size_flatK, stnArr_size] at htl
    have e := stCells_get sc n (t / 5) (t % 5) (by omega) (Nat.mod_lt _ (by decide))
    rw [show t / 5 * 5 + t % 5 = t by omega, ← ht, List.getElem?_take_of_lt (show t < n * 5 by omega), Array.getElem?_toList] at e
    constructor
    · rw [Nat.zero_add, cell_of_row w g t cur _ (0, 0) hh, e, get_flatK _ _ _ _ (by rw [stnArr_size]; omega)]
      obtain ⟨e1, e2⟩ := stnArr_get h (t / 5) (show t / 5 < n by omega)
      unfold StV.enc
      rw [e1, e2]
      have hm : t % 5 < 5 := Nat.mod_lt _ (by decide)
      generalize t % 5 = j at hm ⊢
      rcases (show j = 0 ∨ j = 1 ∨ j = 2 ∨ j = 3 ∨ j = 4 by omega) with rfl | rfl | rfl | rfl | rfl <;> rfl
    · simp [World.frozen?, hh]

def SortPost (sc : Nat → Rk.Fr) (n g : Nat) (w : World) (e : Ending) (w' : World) : Prop :=
  e = .returned (.tuple #[]) ∧ StC w' g n (stS sc n) ∧ w.grownBy w' (some g)
include h in
theorem sortStn_any {w : World} {base g cap : Nat} (hn : n ≤ 256) (hown : w.ownsRow base 64 5 (.slice (some ⟨g, 0, none⟩) n cap) n (stCells sc n)) :
    Calls Tryz.prog 41 #[.slice (some ⟨g, 0, none⟩) n cap, .func (.func 42) #[] #[]] w (SortPost sc n g w) := by
  obtain ⟨hH, hg⟩ := holds_stn h hown
  have hs := stnArr_size h (n := n)
  have hS := sortStable_any StV.enc StV.cf stvSwo StV.part 42 #[] g 0 cap (stnArr sc n h) w rank1_enter ⟨enc_len, enc_one, hH, hg⟩
    (fun m os dk hdk x y => by simpa only [Array.append_empty, LaysN] using rank1_any x y _) (by rw [hs]; exact hn) (fun p q hpq hq => by
      rw [hs] at hq
      rw [(stnArr_get h p (by omega)).1, (stnArr_get h q hq).1]; exact hpq)
  rw [hs] at hS
  refine hS.mono ?_
  rintro e w' ⟨rfl, d, hp, hW⟩
  obtain ⟨hds, hd⟩ := sorted_order h hp
  have hh := hW.holds hg hH (hds.trans hs.symm)
  refine ⟨rfl, ⟨hW.lt hg, fun c j hc hj => ?_⟩, swk_grown hW⟩
  have hc5 : c * 5 + j < (flatK StV.enc 5 d).size := by rw [size_flatK, hds]; omega
  obtain ⟨q1, q2⟩ := hh (c * 5 + j) hc5
  rw [Nat.zero_add] at q1 q2
  refine ⟨?_, q2⟩
  rw [q1, get_flatK _ _ _ _ (by rw [hds]; omega), show (c * 5 + j) / 5 = c by omega, show (c * 5 + j) % 5 = j by omega]
  obtain ⟨e1, e2⟩ := hd c hc
  unfold StV.enc stS
  rw [e1, e2]
  rcases (show j = 0 ∨ j = 1 ∨ j = 2 ∨ j = 3 ∨ j = 4 by omega) with rfl | rfl | rfl | rfl | rfl <;> rfl
end
end Go.Proofs.YtfpmbjobieeidaaGreat
