/-
  A list of numbers, a list of such lists that came in: opened.
  A spectrum that came in: opened.
-/
import Derived.Test.YtfpmbjobieeidaaGreatBase
import Derived.Test.YtfpmbjobieeidaaGreatPlainJ
import Derived.Deep.Matrix
import Derived.SizedLaws
import Derived.Test.YtfpmbjobieeidaaGreatSpec
import Derived.Deep.Slices
import Derived.Deep.Fields
import Derived.ChangeSame
import Derived.Lib.SmallJoins
namespace Go.Proofs.YtfpmbjobieeidaaGreat
open Go.RowKit Go.ChangeShapes Go.WideShapes Go.Deep

theorem cells_int : Tryz.prog.cellsOf 3 = 1 := by kernel_rfl
theorem cells_ints : Tryz.prog.cellsOf 26 = 1 := by kernel_rfl
theorem bytes_int : Tryz.prog.bytesOf 3 = 8 := by kernel_rfl
theorem bytes_ints : Tryz.prog.bytesOf 26 = 24 := by kernel_rfl

section
variable {H : Type} {enc : TypeId × Value → H} {W : World}
theorem lt_of_cell {w : World} {p : Addr} {u : Value} (h : w.cell? p = some u) : p.block < w.heap.size := by
  rcases Nat.lt_or_ge p.block w.heap.size with hlt | hge
  · exact hlt
  · exfalso
    unfold World.cell? at h
    rw [Array.getElem?_eq_none hge] at h
    simp at h
theorem weights_all {P : Program} {e : TypeId} : ∀ {ds : List (DataW H)} {d : DataW H}, d ∈ ds → ∀ n ∈ d.weights P e, n ∈ DataW.weightsAll P e ds
  | [], _, h, _, _ => by cases h
  | d0 :: ds, d, h, n, hn => by
    simp only [DataW.weightsAll, List.mem_append]
    rcases List.mem_cons.1 h with rfl | h
    · exact .inl hn
    · exact .inr (weights_all h n hn)
/-- The weights of one argument. -/
theorem sized_one {P : Program} {ts : List TypeId} {ds : List (DataW H)} (h : (DataW.weightsEach P ts ds).all (· ≤ reachBytes) = true) {j : Nat} {t : TypeId} {d : DataW H} (ht : ts[j]? = some t) (hd : ds[j]? = some d) : ∀ n ∈ d.weights P t, n ≤ reachBytes := fun n hn => by
  have := List.all_eq_true.1 h _ (DataW.weights_mem_each ht hd n hn)
  simpa using this
theorem reads_ints {A : Option Addr} {L : Nat} {zs : List Int} {C : Nat} (hl : L ≤ C) (hz : zs.length = C) (hnone : A = none → C = 0) (hc : ∀ a, A = some a → ∀ c, c < C → W.cell? (a.add c) = some (.int .i64 (zs.getD c 0))) :
    Reads W W.heap.size 1 A L ((zs.take L).map (Value.int .i64)) := by
  refine ⟨by simp; omega, fun hL => ?_⟩
  rcases A with _ | a
  · have := hnone rfl; omega
  · refine ⟨a, rfl, ?_, fun j u hj => ?_⟩
    · have := lt_of_cell (hc a rfl 0 (by omega))
      rwa [block_of_add] at this
    · rw [List.getElem?_map] at hj
      have hjL : j < L := by
        rcases Nat.lt_or_ge j L with h | h
        · exact h
        · rw [List.getElem?_eq_none (by simp; omega)] at hj; cases hj
      rw [hc a rfl j (by omega), ← hj, List.getElem?_take_of_lt hjL, List.getD_eq_getElem?_getD, List.getElem?_eq_getElem (by omega)]
      rfl
theorem take_len {zs : List Int} {L C : Nat} (hl : L ≤ C) (hz : zs.length = C) : (zs.take L).length = L := by simp; omega

theorem open_set {v : Value} {d : DataW H} {p : List MemPlace} (h : DataW.Trod enc Tryz.prog W 0 (fun _ => true) true 26 v d p) (hs : ∀ n ∈ d.weights Tryz.prog 26, n ≤ reachBytes) (hv : ∃ A n c, v = .slice A n c) : ∃ xs, Ints W W.heap.size v xs := by
  obtain ⟨fuel, hf⟩ := h
  obtain ⟨A0, n0, c0, rfl⟩ := hv
  rcases open_ints Tryz.underlying26 Tryz.underlying3 cells_int hf with ⟨hc, hx⟩ | ⟨a, len, cap, zs, hc, _, hl, _, hz, hx, hcell, _⟩
  · have e : A0 = none ∧ n0 = 0 ∧ c0 = 0 := by simpa [Value.cells] using hc
    obtain ⟨rfl, rfl, rfl⟩ := e
    exact ⟨[], none, 0, rfl, Nat.le_refl _, Nat.zero_le _, Reads.none_⟩
  · have e : A0 = some a ∧ n0 = len ∧ c0 = cap := by simpa [Value.cells] using hc
    obtain ⟨rfl, rfl, rfl⟩ := e
    rw [if_pos rfl] at hz
    injection hx with hx _
    subst hx
    have hw := hs ((zs.take n0).length * 8 + (zs.drop n0).length * 8) (by
      simp only [DataW.weights, Tryz.underlying26, bytes_int]
      simp [lits, Nat.add_mul])
    have ht := take_len hl hz
    have hr : reachBytes = 140737488351232 := by decide
    refine ⟨zs.take n0, some a, c0, by rw [ht], by omega, by omega, ?_⟩
    rw [ht]
    exact reads_ints hl hz (fun h => by cases h) (fun a' e c hc => by cases e; exact hcell c (by omega))
theorem open_sets {v : Value} {d : DataW H} {p : List MemPlace} (h : DataW.Trod enc Tryz.prog W 0 (fun _ => true) true 40 v d p) (hs : ∀ n ∈ d.weights Tryz.prog 40, n ≤ reachBytes) (hv : ∃ A n c, v = .slice A n c) : ∃ xss, Sets W W.heap.size v xss := by
  obtain ⟨fuel, hf⟩ := h
  obtain ⟨A0, n0, c0, rfl⟩ := hv
  rcases open_int_rows Tryz.underlying40 Tryz.underlying26 Tryz.underlying3 cells_ints cells_int hf with ⟨hc, hx⟩ | ⟨a, len, cap, A, L, C, Z, hc, _, hl, _, hx, hcell⟩
  · have e : A0 = none ∧ n0 = 0 ∧ c0 = 0 := by simpa [Value.cells] using hc
    obtain ⟨rfl, rfl, rfl⟩ := e
    exact ⟨[], none, 0, [], rfl, Nat.le_refl _, Nat.zero_le _, Reads.none_, fun i hi => by simp at hi⟩
  · have e : A0 = some a ∧ n0 = len ∧ c0 = cap := by simpa [Value.cells] using hc
    obtain ⟨rfl, rfl, rfl⟩ := e
    injection hx with hx _
    subst hx
    have hr : reachBytes = 140737488351232 := by decide
    have hw := hs ((n0 + (c0 - n0)) * 24) (by
      simp only [DataW.weights, Tryz.underlying40, bytes_ints]
      simp)
    have hin : ∀ r, r < n0 → (L r) * 8 ≤ reachBytes := fun r hr' => by
      obtain ⟨_, h1, _, h3, _, h5, _⟩ := hcell r (by omega)
      rcases hA : A r with _ | a'
      · have := h5 hA; omega
      · have hw := hs (((Z r).take (L r)).length * 8 + ((Z r).drop (L r)).length * 8) (by
          simp only [DataW.weights, Tryz.underlying40, bytes_ints]
          refine List.mem_cons_of_mem _ (List.mem_append.2 (.inl (weights_all (d := intRow .i64 (A r) (L r) (Z r)) (List.mem_map.2 ⟨r, List.mem_range.2 hr', rfl⟩) _ ?_)))
          rw [hA]
          simp only [intRow, DataW.weights, Tryz.underlying26, bytes_int]
          simp [lits, Nat.add_mul])
        rw [take_len h1 h3] at hw
        omega
    refine ⟨(List.range n0).map fun r => (Z r).take (L r), some a, c0, (List.range n0).map fun r => .slice (A r) (L r) (C r), by simp, by simpa using hl, by simp; omega, ?_, fun i hi => ?_⟩
    · refine ⟨by simp, fun hn => ⟨a, rfl, ?_, fun j u hj => ?_⟩⟩
      · have hn : 0 < n0 := by simpa using hn
        have := lt_of_cell (hcell 0 (by omega)).1
        rwa [block_of_add] at this
      · have hjn : j < n0 := by
          rcases Nat.lt_or_ge j n0 with h | h
          · exact h
          · rw [List.getElem?_eq_none (by simp; omega)] at hj; cases hj
        rw [(hcell j (by omega)).1, ← hj]
        simp [hjn]
    · have hi : i < n0 := by simpa using hi
      obtain ⟨_, h1, _, h3, _, h5, h6⟩ := hcell i (by omega)
      refine ⟨.slice (A i) (L i) (C i), by simp [hi], A i, C i, ?_⟩
      have e : ((List.range n0).map fun r => (Z r).take (L r)).getD i [] = (Z i).take (L i) := by simp [List.getD_eq_getElem?_getD, hi]
      have := hin i hi
      rw [e, take_len h1 h3]
      exact ⟨rfl, h1, by omega, reads_ints h1 h3 h5 (fun a' e c hc => (h6 a' e).2 c hc)⟩
end
end Go.Proofs.YtfpmbjobieeidaaGreat
namespace Go.Proofs.YtfpmbjobieeidaaGreat
open Go.RowKit Go.ChangeShapes Go.WideShapes Go.Deep Go.Joins

theorem cells_row : Tryz.prog.cellsOf 59 = 2 := by kernel_rfl
theorem bytes_row : Tryz.prog.bytesOf 59 = 32 := by kernel_rfl
theorem cells_bool : Tryz.prog.cellsOf 4 = 1 := by kernel_rfl
theorem cells_spec : Tryz.prog.cellsOf 24 = 2 := by kernel_rfl

section
variable {H : Type} {enc : TypeId × Value → H} {W : World}
theorem open_set1 {v : Value} {y : DataW H × List MemPlace} {n : Nat} (hf : DataW.trod enc Tryz.prog W 0 (fun _ => true) true n 26 [v] = some y) (hs : ∀ n ∈ y.1.weights Tryz.prog 26, n ≤ reachBytes) : ∃ xs, Ints W W.heap.size v xs := by
  have hv : ∃ A n c, v = .slice A n c := by
    rcases open_ints Tryz.underlying26 Tryz.underlying3 cells_int hf with ⟨hc, _⟩ | ⟨a, len, cap, _, hc, _⟩
    · exact ⟨none, 0, 0, by simpa using hc⟩
    · exact ⟨some a, len, cap, by simpa using hc⟩
  obtain ⟨A, m, c, rfl⟩ := hv
  exact open_set (d := y.1) (p := y.2) ⟨n, by simpa [Value.cells] using hf⟩ hs ⟨A, m, c, rfl⟩

set_option maxRecDepth 20000 in
theorem open_rows {v : Value} {y : DataW H × List MemPlace} {n : Nat} (hf : DataW.trod enc Tryz.prog W 0 (fun _ => true) true n 22 [v] = some y) (hs : ∀ n ∈ y.1.weights Tryz.prog 22, n ≤ reachBytes) : ∃ rows, Rows W W.heap.size v rows := by
  rcases open_slice Tryz.underlying22 hf with ⟨hc, hx⟩ | ⟨a, len, cap, m, n2, D, Pl, hc, _, hl, _, hm, hx, hi⟩
  · obtain rfl : v = .slice none 0 0 := by simpa using hc
    exact ⟨[], none, 0, [], rfl, Nat.le_refl _, Nat.zero_le _, Reads.none_, fun i hi => by simp at hi⟩
  · obtain rfl : v = .slice (some a) len cap := by simpa using hc
    rw [if_pos rfl] at hm
    subst hm
    have hr : reachBytes = 140737488351232 := by decide
    rw [hx] at hs
    have hw := hs ((len + (m - len)) * 32) (by
      simp only [DataW.weights, Tryz.underlying22, bytes_row]
      simp)
    have each : ∀ i, i < len → ∃ z : Value × Bool × List Int, W.cell? (a.add (i * 2)) = some z.1 ∧ W.cell? (a.add (i * 2 + 1)) = some (.bool z.2.1) ∧ Ints W W.heap.size z.1 z.2.2 := by
      intro i hil
      obtain ⟨cs', hcs, ht⟩ := hi i (by omega)
      rw [cells_row] at hcs
      obtain ⟨_, hcl, hat⟩ := World.cells?_some hcs
      obtain ⟨y0, y1, n3, hD, _, h0, h1⟩ := trod_struct2 Tryz.underlying59 ht
      match cs', hcl with
      | [c0, c1], _ =>
        have e0 := hat 0 (by omega)
        have e1 := hat 1 (by omega)
        rw [add_zero_] at e0
        rw [add_of_add] at e1
        simp only [cells_ints, cells_bool] at h0 h1
        simp at e0 e1 h0 h1
        obtain ⟨bb, hb, _⟩ := DataW.trod_bool Tryz.underlying4 h1
        have hb : c1 = .bool bb := by simpa using hb
        obtain ⟨xs, hxs⟩ := open_set1 h0 (fun k hk => hs k (by
          simp only [DataW.weights, Tryz.underlying22]
          refine List.mem_cons_of_mem _ (List.mem_append.2 (.inl (weights_all (d := D i) (List.mem_map.2 ⟨i, List.mem_range.2 hil, rfl⟩) _ ?_)))
          have hD1 : D i = .agg [y0.1, y1.1] := congrArg Prod.fst hD
          rw [hD1]
          simp only [DataW.weights, Tryz.underlying59]
          exact DataW.weights_mem_each (j := 0) rfl rfl k hk))
        exact ⟨(c0, bb, xs), e0, by rw [e1, hb], hxs⟩
    haveI : Inhabited (Value × Bool × List Int) := ⟨(undef, false, [])⟩
    obtain ⟨f, hf2⟩ := choose_lt each
    have hlen : ((List.range len).map fun i => ((f i).2.2, (f i).2.1)).length = len := by simp
    refine ⟨(List.range len).map fun i => ((f i).2.2, (f i).2.1), some a, m, (List.range (len * 2)).map fun j => (W.cell? (a.add j)).getD undef, by rw [hlen], by rw [hlen]; exact hl, by rw [hlen]; omega, ?_, fun i hi => ?_⟩
    · rw [hlen]
      refine ⟨by simp, fun hn => ⟨a, rfl, ?_, fun j u hj => ?_⟩⟩
      · have := lt_of_cell (hf2 0 hn).1
        rwa [block_of_add] at this
      · have hjn : j < len * 2 := by
          rcases Nat.lt_or_ge j (len * 2) with h | h
          · exact h
          · rw [List.getElem?_eq_none (by simp; omega)] at hj; cases hj
        rw [List.getElem?_map, List.getElem?_range hjn] at hj
        simp only [Option.map_some, Option.some.injEq] at hj
        obtain ⟨h0, h1, _⟩ := hf2 (j / 2) (by omega)
        rcases (show j = j / 2 * 2 ∨ j = j / 2 * 2 + 1 by omega) with e | e
        · rw [← e] at h0
          rw [h0] at hj ⊢
          rw [← hj]; rfl
        · rw [← e] at h1
          rw [h1] at hj ⊢
          rw [← hj]; rfl
    · rw [hlen] at hi
      obtain ⟨h0, h1, h2⟩ := hf2 i hi
      have er : Rk.rowAt ((List.range len).map fun i => ((f i).2.2, (f i).2.1)) i = ((f i).2.2, (f i).2.1) := by
        unfold Rk.rowAt
        simp [List.getD_eq_getElem?_getD, hi]
      rw [er]
      refine ⟨(f i).1, ?_, ?_, h2⟩
      · rw [List.getElem?_map, List.getElem?_range (by omega)]
        simp [h0]
      · rw [List.getElem?_map, List.getElem?_range (by omega)]
        simp [h1]

set_option maxRecDepth 20000 in
/-- A spectrum. -/
theorem open_spec {r : Reach} {b0 : Nat} {v : Value} {d : DataW H} {p : List MemPlace} (hv : Value.okWide Tryz.prog W r b0 24 v) (h : DataW.Trod enc Tryz.prog W 0 (fun _ => true) true 24 v d p)
    (hs : ∀ n ∈ d.weights Tryz.prog 24, n ≤ reachBytes) : ∃ (parts : Int) (u : Value) (rows : List RowL), v = .agg #[.int .i64 parts, u] ∧ -9223372036854775808 ≤ parts ∧ parts ≤ 9223372036854775807 ∧ Rows W W.heap.size u rows := by
  obtain ⟨x0, x1, y0, y1, n, rfl, rfl, -, hy0, hy1⟩ := open_agg2 Tryz.underlying24 (by kernel_rfl) cells_spec hv h
  obtain ⟨k, ek, _, wk⟩ := DataW.trod_int Tryz.underlying3 hy0
  obtain rfl : x0 = .int .i64 k := by simpa using ek
  have rk : -9223372036854775808 ≤ k ∧ k ≤ 9223372036854775807 := by
    simp [Lit.wf, IntKind.min, IntKind.max, IntKind.signed, IntKind.bits] at wk
    omega
  obtain ⟨rows, hr⟩ := open_rows hy1 (fun k hk => hs k (by
    simp only [DataW.weights, Tryz.underlying24]
    exact DataW.weights_mem_each (j := 1) rfl rfl k hk))
  exact ⟨k, x1, rows, rfl, rk.1, rk.2, hr⟩
end
end Go.Proofs.YtfpmbjobieeidaaGreat
