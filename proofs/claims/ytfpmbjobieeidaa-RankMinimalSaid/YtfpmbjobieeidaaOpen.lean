/-
  A list of numbers, a list of such lists that came in: opened.
-/
import Derived.Test.YtfpmbjobieeidaaWords
import Derived.Test.YtfpmbjobieeidaaPlainJ
import Derived.Deep.Matrix
import Derived.SizedLaws
namespace Go.Proofs.Ytfpmbjobieeidaa
open Go.RowKit Go.ChangeShapes Go.WideShapes Go.Deep

theorem cells_int : Try.prog.cellsOf 3 = 1 := by kernel_rfl
theorem cells_ints : Try.prog.cellsOf 37 = 1 := by kernel_rfl
theorem bytes_int : Try.prog.bytesOf 3 = 8 := by kernel_rfl
theorem bytes_ints : Try.prog.bytesOf 37 = 24 := by kernel_rfl

section
variable {H : Type} {enc : TypeId × Value → H} {W : World}
theorem lt_of_cell {w : World} {p : Addr} {u : Value} (h : w.cell? p = some u) : p.block < w.heap.size := by
  rcases Nat.lt_or_ge p.block w.heap.size with hlt | hge
  · exact hlt
  · exfalso
    unfold World.cell? at h
    rw [Array.getElem?_eq_none hge] at h
    simp at h
theorem weights_all {P : Program} {e : TypeId} : ∀ {ds : List (DataW H)} {d : DataW H}, d ∈ ds → ∀ n ∈ d.weights P e, n ∈ DataW.weightsAll P e ds
  | [], _, h, _, _ => by cases h
  | d0 :: ds, d, h, n, hn => by
    simp only [DataW.weightsAll, List.mem_append]
    rcases List.mem_cons.1 h with rfl | h
    · exact .inl hn
    · exact .inr (weights_all h n hn)
/-- The weights of one argument. -/
theorem sized_one {P : Program} {ts : List TypeId} {ds : List (DataW H)} (h : (DataW.weightsEach P ts ds).all (· ≤ reachBytes) = true) {j : Nat} {t : TypeId} {d : DataW H} (ht : ts[j]? = some t) (hd : ds[j]? = some d) : ∀ n ∈ d.weights P t, n ≤ reachBytes := fun n hn => by
  have := List.all_eq_true.1 h _ (DataW.weights_mem_each ht hd n hn)
  simpa using this
theorem reads_ints {A : Option Addr} {L : Nat} {zs : List Int} {C : Nat} (hl : L ≤ C) (hz : zs.length = C) (hnone : A = none → C = 0) (hc : ∀ a, A = some a → ∀ c, c < C → W.cell? (a.add c) = some (.int .i64 (zs.getD c 0))) :
    Reads W W.heap.size 1 A L ((zs.take L).map (Value.int .i64)) := by
  refine ⟨by simp; omega, fun hL => ?_⟩
  rcases A with _ | a
  · have := hnone rfl; omega
  · refine ⟨a, rfl, ?_, fun j u hj => ?_⟩
    · have := lt_of_cell (hc a rfl 0 (by omega))
      rwa [block_of_add] at this
    · rw [List.getElem?_map] at hj
      have hjL : j < L := by
        rcases Nat.lt_or_ge j L with h | h
        · exact h
        · rw [List.getElem?_eq_none (by simp; omega)] at hj; cases hj
      rw [hc a rfl j (by omega), ← hj, List.getElem?_take_of_lt hjL, List.getD_eq_getElem?_getD, List.getElem?_eq_getElem (by omega)]
      rfl
theorem take_len {zs : List Int} {L C : Nat} (hl : L ≤ C) (hz : zs.length = C) : (zs.take L).length = L := by simp; omega

theorem open_set {v : Value} {d : DataW H} {p : List MemPlace} (h : DataW.Trod enc Try.prog W 0 (fun _ => true) true 37 v d p) (hs : ∀ n ∈ d.weights Try.prog 37, n ≤ reachBytes) (hv : ∃ A n c, v = .slice A n c) : ∃ xs, Ints W W.heap.size v xs := by
  obtain ⟨fuel, hf⟩ := h
  obtain ⟨A0, n0, c0, rfl⟩ := hv
  rcases open_ints Try.underlying37 Try.underlying3 cells_int hf with ⟨hc, hx⟩ | ⟨a, len, cap, zs, hc, _, hl, _, hz, hx, hcell, _⟩
  · have e : A0 = none ∧ n0 = 0 ∧ c0 = 0 := by simpa [Value.cells] using hc
    obtain ⟨rfl, rfl, rfl⟩ := e
    exact ⟨[], none, 0, rfl, Nat.le_refl _, Nat.zero_le _, Reads.none_⟩
  · have e : A0 = some a ∧ n0 = len ∧ c0 = cap := by simpa [Value.cells] using hc
    obtain ⟨rfl, rfl, rfl⟩ := e
    rw [if_pos rfl] at hz
    injection hx with hx _
    subst hx
    have hw := hs ((zs.take n0).length * 8 + (zs.drop n0).length * 8) (by
      simp only [DataW.weights, Try.underlying37, bytes_int]
      simp [lits, Nat.add_mul])
    have ht := take_len hl hz
    have hr : reachBytes = 140737488351232 := by decide
    refine ⟨zs.take n0, some a, c0, by rw [ht], by omega, by omega, ?_⟩
    rw [ht]
    exact reads_ints hl hz (fun h => by cases h) (fun a' e c hc => by cases e; exact hcell c (by omega))
theorem open_sets {v : Value} {d : DataW H} {p : List MemPlace} (h : DataW.Trod enc Try.prog W 0 (fun _ => true) true 36 v d p) (hs : ∀ n ∈ d.weights Try.prog 36, n ≤ reachBytes) (hv : ∃ A n c, v = .slice A n c) : ∃ xss, Sets W W.heap.size v xss := by
  obtain ⟨fuel, hf⟩ := h
  obtain ⟨A0, n0, c0, rfl⟩ := hv
  rcases open_int_rows Try.underlying36 Try.underlying37 Try.underlying3 cells_ints cells_int hf with ⟨hc, hx⟩ | ⟨a, len, cap, A, L, C, Z, hc, _, hl, _, hx, hcell⟩
  · have e : A0 = none ∧ n0 = 0 ∧ c0 = 0 := by simpa [Value.cells] using hc
    obtain ⟨rfl, rfl, rfl⟩ := e
    exact ⟨[], none, 0, [], rfl, Nat.le_refl _, Nat.zero_le _, Reads.none_, fun i hi => by simp at hi⟩
  · have e : A0 = some a ∧ n0 = len ∧ c0 = cap := by simpa [Value.cells] using hc
    obtain ⟨rfl, rfl, rfl⟩ := e
    injection hx with hx _
    subst hx
    have hr : reachBytes = 140737488351232 := by decide
    have hw := hs ((n0 + (c0 - n0)) * 24) (by
      simp only [DataW.weights, Try.underlying36, bytes_ints]
      simp)
    have hin : ∀ r, r < n0 → (L r) * 8 ≤ reachBytes := fun r hr' => by
      obtain ⟨_, h1, _, h3, _, h5, _⟩ := hcell r (by omega)
      rcases hA : A r with _ | a'
      · have := h5 hA; omega
      · have hw := hs (((Z r).take (L r)).length * 8 + ((Z r).drop (L r)).length * 8) (by
          simp only [DataW.weights, Try.underlying36, bytes_ints]
          refine List.mem_cons_of_mem _ (List.mem_append.2 (.inl (weights_all (d := intRow .i64 (A r) (L r) (Z r)) (List.mem_map.2 ⟨r, List.mem_range.2 hr', rfl⟩) _ ?_)))
          rw [hA]
          simp only [intRow, DataW.weights, Try.underlying37, bytes_int]
          simp [lits, Nat.add_mul])
        rw [take_len h1 h3] at hw
        omega
    refine ⟨(List.range n0).map fun r => (Z r).take (L r), some a, c0, (List.range n0).map fun r => .slice (A r) (L r) (C r), by simp, by simpa using hl, by simp; omega, ?_, fun i hi => ?_⟩
    · refine ⟨by simp, fun hn => ⟨a, rfl, ?_, fun j u hj => ?_⟩⟩
      · have hn : 0 < n0 := by simpa using hn
        have := lt_of_cell (hcell 0 (by omega)).1
        rwa [block_of_add] at this
      · have hjn : j < n0 := by
          rcases Nat.lt_or_ge j n0 with h | h
          · exact h
          · rw [List.getElem?_eq_none (by simp; omega)] at hj; cases hj
        rw [(hcell j (by omega)).1, ← hj]
        simp [hjn]
    · have hi : i < n0 := by simpa using hi
      obtain ⟨_, h1, _, h3, _, h5, h6⟩ := hcell i (by omega)
      refine ⟨.slice (A i) (L i) (C i), by simp [hi], A i, C i, ?_⟩
      have e : ((List.range n0).map fun r => (Z r).take (L r)).getD i [] = (Z i).take (L i) := by simp [List.getD_eq_getElem?_getD, hi]
      have := hin i hi
      rw [e, take_len h1 h3]
      exact ⟨rfl, h1, by omega, reads_ints h1 h3 h5 (fun a' e c hc => (h6 a' e).2 c hc)⟩
end
end Go.Proofs.Ytfpmbjobieeidaa
