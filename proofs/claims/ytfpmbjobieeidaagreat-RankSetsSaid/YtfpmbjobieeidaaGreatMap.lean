/-
  Maps that the call makes, told as lists of entries.
  The map from tallies to scores.
-/
import Derived.Test.YtfpmbjobieeidaaGreatBase
import Derived.Maps.Keyed
import Derived.Maps.Own
import Derived.Maps.OwnOps
import Derived.DeepKeys4
namespace Go.Proofs.YtfpmbjobieeidaaGreat
open Go.RowKit Go.ChangeMaps Go.MapKept Go.Maps

/-- Block b is a map that holds just these entries, in this order; each key is one of the type k. -/
def MapAt (w : World) (P : Program) (k : TypeId) (b : Nat) (M : List (Value × Value)) : Prop :=
  ∃ es clock, w.heap[b]? = some (.map es clock) ∧ es.toList.map (fun e => (e.key, e.val)) = M ∧ ∀ p ∈ M, ∃ l, keyOf P k p.1 = some l

section
variable {w w' : World} {P : Program} {k e t : TypeId} {b : Nat} {M : List (Value × Value)}
theorem MapAt.made (w : World) (P : Program) (k : TypeId) : MapAt (w.alloc (.map #[] 0)) P k w.heap.size [] :=
  ⟨#[], 0, heap_alloc_new w _, rfl, fun p hp => by cases hp⟩
theorem MapAt.lt (h : MapAt w P k b M) : b < w.heap.size := by
  obtain ⟨es, clock, hb, _⟩ := h
  exact (Array.getElem?_eq_some_iff.1 hb).1
theorem MapAt.same (h : MapAt w P k b M) (hk : w'.heap[b]? = w.heap[b]?) : MapAt w' P k b M := by
  obtain ⟨es, clock, hb, h⟩ := h
  exact ⟨es, clock, hk.trans hb, h⟩
theorem MapAt.keys {es : Array MapEntry} (he : es.toList.map (fun e => (e.key, e.val)) = M) (hk : ∀ p ∈ M, ∃ l, keyOf P k p.1 = some l) : ∀ e ∈ es.toList, ∃ l, keyOf P k e.key = some l := fun e h =>
  hk (e.key, e.val) (by rw [← he]; exact List.mem_map.2 ⟨e, h, rfl⟩)
/-- A look-up that misses. -/
theorem MapAt.miss (h : MapAt w P k b M) (K : Keyed P k) (ht : P.underlying t = some (.map k e)) {z : Value} (hz : (zeroValue e).run P w = .ok z w) {key : Value} {kl : Lit} (hkey : keyOf P k key = some kl) (hm : ∀ p ∈ M, p.1 ≠ key) (c : Bool) :
    (Instr.lookup t (.map (some b)) key c).run P w = .ok (if c then .tuple #[z, .bool false] else z) w := by
  obtain ⟨es, clock, hb, he, hk⟩ := h
  rcases K.find w hkey es.toList (MapAt.keys he hk) with ⟨h1, h2⟩ | ⟨j, e0, h1, h2, h3⟩
  · simp [Instr.lookup, run_underlying ht, MapKept.run_getObj_map hb, K.check w _ hkey, h1, hz, Result.andThen]
  · exact absurd h3 (hm (e0.key, e0.val) (by rw [← he]; exact List.mem_map.2 ⟨e0, List.mem_of_getElem? h2, rfl⟩))
/-- A look-up that hits; the entries bear different keys. -/
theorem MapAt.hit (h : MapAt w P k b M) (K : Keyed P k) (ht : P.underlying t = some (.map k e)) {key v : Value} {kl : Lit} (hkey : keyOf P k key = some kl) (hm : ∀ p ∈ M, p.1 = key → p.2 = v) (hin : ∃ p ∈ M, p.1 = key) (c : Bool) :
    (Instr.lookup t (.map (some b)) key c).run P w = .ok (if c then .tuple #[v, .bool true] else v) w := by
  obtain ⟨es, clock, hb, he, hk⟩ := h
  rcases K.find w hkey es.toList (MapAt.keys he hk) with ⟨h1, h2⟩ | ⟨j, e0, h1, h2, h3⟩
  · obtain ⟨p, hp, hpk⟩ := hin
    rw [← he] at hp
    obtain ⟨e1, he1, rfl⟩ := List.mem_map.1 hp
    exact absurd hpk (h2 e1 he1)
  · have hv : e0.val = v := hm (e0.key, e0.val) (by rw [← he]; exact List.mem_map.2 ⟨e0, List.mem_of_getElem? h2, rfl⟩) h3
    simp [Instr.lookup, run_underlying ht, MapKept.run_getObj_map hb, K.check w _ hkey, h1, Result.andThen, hv]
/-- A store at a key that is not there. -/
theorem MapAt.store (h : MapAt w P k b M) (K : Keyed P k) (ht : P.underlying t = some (.map k e)) {key v : Value} {kl : Lit} (hkey : keyOf P k key = some kl) (hm : ∀ p ∈ M, p.1 ≠ key) :
    ∃ w', (Instr.mapUpdate t (.map (some b)) key v).run P w = .ok () w' ∧ MapAt w' P k b (M ++ [(key, v)]) ∧ w.grownBy w' (some b) := by
  obtain ⟨es, clock, hb, he, hk⟩ := h
  rcases K.find w hkey es.toList (MapAt.keys he hk) with ⟨h1, h2⟩ | ⟨j, e0, h1, h2, h3⟩
  · refine ⟨setBlock w b (.map (es.push ⟨key, v, clock⟩) (clock + 1)), ?_, ⟨es.push ⟨key, v, clock⟩, clock + 1, heap_setBlock_same hb _, ?_, ?_⟩, ⟨rfl, rfl, rfl, by simp [setBlock], fun i _ hi => heap_setBlock_other hb _ (fun e => hi (by rw [e]))⟩⟩
    · simp [Instr.mapUpdate, run_underlying ht, MapKept.run_getObj_map hb, K.check w false hkey, h1, MapKept.run_setObj_map _ hb, Result.andThen, setBlock]
    · rw [Array.toList_push, List.map_append, he]; rfl
    · intro p hp
      rcases List.mem_append.1 hp with h | h
      · exact hk p h
      · obtain rfl := List.mem_singleton.1 h
        exact ⟨kl, hkey⟩
  · exact absurd h3 (hm (e0.key, e0.val) (by rw [← he]; exact List.mem_map.2 ⟨e0, List.mem_of_getElem? h2, rfl⟩))
end

theorem laidOut : laidOutB Tryz.prog = true := by kernel_rfl
theorem rowKey3 : (100 : TypeId) < Tryz.prog.types.size := of_decide_eq_true (by kernel_rfl)
theorem key3Law : Keyed Tryz.prog 100 := Keyed.of_law (deep_law_laid laidOut (m := 2) (by omega) rowKey3 (by kernel_rfl) (by kernel_rfl))
theorem key3Type : Tryz.prog.keyType 100 = true := by kernel_rfl
theorem key3Cells : Tryz.prog.cellsOf 100 = 3 := by kernel_rfl
theorem key3_of (a b c : Int) (ha : (Lit.int .i64 a).wf = true) (hb : (Lit.int .i64 b).wf = true) (hc : (Lit.int .i64 c).wf = true) : ∃ l, keyOf Tryz.prog 100 (.agg #[.int .i64 a, .int .i64 b, .int .i64 c]) = some l := by
  have hf : (Value.agg #[.int .i64 a, .int .i64 b, .int .i64 c]).formed Tryz.prog 100 = true := by
    simp [Value.formed, Tryz.underlying100, key3Cells]
  unfold keyOf
  simp only [Tryz.underlying100, key3Type, hf, Bool.and_self, if_true]
  obtain ⟨d, hd⟩ : ∃ d, Tryz.prog.types.size + 1 = d + 2 := ⟨Tryz.prog.types.size - 1, by have h : (100 : Nat) < Tryz.prog.types.size := rowKey3; generalize Tryz.prog.types.size = s at h ⊢; omega⟩
  rw [hd]
  have hint : ∀ x : Int, (Lit.int .i64 x).wf = true → Tryz.prog.keyLits (d + 1) 3 [.int .i64 x] = some [.int .i64 x] := fun x hx => by
    unfold Program.keyLits
    simp only [Tryz.underlying3]
    simp [hx]
  have hc1 : Tryz.prog.cellsOf 3 = 1 := by kernel_rfl
  have h3 : Tryz.prog.keyLits (d + 2) 100 [.int .i64 a, .int .i64 b, .int .i64 c] = some [.int .i64 a, .int .i64 b, .int .i64 c] := by
    unfold Program.keyLits
    simp only [Tryz.underlying100]
    simp [key3Cells, hc1, List.range_succ, hint a ha, hint b hb, hint c hc]
  rw [show (Value.agg #[.int .i64 a, .int .i64 b, .int .i64 c]).cells.toList = [.int .i64 a, .int .i64 b, .int .i64 c] from rfl, h3]
  exact ⟨_, rfl⟩
end Go.Proofs.YtfpmbjobieeidaaGreat
namespace Go.Proofs.YtfpmbjobieeidaaGreat
open Go.RowKit Go.ChangeMaps Go.MapKept Go.Maps

theorem rowKeyT : (35 : TypeId) < Tryz.prog.types.size := of_decide_eq_true (by kernel_rfl)
theorem keyTLaw : Keyed Tryz.prog 35 := Keyed.of_law (deep_law_laid laidOut (m := 3) (by omega) rowKeyT (by kernel_rfl) (by kernel_rfl))
theorem keyTType : Tryz.prog.keyType 35 = true := by kernel_rfl
theorem keyTCells : Tryz.prog.cellsOf 35 = 4 := by kernel_rfl
theorem keyT_of (a b c d : Int) (ha : (Lit.int .i64 a).wf = true) (hb : (Lit.int .i64 b).wf = true) (hc : (Lit.int .i64 c).wf = true) (hd : (Lit.int .i64 d).wf = true) : ∃ l, keyOf Tryz.prog 35 (.agg #[.int .i64 a, .int .i64 b, .int .i64 c, .int .i64 d]) = some l := by
  have hf : (Value.agg #[.int .i64 a, .int .i64 b, .int .i64 c, .int .i64 d]).formed Tryz.prog 35 = true := by
    simp [Value.formed, Tryz.underlying35, keyTCells]
  unfold keyOf
  simp only [Tryz.underlying35, keyTType, hf, Bool.and_self, if_true]
  obtain ⟨n, hn⟩ : ∃ n, Tryz.prog.types.size + 1 = n + 2 := ⟨Tryz.prog.types.size - 1, by have h : (35 : Nat) < Tryz.prog.types.size := rowKeyT; generalize Tryz.prog.types.size = s at h ⊢; omega⟩
  rw [hn]
  have hint : ∀ x : Int, (Lit.int .i64 x).wf = true → Tryz.prog.keyLits (n + 1) 3 [.int .i64 x] = some [.int .i64 x] := fun x hx => by
    unfold Program.keyLits
    simp only [Tryz.underlying3]
    simp [hx]
  have hc1 : Tryz.prog.cellsOf 3 = 1 := by kernel_rfl
  have h4 : Tryz.prog.keyLits (n + 2) 35 [.int .i64 a, .int .i64 b, .int .i64 c, .int .i64 d] = some [.int .i64 a, .int .i64 b, .int .i64 c, .int .i64 d] := by
    unfold Program.keyLits
    simp only [Tryz.underlying35]
    simp [keyTCells, hc1, hint a ha, hint b hb, hint c hc, hint d hd]
  rw [show (Value.agg #[.int .i64 a, .int .i64 b, .int .i64 c, .int .i64 d]).cells.toList = [.int .i64 a, .int .i64 b, .int .i64 c, .int .i64 d] from rfl, h4]
  exact ⟨_, rfl⟩
end Go.Proofs.YtfpmbjobieeidaaGreat
