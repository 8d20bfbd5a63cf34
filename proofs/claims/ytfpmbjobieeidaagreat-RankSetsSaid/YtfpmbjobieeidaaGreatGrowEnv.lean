/-
  What the search for hitting sets keeps in memory.
-/
import Derived.Test.YtfpmbjobieeidaaGreatNeeded
import Derived.Test.YtfpmbjobieeidaaGreatMap
import Derived.Test.YtfpmbjobieeidaaGreatSort
namespace Go.Proofs.YtfpmbjobieeidaaGreat
open Go.RowKit

/-- Only the map (block b), the box of what was found (b + 2) and rows of sets of the call's own have turned. -/
structure FrB (b : Nat) (w w' : World) : Prop where
  os : w'.os = w.os
  tape : w'.tape = w.tape
  output : w'.output = w.output
  size : w.heap.size ≤ w'.heap.size
  block : ∀ i, i < w.heap.size → i ≠ b → i ≠ b + 2 → (i < b + 4 ∨ ∀ cur fr, w.heap[i]? ≠ some (.cells cur 26 fr)) → w'.heap[i]? = w.heap[i]?
theorem FrB.refl (b : Nat) (w : World) : FrB b w w := ⟨rfl, rfl, rfl, Nat.le_refl _, fun _ _ _ _ _ => rfl⟩
theorem FrB.trans {b : Nat} {w w' w'' : World} (h : FrB b w w') (k : FrB b w' w'') : FrB b w w'' :=
  ⟨k.os.trans h.os, k.tape.trans h.tape, k.output.trans h.output, Nat.le_trans h.size k.size, fun i hi h1 h2 h3 => by
    have e := h.block i hi h1 h2 h3
    exact (k.block i (Nat.lt_of_lt_of_le hi h.size) h1 h2 (h3.imp id (fun h cur fr => by rw [e]; exact h cur fr))).trans e⟩
theorem FrB.below {b : Nat} {w w' : World} (h : Below w.heap.size w w') : FrB b w w' := ⟨h.os, h.tape, h.output, h.size, fun i hi _ _ _ => h.block i hi⟩
/-- A block that is neither of those and is known by its type. -/
theorem FrB.blk {b : Nat} {w w' : World} {g : Nat} {t : TypeId} {cs : Array Value} (h : FrB b w w') (hk : Blk w g t cs) (h1 : g ≠ b) (h2 : g ≠ b + 2) (h3 : g < b + 4 ∨ t ≠ 26) : Blk w' g t cs :=
  (h.block g hk.lt h1 h2 (h3.imp id (fun hne cur fr => by
    unfold Blk at hk
    rw [hk]
    intro e
    injection e with e
    injection e with _ e
    exact hne e))).trans hk
theorem FrB.own {b : Nat} {w w' : World} {base : Nat} {v : Value} {xs : List Int} (h : FrB b w w') (hk : OwnInts w base v xs) (hm : ∃ es c, w.heap[b]? = some (.map es c)) (hf : ∃ cs, Blk w (b + 2) 40 cs) : OwnInts w' base v xs := by
  refine ⟨hk.1, ?_⟩
  rcases hk.2 with h2 | ⟨g, cap, cur, hv, hb, hh, h3⟩
  · exact .inl h2
  · obtain ⟨es, c, hm⟩ := hm
    obtain ⟨cs, hf⟩ := hf
    have h1 : g ≠ b := fun e => by subst e; rw [hm] at hh; cases hh
    have h2 : g ≠ b + 2 := fun e => by
      subst e
      unfold Blk at hf
      rw [hf] at hh
      injection hh with hh
      injection hh with _ hh
      exact absurd hh (by decide)
    exact .inr ⟨g, cap, cur, hv, hb, h.blk (cs := cur) hh h1 h2 (.inr (by decide)), h3⟩

/-- What the search reads, and does not write. -/
structure Env (w : World) (b gs gz gH gh gn : Nat) (As : Option Addr) (cS : Nat) (H : Nat → Nat) (sets : List (List Int)) (size : Nat) : Prop where
  lts : gs < b ∧ gz < b ∧ gH < b ∧ gh < b ∧ gn < b
  bSets : Blk w gs 40 #[.slice As sets.length cS]
  rSets : Sets w b (.slice As sets.length cS) sets
  bSize : Blk w gz 3 #[.int .i64 size]
  bTable : Table w gH H
  bHits : Blk w gh 89 #[.slice (some ⟨gH, 0, none⟩) 256 256]
  bNeeded : Blk w gn 95 #[.func (.func 57) #[] #[.pointer (some ⟨gh, 0, none⟩), .pointer (some ⟨gs, 0, none⟩)]]
  bSeen : Blk w (b + 1) 96 #[.map (some b)]
  bGrow : Blk w (b + 3) 97 #[.func (.func 60) #[] #[.pointer (some ⟨gs, 0, none⟩), .pointer (some ⟨b + 1, 0, none⟩), .pointer (some ⟨gn, 0, none⟩), .pointer (some ⟨b + 2, 0, none⟩), .pointer (some ⟨gz, 0, none⟩), .pointer (some ⟨b + 3, 0, none⟩), .pointer (some ⟨gh, 0, none⟩)]]
  many : sets.length ≤ 256
  each : ∀ s ∈ sets, s.length ≤ 256 ∧ ∀ x ∈ s, 0 ≤ x ∧ x < 256
theorem Env.fr {w w' : World} {b gs gz gH gh gn : Nat} {As : Option Addr} {cS : Nat} {H : Nat → Nat} {sets : List (List Int)} {size : Nat} (E : Env w b gs gz gH gh gn As cS H sets size) (h : FrB b w w') : Env w' b gs gz gH gh gn As cS H sets size := by
  obtain ⟨h1, h2, h3, h4, h5⟩ := E.lts
  refine ⟨E.lts, h.blk E.bSets (by omega) (by omega) (.inl (by omega)), E.rSets.keep (fun p hp => ?_), h.blk E.bSize (by omega) (by omega) (.inl (by omega)), ?_, h.blk E.bHits (by omega) (by omega) (.inl (by omega)), h.blk E.bNeeded (by omega) (by omega) (.inl (by omega)),
    h.blk E.bSeen (by omega) (by omega) (.inl (by omega)), h.blk E.bGrow (by omega) (by omega) (.inl (by omega)), E.many, E.each⟩
  · exact World.cell?_of_block (h.block p.block (by have := E.bSeen.lt; omega) (by omega) (by omega) (.inl (by omega)))
  · obtain ⟨cur, hk, hs, hc⟩ := E.bTable
    exact ⟨cur, h.blk hk (by omega) (by omega) (.inl (by omega)), hs, hc⟩

def padV (s : List Int) : Value := .agg #[.int .i64 (Rk.pad s).1, .int .i64 (Rk.pad s).2.1, .int .i64 (Rk.pad s).2.2]
theorem padV_inj {s t : List Int} (h : padV s = padV t) : Rk.pad s = Rk.pad t := by
  unfold padV at h
  simp at h
  exact Prod.ext h.1 (Prod.ext h.2.1 h.2.2)
/-- What has been found. -/
structure Fnd (w : World) (b : Nat) (found : List (List Int)) : Prop where
  box : ∃ fv, Blk w (b + 2) 40 #[fv] ∧ OwnSets w (b + 4) fv found
  map : MapAt w Tryz.prog 100 b (found.map fun s => (padV s, .bool true))
theorem Fnd.below {w w' : World} {b : Nat} {found : List (List Int)} (F : Fnd w b found) (h : Below w.heap.size w w') : Fnd w' b found := by
  obtain ⟨fv, h1, h2⟩ := F.box
  exact ⟨⟨fv, h1.below h h1.lt, h2.below h (Nat.le_refl _)⟩, F.map.same (h.block b F.map.lt)⟩
theorem Fnd.isMap {w : World} {b : Nat} {found : List (List Int)} (F : Fnd w b found) : ∃ es c, w.heap[b]? = some (.map es c) := by
  obtain ⟨es, c, h, _⟩ := F.map
  exact ⟨es, c, h⟩
theorem Fnd.isBox {w : World} {b : Nat} {found : List (List Int)} (F : Fnd w b found) : ∃ cs, Blk w (b + 2) 40 cs := by
  obtain ⟨fv, h, _⟩ := F.box
  exact ⟨_, h⟩
end Go.Proofs.YtfpmbjobieeidaaGreat
