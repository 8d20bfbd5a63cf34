/-
  RecordLogs holds: the row and the tied card: its listed variables are laid by the program's text.
-/
import Derived.Test.YtdpoecjbofofoaaGreatDoorVMe
import Derived.Test.YtdpoecjbofofoaaGreatDoorRunLives
import Derived.Test.YtdpoecjbofofoaaGreatDoorFacts
import Derived.Test.YtdpoecjbofofoaaGreatDoorTie
import Derived.Test.YtdpoecjbofofoaaGreatDoorCards
import Derived.ProofKit
import Derived.LaidMore
import Derived.OpenShut
import Derived.Carry
import Derived.ChangeSame
import Derived.SizedLaws
import Derived.Stop.Joined
import Derived.SevenTiedAt
namespace Go.Proofs.YtdpoecjbofofoaaGreatDoor
open Go.ChangeShapes Go.WideShapes Go.ChangeAt Go.WideMaps Go.WideElems Go.RowKit

theorem sizedOne {H : Type} {P : Program} {ts : List TypeId} {ds : List (DataW H)} (h : (DataW.weightsEach P ts ds).all (· ≤ reachBytes) = true) {j : Nat} {t : TypeId} {d : DataW H} (ht : ts[j]? = some t) (hd : ds[j]? = some d) : ∀ n ∈ d.weights P t, n ≤ reachBytes := fun n hn => by
  have := List.all_eq_true.1 h _ (DataW.weights_mem_each ht hd n hn)
  simpa using this
section
open Go.Joins Go.Deep
variable {H : Type} {enc : TypeId × Value → H}
theorem open_agg5 {P : Program} {w : World} {base : Nat} {spare : Nat → Bool} {held : Bool} {r : Reach} {b0 : Nat} {t : TypeId} {f0 f1 f2 f3 f4 : Field} {v : Value} {d : DataW H} {p : List MemPlace} (hs : P.underlying t = some (.struct #[f0, f1, f2, f3, f4])) (hone : oneCellFields P #[f0, f1, f2, f3, f4] = true) (hC : P.cellsOf t = 5)
    (hv : Value.okWide P w r b0 t v) (h : DataW.Trod enc P w base spare held t v d p) :
    ∃ (v0 v1 v2 v3 v4 : Value) (y0 y1 y2 y3 y4 : DataW H × List MemPlace) (n : Nat), v = .agg #[v0, v1, v2, v3, v4] ∧ d = .agg [y0.1, y1.1, y2.1, y3.1, y4.1] ∧
      DataW.trod enc P w base spare held n f0.type [v0] = some y0 ∧ DataW.trod enc P w base spare held n f1.type [v1] = some y1 ∧ DataW.trod enc P w base spare held n f2.type [v2] = some y2 ∧ DataW.trod enc P w base spare held n f3.type [v3] = some y3 ∧ DataW.trod enc P w base spare held n f4.type [v4] = some y4 := by
  obtain ⟨cs, rfl, hsz⟩ := okWide_struct hs hv
  obtain ⟨l⟩ := cs
  match l, hsz.trans hC with
  | [c0, c1, c2, c3, c4], _ =>
    obtain ⟨fuel, hf⟩ := h
    obtain ⟨xs, n, _, hx, _, hlen, hg⟩ := DataW.trod_struct hs hf
    obtain ⟨o0, k0⟩ := hone_of hone 0 f0 rfl
    obtain ⟨o1, k1⟩ := hone_of hone 1 f1 rfl
    obtain ⟨o2, k2⟩ := hone_of hone 2 f2 rfl
    obtain ⟨o3, k3⟩ := hone_of hone 3 f3 rfl
    obtain ⟨o4, k4⟩ := hone_of hone 4 f4 rfl
    match xs, hlen with
    | [y0, y1, y2, y3, y4], _ =>
      simp only [Prod.mk.injEq] at hx
      exact ⟨c0, c1, c2, c3, c4, y0, y1, y2, y3, y4, n, rfl, by simpa using hx.1, by simpa [Value.cells, o0, k0] using hg 0 f0 rfl, by simpa [Value.cells, o1, k1] using hg 1 f1 rfl, by simpa [Value.cells, o2, k2] using hg 2 f2 rfl, by simpa [Value.cells, o3, k3] using hg 3 f3 rfl, by simpa [Value.cells, o4, k4] using hg 4 f4 rfl⟩
theorem open_slice_fields {P : Program} {w : World} {base : Nat} {spare : Nat → Bool} {held : Bool} {t e : TypeId} {fs : Array Field} {fuel : Nat} {cs : List Value} {x : DataW H × List MemPlace} (ht : P.underlying t = some (.slice e)) (he : P.underlying e = some (.struct fs))
    (hone : oneCellFields P fs = true) (hC : P.cellsOf e = fs.size) (h : DataW.trod enc P w base spare held fuel t cs = some x) :
    (cs = [.slice none 0 0]) ∨
    ∃ (a : Addr) (len cap m : Nat), cs = [.slice (some a) len cap] ∧ len ≤ cap ∧ m = (if spare a.block then cap else len) ∧
      ∀ i, i < m → ∃ (ys : List (DataW H × List MemPlace)) (n : Nat),
        ∀ (j : Nat) (f : Field), fs[j]? = some f → ∃ (v : Value) (y : DataW H × List MemPlace), w.cell? (a.add (i * fs.size + j)) = some v ∧ ys[j]? = some y ∧ DataW.trod enc P w base spare held n f.type [v] = some y := by
  rcases open_slice ht h with h0 | ⟨a, len, cap, m, n, D, Pl, hcs, hb, hl, hm, hmm, hx, hi⟩
  · exact .inl h0.1
  · refine .inr ⟨a, len, cap, m, hcs, hl, hmm, fun i him => ?_⟩
    obtain ⟨cs', hc, ht'⟩ := hi i him
    rw [hC] at hc
    obtain ⟨ys, n', hn', hy, hlen, hyl, hf⟩ := DataW.trod_struct he ht'
    obtain ⟨_, hcl, hat⟩ := World.cells?_some hc
    refine ⟨ys, n', fun j f hj => ?_⟩
    obtain ⟨ho, hk⟩ := hone_of hone j f hj
    have hjl : j < fs.size := (Array.getElem?_eq_some_iff.1 hj).1
    have hcell := hat j hjl
    have hv : cs'[j]? = some (cs'[j]'(by omega)) := List.getElem?_eq_getElem (by omega)
    have h1 := hf j f hj
    rw [ho, hk] at h1
    have hone' : (cs'.drop j).take 1 = [cs'[j]'(by omega)] := by
      rw [List.drop_eq_getElem_cons (by omega)]
      rfl
    rw [hone'] at h1
    have hys : ys[j]? = some (ys[j]'(by omega)) := List.getElem?_eq_getElem (by omega)
    refine ⟨_, _, ?_, hys, h1.trans hys⟩
    rw [← Go.Deep.add_add, hcell, hv]
theorem cells_pick : Tryz.prog.cellsOf 56 = 2 := by kernel_rfl
theorem cells_log : Tryz.prog.cellsOf 26 = 5 := by kernel_rfl
theorem bytes_i64 : Tryz.prog.bytesOf 2 = 8 := by kernel_rfl
theorem picks_list {W : World} {a : Addr} : ∀ n, (∀ i, i < n → ∃ x y : Int, W.cell? (a.add (i * 2)) = some (.int .i64 x) ∧ W.cell? (a.add (i * 2 + 1)) = some (.int .i64 y)) →
    ∃ l : List (Int × Int), l.length = n ∧ ∀ i, i < n → W.cell? (a.add (i * 2)) = some (.int .i64 (l.getD i (0, 0)).1) ∧ W.cell? (a.add (i * 2 + 1)) = some (.int .i64 (l.getD i (0, 0)).2)
  | 0, _ => ⟨[], rfl, fun i h => absurd h (Nat.not_lt_zero _)⟩
  | n + 1, h => by
    obtain ⟨l, hl, hc⟩ := picks_list n fun i hi => h i (by omega)
    obtain ⟨x, y, h1, h2⟩ := h n (Nat.lt_succ_self _)
    refine ⟨l ++ [(x, y)], by simp [hl], fun i hi => ?_⟩
    rw [List.getD_eq_getElem?_getD, List.getElem?_append]
    split
    · have := hc i (by omega)
      rw [List.getD_eq_getElem?_getD] at this
      exact this
    · have e : i = n := by omega
      subst e
      rw [hl, Nat.sub_self]
      exact ⟨h1, h2⟩
theorem picks_reads {W : World} {a : Addr} {l : List (Int × Int)} (hlt : 0 < l.length → a.block < W.heap.size) (h : ∀ i, i < l.length → W.cell? (a.add (i * 2)) = some (.int .i64 (l.getD i (0, 0)).1) ∧ W.cell? (a.add (i * 2 + 1)) = some (.int .i64 (l.getD i (0, 0)).2)) :
    Reads W W.heap.size 2 (some a) l.length (cellsP l) := by
  refine ⟨cellsP_len l, fun hn => ⟨a, rfl, hlt hn, fun j u hj => ?_⟩⟩
  have hjl : j < l.length * 2 := by
    rcases Nat.lt_or_ge j (l.length * 2) with h | h
    · exact h
    · rw [List.getElem?_eq_none (by rw [cellsP_len]; exact h)] at hj; cases hj
  have hi : j / 2 < l.length := by omega
  obtain ⟨c1, c2⟩ := cellsP_at hi
  obtain ⟨h1, h2⟩ := h (j / 2) hi
  rcases Nat.mod_two_eq_zero_or_one j with e | e
  · rw [show j / 2 * 2 = j by omega] at c1 h1
    rw [h1, ← hj, c1]
  · rw [show j / 2 * 2 + 1 = j by omega] at c2 h2
    rw [h2, ← hj, c2]
theorem open_picks {W : World} {n : Nat} {x : Value} {y : DataW H × List MemPlace} (h : DataW.trod enc Tryz.prog W 0 (fun _ => true) true n 22 [x] = some y) : ∃ l, Picks W W.heap.size x l := by
  rcases open_slice_fields Tryz.underlying22 Tryz.underlying56 (by kernel_rfl) cells_pick h with hc | ⟨a, len, cap, m, hc, hl, hm, hf⟩
  · obtain rfl : x = .slice none 0 0 := by simpa using hc
    exact ⟨[], (OwnP.nil W 0).reads⟩
  · obtain rfl : x = .slice (some a) len cap := by simpa using hc
    rw [if_pos rfl] at hm
    subst hm
    obtain ⟨l, hlen, hcell⟩ := picks_list (W := W) (a := a) len (fun i hi => by
      obtain ⟨ys, n', hj⟩ := hf i (by omega)
      obtain ⟨v, y0, hv, -, ht⟩ := hj 0 _ rfl
      obtain ⟨v', y1, hv', -, ht'⟩ := hj 1 _ rfl
      obtain ⟨k, ek, -, -⟩ := DataW.trod_int Tryz.underlying3 ht
      obtain ⟨k', ek', -, -⟩ := DataW.trod_int Tryz.underlying3 ht'
      obtain rfl : v = .int .i64 k := by simpa using ek
      obtain rfl : v' = .int .i64 k' := by simpa using ek'
      exact ⟨k, k', hv, hv'⟩)
    refine ⟨l, some a, _, by rw [hlen], by rw [hlen]; exact hl, picks_reads (fun h0 => ?_) (by rw [hlen]; exact hcell)⟩
    have := lt_of_cell (hcell 0 (by omega)).1
    rwa [block_of_add] at this
theorem open_i64s {W : World} {n : Nat} {x : Value} {y : DataW H × List MemPlace} (h : DataW.trod enc Tryz.prog W 0 (fun _ => true) true n 23 [x] = some y) (hs : ∀ k ∈ y.1.weights Tryz.prog 23, k ≤ reachBytes) : ∃ xs, Ints W W.heap.size x xs ∧ ∀ v ∈ xs, Rb.I64 v := by
  rcases open_ints Tryz.underlying23 Tryz.underlying2 cells_i64 h with ⟨hc, hx⟩ | ⟨a, len, cap, zs, hc, _, hl, _, hz, hx, hcell, hwf⟩
  · obtain rfl : x = .slice none 0 0 := by simpa using hc
    exact ⟨[], ⟨none, 0, rfl, Nat.le_refl _, Nat.zero_le _, Reads.none_⟩, fun v hv => by cases hv⟩
  · obtain rfl : x = .slice (some a) len cap := by simpa using hc
    rw [if_pos rfl] at hz
    subst hx
    have hw := hs ((zs.take len).length * 8 + (zs.drop len).length * 8) (by
      simp only [DataW.weights, Tryz.underlying23, bytes_i64]
      simp [lits, Nat.add_mul])
    have ht : (zs.take len).length = len := by rw [List.length_take]; omega
    have hr : reachBytes = 140737488351232 := by decide
    refine ⟨zs.take len, ⟨some a, cap, by rw [ht], by omega, by omega, ?_⟩, fun v hv => ?_⟩
    · rw [ht]
      refine ⟨by rw [List.length_map, ht, Nat.mul_one], fun h0 => ⟨a, rfl, ?_, fun j u hj => ?_⟩⟩
      · have := lt_of_cell (hcell 0 (by omega))
        rwa [block_of_add] at this
      · have hjn : j < len := by
          rcases Nat.lt_or_ge j len with h | h
          · exact h
          · rw [List.getElem?_eq_none (by rw [List.length_map, ht]; exact h)] at hj; cases hj
        rw [hcell j (by omega), ← hj, List.getElem?_map, List.getElem?_take_of_lt hjn, List.getD_eq_getElem?_getD, List.getElem?_eq_getElem (by omega)]
        rfl
    · have := hwf v (List.mem_of_mem_take hv)
      unfold Rb.I64
      simp [Lit.wf, IntKind.min, IntKind.max, IntKind.signed, IntKind.bits] at this
      omega
set_option maxRecDepth 100000 in
theorem open_log {W : World} {r : Reach} {b0 : Nat} {v : Value} {d : DataW H} {p : List MemPlace} (hv : Value.okWide Tryz.prog W r b0 26 v) (h : DataW.Trod enc Tryz.prog W 0 (fun _ => true) true 26 v d p)
    (hs : ∀ n ∈ d.weights Tryz.prog 26, n ≤ reachBytes) : ∃ l : Rb.Lg, RdL W W.heap.size v l ∧ (∀ x ∈ l.inputs, Rb.I64 x) ∧ (∀ x ∈ l.clocks, Rb.I64 x) ∧ l.sum < 18446744073709551616 := by
  obtain ⟨x0, x1, x2, x3, x4, y0, y1, y2, y3, y4, n, rfl, rfl, hy0, hy1, hy2, hy3, hy4⟩ := open_agg5 Tryz.underlying26 (by kernel_rfl) cells_log hv h
  obtain ⟨k, ek, -, -⟩ := DataW.trod_int Tryz.underlying3 hy3
  obtain rfl : x3 = .int .i64 k := by simpa using ek
  obtain ⟨s, es, -, ws⟩ := DataW.trod_int Tryz.underlying24 hy4
  obtain rfl : x4 = .int .u64 s := by simpa using es
  have hsr : 0 ≤ s ∧ s < 18446744073709551616 := by
    simp [Lit.wf, IntKind.min, IntKind.max, IntKind.signed, IntKind.bits] at ws
    omega
  obtain ⟨sn, rfl⟩ : ∃ sn : Nat, s = sn := ⟨s.toNat, by omega⟩
  obtain ⟨pk, hpk⟩ := open_picks hy0
  have hw : ∀ (j : Nat) (t : TypeId) (y : DataW H), [22, 23, 23, 3, 24][j]? = some t → [y0.1, y1.1, y2.1, y3.1, y4.1][j]? = some y → ∀ k ∈ y.weights Tryz.prog t, k ≤ reachBytes := fun j t y h1 h2 k hk => hs k (by
    simp only [DataW.weights, Tryz.underlying26]
    exact DataW.weights_mem_each (j := j) h1 h2 k hk)
  obtain ⟨xs, hxs, hxi⟩ := open_i64s hy1 (hw 1 _ _ rfl rfl)
  obtain ⟨cs, hcs, hci⟩ := open_i64s hy2 (hw 2 _ _ rfl rfl)
  exact ⟨⟨k, pk, xs, cs, sn⟩, ⟨x0, x1, x2, rfl, hpk, hxs, hcs⟩, hxi, hci, by show sn < _; omega⟩
end
theorem recordLogs_inPlace : (Rows.recordLogsRow.inPlace == Tryz.prog.inPlace 3) = true := by kernel_rfl
theorem recordLogs_unfollowed : (Rows.recordLogsRow.unfollowed == Tryz.prog.unfollowed 3) = true := by kernel_rfl
theorem recordLogs_recurses : (Rows.recordLogsRow.recurses == Tryz.prog.recurses 3) = true := by kernel_rfl
theorem recordLogs_named : (Rows.recordLogsRow.named == Tryz.prog.varsNamed 3) = true := by kernel_rfl
theorem recordLogs_facts : joinedFacts Tryz.prog 3 Tryz.f3 Rows.recordLogsSpec Rows.recordLogsRow = true := by
  unfold joinedFacts
  rw [c_laidOut, c_rowed, c_heard, c_mayEnter, recordLogs_inPlace, recordLogs_unfollowed, recordLogs_recurses, recordLogs_named]
  kernel_rfl
/-- The door's own heap meets the condition. -/
theorem recordLogs_met (os : Os) (args : Array Value) : laidMetH Tryz.prog Rows.recordLogsRow.laid ((World.doorLaid Tryz.prog 81 os).forCall (fun _ _ => 0) ⟨#[], args, []⟩).memory :=
  laidMetH_of_parts3 (fuel := 8) (laidMet_of_run' 8 (by kernel_rfl) (by kernel_rfl)) (by kernel_rfl) (by kernel_rfl)
theorem recordLogs_shaped (os : Os) : ((World.doorLaid Tryz.prog 81 os).forCall (fun _ _ => 0) ⟨#[], #[.agg #[.slice none 0 0, .slice none 0 0, .slice none 0 0, .int .i64 0, .int .u64 0]], []⟩).Shaped Tryz.prog := World.shaped_of_RefB (by kernel_rfl) (by kernel_rfl)
theorem recordLogs_okw (os : Os) : Input.okWideB Tryz.prog ((World.doorLaid Tryz.prog 81 os).forCall (fun _ _ => 0) ⟨#[], #[.agg #[.slice none 0 0, .slice none 0 0, .slice none 0 0, .int .i64 0, .int .u64 0]], []⟩) 3 ⟨#[], #[.agg #[.slice none 0 0, .slice none 0 0, .slice none 0 0, .int .i64 0, .int .u64 0]], []⟩ = true := by kernel_rfl
theorem recordLogs_noInit : Tryz.prog.inits.idxOf? 3 = none := by kernel_rfl
theorem recordLogs_results : Tryz.f3.resultTypes = #[4] := by kernel_rfl
theorem recordLogs_lives : Lives := fun W => lives_calls W

set_option maxRecDepth 100000 in
theorem recordLogs_lifted (os : Os) (started : os.Started) (H : Type) (enc : TypeId × Value → H) :
    ReturnsInHanded {} Tryz.checked os 3 .any (fun w args => (Rows.recordLogsSpec.pre enc Tryz.prog Tryz.f3 [] false w args ∧ laidMetH Tryz.prog Rows.recordLogsRow.laid w) ∧ sizedMet enc Tryz.prog Tryz.f3 (OpenSpec.ofChange Rows.recordLogsSpec) false w args)
      (Rows.recordLogsSpec.post enc Tryz.prog Tryz.f3 false true false false) := by
  refine returnsInHanded_of_change_and (C := Tryz.checked) (X := fun w _ => laidMetH Tryz.prog Rows.recordLogsRow.laid w) (fun _ _ _ hh h => h.of_heap hh) c_own started recordLogs_noInit Tryz.func3
    (ChangeSpec.witness_shaped (enc := enc) (C := Tryz.checked) (os := os) (X := fun w _ => laidMetH Tryz.prog Rows.recordLogsRow.laid w) false (World.doorLaid Tryz.prog 81 os) #[.agg #[.slice none 0 0, .slice none 0 0, .slice none 0 0, .int .i64 0, .int .u64 0]] 8 rfl (recordLogs_shaped os) (recordLogs_okw os) (by kernel_rfl) (by kernel_rfl) (recordLogs_met os _)) ?_
  intro W base args ds gs before hval0 hW _ hsz0 hL _
  have hsz : (DataW.weightsEach Tryz.prog (Tryz.f3.params.toList ++ Rows.recordLogsSpec.plain.varTypes Tryz.prog) (ds ++ gs)).all (· ≤ reachBytes) = true := hsz0
  have hval : ∀ (j : Nat) t v, Tryz.f3.params[j]? = some t → args[j]? = some v → Value.okWide Tryz.prog W .any base t v := hval0
  have hW' := hW
  obtain ⟨p, q, hA0, hV, rfl, hfz, hnd⟩ := hW
  have hA : DataW.TrodAll enc Tryz.prog W 0 (fun _ => true) true Tryz.f3.params.toList args.toList ds p := hA0
  rw [Tryz.params3] at hA hval hsz
  obtain ⟨v0, d0, rfl, rfl, h0⟩ := trodAll_one hA
  have hpost := fun W' (hb : Below W.heap.size W W') => law_post (tb := 4) c_laidOut (by rw [Tryz.params3]; intro t ht; simp at ht; subst ht; exact ⟨by kernel_rfl, of_decide_eq_true (by kernel_rfl)⟩) hW' rfl rfl Tryz.underlying4 recordLogs_results hb
  obtain ⟨l, hl, hi, hc, hs⟩ := open_log (hval 0 26 v0 rfl rfl) h0 (fun n hn => sizedOne (j := 0) hsz rfl rfl n hn)
  refine (recordLogs_any recordLogs_lives v0 l W.heap.size W hl (Nat.le_refl _) hi hc hs).mono fun r W' ⟨he, hb⟩ => ?_
  subst he
  exact ⟨_, rfl, hpost W' hb⟩
theorem recordLogs_inst : Tryz.f3.isInstance Tryz.prog Rows.recordLogsRow.origin Rows.recordLogsRow.targs := of_decide_eq_true (by kernel_rfl)
theorem recordLogs_wrap : Tryz.f3.isWrapper Tryz.prog Rows.recordLogsRow.wrapper Rows.recordLogsRow.mainSum := by unfold Func.isWrapper; first | (rw [if_pos (by decide +kernel)]; kernel_rfl) | (rw [if_neg (by decide +kernel)]; exact ⟨rfl, rfl⟩)
theorem recordLogs_fn : Tryz.prog.funcNamed "sleuth/sleuthlaw03.RecordLogs" = some 3 := by kernel_rfl
theorem recordLogs_row : Rows.RecordLogsSaid :=
  OpenClaim.holds_of_wide 3 Tryz.f3 rfl rfl rfl rfl rfl rfl rfl ⟨rfl, rfl, rfl, rfl, rfl⟩ rfl rfl rfl rfl rfl recordLogs_fn Tryz.func3 recordLogs_facts recordLogs_inst recordLogs_wrap
    (fun os started H enc _ => recordLogs_lifted os started H enc)
theorem recordLogs_main : Tryz.prog.mainIs = some (true, "7e816e39ed3f0fb77a857b63b84ce555a426f6f3c3503addd84e6bef841cf522".toList) := by kernel_rfl
theorem recordLogs_looks : true = Tryz.prog.looks [] := by kernel_rfl
theorem recordLogs_wf : Rows.recordLogsRow.wfByText (OpenSpec.ofChange Rows.recordLogsSpec) = true := by kernel_rfl
theorem recordLogs_holds : Rows.RecordLogsCardSaid :=
  Claim7.holds_tied_plain_at .later [] [.data, .data, .data, .sentinel, .sentinel, .sentinel] true (true, "7e816e39ed3f0fb77a857b63b84ce555a426f6f3c3503addd84e6bef841cf522") true
    recordLogs_row (fun _ h => by cases h) recordLogs_wf (fun _ h => by cases h) recordLogs_row_tie rfl ⟨rfl, rfl⟩ recordLogs_main rfl
    (fun f fn hf hfn => by
      obtain rfl : f = 3 := Option.some.inj (recordLogs_fn.symm.trans hf) |>.symm
      obtain rfl : fn = Tryz.f3 := (Option.some.inj (Tryz.func3.symm.trans hfn)).symm
      exact ⟨recordLogs_looks, fun j t ht => by
        rw [Tryz.params3] at ht
        have hm : t ∈ [26] := by simpa using Array.mem_of_getElem? ht
        have hall : ([26].all fun u => !Tryz.prog.wantsStandIn u) = true := by kernel_rfl
        exact (show Tryz.prog.wantsStandIn t = false by simpa using List.all_eq_true.1 hall t hm)⟩)
    (c_goes rfl)
#print axioms recordLogs_holds
end Go.Proofs.YtdpoecjbofofoaaGreatDoor
