/-
  The walk of places: the standings by components.
-/
import Derived.Test.YtfpmbjobieeidaaRankM
import Derived.Test.YtfpmbjobieeidaaOwnD
import Derived.Test.YtfpmbjobieeidaaRegZ
import Derived.Test.YtfpmbjobieeidaaPlainL
namespace Go.Proofs.Ytfpmbjobieeidaa
open Go.RowKit

theorem info_bool2 : (Try.prog.info? 4).map (fun i => (i.zero, i.size, i.bytes)) = some (some (.bool false), 1, 1) := by kernel_rfl
theorem make_bools2 (w : World) (n : Nat) (hn : n ≤ 256) : (Instr.makeSlice 112 (.int .i64 n) (.int .i64 n)).run Try.prog w = .ok (.slice (some ⟨w.heap.size, 0, none⟩) n n) (w.alloc (.cells (madeCells #[.bool false] n) 4)) := by
  obtain ⟨i, hi, hz, hs, hb⟩ := info_parts info_bool2
  have h := run_make (P := Try.prog) w 112 4 i (.bool false) Try.underlying112 hi hz .i64 .i64 n n (by omega) (by omega) (by rw [hb]; omega) (by omega)
  rw [hs, Nat.mul_one] at h
  exact h
theorem make_stns2 (w : World) (n : Nat) (h : n ≤ 256) : (Instr.makeSlice 53 (.int .i64 n) (.int .i64 n)).run Try.prog w = .ok (.slice (some ⟨w.heap.size, 0, none⟩) n n) (w.alloc (.cells (madeCells #[.int .i64 0, .int .i64 0, .int .i64 0, .int .i64 0, .int .i64 0] (n * 5)) 57)) := by
  obtain ⟨i, hi, hz, hs, hb⟩ := info_parts info_stn
  have h := run_make (P := Try.prog) w 53 57 i (.agg #[.int .i64 0, .int .i64 0, .int .i64 0, .int .i64 0, .int .i64 0]) Try.underlying53 hi hz .i64 .i64 n n (by omega) (by omega) (by rw [hb]; omega) (by omega)
  rw [hs] at h
  exact h
theorem stc_made (w : World) (n : Nat) : StC (w.alloc (.cells (madeCells #[.int .i64 0, .int .i64 0, .int .i64 0, .int .i64 0, .int .i64 0] (n * 5)) 57)) w.heap.size n (fun _ _ => 0) := by
  have hb := Blk.new w 57 (madeCells #[.int .i64 0, .int .i64 0, .int .i64 0, .int .i64 0, .int .i64 0] (n * 5))
  refine ⟨hb.lt, fun c j hc hj => ⟨?_, hb.frozen _⟩⟩
  rw [hb.cell]
  unfold madeCells
  have hlt : c * 5 + j < n * 5 := by omega
  rw [Array.getElem?_map, Array.getElem?_range, if_pos hlt]
  have e : (c * 5 + j) % 5 = j := by omega
  show some (#[Value.int .i64 0, .int .i64 0, .int .i64 0, .int .i64 0, .int .i64 0][(c * 5 + j) % 5]!) = _
  rw [e]
  rcases (show j = 0 ∨ j = 1 ∨ j = 2 ∨ j = 3 ∨ j = 4 by omega) with rfl | rfl | rfl | rfl | rfl <;> rfl

/-- Among the first k of the order. -/
def seenO (sc : Nat → Rk.Fr) (n k c : Nat) : Bool := decide (c ∈ (Rk.order sc n).take k)
theorem seenO_succ {sc : Nat → Rk.Fr} {n k : Nat} (hk : k < n) (c : Nat) : seenO sc n (k + 1) c = (seenO sc n k c || decide (c = (Rk.order sc n).getD k 0)) := by
  have hl : k < (Rk.order sc n).length := by rw [Rk.order_length]; exact hk
  unfold seenO
  rw [List.take_succ_eq_append_getElem hl, List.getD_eq_getElem?_getD, List.getElem?_eq_getElem hl, ← Bool.decide_or]
  exact decide_eq_decide.2 (by rw [List.mem_append, List.mem_singleton]; rfl)
theorem seenO_fresh {sc : Nat → Rk.Fr} {n k : Nat} (hk : k < n) : seenO sc n k ((Rk.order sc n).getD k 0) = false := by
  have hl : k < (Rk.order sc n).length := by rw [Rk.order_length]; exact hk
  have hnd : (Rk.order sc n).Nodup := (Rk.order_perm sc n).nodup_iff.2 List.nodup_range
  refine decide_eq_false fun hm => ?_
  obtain ⟨i, hi, e⟩ := List.mem_iff_getElem.1 hm
  simp only [List.length_take] at hi
  rw [List.getElem_take, List.getD_eq_getElem?_getD, List.getElem?_eq_getElem hl] at e
  exact List.pairwise_iff_getElem.1 hnd i k (by omega) hl (by omega) e
theorem seenO_all {sc : Nat → Rk.Fr} {n c : Nat} (hc : c < n) : seenO sc n n c = true := by
  refine decide_eq_true ?_
  rw [List.take_of_length_le (by rw [Rk.order_length]; exact Nat.le_refl _)]
  exact (Rk.order_perm sc n).mem_iff.2 (List.mem_range.2 hc)
def plS (sc : Nat → Rk.Fr) (n k c j : Nat) : Int := if seenO sc n k c = true then fld (Rk.stnOf sc n c) j else 0

/-- What places answers. -/
def PlPost (sc : Nat → Rk.Fr) (n : Nat) (w : World) (e : Ending) (w' : World) : Prop :=
  ∃ g, e = .returned (.tuple #[.slice (some ⟨g, 0, none⟩) n n, .bool true]) ∧ w.heap.size ≤ g ∧ StC w' g n (fun c j => fld (Rk.stnOf sc n c) j) ∧ Below w.heap.size w w'

set_option maxRecDepth 20000 in
set_option maxHeartbeats 8000000 in
theorem places_any (sc : Nat → Rk.Fr) (n : Nat) (hn : n ≤ 256) (v : Value) (B : Nat) (w : World) (hv : Stns w B v (Rk.ranking sc n)) (hB : B ≤ w.heap.size) :
    Calls Try.prog 34 #[v, .int .i64 n] w (PlPost sc n w) := by
  obtain ⟨A, c, rfl, hl, hc⟩ := hv
  rw [Rk.ranking_length] at hl hc ⊢
  have Hc := Lib.hid hc
  have hmb := fun W => make_bools2 W n hn
  have hms := fun W => make_stns2 W n hn
  clear hc
  obtain ⟨W, hW⟩ : ∃ W, W = (w.alloc (.cells (madeCells #[.int .i64 0, .int .i64 0, .int .i64 0, .int .i64 0, .int .i64 0] (n * 5)) 57)).alloc (.cells (madeCells #[.bool false] n) 4) := ⟨_, rfl⟩
  have H1 := Lib.hid (show StC W w.heap.size n (plS sc n 0) by
    rw [hW]
    exact ((stc_made w n).below (show Below (w.heap.size + 1) _ _ from (Below.refl _ _).alloc (by simp) _) (by omega)).congr (fun c j _ _ => by simp [plS, seenO]))
  have H2 := Lib.hid (show CelAt W 4 (w.heap.size + 1) n (fun c => .bool (seenO sc n 0 c)) by
    rw [hW]
    have h := CelAt.made (w.alloc (.cells (madeCells #[.int .i64 0, .int .i64 0, .int .i64 0, .int .i64 0, .int .i64 0] (n * 5)) 57)) 4 (.bool false) n
    rw [World.size_alloc] at h
    exact h.congr (fun c _ => by simp [seenO]))
  have H3 := Lib.hid (show Below w.heap.size w W by rw [hW]; exact ((Below.refl _ _).alloc (Nat.le_refl _) _).alloc (by simp) _)
  have HW := Lib.hid hW
  clear hW
  go_enter Try.func34, Try.ntmps34
  go_wp2
  rw [← HW.out]
  go_loopg [8] n (fun g i wr => ∃ k : Nat, k ≤ n ∧ g = n - k ∧ i = .int .i64 k ∧ Hid (StC wr w.heap.size n (plS sc n k)) ∧ Hid (CelAt wr 4 (w.heap.size + 1) n (fun c => .bool (seenO sc n k c))) ∧ Hid (Below w.heap.size w wr))
  case atStart => exact ⟨0, Nat.zero_le _, rfl, rfl, H1.out, H2.out, H3.out⟩
  case round =>
    obtain ⟨k, hk, hg, rfl, h1, h2, h3⟩ := hrel
    have Hg := Lib.hid hg
    clear hg
    by_cases hlt : k < n
    · obtain ⟨hcn, hgd⟩ := Rk.ranking_getD (sc := sc) hlt
      obtain ⟨gl, rfl, hgl, hcl⟩ := Hc.out (by omega)
      have hcell := fun j hj => (h3.out.cell (p := ⟨gl, k * 5 + j, none⟩) (by simp; omega)).trans (hcl k j hlt hj)
      have hfl : ∀ j, fld ((Rk.ranking sc n).getD k (0, (0, 0), 0, 0)) j = fld (Rk.stnOf sc n ((Rk.order sc n).getD k 0)) j := fun j => congrArg (fun x => fld x j) hgd
      have Hsuc := Lib.hid (fun c => seenO_succ (sc := sc) hlt c)
      have hfr := seenO_fresh (sc := sc) hlt
      have a0 := hcell 0 (by decide)
      have a1 := hcell 1 (by decide)
      have a2 := hcell 2 (by decide)
      have a3 := hcell 3 (by decide)
      have a4 := hcell 4 (by decide)
      rw [hfl] at a0 a1 a2 a3 a4
      rw [Nat.add_zero] at a0
      rw [show fld (Rk.stnOf sc n ((Rk.order sc n).getD k 0)) 0 = (((Rk.order sc n).getD k 0 : Nat) : Int) from rfl] at a0
      generalize (Rk.order sc n).getD k 0 = c at *
      have b0 : wr.cell? ⟨w.heap.size + 1, c, none⟩ = some (.bool (seenO sc n k c)) := h2.out.cell hcn
      have bf := h2.out.frozen c
      have blt := h2.out.lt
      rw [hfr] at b0
      have hcc : (c : Int) < (n : Int) := by omega
      have hkk : (k : Int) < (n : Int) := by omega
      have hlw : gl < w.heap.size := by omega
      clear hcell hfl hgd hcl hfr
      obtain ⟨f1, hf1⟩ : ∃ f1, fld (Rk.stnOf sc n c) 1 = f1 := ⟨_, rfl⟩
      obtain ⟨f2, hf2⟩ : ∃ f2, fld (Rk.stnOf sc n c) 2 = f2 := ⟨_, rfl⟩
      obtain ⟨f3, hf3⟩ : ∃ f3, fld (Rk.stnOf sc n c) 3 = f3 := ⟨_, rfl⟩
      obtain ⟨f4, hf4⟩ : ∃ f4, fld (Rk.stnOf sc n c) 4 = f4 := ⟨_, rfl⟩
      rw [hf1] at a1
      rw [hf2] at a2
      rw [hf3] at a3
      rw [hf4] at a4
      have HF := Lib.hid (And.intro hf1 (And.intro hf2 (And.intro hf3 hf4)))
      clear hf1 hf2 hf3 hf4
      obtain ⟨w5, hw5⟩ : ∃ w5, w5 = wr.setCell ⟨w.heap.size + 1, c, none⟩ (.bool true) := ⟨_, rfl⟩
      have far : ∀ o u, wr.cell? ⟨gl, o, none⟩ = some u → w5.cell? ⟨gl, o, none⟩ = some u := fun o u h => by
        rw [hw5]
        exact (World.cell?_setCell_other _ _ _ _ (by first | (simp; done) | (simp; omega))).trans h
      have s0 := far _ _ a0
      have s1 := far _ _ a1
      have s2 := far _ _ a2
      have s3 := far _ _ a3
      have s4 := far _ _ a4
      have o5 := fun j hj => (h1.out.2 c j hcn hj)
      have H15 := Lib.hid (show StC w5 w.heap.size n (plS sc n k) by
        refine ⟨by rw [hw5]; simpa using h1.out.1, fun c' j hc' hj => ⟨?_, ?_⟩⟩
        · rw [hw5]
          exact (World.cell?_setCell_other _ _ _ _ (by simp)).trans (h1.out.2 c' j hc' hj).1
        · rw [hw5, World.frozen?_setCell]
          exact (h1.out.2 c' j hc' hj).2)
      have H25 := Lib.hid (show CelAt w5 4 (w.heap.size + 1) n (fun c => .bool (seenO sc n (k + 1) c)) by
        rw [hw5]
        exact (h2.out.set_ c _).congr (fun c' _ => by
          rw [Hsuc.out c']
          by_cases e : c' = c
          · simp [e]
          · simp [e]))
      have H35 := Lib.hid (show Below w.heap.size w w5 by
        rw [hw5]
        exact h3.out.grown (grown_setCell wr ⟨w.heap.size + 1, c, none⟩ (.bool true)) h3.out.size (fun g e => by simp at e; omega))
      have e0 := (H15.out.2 c 0 hcn (by decide)).1
      have e1 := (H15.out.2 c 1 hcn (by decide)).1
      have e2 := (H15.out.2 c 2 hcn (by decide)).1
      have e3 := (H15.out.2 c 3 hcn (by decide)).1
      have e4 := (H15.out.2 c 4 hcn (by decide)).1
      have g0 := (H15.out.2 c 0 hcn (by decide)).2
      have g1 := (H15.out.2 c 1 hcn (by decide)).2
      have g2 := (H15.out.2 c 2 hcn (by decide)).2
      have g3 := (H15.out.2 c 3 hcn (by decide)).2
      have g4 := (H15.out.2 c 4 hcn (by decide)).2
      have l5 := H15.out.1
      rw [Nat.add_zero] at e0 g0
      have Hw5 := Lib.hid hw5
      have HX := Lib.hid (((((H15.out.set_ hcn (j := 0) (by decide) (c : Int)).set_ hcn (j := 1) (by decide) f1).set_ hcn (j := 2) (by decide) f2).set_ hcn (j := 3) (by decide) f3).set_ hcn (j := 4) (by decide) f4)
      rw [Nat.add_zero] at HX
      clear far hw5 o5
      go_wp2
      rw [← Hw5.out]
      have hS0 : w5.drew.cell? ⟨gl, k * 5, none⟩ = some (.int .i64 (c : Int)) ∧ w5.drew.cell? ⟨gl, k * 5 + 1, none⟩ = some (.int .i64 f1) ∧ w5.drew.cell? ⟨gl, k * 5 + 2, none⟩ = some (.int .i64 f2) ∧ w5.drew.cell? ⟨gl, k * 5 + 3, none⟩ = some (.int .i64 f3) ∧ w5.drew.cell? ⟨gl, k * 5 + 4, none⟩ = some (.int .i64 f4) := ⟨s0, s1, s2, s3, s4⟩
      refine z_region (fun w' => w'.cell? ⟨gl, k * 5, none⟩ = some (.int .i64 (c : Int)) ∧ w'.cell? ⟨gl, k * 5 + 1, none⟩ = some (.int .i64 f1) ∧ w'.cell? ⟨gl, k * 5 + 2, none⟩ = some (.int .i64 f2) ∧ w'.cell? ⟨gl, k * 5 + 3, none⟩ = some (.int .i64 f3) ∧ w'.cell? ⟨gl, k * 5 + 4, none⟩ = some (.int .i64 f4)) 11 (by kernel_rfl) ?_
      refine z_take (i := 0) (v := ?_) rfl (by kernel_rfl) (by kernel_rfl) (by kernel_rfl) (fun _ _ _ h => h) (by kernel_rfl) (by decide) hS0 (by rfl) (by intro w hSw; obtain ⟨hS1, hS2, hS3, hS4, hS5⟩ := hSw; go_simp; rfl) ?_
      refine z_take (i := 1) (v := ?_) rfl (by kernel_rfl) (by kernel_rfl) (by kernel_rfl) (fun _ _ _ h => h) (by kernel_rfl) (by decide) hS0 (by rfl) (by intro w hSw; obtain ⟨hS1, hS2, hS3, hS4, hS5⟩ := hSw; go_simp; rfl) ?_
      refine z_take (i := 2) (v := ?_) rfl (by kernel_rfl) (by kernel_rfl) (by kernel_rfl) (fun _ _ _ h => h) (by kernel_rfl) (by decide) hS0 (by rfl) (by intro w hSw; obtain ⟨hS1, hS2, hS3, hS4, hS5⟩ := hSw; go_simp; rfl) ?_
      refine z_take (i := 3) (v := ?_) rfl (by kernel_rfl) (by kernel_rfl) (by kernel_rfl) (fun _ _ _ h => h) (by kernel_rfl) (by decide) hS0 (by rfl) (by intro w hSw; obtain ⟨hS1, hS2, hS3, hS4, hS5⟩ := hSw; go_simp; rfl) ?_
      refine z_take (i := 4) (v := ?_) rfl (by kernel_rfl) (by kernel_rfl) (by kernel_rfl) (fun _ _ _ h => h) (by kernel_rfl) (by decide) hS0 (by rfl) (by intro w hSw; obtain ⟨hS1, hS2, hS3, hS4, hS5⟩ := hSw; go_simp; rfl) ?_
      refine z_take (i := 5) (v := ?_) rfl (by kernel_rfl) (by kernel_rfl) (by kernel_rfl) (fun _ _ _ h => h) (by kernel_rfl) (by decide) hS0 (by rfl) (by intro w hSw; obtain ⟨hS1, hS2, hS3, hS4, hS5⟩ := hSw; go_simp; rfl) ?_
      refine z_take (i := 6) (v := ?_) rfl (by kernel_rfl) (by kernel_rfl) (by kernel_rfl) (fun _ _ _ h => h) (by kernel_rfl) (by decide) hS0 (by rfl) (by intro w hSw; obtain ⟨hS1, hS2, hS3, hS4, hS5⟩ := hSw; go_simp; rfl) ?_
      refine z_take (i := 7) (v := ?_) rfl (by kernel_rfl) (by kernel_rfl) (by kernel_rfl) (fun _ _ _ h => h) (by kernel_rfl) (by decide) hS0 (by rfl) (by intro w hSw; obtain ⟨hS1, hS2, hS3, hS4, hS5⟩ := hSw; go_simp; rfl) ?_
      refine z_take (i := 8) (v := ?_) rfl (by kernel_rfl) (by kernel_rfl) (by kernel_rfl) (fun _ _ _ h => h) (by kernel_rfl) (by decide) hS0 (by rfl) (by intro w hSw; obtain ⟨hS1, hS2, hS3, hS4, hS5⟩ := hSw; go_simp; rfl) ?_
      refine z_take (i := 9) (v := ?_) rfl (by kernel_rfl) (by kernel_rfl) (by kernel_rfl) (fun _ _ _ h => h) (by kernel_rfl) (by decide) hS0 (by rfl) (by intro w hSw; obtain ⟨hS1, hS2, hS3, hS4, hS5⟩ := hSw; go_simp; rfl) ?_
      refine z_take (i := 10) (v := ?_) rfl (by kernel_rfl) (by kernel_rfl) (by kernel_rfl) (fun _ _ _ h => h) (by kernel_rfl) (by decide) hS0 (by rfl) (by intro w hSw; obtain ⟨hS1, hS2, hS3, hS4, hS5⟩ := hSw; go_simp; rfl) ?_
      simp only [Act.put, List.setIfInBounds_toArray]
      refine z_one (i := 11) rfl (by kernel_rfl) (by rfl) (fun K hK => ?_)
      go_simp
      refine hK _ _ (fun h => absurd rfl h) ?_
      clear hK K
      refine z_done (by kernel_rfl) ?_ _
      have HY := Lib.hid (HX.out.congr (T := plS sc n (k + 1)) (fun c' j hc' hj => by
        obtain ⟨q1, q2, q3, q4⟩ := HF.out
        have q0 : fld (Rk.stnOf sc n c) 0 = ((c : Nat) : Int) := rfl
        have e := Hsuc.out c'
        unfold Rk.upd plS
        rw [e]
        by_cases ec : c' = c
        · subst ec
          simp only [decide_true, Bool.or_true, if_true]
          rcases (show j = 0 ∨ j = 1 ∨ j = 2 ∨ j = 3 ∨ j = 4 by omega) with rfl | rfl | rfl | rfl | rfl <;> simp [q0, q1, q2, q3, q4]
        · simp [ec]))
      have HG := Lib.hid (((((grown_setCell w5 ⟨w.heap.size, c * 5, none⟩ (.int .i64 (c : Int))).trans (grown_setCell _ ⟨w.heap.size, c * 5 + 1, none⟩ (.int .i64 f1))).trans (grown_setCell _ ⟨w.heap.size, c * 5 + 2, none⟩ (.int .i64 f2))).trans (grown_setCell _ ⟨w.heap.size, c * 5 + 3, none⟩ (.int .i64 f3))).trans (grown_setCell _ ⟨w.heap.size, c * 5 + 4, none⟩ (.int .i64 f4)))
      have HC := Lib.hid (H25.out.grown HG.out (by simp))
      have HB := Lib.hid (H35.out.grown HG.out H35.out.size (fun g e => by simp at e; omega))
      go_wp2
      go_roundg (n - (k + 1))
      case rel => exact ⟨k + 1, hlt, rfl, by go_num, HY.out, HC.out, HB.out.drew⟩
      case measure => rw [Hg.out]; omega
    · obtain rfl : k = n := by omega
      have HS := Lib.hid (h1.out.congr (fun c j hc _ => show plS sc k k c j = fld (Rk.stnOf sc k c) j by unfold plS; rw [seenO_all hc, if_pos rfl]))
      go_wp2
      go_ret2
      exact ⟨_, rfl, Nat.le_refl _, HS.out, h3.out⟩
end Go.Proofs.Ytfpmbjobieeidaa
