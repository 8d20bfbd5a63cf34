/-
  The walk of the reference's tally.
  The walk of the reference's Tallies.
  The walk of the reference's covers.
  The walk of the reference's Alike.
-/
import Derived.Test.YtfpmbjobieeidaaGreatTallies
import Derived.Test.YtfpmbjobieeidaaGreatHas
import Derived.Test.YtfpmbjobieeidaaGreatNum
import Derived.Test.YtfpmbjobieeidaaGreatGrow
import Derived.Test.YtfpmbjobieeidaaGreatExam
import Derived.Test.YtfpmbjobieeidaaGreatWide
import Derived.Test.YtfpmbjobieeidaaGreatAlike
import Derived.Deep.RegionHeld3
namespace Go.Proofs.YtfpmbjobieeidaaGreat
open Go.RowKit

theorem newBlk {w : World} {g : Nat} (h : w.heap.size = g) (t : TypeId) (cs : Array Value) : Blk (w.alloc (.cells cs t)) g t cs := by subst h; exact Blk.new w t cs
theorem al3' (w : World) (o p q : Obj) : Below w.heap.size w (((w.alloc o).alloc p).alloc q) := ((((Below.refl _ w).alloc (Nat.le_refl _) o).alloc (by simp) p).alloc (by simp; omega) q)
theorem tal_snoc (rows : List RowL) (r : RowL) (c : Nat) : Rk.tal (rows ++ [r]) c 0 = Rk.tal rows c 0 + (if r.2 = true ∧ (c : Int) ∈ r.1 then 1 else 0) ∧ Rk.tal (rows ++ [r]) c 1 = Rk.tal rows c 1 + (if r.2 = false ∧ (c : Int) ∈ r.1 then 1 else 0) ∧
    Rk.tal (rows ++ [r]) c 2 = Rk.tal rows c 2 + (if r.2 = true ∧ (c : Int) ∉ r.1 then 1 else 0) ∧ Rk.tal (rows ++ [r]) c 3 = Rk.tal rows c 3 + (if r.2 = false ∧ (c : Int) ∉ r.1 then 1 else 0) := by
  obtain ⟨l, b⟩ := r
  unfold Rk.tal Rk.fh Rk.ph Rk.fails
  simp only [List.countP_append, List.countP_cons, List.countP_nil, List.length_append, List.length_cons, List.length_nil]
  by_cases h : (c : Int) ∈ l <;> cases b <;> simp [h] <;> omega
theorem tal_nil (c : Nat) : Rk.tal [] c 0 = 0 ∧ Rk.tal [] c 1 = 0 ∧ Rk.tal [] c 2 = 0 ∧ Rk.tal [] c 3 = 0 := by
  simp [Rk.tal, Rk.fh, Rk.ph, Rk.fails]
theorem below_s1 {B : Nat} {a w : World} (h : Below B a w) {g : Nat} (hB : B ≤ g) (hw : B ≤ w.heap.size) (o : Nat) (x : Value) : Below B a (w.setCell ⟨g, o, none⟩ x) :=
  h.grown (grown_setCell w ⟨g, o, none⟩ x) hw (fun b e => by simp at e; omega)

def rtalV (rows : List RowL) (c : Nat) : Value := .agg #[.int .i64 (Rk.tal rows c 0), .int .i64 (Rk.tal rows c 1), .int .i64 (Rk.tal rows c 2), .int .i64 (Rk.tal rows c 3)]
set_option maxRecDepth 100000 in
set_option maxHeartbeats 1000000 in
theorem rtally_any (parts : Int) (v : Value) (rows : List RowL) (c : Nat) (B : Nat) (w : World) (hv : Rows w B v rows) (hB : B ≤ w.heap.size) (hr64 : rows.length ≤ 64) :
    Calls Tryz.prog 36 #[.agg #[.int .i64 parts, v], .int .i64 c] w fun e w' => e = .returned (rtalV rows c) ∧ Below w.heap.size w w' := by
  have HH := Lib.hid (fun u xs W (hu : Ints W B u xs) => has_any u xs (c : Int) B W hu)
  have HB0 := Lib.hid hB
  obtain ⟨A, cv, vs, rfl, j1, j2, hr, hi⟩ := hv
  have Hr := Lib.hid hr
  have Hi := Lib.hid hi
  clear j1 hr hi hB
  obtain ⟨W0, hW0⟩ : ∃ W0, W0 = ((w.alloc (.cells #[.int .i64 parts, .slice A rows.length cv] 24)).alloc (.cells #[.int .i64 0, .int .i64 0, .int .i64 0, .int .i64 0] 35)).alloc (.cells #[.int .i64 0, .int .i64 0, .int .i64 0, .int .i64 0] 35) := ⟨_, rfl⟩
  have HS0 := Lib.hid (show Blk W0 w.heap.size 24 #[.int .i64 parts, .slice A rows.length cv] by rw [hW0]; exact ((Blk.new w _ _).alloc _).alloc _)
  have HR0 := Lib.hid (show Blk W0 (w.heap.size + 1) 35 #[.int .i64 0, .int .i64 0, .int .i64 0, .int .i64 0] by rw [hW0]; exact (newBlk (by simp) _ _).alloc _)
  have HT0 := Lib.hid (show Blk W0 (w.heap.size + 1 + 1) 35 #[.int .i64 0, .int .i64 0, .int .i64 0, .int .i64 0] by rw [hW0]; exact newBlk (by simp) _ _)
  have HL0 := Lib.hid (show Below w.heap.size w W0 by rw [hW0]; exact al3' w _ _ _)
  have HW0 := Lib.hid hW0
  clear hW0
  go_enter Tryz.func36, Tryz.ntmps36
  go_wp2
  rw [← HW0.out]
  go_loopg [6] rows.length (fun g s wr => ∃ (k : Nat) (T0 T1 T2 T3 : Int), k ≤ rows.length ∧ g = rows.length - k ∧ s = .int .i64 k ∧ (0 ≤ T0 ∧ T0 ≤ k ∧ 0 ≤ T1 ∧ T1 ≤ k ∧ 0 ≤ T2 ∧ T2 ≤ k ∧ 0 ≤ T3 ∧ T3 ≤ k) ∧ Hid (Rk.tal (rows.take k) c 0 = T0 ∧ Rk.tal (rows.take k) c 1 = T1 ∧ Rk.tal (rows.take k) c 2 = T2 ∧ Rk.tal (rows.take k) c 3 = T3) ∧
    Hid (Blk wr w.heap.size 24 #[.int .i64 parts, .slice A rows.length cv]) ∧ Hid (Blk wr (w.heap.size + 1) 35 #[.int .i64 0, .int .i64 0, .int .i64 0, .int .i64 0]) ∧ Hid (Blk wr (w.heap.size + 1 + 1) 35 #[.int .i64 T0, .int .i64 T1, .int .i64 T2, .int .i64 T3]) ∧ Hid (Below w.heap.size w wr))
  case atStart => exact ⟨0, 0, 0, 0, 0, Nat.zero_le _, rfl, rfl, by omega, by rw [List.take_zero]; exact tal_nil c, HS0.out, HR0.out, HT0.out, HL0.out⟩
  case round =>
    obtain ⟨k, T0, T1, T2, T3, hk, hg, rfl, ⟨p0, p0', p1, p1', p2, p2', p3, p3'⟩, ht, hS, hR, hT, hL⟩ := hrel
    have Hg := Lib.hid hg
    clear hg HS0 HR0 HT0 HL0
    have s0 := hS.out.cell 0
    have s1 := hS.out.cell 1
    have t0 := hT.out.cell 0
    have t1 := hT.out.cell 1
    have t2 := hT.out.cell 2
    have t3 := hT.out.cell 3
    have f0 := hT.out.frozen 0
    have f1 := hT.out.frozen 1
    have f2 := hT.out.frozen 2
    have f3 := hT.out.frozen 3
    have ltt := hT.out.lt
    simp only [List.getElem?_toArray, List.getElem?_cons_zero, List.getElem?_cons_succ] at s0 s1 t0 t1 t2 t3
    by_cases hlt : k < rows.length
    · obtain ⟨ad, u, rfl, hadb, hc0, hc1, hu⟩ := rows_at Hr.out Hi.out hlt
      have hadw : ad.block < w.heap.size := Nat.lt_of_lt_of_le hadb HB0.out
      have x0 := keepB hL.out (p := ad.add (k * 2)) (by rw [block_of_add]; exact hadw) hc0
      have x1 := keepB hL.out (p := ad.add (k * 2 + 1)) (by rw [block_of_add]; exact hadw) hc1
      have Hu := Lib.hid (hu.keep (fun p hp => hL.out.cell (Nat.lt_of_lt_of_le hp HB0.out)))
      have HH2 := Lib.hid (HH.out u _ wr Hu.out)
      have hsn := tal_snoc (rows.take k) (Rk.rowAt rows k) c
      rw [← take_row hlt, ht.out.1, ht.out.2.1, ht.out.2.2.1, ht.out.2.2.2] at hsn
      obtain ⟨fb, hfb⟩ : ∃ fb, fb = (Rk.rowAt rows k).2 := ⟨_, rfl⟩
      obtain ⟨hb, hhb⟩ : ∃ hb, hb = decide ((c : Int) ∈ (Rk.rowAt rows k).1) := ⟨_, rfl⟩
      rw [← hfb] at x1 hsn
      rw [← hhb] at HH2
      have hb' : ((c : Int) ∈ (Rk.rowAt rows k).1) ↔ hb = true := by rw [hhb, decide_eq_true_eq]
      simp only [hb'] at hsn
      rw [← add_of_add] at x1
      have x1 : wr.cell? ⟨(ad.add (k * 2)).block, (ad.add (k * 2)).off + 1, none⟩ = some (.bool fb) := x1
      have Hsn := Lib.hid hsn
      clear hsn hfb hhb hb' hc0 hc1 hu hadb
      cases fb <;> cases hb
      · have Hn := Lib.hid (show Rk.tal (rows.take (k + 1)) c 0 = T0 ∧ Rk.tal (rows.take (k + 1)) c 1 = T1 ∧ Rk.tal (rows.take (k + 1)) c 2 = T2 ∧ Rk.tal (rows.take (k + 1)) c 3 = (T3 + 1) by simpa using Hsn.out)
        have HT2 := Lib.hid (show Blk (wr.setCell ⟨w.heap.size + 1 + 1, 3, none⟩ (.int .i64 (T3 + 1))) (w.heap.size + 1 + 1) 35 #[.int .i64 T0, .int .i64 T1, .int .i64 T2, .int .i64 (T3 + 1)] from hT.out.set_ 3 _)
        have HS2 := Lib.hid (hS.out.far (p := ⟨w.heap.size + 1 + 1, 3, none⟩) (by simp; omega) (.int .i64 (T3 + 1)))
        have HR2 := Lib.hid (hR.out.far (p := ⟨w.heap.size + 1 + 1, 3, none⟩) (by simp) (.int .i64 (T3 + 1)))
        have HL2 := Lib.hid (below_s1 hL.out (show w.heap.size ≤ w.heap.size + 1 + 1 by omega) hL.out.size 3 (.int .i64 (T3 + 1)))
        clear hS hR hT hL ht
        go_wp2_with fail
        refine HH2.out.mono ?_
        rintro e w2 ⟨rfl, rfl⟩
        go_wp2
        go_roundg (rows.length - (k + 1))
        case rel => exact ⟨k + 1, T0, T1, T2, T3 + 1, hlt, rfl, by go_num, by omega, Hn, HS2, HR2, HT2, HL2⟩
        case measure => rw [Hg.out]; omega
      · have Hn := Lib.hid (show Rk.tal (rows.take (k + 1)) c 0 = T0 ∧ Rk.tal (rows.take (k + 1)) c 1 = (T1 + 1) ∧ Rk.tal (rows.take (k + 1)) c 2 = T2 ∧ Rk.tal (rows.take (k + 1)) c 3 = T3 by simpa using Hsn.out)
        have HT2 := Lib.hid (show Blk (wr.setCell ⟨w.heap.size + 1 + 1, 1, none⟩ (.int .i64 (T1 + 1))) (w.heap.size + 1 + 1) 35 #[.int .i64 T0, .int .i64 (T1 + 1), .int .i64 T2, .int .i64 T3] from hT.out.set_ 1 _)
        have HS2 := Lib.hid (hS.out.far (p := ⟨w.heap.size + 1 + 1, 1, none⟩) (by simp; omega) (.int .i64 (T1 + 1)))
        have HR2 := Lib.hid (hR.out.far (p := ⟨w.heap.size + 1 + 1, 1, none⟩) (by simp) (.int .i64 (T1 + 1)))
        have HL2 := Lib.hid (below_s1 hL.out (show w.heap.size ≤ w.heap.size + 1 + 1 by omega) hL.out.size 1 (.int .i64 (T1 + 1)))
        clear hS hR hT hL ht
        go_wp2_with fail
        refine HH2.out.mono ?_
        rintro e w2 ⟨rfl, rfl⟩
        go_wp2
        go_roundg (rows.length - (k + 1))
        case rel => exact ⟨k + 1, T0, T1 + 1, T2, T3, hlt, rfl, by go_num, by omega, Hn, HS2, HR2, HT2, HL2⟩
        case measure => rw [Hg.out]; omega
      · have Hn := Lib.hid (show Rk.tal (rows.take (k + 1)) c 0 = T0 ∧ Rk.tal (rows.take (k + 1)) c 1 = T1 ∧ Rk.tal (rows.take (k + 1)) c 2 = (T2 + 1) ∧ Rk.tal (rows.take (k + 1)) c 3 = T3 by simpa using Hsn.out)
        have HT2 := Lib.hid (show Blk (wr.setCell ⟨w.heap.size + 1 + 1, 2, none⟩ (.int .i64 (T2 + 1))) (w.heap.size + 1 + 1) 35 #[.int .i64 T0, .int .i64 T1, .int .i64 (T2 + 1), .int .i64 T3] from hT.out.set_ 2 _)
        have HS2 := Lib.hid (hS.out.far (p := ⟨w.heap.size + 1 + 1, 2, none⟩) (by simp; omega) (.int .i64 (T2 + 1)))
        have HR2 := Lib.hid (hR.out.far (p := ⟨w.heap.size + 1 + 1, 2, none⟩) (by simp) (.int .i64 (T2 + 1)))
        have HL2 := Lib.hid (below_s1 hL.out (show w.heap.size ≤ w.heap.size + 1 + 1 by omega) hL.out.size 2 (.int .i64 (T2 + 1)))
        clear hS hR hT hL ht
        go_wp2_with fail
        refine HH2.out.mono ?_
        rintro e w2 ⟨rfl, rfl⟩
        go_wp2
        go_roundg (rows.length - (k + 1))
        case rel => exact ⟨k + 1, T0, T1, T2 + 1, T3, hlt, rfl, by go_num, by omega, Hn, HS2, HR2, HT2, HL2⟩
        case measure => rw [Hg.out]; omega
      · have Hn := Lib.hid (show Rk.tal (rows.take (k + 1)) c 0 = (T0 + 1) ∧ Rk.tal (rows.take (k + 1)) c 1 = T1 ∧ Rk.tal (rows.take (k + 1)) c 2 = T2 ∧ Rk.tal (rows.take (k + 1)) c 3 = T3 by simpa using Hsn.out)
        have HT2 := Lib.hid (show Blk (wr.setCell ⟨w.heap.size + 1 + 1, 0, none⟩ (.int .i64 (T0 + 1))) (w.heap.size + 1 + 1) 35 #[.int .i64 (T0 + 1), .int .i64 T1, .int .i64 T2, .int .i64 T3] from hT.out.set_ 0 _)
        have HS2 := Lib.hid (hS.out.far (p := ⟨w.heap.size + 1 + 1, 0, none⟩) (by simp; omega) (.int .i64 (T0 + 1)))
        have HR2 := Lib.hid (hR.out.far (p := ⟨w.heap.size + 1 + 1, 0, none⟩) (by simp) (.int .i64 (T0 + 1)))
        have HL2 := Lib.hid (below_s1 hL.out (show w.heap.size ≤ w.heap.size + 1 + 1 by omega) hL.out.size 0 (.int .i64 (T0 + 1)))
        clear hS hR hT hL ht
        go_wp2_with fail
        refine HH2.out.mono ?_
        rintro e w2 ⟨rfl, rfl⟩
        go_wp2
        go_roundg (rows.length - (k + 1))
        case rel => exact ⟨k + 1, T0 + 1, T1, T2, T3, hlt, rfl, by go_num, by omega, Hn, HS2, HR2, HT2, HL2⟩
        case measure => rw [Hg.out]; omega
    · obtain rfl : k = rows.length := by omega
      have ht' := ht.out
      rw [List.take_length] at ht'
      have Ht := Lib.hid ht'
      have r0 := hR.out.cell 0
      have r1 := hR.out.cell 1
      have r2 := hR.out.cell 2
      have r3 := hR.out.cell 3
      have g0 := hR.out.frozen 0
      have g1 := hR.out.frozen 1
      have g2 := hR.out.frozen 2
      have g3 := hR.out.frozen 3
      have ltr := hR.out.lt
      simp only [List.getElem?_toArray, List.getElem?_cons_zero, List.getElem?_cons_succ] at r0 r1 r2 r3
      clear ht ht'
      go_wp2
      have K : Blk ((((wr.setCell ⟨w.heap.size + 1, 0, none⟩ (.int .i64 T0)).setCell ⟨w.heap.size + 1, 1, none⟩ (.int .i64 T1)).setCell ⟨w.heap.size + 1, 2, none⟩ (.int .i64 T2)).setCell ⟨w.heap.size + 1, 3, none⟩ (.int .i64 T3)) (w.heap.size + 1) 35 #[.int .i64 T0, .int .i64 T1, .int .i64 T2, .int .i64 T3] :=
        (((hR.out.set_ 0 _).set_ 1 _).set_ 2 _).set_ 3 _
      have k0 := K.cell 0
      have k1 := K.cell 1
      have k2 := K.cell 2
      have k3 := K.cell 3
      simp only [List.getElem?_toArray, List.getElem?_cons_zero, List.getElem?_cons_succ] at k0 k1 k2 k3
      refine bodyPost_ret (v := .agg #[.int .i64 T0, .int .i64 T1, .int .i64 T2, .int .i64 T3]) (by simp [results, Tryz.results36, go_sem, k0, k1, k2, k3]) rfl ⟨?_, ?_⟩
      · unfold rtalV
        rw [Ht.out.1, Ht.out.2.1, Ht.out.2.2.1, Ht.out.2.2.2]
      · have hz := hL.out.size
        exact below_s1 (below_s1 (below_s1 (below_s1 hL.out (by omega) (by simpa using hz) 0 _) (by omega) (by simpa using hz) 1 _) (by omega) (by simpa using hz) 2 _) (by omega) (by simpa using hz) 3 _
end Go.Proofs.YtfpmbjobieeidaaGreat
namespace Go.Proofs.YtfpmbjobieeidaaGreat
open Go.RowKit

/-- The cells of the tallies of the first components. -/
def talCells (rows : List RowL) (n : Nat) : List Value := (List.range n).flatMap fun (c : Nat) => [.int .i64 (Rk.tal rows c 0), .int .i64 (Rk.tal rows c 1), .int .i64 (Rk.tal rows c 2), .int .i64 (Rk.tal rows c 3)]
theorem talCells_succ (rows : List RowL) (c : Nat) : talCells rows (c + 1) = talCells rows c ++ [.int .i64 (Rk.tal rows c 0), .int .i64 (Rk.tal rows c 1), .int .i64 (Rk.tal rows c 2), .int .i64 (Rk.tal rows c 3)] := by
  unfold talCells
  rw [List.range_succ, List.flatMap_append]
  simp
theorem talCells_length (rows : List RowL) (n : Nat) : (talCells rows n).length = n * 4 := by
  induction n with
  | zero => rfl
  | succ n ih => rw [talCells_succ, List.length_append, ih]; simp; omega
theorem talCells_get (rows : List RowL) : ∀ (n c j : Nat), c < n → j < 4 → (talCells rows n)[c * 4 + j]? = some (.int .i64 (Rk.tal rows c j)) := by
  intro n
  induction n with
  | zero => intro c j h; omega
  | succ n ih =>
    intro c j hc hj
    rw [talCells_succ]
    by_cases e : c = n
    · subst e
      rw [List.getElem?_append_right (by rw [talCells_length]; omega), talCells_length, show c * 4 + j - c * 4 = j by omega]
      rcases (show j = 0 ∨ j = 1 ∨ j = 2 ∨ j = 3 by omega) with rfl | rfl | rfl | rfl <;> rfl
    · rw [List.getElem?_append_left (by rw [talCells_length]; omega)]
      exact ih c j (by omega) hj

def RTlsPost (n : Nat) (parts : Int) (rows : List RowL) (w : World) (e : Ending) (w' : World) : Prop :=
  ∃ v, e = .returned (.tuple #[v, .int .i64 (specErr parts rows)]) ∧ Below w.heap.size w w' ∧ (specErr parts rows ≠ 0 → v = .slice none 0 0) ∧
    (specErr parts rows = 0 → ∃ g c, v = .slice (some ⟨g, 0, none⟩) n c ∧ w.heap.size ≤ g ∧ g < w'.heap.size ∧ ∀ c j, c < n → j < 4 → w'.cell? ⟨g, c * 4 + j, none⟩ = some (.int .i64 (Rk.tal rows c j)))
theorem al1r (w : World) (o : Obj) : Below w.heap.size w (w.alloc o) := (Below.refl _ w).alloc (Nat.le_refl _) o

set_option maxRecDepth 100000 in
set_option maxHeartbeats 1000000 in
theorem rtals_any (parts : Int) (v : Value) (rows : List RowL) (B : Nat) (w : World) (hv : Rows w B v rows) (hB : B ≤ w.heap.size) :
    Calls Tryz.prog 8 #[.agg #[.int .i64 parts, v]] w (RTlsPost parts.toNat parts rows w) := by
  have HC := Lib.hid (fun W (hb : Below w.heap.size w W) => rcheckspectrum_any parts v rows B W (hv.below (hb.mono hB)) (by have := hb.size; omega))
  by_cases h : specErr parts rows = 0
  · obtain ⟨z0, z1, z2, z3⟩ : 1 ≤ parts ∧ parts ≤ 256 ∧ rows.length ≤ 64 ∧ ∀ i, i < rows.length → Rk.Incr parts (Rk.rowAt rows i).1 := by
      unfold specErr at h
      split at h
      · cases h
      · split at h
        · cases h
        · split at h
          · rename_i h3
            exact ⟨by omega, by omega, by omega, fun i hi => of_decide_eq_true (h3 i hi)⟩
          · cases h
    obtain ⟨n, rfl⟩ : ∃ n : Nat, parts = n := ⟨parts.toNat, by omega⟩
    have HT := Lib.hid (fun (c : Nat) W (hb : Below w.heap.size w W) => rtally_any n v rows c B W (hv.below (hb.mono hB)) (by have := hb.size; omega) z2)
    rw [Int.toNat_natCast]
    have Hh := Lib.hid h
    have hn2 : n ≤ 256 := by omega
    have hn1 : 1 ≤ n := by omega
    rw [h] at HC
    obtain ⟨A, cv, vs, rfl, j1, j2, j3, j4⟩ := hv
    obtain ⟨i0, hi0, hz0, hz1, hz2⟩ := info_parts info_tally
    clear j1 j2 j3 j4 h hB z0 z1 z2 z3
    go_enter Tryz.func8, Tryz.ntmps8
    go_wp2_with fail
    refine (HC.out _ (al1r _ _)).mono ?_
    rintro e w1 ⟨rfl, hb⟩
    have S1 : Blk w1 w.heap.size 24 #[.int .i64 n, .slice A rows.length cv] := (Blk.new w _ _).below hb (by simp)
    have HB := Lib.hid ((al1r w _).trans (hb.mono (by simp)))
    have HS1 := Lib.hid S1
    have ltw : w.heap.size < w1.heap.size := S1.lt
    clear hb HC S1
    go_wp2
    go_loopg [5, 6] n (fun g s5 s6 wr => ∃ k : Nat, k ≤ n ∧ g = n - k ∧ s6 = .int .i64 k ∧ Hid (wr.ownsRow w1.heap.size 35 4 s5 k (talCells rows k)) ∧ Hid (Below w1.heap.size w1 wr))
    case atStart => exact ⟨0, Nat.zero_le _, rfl, rfl, ⟨rfl, .inl ⟨rfl, rfl⟩⟩, Below.refl _ _⟩
    case round =>
      obtain ⟨k, hk, hg, rfl, hown, hL⟩ := hrel
      have Hg := Lib.hid hg
      clear hg
      have S2 := HS1.out.below hL.out ltw
      have s0 := S2.cell 0
      have s1 := S2.cell 1
      have lt2 : w.heap.size < wr.heap.size := S2.lt
      have HS2 := Lib.hid S2
      simp only [List.getElem?_toArray, List.getElem?_cons_zero, List.getElem?_cons_succ] at s0 s1
      clear S2
      by_cases hlt : k < n
      · have HTk := Lib.hid (HT.out k wr (HB.out.trans (hL.out.mono HB.out.size)))
        unfold rtalV at HTk
        obtain ⟨wo, rfl⟩ : ∃ wo : World, wo = wr := ⟨_, rfl⟩
        go_wp2_with fail
        refine HTk.out.mono ?_
        rintro e w3 ⟨rfl, hb⟩
        have HL3 := Lib.hid (show Below w1.heap.size w1 w3 from hL.out.trans (hb.mono hL.out.size))
        have HO3 := Lib.hid (own_below hown.out hb (Nat.le_refl _))
        have hs3 := HL3.out.size
        have Hcs := Lib.hid (talCells_succ rows k)
        clear hb HTk hL hown
        generalize Rk.tal rows k 0 = T0 at *
        generalize Rk.tal rows k 1 = T1 at *
        generalize Rk.tal rows k 2 = T2 at *
        generalize Rk.tal rows k 3 = T3 at *
        go_wp2_with (at_builtin; go_must (refine wpList_append_any _ rfl _ _ 29 rfl w1.heap.size 35 i0 _ 4 32 Tryz.underlying29 hi0 hz0 hz1 hz2 rfl (by decide) _ k _ rfl (own_kept HO3.out (World.grownBy_alloc _ _ none) (fun g e => by cases e)) (w3.heap.size + 1) _ 1 _ [.int .i64 T0, .int .i64 T1, .int .i64 T2, .int .i64 T3] rfl (reads_blk (Blk.new w3 _ _) (by omega) rfl) ?d2 ?d3 ?d4 ?d5 ?_))
        case d2 => intro u hu; simp at hu; rcases hu with rfl | rfl | rfl | rfl <;> rfl
        case d3 => unfold maxLen; omega
        case d4 => omega
        case d5 => simp; omega
        intro v2 w4 hown2 hg2 hat2
        have Ho := Lib.hid (show w4.ownsRow w1.heap.size 35 4 v2 (k + 1) (talCells rows (k + 1)) by rw [Hcs.out]; exact hown2)
        have Hb := Lib.hid (show Below w1.heap.size w1 w4 from (HL3.out.alloc HL3.out.size _).grown hg2 (by simp; omega) (fun k hk => own_row_ge HO3.out k hk))
        clear hown2 hg2 hat2 Hcs HO3 HL3
        go_wp2
        go_roundg (n - (k + 1))
        case rel => exact ⟨k + 1, hlt, rfl, by go_num, Ho, Hb⟩
        case measure => rw [Hg.out]; omega
      · obtain rfl : k = n := by omega
        obtain ⟨g, cap, e, hcap, hlt3⟩ := hown.out.form (by omega)
        subst e
        have HL := Lib.hid (show Below w.heap.size w wr from HB.out.trans (hL.out.mono HB.out.size))
        have Hge := Lib.hid (show w.heap.size ≤ g from Nat.le_trans HB.out.size (own_row_ge hown.out g rfl))
        have Hcell := Lib.hid (fun c j (hc : c < k) (hj : j < 4) => hown.out.cells (g := g) rfl _ _ (talCells_get rows k c j hc hj))
        clear hL hown
        go_wp2
        go_ret2
        refine ⟨_, by rw [Hh.out]; rfl, HL.out, fun h => absurd Hh.out h, fun _ => ⟨g, _, rfl, Hge.out, hlt3, fun c j hc hj => ?_⟩⟩
        have h := Hcell.out c j hc hj
        have a : (⟨g, 0, none⟩ : Addr).add (c * 4 + j) = ⟨g, c * 4 + j, none⟩ := by
          unfold Addr.add; split
          · rename_i h0; simp_all
          · simp
        rw [a] at h
        exact h
  · have hne : (specErr parts rows != 0) = true := by simpa using h
    have Hh := Lib.hid h
    obtain ⟨A, cv, vs, rfl, j1, j2, j3, j4⟩ := hv
    clear j1 j2 j3 j4 h hB
    obtain ⟨err, herr⟩ : ∃ err, specErr parts rows = err := ⟨_, rfl⟩
    unfold RTlsPost
    rw [herr] at Hh hne HC ⊢
    go_enter Tryz.func8, Tryz.ntmps8
    go_wp2_with fail
    refine (HC.out _ (al1r _ _)).mono ?_
    rintro e w1 ⟨rfl, hb⟩
    have HB := Lib.hid ((al1r w _).trans (hb.mono (by simp)))
    clear hb herr
    go_wp2
    go_ret2
    exact ⟨_, rfl, HB.out, fun _ => rfl, fun h => absurd h Hh.out⟩
end Go.Proofs.YtfpmbjobieeidaaGreat
namespace Go.Proofs.YtfpmbjobieeidaaGreat
open Go.RowKit

/-- Which of the first rows cover a component. -/
def Rk.coversTo (rows : List RowL) (c : Int) (k : Nat) : List Int := ((List.range k).filter fun i => decide (c ∈ (Rk.rowAt rows i).1)).map fun i : Nat => (i : Int)
theorem Rk.coversTo_yes {rows : List RowL} {c : Int} {k : Nat} (h : c ∈ (Rk.rowAt rows k).1) : Rk.coversTo rows c (k + 1) = Rk.coversTo rows c k ++ [(k : Int)] := by
  unfold Rk.coversTo
  rw [List.range_succ, List.filter_append, List.map_append, List.filter_cons_of_pos (by simpa using h)]
  rfl
theorem Rk.coversTo_no {rows : List RowL} {c : Int} {k : Nat} (h : c ∉ (Rk.rowAt rows k).1) : Rk.coversTo rows c (k + 1) = Rk.coversTo rows c k := by
  unfold Rk.coversTo
  rw [List.range_succ, List.filter_append, List.map_append, List.filter_cons_of_neg (by simpa using h)]
  simp
theorem Rk.coversTo_len (rows : List RowL) (c : Int) (k : Nat) : (Rk.coversTo rows c k).length ≤ k := by
  unfold Rk.coversTo
  have := List.length_filter_le (fun i => decide (c ∈ (Rk.rowAt rows i).1)) (List.range k)
  rw [List.length_range] at this
  rwa [List.length_map]

set_option maxRecDepth 100000 in
set_option maxHeartbeats 1000000 in
theorem covers_any (parts : Int) (v : Value) (rows : List RowL) (c : Int) (B : Nat) (w : World) (hv : Rows w B v rows) (hB : B ≤ w.heap.size) (hr64 : rows.length ≤ 64) :
    Calls Tryz.prog 47 #[.agg #[.int .i64 parts, v], .int .i64 c] w fun e w' => ∃ v', e = .returned v' ∧ OwnInts w' (w.heap.size + 1) v' (Rk.coversTo rows c rows.length) ∧ Below w.heap.size w w' := by
  have HH := Lib.hid (fun u xs W (hu : Ints W B u xs) => has_any u xs c B W hu)
  have HB0 := Lib.hid hB
  obtain ⟨A, cv, vs, rfl, j1, j2, hr, hi⟩ := hv
  obtain ⟨i0, hi0, hz0, hz1, hz2⟩ := info_parts info_int
  have Hr := Lib.hid hr
  have Hi := Lib.hid hi
  clear j1 hr hi hB
  obtain ⟨W0, hW0⟩ : ∃ W0, W0 = w.alloc (.cells #[.int .i64 parts, .slice A rows.length cv] 24) := ⟨_, rfl⟩
  have HS0 := Lib.hid (show Blk W0 w.heap.size 24 #[.int .i64 parts, .slice A rows.length cv] by rw [hW0]; exact Blk.new w _ _)
  have HL0 := Lib.hid (show Below w.heap.size w W0 by rw [hW0]; exact (Below.refl _ w).alloc (Nat.le_refl _) _)
  have hs0 : W0.heap.size = w.heap.size + 1 := by rw [hW0]; simp
  have HW0 := Lib.hid hW0
  have Hs0 := Lib.hid hs0
  clear hW0 hs0
  go_enter Tryz.func47, Tryz.ntmps47
  go_wp2
  rw [← HW0.out]
  go_loopg [5, 6] rows.length (fun g s5 s6 wr => ∃ k : Nat, k ≤ rows.length ∧ g = rows.length - k ∧ s6 = .int .i64 k ∧ Hid (OwnInts wr (w.heap.size + 1) s5 (Rk.coversTo rows c k)) ∧ Hid (Below (w.heap.size + 1) W0 wr))
  case atStart => exact ⟨0, Nat.zero_le _, rfl, rfl, ⟨by simp [Rk.coversTo], .inl ⟨rfl, by simp [Rk.coversTo]⟩⟩, Below.refl _ _⟩
  case round =>
    obtain ⟨k, hk, hg, rfl, hown, hL⟩ := hrel
    have Hg := Lib.hid hg
    clear hg
    have hS := HS0.out.below hL.out (by omega)
    have s0 := hS.cell 0
    have s1 := hS.cell 1
    have hlt0 : w.heap.size < wr.heap.size := hS.lt
    have HLw := Lib.hid (show Below w.heap.size w wr from HL0.out.trans (hL.out.mono (Nat.le_succ _)))
    simp only [List.getElem?_toArray, List.getElem?_cons_zero, List.getElem?_cons_succ] at s0 s1
    clear hS
    by_cases hlt : k < rows.length
    · obtain ⟨ad, u, rfl, hadb, hc0, hc1, hu⟩ := rows_at Hr.out Hi.out hlt
      have hadw : ad.block < w.heap.size := Nat.lt_of_lt_of_le hadb HB0.out
      have x0 := keepB HLw.out (p := ad.add (k * 2)) (by rw [block_of_add]; exact hadw) hc0
      have HH2 := Lib.hid (HH.out u _ wr (hu.keep (fun p hp => HLw.out.cell (Nat.lt_of_lt_of_le hp HB0.out))))
      have Hl := Lib.hid (Rk.coversTo_len rows c k)
      obtain ⟨hb, hhb⟩ : ∃ hb, hb = decide (c ∈ (Rk.rowAt rows k).1) := ⟨_, rfl⟩
      rw [← hhb] at HH2
      clear hc0 hc1 hu hadb
      cases hb
      · have Ho := Lib.hid (show OwnInts wr (w.heap.size + 1) _ (Rk.coversTo rows c (k + 1)) by rw [Rk.coversTo_no (of_decide_eq_false hhb.symm)]; exact hown.out)
        clear hhb hown Hl
        go_wp2_with fail
        refine HH2.out.mono ?_
        rintro e w2 ⟨rfl, rfl⟩
        go_wp2
        go_roundg (rows.length - (k + 1))
        case rel => exact ⟨k + 1, hlt, rfl, by go_num, Ho.out, hL.out⟩
        case measure => rw [Hg.out]; omega
      · have Hy := Lib.hid (Rk.coversTo_yes (of_decide_eq_true hhb.symm))
        clear hhb
        obtain ⟨wo, rfl⟩ : ∃ wo : World, wo = wr := ⟨_, rfl⟩
        go_wp2_with fail
        refine HH2.out.mono ?_
        rintro e w2 ⟨rfl, rfl⟩
        go_wp2_with (at_builtin; go_must (refine wpList_append_any _ rfl _ _ 26 rfl (w.heap.size + 1) 3 i0 _ 1 8 Tryz.underlying26 hi0 hz0 hz1 hz2 rfl (by decide) _ (Rk.coversTo rows c k).length _ rfl (own_kept hown.out (World.grownBy_alloc _ _ none) (fun g e => by cases e)) (wo.heap.size + 1) _ 1 _ [.int .i64 k] rfl (reads_one (by omega) (cell_new0 _ _ _)) ?d2 ?d3 ?d4 ?d5 ?_))
        case d2 => first | rfl | (intro u hu; simp at hu; subst hu; rfl)
        case d3 => have := Hl.out; unfold maxLen; omega
        case d4 => have := Hl.out; omega
        case d5 => simp; omega
        intro v2 w3 hown2 hg2 hat2
        have Ho := Lib.hid (show OwnInts w3 (w.heap.size + 1) v2 (Rk.coversTo rows c (k + 1)) by rw [Hy.out]; exact own_snoc hown2)
        have Hb := Lib.hid (show Below (w.heap.size + 1) W0 w3 from (hL.out.alloc (by have := hL.out.size; have := Hs0.out; omega) _).grown hg2 (by have := hL.out.size; have := Hs0.out; simp; omega) (fun k hk => own_row_ge hown.out k hk))
        clear hown2 hg2 hat2 Hy Hl hown hL
        go_wp2
        go_roundg (rows.length - (k + 1))
        case rel => exact ⟨k + 1, hlt, rfl, by go_num, Ho.out, Hb.out⟩
        case measure => rw [Hg.out]; omega
    · obtain rfl : k = rows.length := by omega
      go_wp2
      go_ret
      exact ⟨_, rfl, hown.out, HLw.out⟩
end Go.Proofs.YtfpmbjobieeidaaGreat
namespace Go.Proofs.YtfpmbjobieeidaaGreat
open Go.RowKit

theorem Rk.coversTo_mem {rows : List RowL} {c : Int} {k : Nat} (i : Nat) : (i : Int) ∈ Rk.coversTo rows c k ↔ i < k ∧ c ∈ (Rk.rowAt rows i).1 := by
  unfold Rk.coversTo
  rw [List.mem_map]
  constructor
  · rintro ⟨j, hj, e⟩
    obtain rfl : j = i := by omega
    rw [List.mem_filter, List.mem_range] at hj
    exact ⟨hj.1, of_decide_eq_true hj.2⟩
  · rintro ⟨h1, h2⟩
    exact ⟨i, by rw [List.mem_filter, List.mem_range]; exact ⟨h1, decide_eq_true h2⟩, rfl⟩
theorem Rk.covers_iff (rows : List RowL) (a b : Nat) : Rk.coversTo rows a rows.length = Rk.coversTo rows b rows.length ↔ Rk.cov rows a = Rk.cov rows b := by
  have hr : ∀ i (h : i < rows.length), Rk.rowAt rows i = rows[i] := fun i h => by unfold Rk.rowAt; rw [List.getD_eq_getElem?_getD, List.getElem?_eq_getElem h]; rfl
  constructor
  · intro h
    unfold Rk.cov
    refine List.map_inj_left.2 fun r hr' => ?_
    obtain ⟨i, hi, rfl⟩ := List.mem_iff_getElem.1 hr'
    have h1 := Rk.coversTo_mem (rows := rows) (c := (a : Int)) (k := rows.length) i
    have h2 := Rk.coversTo_mem (rows := rows) (c := (b : Int)) (k := rows.length) i
    rw [h, h2, hr i hi] at h1
    exact decide_eq_decide.2 ⟨fun h3 => (h1.2 ⟨hi, h3⟩).2, fun h3 => (h1.1 ⟨hi, h3⟩).2⟩
  · intro h
    unfold Rk.cov at h
    have h' := List.map_inj_left.1 h
    unfold Rk.coversTo
    congr 1
    refine List.filter_congr fun i hi => ?_
    have hi' := List.mem_range.1 hi
    rw [hr i hi']
    exact h' _ (List.getElem_mem hi')
theorem below_r {W0 W w1 : World} (h : Below W0.heap.size W0 W) (hb : Below W.heap.size W w1) : Below W0.heap.size W0 w1 := h.trans (hb.mono h.size)
theorem own_two' {w : World} {base : Nat} {e : TypeId} {n s c : Nat} {A : Option Addr} {xs : List Value} (h : w.ownsRow base e s (.slice A n c) n xs) : (A = none ∧ n = 0 ∧ c = 0) ∨ ∃ g, A = some ⟨g, 0, none⟩ := by
  rcases h.2 with ⟨e, _⟩ | ⟨g, cap, cur, e, _⟩
  · injection e with e1 e2 e3
    exact .inl ⟨e1, e2, e3⟩
  · injection e with e1 e2 e3
    exact .inr ⟨g, e1⟩
/-- Behind an append of one row more, of a block of its own. -/
theorem OwnApart.snoc_one {w w' : World} {base : Nat} {v v' u : Value} {xs : List Int} {xss : List (List Int)} {us : List Value} (hr : w.ownsRow base 26 1 v xss.length us)
    (hi : ∀ i, i < xss.length → ∃ u, us[i]? = some u ∧ OwnInts w base u (xss.getD i [])) (hd : ApartV us) (hu : OwnInts w base u xs) (hf : ∀ (i : Nat) (a : Value), us[i]? = some a → ∀ g, a.ownBlock = some g → u.ownBlock ≠ some g)
    (hown : w'.ownsRow base 26 1 v' (xss.length + 1) (us ++ [u])) (hg : w.grownBy w' v.ownBlock) : OwnApart w' base v' (xss ++ [xs]) := by
  have hl : us.length = xss.length := by simpa using hr.1
  have keep : ∀ {u' : Value} {ys : List Int}, OwnInts w base u' ys → OwnInts w' base u' ys := fun h => own_kept h hg (fun g e => own_own_ne hr h (by decide) e)
  have hlast : ∀ (j : Nat) (a : Value), ¬ j < us.length → [u][j - us.length]? = some a → a = u ∧ j = us.length := fun j a h e => by
    rcases (show j - us.length = 0 ∨ 0 < j - us.length by omega) with h0 | h0
    · rw [h0] at e
      injection e with e
      exact ⟨e.symm, by omega⟩
    · rw [List.getElem?_eq_none (by simp; omega)] at e; cases e
  refine ⟨us ++ [u], by simpa using hown, fun i hlt => ?_, fun i j a b e1 e2 hij g e3 e4 => ?_⟩
  · by_cases h : i < xss.length
    · obtain ⟨u', h1, h2⟩ := hi i h
      refine ⟨u', by rw [List.getElem?_append_left (by omega)]; exact h1, ?_⟩
      rw [List.getD_eq_getElem?_getD, List.getElem?_append_left h, ← List.getD_eq_getElem?_getD]
      exact keep h2
    · have e : i = xss.length := by simp at hlt; omega
      subst e
      refine ⟨u, by rw [List.getElem?_append_right (by omega), hl, Nat.sub_self]; rfl, ?_⟩
      rw [List.getD_eq_getElem?_getD, List.getElem?_append_right (Nat.le_refl _), Nat.sub_self]
      exact keep hu
  · rw [List.getElem?_append] at e1 e2
    split at e1
    · split at e2
      · exact hd i j a b e1 e2 hij g e3 e4
      · rename_i h
        obtain ⟨rfl, _⟩ := hlast j b h e2
        exact hf i a e1 g e3 e4
    · rename_i h
      obtain ⟨rfl, hi'⟩ := hlast i a h e1
      split at e2
      · exact hf j b e2 g e4 e3
      · rename_i h2
        obtain ⟨_, hj'⟩ := hlast j b h2 e2
        omega

set_option maxRecDepth 100000 in
set_option maxHeartbeats 2000000 in
theorem ralike_yes (n : Nat) (v : Value) (rows : List RowL) (B : Nat) (w : World) (hv : Rows w B v rows) (hB : B ≤ w.heap.size) (h : specErr n rows = 0) :
    Calls Tryz.prog 15 #[.agg #[.int .i64 n, v]] w (AlkPost n rows w) := by
  have HC := Lib.hid (fun W (hb : Below w.heap.size w W) => rcheckspectrum_any n v rows B W (hv.below (hb.mono hB)) (by have := hb.size; omega))
  obtain ⟨z0, z1, z2, z3⟩ : 1 ≤ n ∧ n ≤ 256 ∧ rows.length ≤ 64 ∧ ∀ i, i < rows.length → Rk.Incr n (Rk.rowAt rows i).1 := by
    unfold specErr at h
    split at h
    · cases h
    · split at h
      · cases h
      · split at h
        · rename_i h3
          exact ⟨by omega, by omega, by omega, fun i hi => of_decide_eq_true (h3 i hi)⟩
        · cases h
  have HCv := Lib.hid (fun (c : Int) W (hb : Below w.heap.size w W) => covers_any n v rows c B W (hv.below (hb.mono hB)) (by have := hb.size; omega) z2)
  have Hh := Lib.hid h
  rw [h] at HC
  obtain ⟨A, cv, vs, rfl, j1, hm, hr, hi⟩ := hv
  clear j1 hr hi h z3 hm
  obtain ⟨i0, hi0, hz0, hz1, hz2⟩ := info_parts info_int
  obtain ⟨j0, hj0, yz0, yz1, yz2⟩ := info_parts info_ints
  go_enter Tryz.func15, Tryz.ntmps15
  go_wp2_with fail
  refine (HC.out _ ((Below.refl _ w).alloc (Nat.le_refl _) _)).mono ?_
  rintro e w1 ⟨rfl, hb⟩
  have S1 : Blk w1 w.heap.size 24 #[.int .i64 n, .slice A rows.length cv] := (Blk.new w _ _).below hb (by simp)
  have HB := Lib.hid (show Below w.heap.size w w1 from ((Below.refl _ w).alloc (Nat.le_refl _) _).trans (hb.mono (by simp)))
  have HS1 := Lib.hid S1
  have ltw : w.heap.size < w1.heap.size := S1.lt
  clear hb HC S1
  go_wp2
  go_loopg [5, 6] n (fun g s5 s6 wr => ∃ c : Nat, c ≤ n ∧ g = n - c ∧ s6 = .int .i64 c ∧ Hid (OwnApart wr w1.heap.size s5 (Rk.alike rows c)) ∧ Hid (Below w1.heap.size w1 wr))
  case atStart => exact ⟨0, Nat.zero_le _, rfl, rfl, OwnApart.nil _ _, Below.refl _ _⟩
  case round =>
    obtain ⟨c, hc, hg, rfl, hap, hL⟩ := hrel
    have Hg := Lib.hid hg
    clear hg
    have hS := HS1.out.below hL.out ltw
    have s0 := hS.cell 0
    have s1 := hS.cell 1
    have hlt0 : w.heap.size < wr.heap.size := hS.lt
    simp only [List.getElem?_toArray, List.getElem?_cons_zero, List.getElem?_cons_succ] at s0 s1
    clear hS
    obtain ⟨a1, a2, a3⟩ := Rk.alike_ok rows c
    have Ha3 := Lib.hid a3
    obtain ⟨us0, hr0, -, -⟩ := hap.out
    obtain ⟨A5, c5, ev5, -, -, -⟩ := own_form hr0
    subst ev5
    clear hr0 us0 a1 a3
    by_cases hlt : c < n
    · obtain ⟨wo, rfl⟩ : ∃ wo : World, wo = wr := ⟨_, rfl⟩
      have hcn : (c : Int) < (n : Int) := by omega
      go_wp2
      go_loopg [7, 8] (Rk.alike rows c).length (fun g s7 s8 wy => ∃ (k : Nat) (old : Bool), k ≤ (Rk.alike rows c).length ∧ g = (Rk.alike rows c).length - k ∧ s7 = .bool old ∧ s8 = .int .i64 k ∧ Hid (if old = true then OwnApart wy w1.heap.size (.slice A5 (Rk.alike rows c).length c5) (Rk.alike rows (c + 1)) else (OwnApart wy w1.heap.size (.slice A5 (Rk.alike rows c).length c5) (Rk.alike rows c) ∧ ∀ i, i < k → Rk.alkFit rows c ((Rk.alike rows c).getD i []) = false)) ∧ Hid (Below w1.heap.size w1 wy))
      case atStart => exact ⟨0, false, Nat.zero_le _, rfl, rfl, rfl, ⟨hap.out, fun i h => absurd h (by omega)⟩, hL.out⟩
      case round =>
        obtain ⟨k, old, hk, hg2, rfl, rfl, hq, hL2⟩ := hrel
        have Hg2 := Lib.hid hg2
        clear hg2 hap hL s0 s1 hlt0
        have hS := HS1.out.below hL2.out ltw
        have s0 := hS.cell 0
        have s1 := hS.cell 1
        have hlt0 : w.heap.size < wr.heap.size := hS.lt
        simp only [List.getElem?_toArray, List.getElem?_cons_zero, List.getElem?_cons_succ] at s0 s1
        clear hS
        cases old
        · obtain ⟨hap, hno⟩ := (show OwnApart wr w1.heap.size (.slice A5 (Rk.alike rows c).length c5) (Rk.alike rows c) ∧ ∀ i, i < k → Rk.alkFit rows c ((Rk.alike rows c).getD i []) = false from hq.out)
          have Hap := Lib.hid hap
          have Hno := Lib.hid hno
          clear hap hno hq
          by_cases hkl : k < (Rk.alike rows c).length
          · have hkz : (k : Int) < ((Rk.alike rows c).length : Int) := by omega
            obtain ⟨us, hr, hi, hd⟩ := Hap.out
            obtain ⟨gO, rfl⟩ : ∃ g, A5 = some ⟨g, 0, none⟩ := (own_two' hr).resolve_left (by omega)
            obtain ⟨u, hu, huo⟩ := hi k hkl
            have hgm : (Rk.alike rows c).getD k [] ∈ Rk.alike rows c := Rk.memD hkl
            obtain ⟨b1, b2, b3⟩ := Ha3.out _ hgm
            obtain ⟨Au, cu, eu, -, -, -⟩ := own_form huo
            subst eu
            obtain ⟨gU, rfl⟩ : ∃ g, Au = some ⟨g, 0, none⟩ := (own_two' huo).resolve_left (by omega)
            have c_u := own_cell hr hu
            have f_u := own_frozen hr k
            have hgO := own_row_lt hr gO rfl
            have hgU := own_row_lt huo gU rfl
            obtain ⟨hd0, hhd⟩ : ∃ hd0 : Nat, (hd0 : Int) = ((Rk.alike rows c).getD k []).headD 0 ∧ Rk.alkFit rows c ((Rk.alike rows c).getD k []) = decide (Rk.coversTo rows hd0 rows.length = Rk.coversTo rows c rows.length) := by
              have hh : ((Rk.alike rows c).getD k []).headD 0 ∈ (Rk.alike rows c).getD k [] := by
                cases hq : (Rk.alike rows c).getD k [] with
                | nil => rw [hq] at b1; simp at b1
                | cons x l => simp
              have := b3 _ hh
              refine ⟨(((Rk.alike rows c).getD k []).headD 0).toNat, by omega, ?_⟩
              unfold Rk.alkFit
              exact decide_eq_decide.2 (Rk.covers_iff rows _ _).symm
            have hhc : wr.cell? ⟨gU, 0, none⟩ = some (.int .i64 hd0) := by
              refine own_cell huo (i := 0) ?_
              rw [hhd.1]
              cases hq : (Rk.alike rows c).getD k [] with
              | nil => rw [hq] at b1; simp at b1
              | cons x l => simp
            have HLw := Lib.hid (show Below w.heap.size w wr from HB.out.trans (hL2.out.mono HB.out.size))
            have hlen : 0 < ((Rk.alike rows c).getD k []).length := b1
            have hlen2 : ((Rk.alike rows c).getD k []).length ≤ 256 := by omega
            have hzl : (0 : Int) < (((Rk.alike rows c).getD k []).length : Int) := by omega
            obtain ⟨bb, hbb⟩ : ∃ bb, bb = decide (Rk.coversTo rows hd0 rows.length = Rk.coversTo rows c rows.length) := ⟨_, rfl⟩
            have Hfit := Lib.hid (hhd.2.trans hbb.symm)
            have Hbb := Lib.hid hbb
            have Hus := Lib.hid (And.intro hr (And.intro hi hd))
            have Huo := Lib.hid huo
            have Hu := Lib.hid hu
            clear hr hi hd huo hu hhd hbb b1 b2 b3 hgm
            have Hput := Lib.hid (fun (h : bb = true) => show Rk.alike rows (c + 1) = (Rk.alike rows c).set k ((Rk.alike rows c).getD k [] ++ [(c : Int)]) from Rk.alkPut_at hkl (Hfit.out.trans h) Hno.out)
            obtain ⟨wo, rfl⟩ : ∃ wo : World, wo = wr := ⟨_, rfl⟩
            obtain ⟨G, hG⟩ : ∃ G, G = (Rk.alike rows c).getD k [] := ⟨_, rfl⟩
            rw [← hG] at c_u Huo Hput hlen hlen2 hzl Hu
            have HG := Lib.hid hG
            clear hG
            go_wp2_with fail
            go_region_held3 (fun w' => w'.cell? ⟨w.heap.size, 0, none⟩ = some (.int .i64 n) ∧ w'.cell? ⟨w.heap.size, 1, none⟩ = some (.slice A rows.length cv) ∧ w'.cell? ⟨gO, k, none⟩ = some (.slice (some ⟨gU, 0, none⟩) G.length cu) ∧ w'.cell? ⟨gU, 0, none⟩ = some (.int .i64 hd0))
              (first
                | exact ⟨keepB hB3 hlt0 s0, keepB hB3 hlt0 s1, keepB hB3 hgO.2 c_u, keepB hB3 hgU.2 hhc⟩
                | exact ⟨keepB hB2 hlt0 s0, keepB hB2 hlt0 s1, keepB hB2 hgO.2 c_u, keepB hB2 hgU.2 hhc⟩
                | exact ⟨keepB hB1 hlt0 s0, keepB hB1 hlt0 s1, keepB hB1 hgO.2 c_u, keepB hB1 hgU.2 hhc⟩
                | go_keep)
              (first
                | (go_at_call 47
                   have hB1' := hB1
                   clear hB1'
                   refine (HCv.out (c : Int) _ (below_r HLw.out hB1)).mono ?_
                   rintro e w7 ⟨vb, rfl, hob, hb7⟩
                   have hB2 : Below wo.heap.size wo w7 := below_r hB1 hb7
                   have HIb := Lib.hid (hob.reads (by have := Rk.coversTo_len rows c rows.length; omega))
                   have HIa2 := Lib.hid ((HIa.out.below hb7).more hb7.size)
                   clear hob hb7)
                | (go_at_call 47
                   refine (HCv.out (hd0 : Int) _ (below_r HLw.out (by repeat (first | exact Below.refl _ _ | apply Below.drew)))).mono ?_
                   rintro e w6 ⟨va, rfl, hoa, hb6⟩
                   have hB1 : Below wo.heap.size wo w6 := below_r (by repeat (first | exact Below.refl _ _ | apply Below.drew)) hb6
                   have HIa := Lib.hid (hoa.reads (by have := Rk.coversTo_len rows hd0 rows.length; omega))
                   clear hoa hb6)
                | (go_at_call 46
                   refine (rints_any va vb _ _ w7.heap.size w7 HIa2.out HIb.out).mono ?_
                   rw [← Hbb.out]
                   rintro e w8 ⟨rfl, q8, hq8⟩
                   have hB3 : Below wo.heap.size wo w8 := by rw [hq8]; exact below_drewN hB2 q8
                   clear hq8))
            have hr8 := own_below Hus.out.1 hB3 (Nat.le_refl _)
            have huo8 := own_below Huo.out hB3 (Nat.le_refl _)
            have hi8 : ∀ i, i < (Rk.alike rows c).length → ∃ u, us[i]? = some u ∧ OwnInts w8 w1.heap.size u ((Rk.alike rows c).getD i []) := fun i h => by
              obtain ⟨u, h1, h2⟩ := Hus.out.2.1 i h
              exact ⟨u, h1, own_below h2 hB3 (Nat.le_refl _)⟩
            have HL8 := Lib.hid (show Below w1.heap.size w1 w8 from hL2.out.trans (hB3.mono hL2.out.size))
            have hs8 := hL2.out.size
            have hs8' := hB3.size
            cases bb
            · have Hn := Lib.hid (show OwnApart w8 w1.heap.size (.slice (some ⟨gO, 0, none⟩) (Rk.alike rows c).length c5) (Rk.alike rows c) ∧ ∀ i, i < k + 1 → Rk.alkFit rows c ((Rk.alike rows c).getD i []) = false from
                ⟨⟨us, hr8, hi8, Hus.out.2.2⟩, fun i h => by
                  by_cases e : i = k
                  · rw [e]; exact Hfit.out
                  · exact Hno.out i (by omega)⟩)
              clear hr8 huo8 hi8 hhc c_u f_u
              go_wp2
              go_roundg ((Rk.alike rows c).length - (k + 1))
              case rel => exact ⟨k + 1, false, hkl, rfl, rfl, by go_num, Lib.hid Hn.out, HL8.out⟩
              case measure => rw [Hg2.out]; omega
            · have c_u8 := own_cell hr8 Hu.out
              have f_u8 := own_frozen hr8 k
              have hgO8 : gO < w8.heap.size := Nat.lt_of_lt_of_le hgO.2 hs8'
              obtain ⟨W5, hW5⟩ : ∃ W5, W5 = w8.alloc (.cells #[.int .i64 c] 3) := ⟨_, rfl⟩
              have HW5 := Lib.hid hW5
              have Hg5 := Lib.hid (show w8.grownBy W5 none by rw [hW5]; exact World.grownBy_alloc _ _ none)
              have hs5 : W5.heap.size = w8.heap.size + 1 := by rw [hW5]; simp
              have Hc5 := Lib.hid (show W5.cell? ⟨w8.heap.size, 0, none⟩ = some (.int .i64 c) by rw [hW5]; exact (Blk.new _ _ _).cell 0)
              have Hr8 := Lib.hid (And.intro hr8 hi8)
              have Huo8 := Lib.hid huo8
              clear hr8 hi8 huo8 hW5 hhc c_u f_u
              go_wp2_with (at_builtin; go_must (rw [← HW5.out]; refine wpList_append_any _ rfl _ _ 26 rfl w1.heap.size 3 i0 _ 1 8 Tryz.underlying26 hi0 hz0 hz1 hz2 rfl (by decide) _ G.length _ rfl (own_kept Huo8.out Hg5.out (fun g e => by cases e)) (w8.heap.size + 1) _ 1 _ [.int .i64 c] rfl (reads_one (by omega) Hc5.out) ?d2 ?d3 ?d4 ?d5 ?_))
              case d2 => first | rfl | (intro u hu; simp at hu; subst hu; rfl)
              case d3 => unfold maxLen; omega
              case d4 => omega
              case d5 => omega
              intro v2 w9 hown2 hg9 hat2
              obtain ⟨A2, c2, ev2, -, -, -⟩ := own_form hown2
              subst ev2
              have hgg : w8.grownBy w9 (Value.slice (some ⟨gU, 0, none⟩) G.length cu).ownBlock := (Hg5.out.but _).trans hg9
              have hL9 := OwnApart.longer rfl Hr8.out.1 Hr8.out.2 Hus.out.2.2 hkl Hu.out (by rw [← HG.out]; exact own_snoc hown2) hgg (hat2.imp id fun h => ⟨_, h, by omega⟩)
              rw [← HG.out, ← Hput.out (by first | exact rfl | trivial)] at hL9
              have HL9 := Lib.hid hL9
              have hset : w9.grownBy (w9.setCell ⟨gO, k, none⟩ (.slice A2 (G.length + 1) c2)) (some gO) := grown_setCell w9 ⟨gO, k, none⟩ _
              have hr9 := own_kept Hr8.out.1 hgg (fun g e => own_own_ne Huo8.out Hr8.out.1 (by decide) e)
              have k1 := own_cell hr9 Hu.out
              have k2 := own_frozen hr9 k
              have k3 : gO < w9.heap.size := Nat.lt_of_lt_of_le hgO8 hgg.size
              have HB9 := Lib.hid (show Below w1.heap.size w1 (w9.setCell ⟨gO, k, none⟩ (.slice A2 (G.length + 1) c2)) from (HL8.out.grown hgg HL8.out.size (own_row_ge Huo8.out)).grown hset (Nat.le_trans HL8.out.size hgg.size) (fun b e => by injection e with e; omega))
              clear hown2 hg9 hat2 hgg hL9 hset hr9
              go_wp2
              go_roundg ((Rk.alike rows c).length - (k + 1))
              case rel => exact ⟨k + 1, true, hkl, rfl, rfl, by go_num, Lib.hid HL9.out, HB9.out⟩
              case measure => rw [Hg2.out]; omega
          · obtain rfl : k = (Rk.alike rows c).length := by omega
            have Hput := Lib.hid (show Rk.alike rows (c + 1) = Rk.alike rows c ++ [[(c : Int)]] from Rk.alkPut_new Hno.out)
            obtain ⟨wo, rfl⟩ : ∃ wo : World, wo = wr := ⟨_, rfl⟩
            obtain ⟨W1, hW1⟩ : ∃ W1, W1 = wo.alloc (.cells #[.int .i64 c] 3) := ⟨_, rfl⟩
            obtain ⟨W2, hW2⟩ : ∃ W2, W2 = W1.alloc (.cells #[.slice (some ⟨wo.heap.size, 0, none⟩) 1 1] 26) := ⟨_, rfl⟩
            have hs1 : W1.heap.size = wo.heap.size + 1 := by rw [hW1]; simp
            have hs2 : W2.heap.size = wo.heap.size + 2 := by rw [hW2, World.size_alloc, hs1]
            have hsb := hL2.out.size
            have hg2 : wo.grownBy W2 none := by rw [hW2]; exact (show wo.grownBy W1 none by rw [hW1]; exact World.grownBy_alloc _ _ none).trans (World.grownBy_alloc _ _ none)
            have Hg2' := Lib.hid hg2
            have hu2 : OwnInts W2 w1.heap.size (.slice (some ⟨wo.heap.size, 0, none⟩) 1 1) [(c : Int)] := by
              rw [hW2]
              refine own_kept (row := none) ?_ (World.grownBy_alloc _ _ none) (fun g e => by cases e)
              rw [hW1]
              exact World.ownsRow_lit wo #[.int .i64 c] 1 hsb (by decide) rfl
            have Hu2 := Lib.hid hu2
            obtain ⟨us, hr', hi', hd⟩ := Hap.out
            have hr := own_kept hr' hg2 (fun g e => by cases e)
            have hi : ∀ i, i < (Rk.alike rows c).length → ∃ u, us[i]? = some u ∧ OwnInts W2 w1.heap.size u ((Rk.alike rows c).getD i []) := fun i h => by
              obtain ⟨u, h1, h2⟩ := hi' i h
              exact ⟨u, h1, own_kept h2 hg2 (fun g e => by cases e)⟩
            have hc2 : W2.cell? ⟨W1.heap.size, 0, none⟩ = some (.slice (some ⟨wo.heap.size, 0, none⟩) 1 1) := by rw [hW2]; exact (Blk.new _ _ _).cell 0
            have Hc2 := Lib.hid hc2
            have hf : ∀ (i : Nat) (a : Value), us[i]? = some a → ∀ g, a.ownBlock = some g → (Value.slice (some ⟨wo.heap.size, 0, none⟩) 1 1).ownBlock ≠ some g := fun i a h1 g h2 h3 => by
              have hlen : i < (Rk.alike rows c).length := by
                have hl : us.length = (Rk.alike rows c).length := by simpa using hr.1
                rcases Nat.lt_or_ge i us.length with h | h
                · omega
                · rw [List.getElem?_eq_none h] at h1; cases h1
              obtain ⟨a', h4, h5⟩ := hi' i hlen
              obtain rfl : a = a' := by rw [h1] at h4; exact Option.some.inj h4
              have h6 := (own_row_lt h5 g h2).2
              have h7 : some wo.heap.size = some g := h3
              injection h7 with h7
              omega
            have Hus := Lib.hid (And.intro hr (And.intro hi (And.intro hd hf)))
            have HW := Lib.hid (And.intro hW1 hW2)
            clear hr hi hd hf hW1 hW2 hc2 hu2 hg2 hr' hi'
            go_wp2_with (at_builtin; go_must (rw [← HW.out.1, ← hs1, ← HW.out.2]; refine wpList_append_any _ rfl _ _ 40 rfl w1.heap.size 26 j0 _ 1 24 Tryz.underlying40 hj0 yz0 yz1 yz2 rfl (by decide) _ (Rk.alike rows c).length us rfl Hus.out.1 (wo.heap.size + 2) _ 1 _ [.slice (some ⟨wo.heap.size, 0, none⟩) 1 1] rfl (reads_one (by omega) Hc2.out) ?e2 ?e3 ?e4 ?e5 ?_))
            case e2 => first | rfl | (intro u hu; simp at hu; subst hu; rfl)
            case e3 => unfold maxLen; omega
            case e4 => omega
            case e5 => omega
            intro v7 w7 hown7 hg7 hat7
            have hS := OwnApart.snoc_one Hus.out.1 Hus.out.2.1 Hus.out.2.2.1 Hu2.out Hus.out.2.2.2 hown7 hg7
            rw [← Hput.out] at hS
            have HS := Lib.hid hS
            have HB7 := Lib.hid (show Below w1.heap.size w1 w7 from (hL2.out.grown Hg2'.out hL2.out.size (fun g e => by cases e)).grown hg7 (by omega) (own_row_ge Hus.out.1))
            clear hown7 hg7 hat7 hS
            go_wp2
            go_roundg (n - (c + 1))
            case rel => exact ⟨c + 1, hlt, rfl, by go_num, HS.out, HB7.out⟩
            case measure => rw [Hg.out]; omega
        · have Hap := Lib.hid (show OwnApart wr w1.heap.size (.slice A5 (Rk.alike rows c).length c5) (Rk.alike rows (c + 1)) from hq.out)
          by_cases hkl : k < (Rk.alike rows c).length
          all_goals
            clear hq
            go_wp2
            go_roundg (n - (c + 1))
            case rel => exact ⟨c + 1, hlt, rfl, by go_num, Hap.out, hL2.out⟩
            case measure => rw [Hg.out]; omega
    · obtain rfl : c = n := by omega
      have HS := Lib.hid (hap.out.own.reads (by omega) (fun s hs => by have := (Ha3.out s hs).2.1; omega))
      have Ha := Lib.hid (show alkOf c rows = Rk.alike rows c by unfold alkOf; rw [if_pos Hh.out, Int.toNat_natCast])
      have HLw := Lib.hid (show Below w.heap.size w wr from HB.out.trans (hL.out.mono HB.out.size))
      clear hap hL
      go_wp2
      go_ret2
      exact ⟨_, by rw [Hh.out]; rfl, by rw [Ha.out]; exact HS.out, HLw.out⟩

set_option maxRecDepth 100000 in
theorem ralike_any (parts : Int) (v : Value) (rows : List RowL) (B : Nat) (w : World) (hv : Rows w B v rows) (hB : B ≤ w.heap.size) :
    Calls Tryz.prog 15 #[.agg #[.int .i64 parts, v]] w (AlkPost parts rows w) := by
  by_cases h : specErr parts rows = 0
  · have h1 : 1 ≤ parts := by
      unfold specErr at h
      split at h
      · cases h
      · omega
    obtain ⟨n, rfl⟩ : ∃ n : Nat, parts = n := ⟨parts.toNat, by omega⟩
    exact ralike_yes n v rows B w hv hB h
  · have HC := Lib.hid (fun W (hb : Below w.heap.size w W) => rcheckspectrum_any parts v rows B W (hv.below (hb.mono hB)) (by have := hb.size; omega))
    have hne : (specErr parts rows != 0) = true := by simpa using h
    have Ha := Lib.hid (show alkOf parts rows = [] by unfold alkOf; rw [if_neg h])
    obtain ⟨A, cv, vs, rfl, j1, j2, j3, j4⟩ := hv
    clear j1 j2 j3 j4 h hB
    unfold AlkPost
    rw [Ha.out]
    generalize specErr parts rows = err at *
    go_enter Tryz.func15, Tryz.ntmps15
    go_wp2_with fail
    refine (HC.out _ ((Below.refl _ w).alloc (Nat.le_refl _) _)).mono ?_
    rintro e w1 ⟨rfl, hb⟩
    have HB := Lib.hid (((Below.refl _ w).alloc (Nat.le_refl _) _).trans (hb.mono (by simp)))
    clear hb
    go_wp2
    go_ret2
    exact ⟨_, rfl, ⟨none, 0, [], rfl, Nat.le_refl _, Nat.zero_le _, Reads.none_, fun i hi => by simp at hi⟩, HB.out⟩
end Go.Proofs.YtfpmbjobieeidaaGreat
