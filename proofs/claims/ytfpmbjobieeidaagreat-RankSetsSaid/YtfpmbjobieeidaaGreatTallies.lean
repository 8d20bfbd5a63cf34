/-
  The walk of tallies.
-/
import Derived.Test.YtfpmbjobieeidaaGreatSpec
import Derived.Test.YtfpmbjobieeidaaGreatPlainA
import Derived.Test.YtfpmbjobieeidaaGreatBase
namespace Go.Proofs.YtfpmbjobieeidaaGreat
open Go.RowKit

/-- Block g holds n tallies. -/
def TalAt (w : World) (g n : Nat) (T : Nat → Nat → Int) : Prop := ∃ cur, Blk w g 35 cur ∧ cur.size = n * 4 ∧ ∀ c j, c < n → j < 4 → cur[c * 4 + j]? = some (.int .i64 (T c j))
section
variable {w w' : World} {g n : Nat} {T : Nat → Nat → Int}
theorem TalAt.blk (h : TalAt w g n T) : ∃ cur, Blk w g 35 cur := let ⟨cur, h, _⟩ := h; ⟨cur, h⟩
theorem TalAt.lt (h : TalAt w g n T) : g < w.heap.size := let ⟨_, h, _⟩ := h; h.lt
theorem TalAt.cell (h : TalAt w g n T) {c j : Nat} (hc : c < n) (hj : j < 4) : w.cell? ⟨g, c * 4 + j, none⟩ = some (.int .i64 (T c j)) := by
  obtain ⟨cur, hb, _, hk⟩ := h
  rw [hb.cell]
  exact hk c j hc hj
theorem TalAt.frozen (h : TalAt w g n T) (i : Nat) : w.frozen? ⟨g, i, none⟩ = false := let ⟨_, hb, _⟩ := h; hb.frozen i
theorem TalAt.kept (h : TalAt w g n T) (hk : w'.heap[g]? = w.heap[g]?) : TalAt w' g n T := by
  obtain ⟨cur, hb, hs, hc⟩ := h
  exact ⟨cur, hk.trans hb, hs, hc⟩
theorem TalAt.below {B : Nat} (h : TalAt w g n T) (hb : Below B w w') (hg : g < B) : TalAt w' g n T := h.kept (hb.block g hg)
theorem TalAt.alloc (h : TalAt w g n T) (o : Obj) : TalAt (w.alloc o) g n T := let ⟨cur, hb, h⟩ := h; ⟨cur, hb.alloc o, h⟩
theorem TalAt.drewN (h : TalAt w g n T) (k : Nat) : TalAt (w.drewN k) g n T := h
theorem TalAt.congr (h : TalAt w g n T) {T' : Nat → Nat → Int} (e : ∀ c j, c < n → j < 4 → T c j = T' c j) : TalAt w g n T' := by
  obtain ⟨cur, hb, hs, hc⟩ := h
  exact ⟨cur, hb, hs, fun c j h1 h2 => by rw [← e c j h1 h2]; exact hc c j h1 h2⟩
theorem TalAt.set_ (h : TalAt w g n T) {c j : Nat} (hc : c < n) (hj : j < 4) (v : Int) : TalAt (w.setCell ⟨g, c * 4 + j, none⟩ (.int .i64 v)) g n (Rk.upd T c j v) := by
  obtain ⟨cur, hb, hs, hk⟩ := h
  refine ⟨_, hb.set_ _ _, by simpa using hs, fun c' j' hc' hj' => ?_⟩
  rw [Array.getElem?_setIfInBounds]
  unfold Rk.upd
  by_cases e : c * 4 + j = c' * 4 + j'
  · have e1 : c' = c := by omega
    have e2 : j' = j := by omega
    rw [if_pos e, if_pos (by omega), if_pos ⟨e1, e2⟩]
  · rw [if_neg e, if_neg (fun h => e (by rw [h.1, h.2])), hk c' j' hc' hj']
theorem TalAt.made (w : World) (n : Nat) : TalAt (w.alloc (.cells (madeCells #[.int .i64 0, .int .i64 0, .int .i64 0, .int .i64 0] (n * 4)) 35)) w.heap.size n (fun _ _ => 0) := by
  refine ⟨_, Blk.new w _ _, size_madeCells _ _, fun c j hc hj => ?_⟩
  unfold madeCells
  have hlt : c * 4 + j < n * 4 := by omega
  rw [Array.getElem?_map, Array.getElem?_range, if_pos hlt]
  have e : (c * 4 + j) % 4 = j := by omega
  show some (#[Value.int .i64 0, .int .i64 0, .int .i64 0, .int .i64 0][(c * 4 + j) % 4]!) = _
  rw [e]
  rcases (show j = 0 ∨ j = 1 ∨ j = 2 ∨ j = 3 by omega) with rfl | rfl | rfl | rfl <;> rfl
end
theorem info_tally : (Tryz.prog.info? 35).map (fun i => (i.zero, i.size, i.bytes)) = some (some (.agg #[.int .i64 0, .int .i64 0, .int .i64 0, .int .i64 0]), 4, 32) := by kernel_rfl
theorem make_tallies (w : World) (n : Nat) (h : n ≤ 256) : (Instr.makeSlice 29 (.int .i64 n) (.int .i64 n)).run Tryz.prog w = .ok (.slice (some ⟨w.heap.size, 0, none⟩) n n) (w.alloc (.cells (madeCells #[.int .i64 0, .int .i64 0, .int .i64 0, .int .i64 0] (n * 4)) 35)) := by
  obtain ⟨i, hi, hz, hs, hb⟩ := info_parts info_tally
  have h := run_make (P := Tryz.prog) w 29 35 i (.agg #[.int .i64 0, .int .i64 0, .int .i64 0, .int .i64 0]) Tryz.underlying29 hi hz .i64 .i64 n n (by omega) (by omega) (by rw [hb]; omega) (by omega)
  rw [hs] at h
  exact h

theorem fresh_hit {n : Int} {xs : List Int} (h : Rk.Incr n xs) {j : Nat} (hj : j < xs.length) : xs.getD j 0 ∉ xs.take j := by
  intro hm
  obtain ⟨i, hi, e⟩ := List.mem_iff_getElem.1 hm
  simp only [List.length_take] at hi
  rw [List.getElem_take] at e
  have h1 := h.lt (i := i) (j := j) (by omega) hj
  rw [List.getD_eq_getElem?_getD, List.getElem?_eq_getElem (show i < xs.length by omega)] at h1
  have h2 : xs[i] = xs.getD j 0 := e
  simp only [Option.getD_some] at h1
  omega
theorem take_row {rows : List RowL} {k : Nat} (h : k < rows.length) : rows.take (k + 1) = rows.take k ++ [Rk.rowAt rows k] := by
  rw [List.take_succ_eq_append_getElem h]
  unfold Rk.rowAt
  rw [List.getD_eq_getElem?_getD, List.getElem?_eq_getElem h]
  rfl

def TalPost (n : Nat) (rows : List RowL) (w : World) (e : Ending) (w' : World) : Prop :=
  ∃ g, e = .returned (.slice (some ⟨g, 0, none⟩) n n) ∧ w.heap.size ≤ g ∧ TalAt w' g n (Rk.tal rows) ∧ Below w.heap.size w w'

set_option maxRecDepth 100000 in
set_option maxHeartbeats 1000000 in
theorem tallies_any (n : Nat) (v : Value) (rows : List RowL) (B : Nat) (w : World) (hv : Rows w B v rows) (hB : B ≤ w.heap.size) (hn1 : n ≤ 256) (hr64 : rows.length ≤ 64)
    (hin : ∀ i, i < rows.length → Rk.Incr n (Rk.rowAt rows i).1) :
    Calls Tryz.prog 35 #[.agg #[.int .i64 n, v]] w (TalPost n rows w) := by
  obtain ⟨A, c, vs, rfl, hnc, hm, hr, hi⟩ := hv
  have Hr := Lib.hid hr
  have Hi := Lib.hid hi
  have Hin := Lib.hid hin
  have hmk := fun W => make_tallies W n hn1
  clear hr hi hnc hm hin
  go_enter Tryz.func35, Tryz.ntmps35
  obtain ⟨W0, hW0⟩ : ∃ W0, W0 = (w.alloc (.cells #[.int .i64 n, .slice A rows.length c] 24)).alloc (.cells (madeCells #[.int .i64 0, .int .i64 0, .int .i64 0, .int .i64 0] (n * 4)) 35) := ⟨_, rfl⟩
  have T0 : TalAt W0 (w.heap.size + 1) n (fun _ _ => 0) := by
    have h := TalAt.made (w.alloc (.cells #[.int .i64 n, .slice A rows.length c] 24)) n
    rw [hW0]
    simpa using h
  have S0 : Blk W0 w.heap.size 24 #[.int .i64 n, .slice A rows.length c] := by rw [hW0]; exact (Blk.new w _ _).alloc _
  have B0 : Below w.heap.size w W0 := by rw [hW0]; exact ((Below.refl _ _).alloc (Nat.le_refl _) _).alloc (by simp) _
  have HW0 := Lib.hid hW0
  have HT0 := Lib.hid T0
  have HS0 := Lib.hid S0
  have HB0 := Lib.hid B0
  have lt0 := T0.lt
  have s1 : W0.cell? ⟨w.heap.size, 1, none⟩ = some (.slice A rows.length c) := S0.cell 1
  clear hW0 T0 S0 B0
  go_wp2
  rw [← HW0.out]
  go_loopg [4, 16] rows.length (fun g f i wr => ∃ k : Nat, k ≤ rows.length ∧ g = rows.length - k ∧ f = .int .i64 (Rk.fails (rows.take k)) ∧ i = .int .i64 k ∧ Hid (TalAt wr (w.heap.size + 1) n (Rk.cnt (rows.take k) true [])) ∧ Hid (W0.grownBy wr (some (w.heap.size + 1))))
  case atStart => exact ⟨0, Nat.zero_le _, rfl, rfl, rfl, by rw [List.take_zero, Rk.cnt_zero]; exact HT0.out, ⟨rfl, rfl, rfl, Nat.le_refl _, fun _ _ _ => rfl⟩⟩
  case round =>
    obtain ⟨k, hk, hg, rfl, rfl, hT, hG⟩ := hrel
    have Hg := Lib.hid hg
    clear hg
    by_cases hlt : k < rows.length
    · obtain ⟨ad, u, rfl, hadb, hc0, hc1, hu⟩ := rows_at Hr.out Hi.out hlt
      obtain ⟨Au, cu, eu⟩ : ∃ Au cu, u = .slice Au (Rk.rowAt rows k).1.length cu := by
        obtain ⟨A1, c1, e, _⟩ := hu
        exact ⟨A1, c1, e⟩
      subst eu
      have hsame : ∀ p : Addr, p.block < w.heap.size → wr.cell? p = w.cell? p := fun p hp =>
        (World.cell?_of_block (hG.out.block _ (by omega) (fun e => by simp at e; omega))).trans (HB0.out.cell hp)
      have hc0' := (hsame (ad.add (k * 2)) (by rw [block_of_add]; omega)).trans hc0
      have hc1' : wr.cell? ⟨(ad.add (k * 2)).block, (ad.add (k * 2)).off + 1, none⟩ = some (.bool (Rk.rowAt rows k).2) := by
        have h := (hsame (ad.add (k * 2 + 1)) (by rw [block_of_add]; omega)).trans hc1
        rw [← add_of_add] at h
        exact h
      have Hu := Lib.hid hu
      have Htk := Lib.hid (take_row hlt)
      have hfb : Rk.fails (rows.take k) ≤ 64 := Nat.le_trans List.countP_le_length (by simp; omega)
      have Hik := Lib.hid (Hin.out k hlt)
      have hhl : (Rk.rowAt rows k).1.length ≤ 256 := by have := Hik.out.length_le; omega
      have Hfl := Lib.hid (show (Rk.fails (rows.take (k + 1)) : Int) = Rk.fails (rows.take k) + if (Rk.rowAt rows k).2 = true then 1 else 0 by
        rw [take_row hlt]
        unfold Rk.fails
        rw [List.countP_append, List.countP_singleton]
        split <;> simp)
      have Hrow := Lib.hid (show Rk.cnt (rows.take k) (Rk.rowAt rows k).2 (Rk.rowAt rows k).1 = Rk.cnt (rows.take (k + 1)) true [] by rw [Rk.cnt_row, take_row hlt])
      have Hlen := Lib.hid (show (rows.take k).length ≤ 63 by simp; omega)
      clear hsame hc0 hc1 hu Htk
      generalize Rk.rowAt rows k = row at *
      obtain ⟨hits, fl⟩ := row
      simp only at Hu Hik hhl Hfl Hrow hc0' hc1'
      obtain ⟨wo, rfl⟩ : ∃ wo : World, wo = wr := ⟨_, rfl⟩
      have ltg : w.heap.size + 1 < wo.heap.size := hT.out.lt
      have HTk := Lib.hid (show TalAt (wo.alloc (.cells #[.slice Au hits.length cu, .bool fl] 59)) (w.heap.size + 1) n (Rk.cnt (rows.take k) fl []) from by rw [Rk.cnt_nil _ fl true]; exact hT.out.alloc _)
      have HGk := Lib.hid (hG.out.trans (show wo.grownBy (wo.alloc (.cells #[.slice Au hits.length cu, .bool fl] 59)) (some (w.heap.size + 1)) from (World.grownBy_alloc _ _ none).but _))
      have Bx := Lib.hid (Blk.new wo 59 #[.slice Au hits.length cu, .bool fl])
      obtain ⟨W1, hW1⟩ : ∃ W1, W1 = wo.alloc (.cells #[.slice Au hits.length cu, .bool fl] 59) := ⟨_, rfl⟩
      have HW1 := Lib.hid hW1
      have hls : W1.heap.size = wo.heap.size + 1 := by rw [hW1]; simp
      rw [← hW1] at HTk HGk Bx
      have ltw1 : wo.heap.size < W1.heap.size := by omega
      clear hW1 hls hT hG
      cases fl
      · go_wp2
        rw [← HW1.out]
        go_loopg [27] hits.length (fun g i wr => ∃ j : Nat, j ≤ hits.length ∧ g = hits.length - j ∧ i = .int .i64 j ∧ Hid (TalAt wr (w.heap.size + 1) n (Rk.cnt (rows.take k) false (hits.take j))) ∧ Hid (W1.grownBy wr (some (w.heap.size + 1))))
        case atStart => exact ⟨0, Nat.zero_le _, rfl, rfl, HTk.out, ⟨rfl, rfl, rfl, Nat.le_refl _, fun _ _ _ => rfl⟩⟩
        case round =>
          obtain ⟨j, hj, hgj, rfl, hTj, hGj⟩ := hrel
          have Hgj := Lib.hid hgj
          clear hgj
          by_cases hltj : j < hits.length
          · have hG2 := HGk.out.trans hGj.out
            obtain ⟨Ax, cx, ex, _, _, hrx⟩ := Hu.out
            have eA : Au = Ax := by injection ex
            subst eA
            obtain ⟨adn, en, hadnb, hcn⟩ := ints_at hrx hltj
            subst en
            have hcn' := ((World.cell?_of_block (hG2.block (adn.add j).block (by rw [block_of_add]; omega) (fun e => by simp [block_of_add] at e; omega))).trans (HB0.out.cell (by rw [block_of_add]; omega))).trans hcn
            obtain ⟨hx0, hx1⟩ := Hik.out.mem (Rk.getD_mem hltj)
            have hfr := fresh_hit Hik.out hltj
            have htj : hits.take (j + 1) = hits.take j ++ [hits.getD j 0] := by
              rw [List.take_succ_eq_append_getElem hltj, List.getD_eq_getElem?_getD, List.getElem?_eq_getElem hltj]; rfl
            obtain ⟨x, hx⟩ : ∃ x : Nat, hits.getD j 0 = x := ⟨(hits.getD j 0).toNat, by omega⟩
            rw [hx] at hcn' hfr htj hx1
            have hxn : x < n := by omega
            have Hst := Lib.hid (Rk.cnt_hit (rows.take k) false (hits.take j) x hfr)
            have c_t := hTj.out.cell hxn (show 1 < 4 by decide)
            have f_t := hTj.out.frozen (x * 4 + 1)

            obtain ⟨b0, b1⟩ := Rk.cnt_bounds (rows.take k) false (hits.take j) x 1
            have hl63 := Hlen.out
            have Hset := Lib.hid (hTj.out.set_ hxn (show 1 < 4 by decide) (Rk.cnt (rows.take k) false (hits.take j) x 1 + 1))
            have Hst2 := Lib.hid (show Rk.cnt (rows.take k) false (hits.take (j + 1)) = Rk.upd (Rk.cnt (rows.take k) false (hits.take j)) x 1 (Rk.cnt (rows.take k) false (hits.take j) x 1 + 1) by rw [htj]; exact Hst.out)
            have Hgr := Lib.hid (hGj.out.trans (grown_setCell wr ⟨w.heap.size + 1, x * 4 + 1, none⟩ (.int .i64 (Rk.cnt (rows.take k) false (hits.take j) x 1 + 1))))
            have HT2 := Lib.hid (show TalAt (wr.setCell ⟨w.heap.size + 1, x * 4 + 1, none⟩ (.int .i64 (Rk.cnt (rows.take k) false (hits.take j) x 1 + 1))) (w.heap.size + 1) n (Rk.cnt (rows.take k) false (hits.take (j + 1))) by rw [Hst2.out]; exact Hset.out)
            have c_b : wr.cell? ⟨wo.heap.size, 1, none⟩ = some (.bool false) := (Bx.out.grown hGj.out (fun e => by simp at e; omega)).cell 1
            have ltx : w.heap.size + 1 < wr.heap.size := hTj.out.lt
            clear hG2 hrx ex hcn hfr htj hx Hst Hset Hst2 hTj hGj
            generalize Rk.cnt (rows.take k) false (hits.take j) x 1 = q at *
            go_wp2
            go_roundg (hits.length - (j + 1))
            case rel => exact ⟨j + 1, by omega, rfl, by go_num, HT2.out, Hgr.out⟩
            case measure => rw [Hgj.out]; omega
          · obtain rfl : j = hits.length := by omega
            have HT3 := Lib.hid (show TalAt wr (w.heap.size + 1) n (Rk.cnt (rows.take (k + 1)) true []) by rw [← Hrow.out]; have := hTj.out; rwa [List.take_length] at this)
            have HG3 := Lib.hid (HGk.out.trans hGj.out)
            have hfl := Hfl.out
            simp only [Bool.false_eq_true, if_false, Int.add_zero] at hfl
            have Hfl2 := Lib.hid hfl
            clear hTj hGj hfl
            go_wp2
            go_roundg (rows.length - (k + 1))
            case rel => exact ⟨k + 1, by omega, rfl, by rw [Hfl2.out], by go_num, HT3.out, HG3.out⟩
            case measure => rw [Hg.out]; omega
      · go_wp2
        rw [← HW1.out]
        go_loopg [27] hits.length (fun g i wr => ∃ j : Nat, j ≤ hits.length ∧ g = hits.length - j ∧ i = .int .i64 j ∧ Hid (TalAt wr (w.heap.size + 1) n (Rk.cnt (rows.take k) true (hits.take j))) ∧ Hid (W1.grownBy wr (some (w.heap.size + 1))))
        case atStart => exact ⟨0, Nat.zero_le _, rfl, rfl, HTk.out, ⟨rfl, rfl, rfl, Nat.le_refl _, fun _ _ _ => rfl⟩⟩
        case round =>
          obtain ⟨j, hj, hgj, rfl, hTj, hGj⟩ := hrel
          have Hgj := Lib.hid hgj
          clear hgj
          by_cases hltj : j < hits.length
          · have hG2 := HGk.out.trans hGj.out
            obtain ⟨Ax, cx, ex, _, _, hrx⟩ := Hu.out
            have eA : Au = Ax := by injection ex
            subst eA
            obtain ⟨adn, en, hadnb, hcn⟩ := ints_at hrx hltj
            subst en
            have hcn' := ((World.cell?_of_block (hG2.block (adn.add j).block (by rw [block_of_add]; omega) (fun e => by simp [block_of_add] at e; omega))).trans (HB0.out.cell (by rw [block_of_add]; omega))).trans hcn
            obtain ⟨hx0, hx1⟩ := Hik.out.mem (Rk.getD_mem hltj)
            have hfr := fresh_hit Hik.out hltj
            have htj : hits.take (j + 1) = hits.take j ++ [hits.getD j 0] := by
              rw [List.take_succ_eq_append_getElem hltj, List.getD_eq_getElem?_getD, List.getElem?_eq_getElem hltj]; rfl
            obtain ⟨x, hx⟩ : ∃ x : Nat, hits.getD j 0 = x := ⟨(hits.getD j 0).toNat, by omega⟩
            rw [hx] at hcn' hfr htj hx1
            have hxn : x < n := by omega
            have Hst := Lib.hid (Rk.cnt_hit (rows.take k) true (hits.take j) x hfr)
            have c_t := hTj.out.cell hxn (show 0 < 4 by decide)
            have f_t := hTj.out.frozen (x * 4 + 0)
            have c_t : wr.cell? ⟨w.heap.size + 1, x * 4, none⟩ = some (.int .i64 (Rk.cnt (rows.take k) true (hits.take j) x 0)) := c_t
            have f_t : wr.frozen? ⟨w.heap.size + 1, x * 4, none⟩ = false := f_t
            obtain ⟨b0, b1⟩ := Rk.cnt_bounds (rows.take k) true (hits.take j) x 0
            have hl63 := Hlen.out
            have Hset := Lib.hid (hTj.out.set_ hxn (show 0 < 4 by decide) (Rk.cnt (rows.take k) true (hits.take j) x 0 + 1))
            have Hst2 := Lib.hid (show Rk.cnt (rows.take k) true (hits.take (j + 1)) = Rk.upd (Rk.cnt (rows.take k) true (hits.take j)) x 0 (Rk.cnt (rows.take k) true (hits.take j) x 0 + 1) by rw [htj]; exact Hst.out)
            have Hgr := Lib.hid (hGj.out.trans (grown_setCell wr ⟨w.heap.size + 1, x * 4 + 0, none⟩ (.int .i64 (Rk.cnt (rows.take k) true (hits.take j) x 0 + 1))))
            have HT2 := Lib.hid (show TalAt (wr.setCell ⟨w.heap.size + 1, x * 4 + 0, none⟩ (.int .i64 (Rk.cnt (rows.take k) true (hits.take j) x 0 + 1))) (w.heap.size + 1) n (Rk.cnt (rows.take k) true (hits.take (j + 1))) by rw [Hst2.out]; exact Hset.out)
            have c_b : wr.cell? ⟨wo.heap.size, 1, none⟩ = some (.bool true) := (Bx.out.grown hGj.out (fun e => by simp at e; omega)).cell 1
            have ltx : w.heap.size + 1 < wr.heap.size := hTj.out.lt
            clear hG2 hrx ex hcn hfr htj hx Hst Hset Hst2 hTj hGj
            generalize Rk.cnt (rows.take k) true (hits.take j) x 0 = q at *
            go_wp2
            go_roundg (hits.length - (j + 1))
            case rel => exact ⟨j + 1, by omega, rfl, by go_num, HT2.out, Hgr.out⟩
            case measure => rw [Hgj.out]; omega
          · obtain rfl : j = hits.length := by omega
            have HT3 := Lib.hid (show TalAt wr (w.heap.size + 1) n (Rk.cnt (rows.take (k + 1)) true []) by rw [← Hrow.out]; have := hTj.out; rwa [List.take_length] at this)
            have HG3 := Lib.hid (HGk.out.trans hGj.out)
            have hfl := Hfl.out
            simp only [if_true] at hfl
            have Hfl2 := Lib.hid hfl
            clear hTj hGj hfl
            go_wp2
            go_roundg (rows.length - (k + 1))
            case rel => exact ⟨k + 1, by omega, rfl, by rw [Hfl2.out], by go_num, HT3.out, HG3.out⟩
            case measure => rw [Hg.out]; omega
    · obtain rfl : k = rows.length := by omega
      have Hrl : Hid (rows.take rows.length = rows) := List.take_length
      rw [Hrl.out]
      rw [Hrl.out] at hT
      have HTz := Lib.hid (show TalAt wr (w.heap.size + 1) n (Rk.mid rows 0) by rw [← Rk.cnt_mid]; exact hT.out)
      have HGz := hG
      have hf64 : Rk.fails rows ≤ 64 := Nat.le_trans List.countP_le_length hr64
      clear hT hG
      obtain ⟨wz, rfl⟩ : ∃ wz : World, wz = wr := ⟨_, rfl⟩
      go_wp2
      go_loopg [53] n (fun g i wr => ∃ k : Nat, k ≤ n ∧ g = n - k ∧ i = .int .i64 k ∧ Hid (TalAt wr (w.heap.size + 1) n (Rk.mid rows k)) ∧ Hid (W0.grownBy wr (some (w.heap.size + 1))))
      case atStart => exact ⟨0, Nat.zero_le _, rfl, rfl, HTz.out, HGz.out⟩
      case round =>
        obtain ⟨k, hk, hg, rfl, hT, hG⟩ := hrel
        have Hg2 := Lib.hid hg
        clear hg
        by_cases hlt : k < n
        · have c_0 : wr.cell? ⟨w.heap.size + 1, k * 4, none⟩ = some (.int .i64 (Rk.tal rows k 0)) := by
            rw [← Rk.mid_low rows k k 0 (by decide)]; exact hT.out.cell hlt (show 0 < 4 by decide)
          have c_1 : wr.cell? ⟨w.heap.size + 1, k * 4 + 1, none⟩ = some (.int .i64 (Rk.tal rows k 1)) := by
            rw [← Rk.mid_low rows k k 1 (by decide)]; exact hT.out.cell hlt (show 1 < 4 by decide)
          have c_2 := hT.out.cell hlt (show 2 < 4 by decide)
          have c_3 := hT.out.cell hlt (show 3 < 4 by decide)
          have f_2 := hT.out.frozen (k * 4 + 2)
          have f_3 := hT.out.frozen (k * 4 + 3)
          obtain ⟨a0, a1⟩ := Rk.tal_bounds rows k 0
          obtain ⟨b0, b1⟩ := Rk.tal_bounds rows k 1
          have s1w : wr.cell? ⟨w.heap.size, 1, none⟩ = some (.slice A rows.length c) := (HS0.out.grown hG.out (fun e => by simp at e)).cell 1
          have H2 := Lib.hid (hT.out.set_ hlt (show 2 < 4 by decide) (Rk.fails rows - Rk.tal rows k 0))
          have H3 := Lib.hid ((H2.out.set_ hlt (show 3 < 4 by decide) (rows.length - Rk.fails rows - Rk.tal rows k 1)).congr (fun c j _ hj => Rk.mid_step rows k c j hj))
          have HG3 := Lib.hid ((hG.out.trans (grown_setCell wr ⟨w.heap.size + 1, k * 4 + 2, none⟩ (.int .i64 (Rk.fails rows - Rk.tal rows k 0)))).trans (grown_setCell _ ⟨w.heap.size + 1, k * 4 + 3, none⟩ (.int .i64 (rows.length - Rk.fails rows - Rk.tal rows k 1))))
          have ltx : w.heap.size + 1 < wr.heap.size := hT.out.lt
          clear hT hG H2
          generalize Rk.tal rows k 0 = t0 at *
          generalize Rk.tal rows k 1 = t1 at *
          generalize Rk.mid rows k k 2 = m2 at *
          generalize Rk.mid rows k k 3 = m3 at *
          have e1 : (wr.setCell ⟨w.heap.size + 1, k * 4 + 2, none⟩ (.int .i64 (Rk.fails rows - t0))).cell? ⟨w.heap.size + 1, k * 4 + 1, none⟩ = some (.int .i64 t1) := by
            exact (World.cell?_setCell_other _ ⟨w.heap.size + 1, k * 4 + 2, none⟩ ⟨w.heap.size + 1, k * 4 + 1, none⟩ _ (by simp)).trans c_1
          have e3 : (wr.setCell ⟨w.heap.size + 1, k * 4 + 2, none⟩ (.int .i64 (Rk.fails rows - t0))).cell? ⟨w.heap.size + 1, k * 4 + 3, none⟩ = some (.int .i64 m3) := by
            exact (World.cell?_setCell_other _ ⟨w.heap.size + 1, k * 4 + 2, none⟩ ⟨w.heap.size + 1, k * 4 + 3, none⟩ _ (by simp)).trans c_3
          go_wp2
          go_region
          go_wp2
          go_roundg (n - (k + 1))
          case rel => exact ⟨k + 1, by omega, rfl, by go_num, H3.out, ⟨HG3.out.os, HG3.out.tape, HG3.out.output, HG3.out.size, HG3.out.block⟩⟩
          case measure => rw [Hg2.out]; omega
        · obtain rfl : k = n := by omega
          have HTf := Lib.hid (hT.out.congr (fun c j hc _ => Rk.mid_done rows k c j hc))
          have HBf := Lib.hid (HB0.out.grown hG.out HB0.out.size (fun g e => by simp at e; omega))
          clear hT hG
          go_wp2
          go_ret
          exact ⟨_, rfl, by omega, HTf.out, HBf.out⟩

end Go.Proofs.YtfpmbjobieeidaaGreat
