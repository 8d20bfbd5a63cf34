/-
  The walk of Score.
-/
import Derived.Test.YtfpmbjobieeidaaGreatTable
namespace Go.Proofs.YtfpmbjobieeidaaGreat
open Go.RowKit

theorem run_enter {P : Program} {f : FuncId} {fn : Func} {c : Code} (hf : P.funcs[f]? = some fn) (hname : (fn.name == "runtime.NumGoroutine") = false) (hb : fn.body = some c) (args : Array Value) (w : World) :
    (callFunc f args).run P w = .ok (.enter f args) w := by
  have h1 : ¬ fn.name = "runtime.NumGoroutine" := by simpa using hname
  simp [callFunc, hf, h1, hb]
theorem tab_enter (k : Nat) (h0 : 1 ≤ k) (h1 : k ≤ 14) (args : Array Value) (w : World) : (callFunc (tabN k) args).run Tryz.prog w = .ok (.enter (tabN k) args) w := by
  rcases (show k = 1 ∨ k = 2 ∨ k = 3 ∨ k = 4 ∨ k = 5 ∨ k = 6 ∨ k = 7 ∨ k = 8 ∨ k = 9 ∨ k = 10 ∨ k = 11 ∨ k = 12 ∨ k = 13 ∨ k = 14 by omega) with rfl | rfl | rfl | rfl | rfl | rfl | rfl | rfl | rfl | rfl | rfl | rfl | rfl | rfl
  · exact run_enter Tryz.func72 (by kernel_rfl) rfl args w
  · exact run_enter Tryz.func74 (by kernel_rfl) rfl args w
  · exact run_enter Tryz.func75 (by kernel_rfl) rfl args w
  · exact run_enter Tryz.func76 (by kernel_rfl) rfl args w
  · exact run_enter Tryz.func77 (by kernel_rfl) rfl args w
  · exact run_enter Tryz.func78 (by kernel_rfl) rfl args w
  · exact run_enter Tryz.func79 (by kernel_rfl) rfl args w
  · exact run_enter Tryz.func81 (by kernel_rfl) rfl args w
  · exact run_enter Tryz.func82 (by kernel_rfl) rfl args w
  · exact run_enter Tryz.func83 (by kernel_rfl) rfl args w
  · exact run_enter Tryz.func85 (by kernel_rfl) rfl args w
  · exact run_enter Tryz.func86 (by kernel_rfl) rfl args w
  · exact run_enter Tryz.func87 (by kernel_rfl) rfl args w
  · exact run_enter Tryz.func88 (by kernel_rfl) rfl args w

def ScPost (k : Nat) (h q m r : Int) (w : World) (e : Ending) (w' : World) : Prop :=
  e = .returned (.tuple #[fv (Rk.scoreOf k h q m r), .int .i64 (Rk.scoreErr k [h, q, m, r])]) ∧ Below w.heap.size w w'

set_option maxRecDepth 100000 in
set_option maxHeartbeats 1000000 in
theorem score_none (k : Nat) (hk : k < 256) (hbad : ¬ (1 ≤ k ∧ k ≤ 14)) (h q m r : Int) (w : World) :
    Calls Tryz.prog 34 #[.int .u8 k, .agg #[.int .i64 h, .int .i64 q, .int .i64 m, .int .i64 r]] w (ScPost k h q m r w) := by
  have HT := Lib.hid (fun W => table_any k W hk)
  have Hp : Hid (Rk.scoreOf k h q m r = (0, 0) ∧ Rk.scoreErr k [h, q, m, r] = 1) := by
    have h1 : Rk.scoreErr k [h, q, m, r] = 1 := by unfold Rk.scoreErr; rw [if_neg hbad]
    exact ⟨by unfold Rk.scoreOf; rw [h1]; rfl, h1⟩
  have Ho : Hid (tabF k = .nilFunc ∧ tabOk k = false) := ⟨if_neg hbad, decide_eq_false hbad⟩
  clear hbad
  go_enter Tryz.func34, Tryz.ntmps34
  go_wp2_with fail
  refine (HT.out _).mono ?_
  rintro e w1 ⟨rfl, hb⟩
  rw [Ho.out.1, Ho.out.2]
  have ht : Blk w1 w.heap.size 35 #[.int .i64 h, .int .i64 q, .int .i64 m, .int .i64 r] := ((Blk.new w _ _).alloc _).below hb (by simp; omega)
  have hg : Blk w1 (w.heap.size + 1) 45 #[.int .i64 0, .int .i64 0] := by
    have h := (Blk.new (w.alloc (.cells #[.int .i64 h, .int .i64 q, .int .i64 m, .int .i64 r] 35)) 45 #[.int .i64 0, .int .i64 0]).below hb (by simp)
    simpa using h
  have H1 := Lib.hid ((below_alloc2_ w _ _).trans (hb.mono (by simp; omega)))
  have c0 : w1.cell? ⟨w.heap.size + 1, 0, none⟩ = some (.int .i64 0) := hg.cell 0
  have c1 : w1.cell? ⟨w.heap.size + 1, 1, none⟩ = some (.int .i64 0) := hg.cell 1
  have f0 := hg.frozen 0
  have f1 := hg.frozen 1
  have d0 : w1.cell? ⟨w.heap.size, 0, none⟩ = some (.int .i64 h) := ht.cell 0
  have d1 : w1.cell? ⟨w.heap.size, 1, none⟩ = some (.int .i64 q) := ht.cell 1
  have d2 : w1.cell? ⟨w.heap.size, 2, none⟩ = some (.int .i64 m) := ht.cell 2
  have d3 : w1.cell? ⟨w.heap.size, 3, none⟩ = some (.int .i64 r) := ht.cell 3
  have lt := hg.lt
  have lt0 := ht.lt
  have Hg := Lib.hid hg
  clear hg ht hb HT
  go_wp2
  have K := (st2 Hg.out (.int .i64 0) (.int .i64 0)).alloc (.cells #[.nilFunc] 70)
  have k0 := K.cell 0
  have k1 := K.cell 1
  simp only [List.getElem?_toArray, List.getElem?_cons_zero, List.getElem?_cons_succ] at k0 k1
  refine bodyPost_ret (v := .tuple #[.agg #[.int .i64 0, .int .i64 0], .int .i64 1]) (by simp [results, Tryz.results34, go_sem, k0, k1]) rfl ⟨by rw [Hp.out.1, Hp.out.2]; rfl, ?_⟩
  have h2 := below_st2 (g := w.heap.size + 1) H1.out (by omega) H1.out.size (.int .i64 0) (.int .i64 0)
  exact h2.alloc (by have := H1.out.size; simpa using this) _

set_option maxRecDepth 100000 in
set_option maxHeartbeats 1000000 in
theorem score_some (k : Nat) (hk : 1 ≤ k ∧ k ≤ 14) (h q m r : Int) (w : World) :
    Calls Tryz.prog 34 #[.int .u8 k, .agg #[.int .i64 h, .int .i64 q, .int .i64 m, .int .i64 r]] w (ScPost k h q m r w) := by
  have HT := Lib.hid (fun W => table_any k W (by omega))
  have HF := Lib.hid (fun hz W => formula_any k hk.1 hk.2 h q m r (Rk.tErr_zero hz).1 (Rk.tErr_zero hz).2.1 (Rk.tErr_zero hz).2.2.1 (Rk.tErr_zero hz).2.2.2 W)
  have Hp1 : Hid (Rk.scoreErr k [h, q, m, r] = Rk.tErr [h, q, m, r]) := if_pos hk
  have Hp2 : Hid (Rk.scoreOf k h q m r = if Rk.tErr [h, q, m, r] = 0 then Rk.score k h q m r else (0, 0)) := by
    show Rk.scoreOf k h q m r = _
    unfold Rk.scoreOf; rw [Hp1.out]
  have Hen := tab_enter k hk.1 hk.2
  have Ho : Hid (tabF k = .func (.func (tabN k)) #[] #[] ∧ tabOk k = true) := ⟨if_pos hk, decide_eq_true hk⟩
  go_enter Tryz.func34, Tryz.ntmps34
  go_wp2_with fail
  refine (HT.out _).mono ?_
  rintro e w1 ⟨rfl, hb⟩
  rw [Ho.out.1, Ho.out.2]
  clear Ho hk
  generalize tabN k = fn at *
  obtain ⟨o1, o2, ho⟩ : ∃ o1 o2, Rk.score k h q m r = (o1, o2) := ⟨_, _, rfl⟩
  rw [ho] at HF Hp2
  have Hno := Lib.hid (show Rk.tErr [h, q, m, r] ≠ 0 → Rk.scoreOf k h q m r = (0, 0) from fun hne => by rw [Hp2.out, if_neg hne])
  have Hyes := Lib.hid (show Rk.tErr [h, q, m, r] = 0 → Rk.scoreOf k h q m r = (o1, o2) from fun he => by rw [Hp2.out, if_pos he])
  clear ho Hp2
  have ht : Blk w1 w.heap.size 35 #[.int .i64 h, .int .i64 q, .int .i64 m, .int .i64 r] := ((Blk.new w _ _).alloc _).below hb (by simp; omega)
  have hg : Blk w1 (w.heap.size + 1) 45 #[.int .i64 0, .int .i64 0] := by
    have h := (Blk.new (w.alloc (.cells #[.int .i64 h, .int .i64 q, .int .i64 m, .int .i64 r] 35)) 45 #[.int .i64 0, .int .i64 0]).below hb (by simp)
    simpa using h
  have H1 := Lib.hid ((below_alloc2_ w _ _).trans (hb.mono (by simp; omega)))
  have c0 : w1.cell? ⟨w.heap.size + 1, 0, none⟩ = some (.int .i64 0) := hg.cell 0
  have c1 : w1.cell? ⟨w.heap.size + 1, 1, none⟩ = some (.int .i64 0) := hg.cell 1
  have f0 := hg.frozen 0
  have f1 := hg.frozen 1
  have d0 : w1.cell? ⟨w.heap.size, 0, none⟩ = some (.int .i64 h) := ht.cell 0
  have d1 : w1.cell? ⟨w.heap.size, 1, none⟩ = some (.int .i64 q) := ht.cell 1
  have d2 : w1.cell? ⟨w.heap.size, 2, none⟩ = some (.int .i64 m) := ht.cell 2
  have d3 : w1.cell? ⟨w.heap.size, 3, none⟩ = some (.int .i64 r) := ht.cell 3
  have lt := hg.lt
  have lt0 := ht.lt
  have Hg := Lib.hid hg
  clear hg ht hb HT
  obtain ⟨W0, hW0⟩ : ∃ W0, W0 = (w1.alloc (.cells #[.func (.func fn) #[] #[]] 70)).alloc (.cells #[.int .i64 h, .int .i64 q, .int .i64 m, .int .i64 r] 3) := ⟨_, rfl⟩
  have b01 : Below w1.heap.size w1 W0 := by rw [hW0]; exact below_alloc2_ _ _ _
  have Hrow : ∀ j, j < 4 → W0.cell? ⟨w1.heap.size + 1, j, none⟩ = some (.int .i64 ([h, q, m, r].getD j 0)) := fun j hj => by
    have hk := (Blk.new (w1.alloc (.cells #[.func (.func fn) #[] #[]] 70)) 3 #[.int .i64 h, .int .i64 q, .int .i64 m, .int .i64 r]).cell j
    rw [← hW0] at hk
    simp only [World.alloc, Array.size_push] at hk
    refine hk.trans ?_
    rcases (show j = 0 ∨ j = 1 ∨ j = 2 ∨ j = 3 by omega) with rfl | rfl | rfl | rfl <;> rfl
  have cfn : W0.cell? ⟨w1.heap.size, 0, none⟩ = some (.func (.func fn) #[] #[]) := by
    rw [hW0]; exact ((Blk.new w1 _ _).alloc _).cell 0
  have d0' := (b01.cell (p := ⟨w.heap.size, 0, none⟩) lt0).trans d0
  have d1' := (b01.cell (p := ⟨w.heap.size, 1, none⟩) lt0).trans d1
  have d2' := (b01.cell (p := ⟨w.heap.size, 2, none⟩) lt0).trans d2
  have d3' := (b01.cell (p := ⟨w.heap.size, 3, none⟩) lt0).trans d3
  have hg' := Hg.out.below b01 lt
  have c0' : W0.cell? ⟨w.heap.size + 1, 0, none⟩ = some (.int .i64 0) := hg'.cell 0
  have c1' : W0.cell? ⟨w.heap.size + 1, 1, none⟩ = some (.int .i64 0) := hg'.cell 1
  have f0' := hg'.frozen 0
  have f1' := hg'.frozen 1
  have lt' := hg'.lt
  have Hg' := Lib.hid hg'
  have H1' := Lib.hid (H1.out.trans (b01.mono H1.out.size))
  have HW0 := Lib.hid hW0
  have HRow := Lib.hid Hrow
  go_wp2
  rw [← HW0.out]
  clear d0 d1 d2 d3 c0 c1 f0 f1 hg' hW0 b01 Hrow HW0 H1 Hg
  obtain ⟨l, hl⟩ : ∃ l, l = [h, q, m, r] := ⟨_, rfl⟩
  rw [← hl] at HRow Hno Hyes Hp1
  have hlen : l.length = 4 := by rw [hl]; rfl
  have Hl := Lib.hid hl
  clear hl
  go_loopg [28] 4 (fun g i wr => ∃ j : Nat, j ≤ 4 ∧ g = 4 - j ∧ i = .int .i64 j ∧ wr = W0 ∧ Hid (Rk.tErr (l.drop j) = Rk.tErr l))
  case atStart => exact ⟨0, Nat.zero_le _, rfl, rfl, rfl, rfl⟩
  case round =>
    obtain ⟨j, hj, hgj, rfl, rfl, hd⟩ := hrel
    have Hgj := Lib.hid hgj
    clear hgj
    by_cases hlt : j < 4
    · have c_j := HRow.out j hlt
      have hstep := Rk.tErr_drop (l := l) (j := j) (by omega)
      rw [hd.out] at hstep
      generalize l.getD j 0 = n at *
      by_cases hn0 : n < 0
      · rw [if_pos hn0] at hstep
        have Hst := Lib.hid hstep
        clear hstep
        go_wp2
        have K := st2 Hg'.out (.int .i64 0) (.int .i64 0)
        have k0 := K.cell 0
        have k1 := K.cell 1
        simp only [List.getElem?_toArray, List.getElem?_cons_zero, List.getElem?_cons_succ] at k0 k1
        refine bodyPost_ret (v := .tuple #[.agg #[.int .i64 0, .int .i64 0], .int .i64 1]) (by simp [results, Tryz.results34, go_sem, k0, k1]) rfl ⟨by rw [← Hl.out, Hp1.out, Hno.out (by rw [Hst.out]; decide), Hst.out]; rfl, ?_⟩
        exact below_st2 (g := w.heap.size + 1) H1'.out (by omega) H1'.out.size (.int .i64 0) (.int .i64 0)
      · rw [if_neg hn0] at hstep
        by_cases hn1 : 64 < n
        · rw [if_pos hn1] at hstep
          have Hst := Lib.hid hstep
          clear hstep
          go_wp2
          have K := st2 Hg'.out (.int .i64 0) (.int .i64 0)
          have k0 := K.cell 0
          have k1 := K.cell 1
          simp only [List.getElem?_toArray, List.getElem?_cons_zero, List.getElem?_cons_succ] at k0 k1
          refine bodyPost_ret (v := .tuple #[.agg #[.int .i64 0, .int .i64 0], .int .i64 3]) (by simp [results, Tryz.results34, go_sem, k0, k1]) rfl ⟨by rw [← Hl.out, Hp1.out, Hno.out (by rw [Hst.out]; decide), Hst.out]; rfl, ?_⟩
          exact below_st2 (g := w.heap.size + 1) H1'.out (by omega) H1'.out.size (.int .i64 0) (.int .i64 0)
        · rw [if_neg hn1] at hstep
          have Hst := Lib.hid hstep.symm
          clear hstep
          go_wp2
          go_roundg (4 - (j + 1))
          case rel => exact ⟨j + 1, by omega, rfl, by go_num, rfl, Hst⟩
          case measure => rw [Hgj.out]; omega
    · obtain rfl : j = 4 := by omega
      have hz : Rk.tErr l = 0 := by rw [← hd.out, List.drop_eq_nil_of_le (by omega)]; rfl
      have Hz := Lib.hid hz
      have HF2 := Lib.hid (HF.out (by rw [← Hl.out]; exact hz))
      clear hz
      go_wp2_with fail
      refine (HF2.out _).mono ?_
      rintro e w3 ⟨rfl, hb3⟩
      have hg3 := Hg'.out.below hb3 lt'
      have c03 : w3.cell? ⟨w.heap.size + 1, 0, none⟩ = some (.int .i64 0) := hg3.cell 0
      have c13 : w3.cell? ⟨w.heap.size + 1, 1, none⟩ = some (.int .i64 0) := hg3.cell 1
      have f03 := hg3.frozen 0
      have f13 := hg3.frozen 1
      have Hg3 := Lib.hid hg3
      have H3 := Lib.hid (H1'.out.trans (hb3.mono H1'.out.size))
      clear hg3 hb3
      unfold fv
      go_wp2
      have K := st2 Hg3.out (.int .i64 o1) (.int .i64 o2)
      have k0 := K.cell 0
      have k1 := K.cell 1
      simp only [List.getElem?_toArray, List.getElem?_cons_zero, List.getElem?_cons_succ] at k0 k1
      refine bodyPost_ret (v := .tuple #[.agg #[.int .i64 o1, .int .i64 o2], .int .i64 0]) (by simp [results, Tryz.results34, go_sem, k0, k1]) rfl ⟨by rw [← Hl.out, Hp1.out, Hyes.out Hz.out, Hz.out]; rfl, ?_⟩
      exact below_st2 (g := w.heap.size + 1) H3.out (by omega) H3.out.size (.int .i64 o1) (.int .i64 o2)

theorem score_any (k : Nat) (hk : k < 256) (h q m r : Int) (w : World) :
    Calls Tryz.prog 34 #[.int .u8 k, .agg #[.int .i64 h, .int .i64 q, .int .i64 m, .int .i64 r]] w (ScPost k h q m r w) := by
  by_cases hg : 1 ≤ k ∧ k ≤ 14
  · exact score_some k hg h q m r w
  · exact score_none k hk hg h q m r w

end Go.Proofs.YtfpmbjobieeidaaGreat
