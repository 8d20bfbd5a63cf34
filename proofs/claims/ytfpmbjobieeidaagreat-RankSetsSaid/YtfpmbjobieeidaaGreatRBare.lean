/-
  The walk of the reference's Bare.
-/
import Derived.Test.YtfpmbjobieeidaaGreatPlainJ
import Derived.Test.YtfpmbjobieeidaaGreatGrow
import Derived.Test.YtfpmbjobieeidaaGreatNum
namespace Go.Proofs.YtfpmbjobieeidaaGreat
open Go.RowKit

theorem zeroBools : Tryz.zeroCells125 = (List.replicate 256 (Value.bool false)).toArray := by kernel_rfl
/-- 256 bools. -/
def ArrAt (w : World) (g : Nat) (f : Nat → Bool) : Prop := ∃ cs, Blk w g 125 cs ∧ cs.size = 256 ∧ ∀ m, m < 256 → cs[m]? = some (.bool (f m))
theorem ArrAt.lt {w : World} {g : Nat} {f : Nat → Bool} (h : ArrAt w g f) : g < w.heap.size := let ⟨_, hb, _⟩ := h; hb.lt
theorem ArrAt.cell {w : World} {g : Nat} {f : Nat → Bool} (h : ArrAt w g f) {m : Nat} (hm : m < 256) : w.cell? ⟨g, m, none⟩ = some (.bool (f m)) := by
  obtain ⟨cs, hb, _, hc⟩ := h
  rw [hb.cell]; exact hc m hm
theorem ArrAt.frozen {w : World} {g : Nat} {f : Nat → Bool} (h : ArrAt w g f) (m : Nat) : w.frozen? ⟨g, m, none⟩ = false := let ⟨_, hb, _⟩ := h; hb.frozen m
theorem ArrAt.below {w w' : World} {B g : Nat} {f : Nat → Bool} (h : ArrAt w g f) (hb : Below B w w') (hg : g < B) : ArrAt w' g f := let ⟨cs, h1, h2⟩ := h; ⟨cs, h1.below hb hg, h2⟩
theorem ArrAt.congr {w : World} {g : Nat} {f f' : Nat → Bool} (h : ArrAt w g f) (e : ∀ m, f m = f' m) : ArrAt w g f' := by rw [show f' = f from funext fun m => (e m).symm]; exact h
theorem ArrAt.set_ {w : World} {g : Nat} {f : Nat → Bool} (h : ArrAt w g f) {x : Nat} (hx : x < 256) : ArrAt (w.setCell ⟨g, x, none⟩ (.bool true)) g (fun m => f m || decide (m = x)) := by
  obtain ⟨cs, hb, hs, hc⟩ := h
  refine ⟨cs.setIfInBounds x (.bool true), hb.set_ x _, by simpa using hs, fun m hm => ?_⟩
  by_cases e : m = x
  · subst e
    rw [Array.getElem?_setIfInBounds_self_of_lt (by omega)]
    simp
  · rw [Array.getElem?_setIfInBounds_ne (fun e' => e e'.symm), hc m hm]
    simp [e]
theorem ArrAt.made (w : World) : ArrAt (w.alloc (.cells Tryz.zeroCells125 125)) w.heap.size (fun _ => false) := by
  refine ⟨_, Blk.new w _ _, by rw [zeroBools, List.size_toArray, List.length_replicate], fun m hm => ?_⟩
  rw [zeroBools, List.getElem?_toArray, List.getElem?_replicate, if_pos hm]

set_option maxRecDepth 100000 in
set_option maxHeartbeats 1000000 in
theorem bare_any (v : Value) (xss : List (List Int)) (B : Nat) (w : World) (hv : Sets w B v xss) (hB : B ≤ w.heap.size) (hinc : ∀ s ∈ xss, Rk.Incr 256 s) :
    Calls Tryz.prog 65 #[v] w fun e w' => ∃ v', e = .returned v' ∧ OwnInts w' (w.heap.size + 1) v' (Rk.bareTo xss 256) ∧ Below w.heap.size w w' := by
  obtain ⟨A, c, vs, rfl, hn, hm, hr, hi⟩ := hv
  obtain ⟨i0, hi0, hz0, hz1, hz2⟩ := info_parts info_int
  have Hr := Lib.hid hr
  have Hi := Lib.hid hi
  have HB0 := Lib.hid hB
  have Hinc := Lib.hid hinc
  have hlen : xss.length ≤ 5864062014634 := by omega
  clear hr hi hB hn hm hinc
  obtain ⟨W0, hW0⟩ : ∃ W0, W0 = w.alloc (.cells Tryz.zeroCells125 125) := ⟨_, rfl⟩
  have HA0 := Lib.hid (show ArrAt W0 w.heap.size (fun _ => false) by rw [hW0]; exact ArrAt.made w)
  have HL0 := Lib.hid (show Below w.heap.size w W0 by rw [hW0]; exact (Below.refl _ w).alloc (Nat.le_refl _) _)
  have HW0 := Lib.hid hW0
  clear hW0
  go_enter Tryz.func65, Tryz.ntmps65
  go_wp2
  rw [← HW0.out]
  go_loopg [4] xss.length (fun g s4 wr => ∃ i : Nat, i ≤ xss.length ∧ g = xss.length - i ∧ s4 = .int .i64 i ∧ Hid (ArrAt wr w.heap.size (fun m => (xss.take i).any fun s => decide ((m : Int) ∈ s))) ∧ Hid (Below w.heap.size w wr))
  case atStart => exact ⟨0, Nat.zero_le _, rfl, rfl, HA0.out, HL0.out⟩
  case round =>
    obtain ⟨i, hil, hg, rfl, har, hL⟩ := hrel
    have Hg := Lib.hid hg
    clear hg HA0 HL0
    by_cases hlt : i < xss.length
    · obtain ⟨ad, u, rfl, hadb, hu, hcu⟩ := Hr.out.at_ hlt
      obtain ⟨u', hu', hxi⟩ := Hi.out i hlt
      obtain rfl : u' = u := by rw [hu] at hu'; exact (Option.some.inj hu').symm
      have hadw : ad.block < w.heap.size := Nat.lt_of_lt_of_le hadb HB0.out
      have hgm := Hinc.out _ (Rk.memD (d := []) hlt)
      obtain ⟨Au, cu, rfl, -, hul, hur⟩ := hxi
      have Hur := Lib.hid hur
      have Hcu := Lib.hid (fun W (hb : Below w.heap.size w W) => keepB hb (p := ad.add i) (by rw [block_of_add]; exact hadw) hcu)
      have Hgm := Lib.hid hgm
      have Htk := Lib.hid (show ∀ m : Nat, ((xss.take (i + 1)).any fun s => decide ((m : Int) ∈ s)) = (((xss.take i).any fun s => decide ((m : Int) ∈ s)) || decide ((m : Int) ∈ xss.getD i [])) from fun m => by
        rw [List.take_succ_eq_append_getElem hlt, List.any_append, List.getD_eq_getElem?_getD, List.getElem?_eq_getElem hlt]
        simp)
      have hiz : (i : Int) < (xss.length : Int) := by omega
      clear hu hu' hcu hur hgm
      obtain ⟨G, hG⟩ : ∃ G, G = xss.getD i [] := ⟨_, rfl⟩
      rw [← hG] at Hur hul Hgm Htk Hcu
      clear hG
      go_wp2
      go_loopg [5] G.length (fun g s5 wy => ∃ j : Nat, j ≤ G.length ∧ g = G.length - j ∧ s5 = .int .i64 j ∧ Hid (ArrAt wy w.heap.size (fun m => ((xss.take i).any fun s => decide ((m : Int) ∈ s)) || decide ((m : Int) ∈ G.take j))) ∧ Hid (Below w.heap.size w wy))
      case atStart => exact ⟨0, Nat.zero_le _, rfl, rfl, har.out.congr (fun m => by simp), hL.out⟩
      case round =>
        obtain ⟨j, hjl, hg2, rfl, har2, hL2⟩ := hrel
        have Hg2 := Lib.hid hg2
        clear hg2 har hL
        have ci := Hcu.out wr hL2.out
        by_cases hjg : j < G.length
        · obtain ⟨ad2, rfl, had2, hck⟩ := ints_at Hur.out hjg
          have hx := Hgm.out.mem (Rk.memD (d := 0) hjg)
          obtain ⟨x, hx2⟩ : ∃ x : Nat, G.getD j 0 = x := ⟨(G.getD j 0).toNat, by omega⟩
          rw [hx2] at hck hx
          have hx256 : x < 256 := by omega
          have cj := keepB hL2.out (p := ad2.add j) (by rw [block_of_add]; exact Nat.lt_of_lt_of_le had2 HB0.out) hck
          have cx := har2.out.cell hx256
          have fx := har2.out.frozen x
          have ltg := har2.out.lt
          have hxz : (x : Int) < 256 := by omega
          have hjz : (j : Int) < (G.length : Int) := by omega
          have Ha := Lib.hid ((har2.out.set_ hx256).congr (f' := fun m => ((xss.take i).any fun s => decide ((m : Int) ∈ s)) || decide ((m : Int) ∈ G.take (j + 1))) (fun m => by
            rw [Bool.or_assoc]
            congr 1
            rw [Bool.eq_iff_iff, Bool.or_eq_true, decide_eq_true_eq, decide_eq_true_eq, decide_eq_true_eq, List.take_succ_eq_append_getElem hjg, List.mem_append, List.mem_singleton]
            have hx3 : G[j] = (x : Int) := by rw [← hx2, List.getD_eq_getElem?_getD, List.getElem?_eq_getElem hjg]; rfl
            rw [hx3]
            constructor
            · rintro (h | h)
              · exact .inl h
              · exact .inr (by omega)
            · rintro (h | h)
              · exact .inl h
              · exact .inr (by omega)))
          have Hb := Lib.hid (show Below w.heap.size w (wr.setCell ⟨w.heap.size, x, none⟩ (.bool true)) from hL2.out.grown (grown_setCell wr ⟨w.heap.size, x, none⟩ _) hL2.out.size (fun b e => by simp at e; omega))
          clear hck hx hx2 har2 hL2
          generalize (((xss.take i).any fun s => decide ((x : Int) ∈ s)) || decide ((x : Int) ∈ G.take j)) = bx at *
          go_wp2
          go_roundg (G.length - (j + 1))
          case rel => exact ⟨j + 1, hjg, rfl, by go_num, Ha.out, Hb.out⟩
          case measure => rw [Hg2.out]; omega
        · obtain rfl : j = G.length := by omega
          have Ha := Lib.hid (har2.out.congr (f' := fun m => (xss.take (i + 1)).any fun s => decide ((m : Int) ∈ s)) (fun m => by rw [Htk.out m, List.take_length]))
          clear har2
          go_wp2
          go_roundg (xss.length - (i + 1))
          case rel => exact ⟨i + 1, hlt, rfl, by go_num, Ha.out, hL2.out⟩
          case measure => rw [Hg.out]; omega
    · obtain rfl : i = xss.length := by omega
      have har' := har.out
      rw [List.take_length] at har'
      have Har := Lib.hid har'
      have HLw := Lib.hid hL.out
      have lt1 := har'.lt
      clear har' har hL
      obtain ⟨wo, rfl⟩ : ∃ wo : World, wo = wr := ⟨_, rfl⟩
      go_wp2
      go_loopg [6, 7] 256 (fun g s6 s7 wy => ∃ m : Nat, m ≤ 256 ∧ g = 256 - m ∧ s7 = .int .i64 m ∧ Hid (OwnInts wy (w.heap.size + 1) s6 (Rk.bareTo xss m)) ∧ Hid (Below (w.heap.size + 1) wo wy))
      case atStart => exact ⟨0, by omega, rfl, rfl, ⟨by simp [Rk.bareTo], .inl ⟨rfl, by simp [Rk.bareTo]⟩⟩, Below.refl _ _⟩
      case round =>
        obtain ⟨m, hm, hg2, rfl, hown, hL2⟩ := hrel
        have Hg2 := Lib.hid hg2
        clear hg2
        have hszm := hL2.out.size
        by_cases hm2 : m < 256
        · have hcm := (Har.out.below hL2.out (by omega)).cell hm2
          obtain ⟨bx, hbx⟩ : ∃ bx, bx = xss.any fun s => decide ((m : Int) ∈ s) := ⟨_, rfl⟩
          rw [← hbx] at hcm
          have hmz : (m : Int) < 256 := by omega
          have Hl := Lib.hid (Rk.bareTo_len xss m)
          obtain ⟨wq, rfl⟩ : ∃ wq : World, wq = wr := ⟨_, rfl⟩
          cases bx
          · have Ho := Lib.hid (show OwnInts wq (w.heap.size + 1) _ (Rk.bareTo xss (m + 1)) by rw [Rk.bareTo_no hbx.symm]; exact hown.out)
            clear hbx hown Hl
            go_wp2
            go_roundg (256 - (m + 1))
            case rel => exact ⟨m + 1, hm2, rfl, by go_num, Ho.out, hL2.out⟩
            case measure => rw [Hg2.out]; omega
          · have Hy := Lib.hid (Rk.bareTo_yes hbx.symm)
            clear hbx
            go_wp2_with (at_builtin; go_must (refine wpList_append_any _ rfl _ _ 26 rfl (w.heap.size + 1) 3 i0 _ 1 8 Tryz.underlying26 hi0 hz0 hz1 hz2 rfl (by decide) _ (Rk.bareTo xss m).length _ rfl (own_kept hown.out (World.grownBy_alloc _ _ none) (fun g e => by cases e)) (wq.heap.size + 1) _ 1 _ [.int .i64 m] rfl (reads_one (by omega) (cell_new0 _ _ _)) ?d2 ?d3 ?d4 ?d5 ?_))
            case d2 => first | rfl | (intro u hu; simp at hu; subst hu; rfl)
            case d3 => have := Hl.out; unfold maxLen; omega
            case d4 => have := Hl.out; omega
            case d5 => simp; omega
            intro v2 w3 hown2 hg3 hat2
            have Ho := Lib.hid (show OwnInts w3 (w.heap.size + 1) v2 (Rk.bareTo xss (m + 1)) by rw [Hy.out]; exact own_snoc hown2)
            have Hb := Lib.hid (show Below (w.heap.size + 1) wo w3 from (hL2.out.alloc (by omega) _).grown hg3 (by simp; omega) (fun k hk => own_row_ge hown.out k hk))
            clear hown2 hg3 hat2 Hy Hl hown hL2
            go_wp2
            go_roundg (256 - (m + 1))
            case rel => exact ⟨m + 1, hm2, rfl, by go_num, Ho.out, Hb.out⟩
            case measure => rw [Hg2.out]; omega
        · obtain rfl : m = 256 := by omega
          have HLe := Lib.hid (show Below w.heap.size w wr from HLw.out.trans (hL2.out.mono (by omega)))
          go_wp2
          go_ret
          exact ⟨_, rfl, hown.out, HLe.out⟩
end Go.Proofs.YtfpmbjobieeidaaGreat
