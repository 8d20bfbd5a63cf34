/-
  Contract: the specification's Decode.
-/
import Derived.Test.YtdpoecjbofofoaaGreatDoorVMd
import Derived.Deep.CutBlock
import Derived.Deep.DeepCutAuto
import Derived.StillTailTactics
namespace Go.Proofs.YtdpoecjbofofoaaGreatDoor
open Go.RowKit
attribute [local go_sem ↓] Go.wp_at_zero Go.wp_at_succ
namespace Rb
section
variable {b : List Nat}
theorem decR_short (h : b.length < 4) : decR b = .inr 4 := by unfold decR; rw [if_pos h]
theorem decR_sum (h : ¬ b.length < 4) (h2 : lows (fnv (b.take (b.length - 4))) 4 ≠ b.drop (b.length - 4)) : decR b = .inr 10 := by unfold decR; rw [if_neg h, if_pos h2]
theorem decR_head (h : ¬ b.length < 4) (h2 : lows (fnv (b.take (b.length - 4))) 4 = b.drop (b.length - 4)) (h3 : b.length < 17 ∨ b.take 5 ≠ head) : decR b = .inr 4 := by unfold decR; rw [if_neg h, if_neg (by simp [h2]), if_pos h3]
theorem decR_bad (h : ¬ b.length < 4) (h2 : lows (fnv (b.take (b.length - 4))) 4 = b.drop (b.length - 4)) (h3 : ¬ (b.length < 17 ∨ b.take 5 ≠ head)) (h4 : (logG ((b.take (b.length - 4)).drop 5)).2 = true) : decR b = .inr 4 := by
  unfold decR; rw [if_neg h, if_neg (by simp [h2]), if_neg h3, if_pos h4]
theorem decR_re (h : ¬ b.length < 4) (h2 : lows (fnv (b.take (b.length - 4))) 4 = b.drop (b.length - 4)) (h3 : ¬ (b.length < 17 ∨ b.take 5 ≠ head)) (h4 : (logG ((b.take (b.length - 4)).drop 5)).2 = false) (h5 : shape (logG ((b.take (b.length - 4)).drop 5)).1 ≠ 0) : decR b = .inr 4 := by
  unfold decR; rw [if_neg h, if_neg (by simp [h2]), if_neg h3, if_neg (by simp [h4]), if_pos h5]
theorem decR_ok (h : ¬ b.length < 4) (h2 : lows (fnv (b.take (b.length - 4))) 4 = b.drop (b.length - 4)) (h3 : ¬ (b.length < 17 ∨ b.take 5 ≠ head)) (h4 : (logG ((b.take (b.length - 4)).drop 5)).2 = false) (h5 : shape (logG ((b.take (b.length - 4)).drop 5)).1 = 0) : decR b = .inl (logG ((b.take (b.length - 4)).drop 5)).1 := by
  unfold decR; rw [if_neg h, if_neg (by simp [h2]), if_neg h3, if_neg (by simp [h4]), if_neg (by simp [h5])]
end
end Rb
namespace Rb
theorem picksG_stop (k : Nat) (s : List Nat) : picksG k s true = ([], s, true) := by cases k <;> rfl
theorem picksG_step {m : Nat} {s : List Nat} {l : List (Int × Int) × List Nat × Bool} {pre : List (Int × Int)} (h : l = (pre ++ (picksG (m + 1) s false).1, (picksG (m + 1) s false).2)) : l = ((pre ++ [(((boundG s false).1 : Int), ((boundG (boundG s false).2.1 (boundG s false).2.2).1 : Int))]) ++ (picksG m (boundG (boundG s false).2.1 (boundG s false).2.2).2.1 (boundG (boundG s false).2.1 (boundG s false).2.2).2.2).1, (picksG m (boundG (boundG s false).2.1 (boundG s false).2.2).2.1 (boundG (boundG s false).2.1 (boundG s false).2.2).2.2).2) := by
  rw [h]
  apply Prod.ext
  · show pre ++ (_ :: _) = _
    simp only [List.append_assoc, List.singleton_append]
  · rfl
theorem valsG_stop (k : Nat) (s : List Nat) : valsG k s true = ([], s, true) := by cases k <;> rfl
theorem valsG_step {m : Nat} {s : List Nat} {l : List Int × List Nat × Bool} {pre : List Int} (h : l = (pre ++ (valsG (m + 1) s false).1, (valsG (m + 1) s false).2)) : l = ((pre ++ [unzz (numG s false).1]) ++ (valsG m (numG s false).2.1 (numG s false).2.2).1, (valsG m (numG s false).2.1 (numG s false).2.2).2) := by
  rw [h]
  apply Prod.ext
  · show pre ++ (_ :: _) = _
    simp only [List.append_assoc, List.singleton_append]
  · rfl
theorem boundG_fit {s : List Nat} (b : Bool) (hs : Bytes s) : Bytes (boundG s b).2.1 ∧ (boundG s b).2.1.length ≤ s.length ∧ (boundG s b).1 ≤ 1073741824 := by
  have h1 := numG_fit b hs
  have h2 := numG_le s b
  unfold boundG; split
  · exact ⟨h1.2, h2, by simp⟩
  · exact ⟨h1.2, h2, by omega⟩
theorem countG_fit {s : List Nat} (b : Bool) (hs : Bytes s) : Bytes (countG s b).2.1 ∧ (countG s b).2.1.length ≤ s.length ∧ (countG s b).1 ≤ s.length := by
  have h1 := numG_fit b hs
  have h2 := numG_le s b
  unfold countG; split
  · exact ⟨h1.2, h2, by simp⟩
  · exact ⟨h1.2, h2, by omega⟩
end Rb
namespace Rb
theorem logG_of {s s1 s3 s4 s4' s5 s5' s6 : List Nat} {st n n2 n3 : Nat} {b1 b3 b4 b4' b5 b5' b6 : Bool} {pre : List (Int × Int)} {xs ys : List Int} (h1 : boundG s false = (st, s1, b1)) (h2 : countG s1 b1 = (n, s3, b3)) (h3 : picksG n s3 b3 = (pre, s4, b4)) (h4 : countG s4 b4 = (n2, s4', b4')) (h5 : valsG n2 s4' b4' = (xs, s5, b5)) (h6 : countG s5 b5 = (n3, s5', b5')) (h7 : valsG n3 s5' b5' = (ys, s6, b6)) :
    logG s = (⟨st, pre, xs, ys, sumOf s6⟩, b6 || !decide (s6.length = 8)) := by
  unfold logG valuesG; simp only [h1, h2, h3, h4, h5, h6, h7]
end Rb
theorem own_lt {w : World} {base : Nat} {e : TypeId} {n s : Nat} {v : Value} {xs : List Value} (h : w.ownsRow base e s v n xs) : ∀ k, v.ownBlock = some k → k < w.heap.size := by
  intro k hk
  rcases h.2 with ⟨rfl, _⟩ | ⟨g', cap, cur, rfl, _, hh, _⟩
  · simp [Value.ownBlock] at hk
  · simp [Value.ownBlock] at hk
    subst hk
    exact (Array.getElem?_eq_some_iff.1 hh).1
theorem head_str : (⟨#[83, 76, 79, 71, 1]⟩ : ByteArray) = Rb.str Rb.head := rfl
set_option maxRecDepth 20000 in
set_option maxHeartbeats 1600000 in
theorem rdecode_any (v : Value) (b : List Nat) (B : Nat) (w : World) (hv : RdB w B v b) (hB : B ≤ w.heap.size) (hb : Rb.Bytes b) (hn : b.length ≤ 100000000) :
    Calls Tryz.prog 14 #[v] w (DecPost (Rb.decR b) w) := by
  have HBy := Lib.hid hb
  obtain ⟨A, c, rfl, hc, hr⟩ := hv
  have HR := Lib.hid hr
  clear hr hb
  by_cases h4 : b.length < 4
  · have HF0 := Lib.hid ((Below.refl w.heap.size w).alloc (Nat.le_refl _) (.cells #[.slice none 0 0, .slice none 0 0, .slice none 0 0, .int .i64 0, .int .u64 0] 26))
    have HE := Lib.hid (Rb.decR_short h4)
    go_enter Tryz.func14, Tryz.ntmps14
    go_wp2_with fail
    refine bodyPost_ret (v := .tuple #[.agg #[.slice none 0 0, .slice none 0 0, .slice none 0 0, .int .i64 0, .int .u64 0], .int .i64 4]) (by simp [results, Tryz.results14, go_sem]) rfl ?_
    unfold DecPost
    rw [HE.out]
    exact ⟨_, rfl, zeroLg_reads _, HF0.out⟩
  · have h4' := Lib.hid h4
    obtain ⟨n, hbn⟩ : ∃ n, b.length = n + 4 := ⟨b.length - 4, by omega⟩
    have hA : ∃ ad, A = some ad := by obtain ⟨ad, e, -⟩ := HR.out.2 (by omega); exact ⟨ad, e⟩
    obtain ⟨ad, rfl⟩ := hA
    have hck : c ≠ n := by omega
    have HRa := Lib.hid ((Blk.new w 26 #[.slice none 0 0, .slice none 0 0, .slice none 0 0, .int .i64 0, .int .u64 0]))
    have HFa := Lib.hid ((Below.refl w.heap.size w).alloc (Nat.le_refl _) (.cells #[.slice none 0 0, .slice none 0 0, .slice none 0 0, .int .i64 0, .int .u64 0] 26))
    obtain ⟨W0, hW0⟩ : ∃ W0, W0 = w.alloc (.cells #[.slice none 0 0, .slice none 0 0, .slice none 0 0, .int .i64 0, .int .u64 0] 26) := ⟨_, rfl⟩
    have HT := Lib.hid (fun (W : World) (h : Below B w W) => (rdB_drop (k := n) (HR.out.below h) (by omega) hc hck))
    have HTk := Lib.hid (show b.take (b.length - 4) = b.take n by rw [hbn, Nat.add_sub_cancel])
    have HDr := Lib.hid (show b.drop (b.length - 4) = b.drop n by rw [hbn, Nat.add_sub_cancel])
    have hw1 : IntKind.i64.wrap ((n : Int) + 4 - 4) = (n : Int) := by rw [IntWalk.i64_in _ (by omega)]; omega
    have hw2 : IntKind.i64.wrap ((b.length : Int) - 4) = (n : Int) := by rw [hbn, IntWalk.i64_in _ (by omega)]; omega
    have Hbn := Lib.hid hbn
    have hnl : n ≤ b.length := by omega
    have hnc : n ≤ c := by omega
    have hn2 : n ≤ 100000000 := by omega
    have hni : (n : Int) ≤ (c : Int) := by omega
    have hni0 : (0 : Int) ≤ (n : Int) := by omega
    have hni2 : (n : Int) ≤ (b.length : Int) := by omega
    have hci2 : (b.length : Int) ≤ (c : Int) := by omega
    have h4d : decide ((b.length : Int) < 4) = false := by simp; omega
    have HTb := Lib.hid (show Rb.Bytes (b.take n) from fun x hx => HBy.out x (List.mem_of_mem_take hx))
    have HTd := Lib.hid (show Rb.Bytes (b.drop n) from fun x hx => HBy.out x (List.mem_of_mem_drop hx))
    have HFn := Lib.hid (fun (W : World) (h : Below B w W) => rfnv_any (.slice (some ad) n c) (b.take n) B W (rdB_cut (HR.out.below h) hnl (by omega)) HTb.out (by rw [List.length_take]; omega))
    have HLo := Lib.hid (fun (W : World) h => lows_any (.slice none 0 0) [] (Rb.fnv (b.take n)) 4 W.heap.size W (OwnB.nil _ _) h (Rb.fnv_lt _) (by omega) (by simp))
    have HSq := Lib.hid (Rb.str_beq (Rb.lows_byte 4 (Rb.fnv (b.take n))) HTd.out)
    have hsT : (convert 30 9 (.slice (some (ad.add n)) (b.length - n) (c - n))).run Tryz.prog W0.drew = .ok (.string (Rb.str (b.drop n))) W0.drew := run_str (HT.out W0.drew (by rw [hW0]; exact (HFa.out.mono hB).drew))
    clear hbn h4
    rw [← hW0] at HRa HFa
    go_enter Tryz.func14, Tryz.ntmps14
    go_upto_region 4 with fail
    rw [← hW0]
    clear hW0
    refine wp_region_noPanic ?_
    refine wp_region_held_drew (S := fun w' => (convert 30 9 (.slice (some (ad.add n)) (b.length - n) (c - n))).run Tryz.prog w' = .ok (.string (Rb.str (b.drop n))) w') (by kernel_rfl) hsT (fun hH0 => ?_)
    refine wpAnyH_take (i := 0) (v := ?_) rfl (by kernel_rfl) (by kernel_rfl) (by kernel_rfl) (fun _ _ _ h => h) (Or.inl ⟨by rfl, by intro w hSw; (try dsimp only at hSw); go_simp; rfl⟩) hH0 ?_
    refine wpAnyH_take (i := 1) (v := ?_) rfl (by kernel_rfl) (by kernel_rfl) (by kernel_rfl) (fun _ _ _ h => h) (Or.inl ⟨by rfl, by intro w hSw; (try dsimp only at hSw); go_simp; rfl⟩) hH0 ?_
    refine wpAnyH_take (i := 2) (v := ?_) rfl (by kernel_rfl) (by kernel_rfl) (by kernel_rfl) (fun _ _ _ h => h) (Or.inl ⟨by rfl, by intro w hSw; (try dsimp only at hSw); go_simp; rfl⟩) hH0 ?_
    refine wpAnyH_take (i := 3) (v := ?_) rfl (by kernel_rfl) (by kernel_rfl) (by kernel_rfl) (fun _ _ _ h => h) (Or.inl ⟨by rfl, by intro w hSw; (try dsimp only at hSw); go_simp; rfl⟩) hH0 ?_
    refine wpAnyH_take (i := 7) (v := ?_) rfl (by kernel_rfl) (by kernel_rfl) (by kernel_rfl) (fun _ _ _ h => h) (Or.inl ⟨by rfl, by intro w hSw; (try dsimp only at hSw); go_simp; rfl⟩) hH0 ?_
    refine wpAnyH_take (i := 8) (v := ?_) rfl (by kernel_rfl) (by kernel_rfl) (by kernel_rfl) (fun _ _ _ h => h) (Or.inl ⟨by rfl, by intro w hSw; (try dsimp only at hSw); go_simp; rfl⟩) hH0 ?_
    refine wpAnyH_take (i := 9) (v := ?_) rfl (by kernel_rfl) (by kernel_rfl) (by kernel_rfl) (fun _ _ _ h => h) (Or.inl ⟨by rfl, by intro w hSw; (try dsimp only at hSw); go_simp; rfl⟩) hH0 ?_
    refine wpAnyH_take (i := 10) (v := ?_) rfl (by kernel_rfl) (by kernel_rfl) (by kernel_rfl) (fun _ _ _ h => h) (Or.inl ⟨by rfl, by intro w hSw; (try dsimp only at hSw); go_simp; rfl⟩) hH0 ?_
    refine wpAnyH_take (i := 11) (v := ?_) rfl (by kernel_rfl) (by kernel_rfl) (by kernel_rfl) (fun _ _ _ h => h) (Or.inl ⟨by rfl, by intro w hSw; (try dsimp only at hSw); go_simp; rfl⟩) hH0 ?_
    simp only [Act.put, List.setIfInBounds_toArray]
    refine wpAnyH_ready (rs := [4]) (by kernel_rfl) (by simp) ?_
    refine AllReadyH.cons rfl (fun K hK => ?_) AllReadyH.nil
    go_simp
    refine (HFn.out _ (HFa.out.mono hB).drew).mono ?_
    rintro e w3 ⟨rfl, rfl⟩
    refine hK.out _ _ hsT (fun hH1 => ?_)
    clear hK K
    refine wpAnyH_ready (rs := [5]) (by kernel_rfl) (by simp) ?_
    refine AllReadyH.cons rfl (fun K hK => ?_) AllReadyH.nil
    go_simp
    refine (HLo.out _ (Nat.le_refl _)).mono ?_
    rintro e w1 ⟨v1, rfl, ho1, hb1⟩
    have hcl := run_str (rdB_of_own ho1)
    rw [List.nil_append] at hcl
    have hsT1 := run_str (HT.out w1 ((HFa.out.mono hB).drew.trans (hb1.mono (Nat.le_trans hB HFa.out.size))))
    refine hK.out _ _ hsT1 (fun hH2 => ?_)
    clear hK K
    refine wpAnyH_ready (rs := [6]) (by kernel_rfl) (by simp) ?_
    refine AllReadyH.cons rfl (fun K hK => ?_) AllReadyH.nil
    go_simp
    refine hK.out _ _ hsT1 (fun hH3 => ?_)
    clear hK K
    refine wpAnyH_take (i := 12) (v := ?_) rfl (by kernel_rfl) (by kernel_rfl) (by kernel_rfl) (fun _ _ _ h => h) (Or.inl ⟨by rfl, by intro w hSw; (try dsimp only at hSw); go_simp; rfl⟩) hH3 ?_
    refine wpAnyH_done (by kernel_rfl) (NoPanic.normal ?_) _
    go_simp
    rw [HSq.out]
    obtain ⟨q, hq⟩ : ∃ q, decide (Rb.lows (Rb.fnv (b.take n)) 4 = b.drop n) = q := ⟨_, rfl⟩
    rw [hq]
    have Hq := Lib.hid hq
    have hb1' : Below W0.heap.size W0 w1 := (Below.refl W0.heap.size W0).drew.trans hb1
    have HRes1 := Lib.hid (HRa.out.below hb1' HRa.out.lt)
    have HF1 := Lib.hid (HFa.out.trans (hb1'.mono HFa.out.size))
    have hz1 : w.heap.size < w1.heap.size := HRes1.out.lt
    clear hq hH0 hH1 hH2 hH3 hsT hsT1 hcl ho1 hb1 hb1' HLo HFn HSq hw1
    cases q
    case false =>
      have HE0 := Lib.hid (Rb.decR_sum h4'.out (by rw [HTk.out, HDr.out]; exact of_decide_eq_false Hq.out))
      go_upto_region 5 with fail
      have hE := HE0.out
      obtain ⟨⟨l0, l1, l2, l3, l4⟩, ⟨m0, m1, m2, m3, m4⟩, ⟨n1, n2, n3, n4⟩, hBz, hgz⟩ := log_same HRes1.out
      have HBz := Lib.hid hBz
      have HFz := Lib.hid (HF1.out.grown hgz (Nat.le_trans HF1.out.size (Nat.le_refl _)) (fun k e => by cases e; exact Nat.le_refl _))
      have HE := Lib.hid hE
      clear hBz hgz hE
      go_wp2_with fail
      have k0 := HBz.out.cell 0
      have k1 := HBz.out.cell 1
      have k2 := HBz.out.cell 2
      have k3 := HBz.out.cell 3
      have k4 := HBz.out.cell 4
      simp at k0 k1 k2 k3 k4
      refine bodyPost_ret (v := .tuple #[.agg #[.slice none 0 0, .slice none 0 0, .slice none 0 0, .int .i64 0, .int .u64 0], .int .i64 10]) (by simp [results, Tryz.results14, go_sem, k0, k1, k2, k3, k4]) rfl ?_
      unfold DecPost
      rw [HE.out]
      exact ⟨_, rfl, zeroLg_reads _, HFz.out⟩
    have HSum := Lib.hid (show Rb.lows (Rb.fnv (b.take (b.length - 4))) 4 = b.drop (b.length - 4) by rw [HTk.out, HDr.out]; exact of_decide_eq_true Hq.out)
    by_cases h17 : b.length < 17
    case pos =>
      have HE0 := Lib.hid (Rb.decR_head h4'.out HSum.out (.inl h17))
      have h17d : decide ((b.length : Int) < 17) = true := by simp; omega
      go_upto_region 7 with fail
      have hE := HE0.out
      obtain ⟨⟨l0, l1, l2, l3, l4⟩, ⟨m0, m1, m2, m3, m4⟩, ⟨n1, n2, n3, n4⟩, hBz, hgz⟩ := log_same HRes1.out
      have HBz := Lib.hid hBz
      have HFz := Lib.hid (HF1.out.grown hgz (Nat.le_trans HF1.out.size (Nat.le_refl _)) (fun k e => by cases e; exact Nat.le_refl _))
      have HE := Lib.hid hE
      clear hBz hgz hE
      go_wp2_with fail
      have k0 := HBz.out.cell 0
      have k1 := HBz.out.cell 1
      have k2 := HBz.out.cell 2
      have k3 := HBz.out.cell 3
      have k4 := HBz.out.cell 4
      simp at k0 k1 k2 k3 k4
      refine bodyPost_ret (v := .tuple #[.agg #[.slice none 0 0, .slice none 0 0, .slice none 0 0, .int .i64 0, .int .u64 0], .int .i64 4]) (by simp [results, Tryz.results14, go_sem, k0, k1, k2, k3, k4]) rfl ?_
      unfold DecPost
      rw [HE.out]
      exact ⟨_, rfl, zeroLg_reads _, HFz.out⟩
    have h17d : decide ((b.length : Int) < 17) = false := by simp; omega
    have hs5 := run_str (rdB_cut (k := 5) (HR.out.below (HF1.out.mono hB)) (by omega) (by omega : 5 ≤ c))
    have HS5 := Lib.hid (Rb.str_beq (show Rb.Bytes (b.take 5) from fun x hx => HBy.out x (List.mem_of_mem_take hx)) Rb.head_bytes)
    have hc5 : (5 : Int) ≤ (c : Int) := by omega
    go_upto_if 37 with fail
    rw [show ((Rb.str (b.take 5)).toList == [83, 76, 79, 71, 1]) = decide (b.take 5 = Rb.head) by rw [← HS5.out, Rb.str_list Rb.head]; rfl]
    obtain ⟨q, hq⟩ : ∃ q, decide (b.take 5 = Rb.head) = q := ⟨_, rfl⟩
    rw [hq]
    have Hq5 := Lib.hid hq
    clear hq hs5 HS5
    cases q
    case false =>
      have HE0 := Lib.hid (Rb.decR_head h4'.out HSum.out (.inr (of_decide_eq_false Hq5.out)))
      go_upto_region 7 with fail
      have hE := HE0.out
      obtain ⟨⟨l0, l1, l2, l3, l4⟩, ⟨m0, m1, m2, m3, m4⟩, ⟨n1, n2, n3, n4⟩, hBz, hgz⟩ := log_same HRes1.out
      have HBz := Lib.hid hBz
      have HFz := Lib.hid (HF1.out.grown hgz (Nat.le_trans HF1.out.size (Nat.le_refl _)) (fun k e => by cases e; exact Nat.le_refl _))
      have HE := Lib.hid hE
      clear hBz hgz hE
      go_wp2_with fail
      have k0 := HBz.out.cell 0
      have k1 := HBz.out.cell 1
      have k2 := HBz.out.cell 2
      have k3 := HBz.out.cell 3
      have k4 := HBz.out.cell 4
      simp at k0 k1 k2 k3 k4
      refine bodyPost_ret (v := .tuple #[.agg #[.slice none 0 0, .slice none 0 0, .slice none 0 0, .int .i64 0, .int .u64 0], .int .i64 4]) (by simp [results, Tryz.results14, go_sem, k0, k1, k2, k3, k4]) rfl ?_
      unfold DecPost
      rw [HE.out]
      exact ⟨_, rfl, zeroLg_reads _, HFz.out⟩
    have HHd := Lib.hid (show ¬ (b.length < 17 ∨ b.take 5 ≠ Rb.head) by rintro (h | h); exact h17 h; exact h (of_decide_eq_true Hq5.out))
    have Hs : Hid ((b.take (b.length - 4)).drop 5 = (b.take n).drop 5) := Lib.hid (by rw [HTk.out])
    have hn13 : 13 ≤ n := by have := Hbn.out; omega
    have hw9 : IntKind.i64.wrap ((b.length : Int) - 4) = (n : Int) := hw2
    have h5n : (5 : Int) ≤ (n : Int) := by omega
    have HB5 := Lib.hid (show Reads w1 B 1 (some ⟨ad.block, ad.off + 5, none⟩) (n - 5) (((b.take n).drop 5).map fun (b : Nat) => Value.int .u8 (b : Int)) by
      obtain ⟨A1, c1, e1, e2, h1⟩ := rdB_drop (k := 5) (HR.out.below (HF1.out.mono hB)) (by omega) hc (by omega)
      obtain ⟨A2, c2, e3, e4, h2⟩ := rdB_cut (k := n - 5) (c := c1) h1 (by rw [List.length_drop]; omega) (by rw [List.length_drop] at e2; omega)
      injection e1 with i1 i2 i3
      injection e3 with j1 j2 j3
      rw [← j1, ← i1, ← j2] at h2
      rw [List.drop_take]
      exact h2)
    have hsl : ((b.take n).drop 5).length = n - 5 := by rw [List.length_drop, List.length_take]; omega
    have Hsb := Lib.hid (show Rb.Bytes ((b.take n).drop 5) from fun x hx => HTb.out x (List.mem_of_mem_drop hx))
    have Hsl := Lib.hid (show ((b.take n).drop 5).length ≤ 100000000 by omega)
    go_upto_region 10 with fail
    have hl1 : (w1.alloc (.cells #[.slice (some ⟨ad.block, ad.off + 5, none⟩) (n - 5) (c - 5), .bool false] 71)).heap.size = w1.heap.size + 1 := by simp
    have HBL := Blk.new (w1.alloc (.cells #[.slice (some ⟨ad.block, ad.off + 5, none⟩) (n - 5) (c - 5), .bool false] 71)) 26 #[.slice none 0 0, .slice none 0 0, .slice none 0 0, .int .i64 0, .int .u64 0]
    rw [hl1] at HBL
    have HT0 := Lib.hid (show Tk w ((w1.alloc (.cells #[.slice (some ⟨ad.block, ad.off + 5, none⟩) (n - 5) (c - 5), .bool false] 71)).alloc (.cells #[.slice none 0 0, .slice none 0 0, .slice none 0 0, .int .i64 0, .int .u64 0] 26)) w.heap.size w1.heap.size (w1.heap.size + 1) B (.slice none 0 0) (.slice none 0 0) (.slice none 0 0) 0 0 [] [] [] ((b.take n).drop 5) false from
      ⟨(HRes1.out.alloc _).alloc _, HBL, OwnP.nil _ _, OwnV.nil _ _, OwnV.nil _ _,
        Rdr.grown ⟨some ⟨ad.block, ad.off + 5, none⟩, c - 5, by rw [hsl]; exact Blk.new w1 71 #[.slice (some ⟨ad.block, ad.off + 5, none⟩) (n - 5) (c - 5), .bool false], by omega, by rw [hsl]; exact HB5.out.alloc (by omega) _⟩ (by omega) (World.grownBy_alloc _ _ none) (fun k e => by cases e),
        (HF1.out.alloc (by omega) _).alloc (by rw [hl1]; omega) _, hz1, Nat.lt_succ_self _, hB⟩)
    generalize (w1.alloc (.cells #[.slice (some ⟨ad.block, ad.off + 5, none⟩) (n - 5) (c - 5), .bool false] 71)).alloc (.cells #[.slice none 0 0, .slice none 0 0, .slice none 0 0, .int .i64 0, .int .u64 0] 26) = W2 at HT0 ⊢
    clear HBL hl1 hsl HB5 HRes1 HF1
    generalize hLe : w1.heap.size + 1 = L at HT0 ⊢
    generalize w1.heap.size = g at HT0 ⊢
    clear hLe
    generalize (b.take n).drop 5 = s at *
    have hRg := HT0.out.lt1
    have hgL := HT0.out.lt2
    have hBg : B ≤ g := by omega
    have HBo := Lib.hid (fun (s' : List Nat) (b' : Bool) (W : World) h1 h2 h3 => bounded_any g B s' b' W h1 hBg h2 h3)
    have HCo := Lib.hid (fun (s' : List Nat) (b' : Bool) (W : World) h1 h2 h3 => count_any g B s' b' W h1 hBg h2 h3)
    have HSi := Lib.hid (fun (s' : List Nat) (b' : Bool) (W : World) h1 h2 => signed_any g B s' b' W h1 hBg h2)
    obtain ⟨hx1, hx2, hx3⟩ := Rb.boundG_fit false Hsb.out
    have HB1 := Lib.hid (HBo.out s false W2 HT0.out.rdr Hsb.out (by have := Hsl.out; omega))
    have HLs := Lib.hid hx1
    have hs100 := Hsl.out
    generalize hXe : Rb.boundG s false = x at *
    obtain ⟨st, s1, b1⟩ := x
    simp only at *
    have HX1 := Lib.hid hXe
    clear hXe hx1
    go_wp2_with fail
    refine HB1.out.mono ?_
    rintro e w3 ⟨rfl, hr3, hg3⟩
    have HT1 := Lib.hid (HT0.out.taker hr3 hg3)
    have l3 : w3.cell? ⟨L, 3, none⟩ = some (.int .i64 0) := HT1.out.log.cell 3
    have f3 := HT1.out.log.frozen 3
    have HT2 := Lib.hid (HT1.out.steps (st : Int))
    obtain ⟨hy1, hy2, hy3⟩ := Rb.countG_fit b1 HLs.out
    have HC1 := Lib.hid (HCo.out s1 b1 _ HT2.out.rdr HLs.out (by omega))
    generalize hXe : Rb.countG s1 b1 = x at *
    obtain ⟨n3, s3, b3⟩ := x
    simp only at *
    have HX2 := Lib.hid hXe
    have Hy1 := Lib.hid hy1
    clear hr3 hg3 hXe hy1
    go_wp2_with fail
    refine HC1.out.mono ?_
    rintro e w4 ⟨rfl, hr4, hg4⟩
    have HT4 := Lib.hid (HT2.out.taker hr4 hg4)
    clear hr4 hg4 l3 f3 HB1 HC1
    obtain ⟨i0, hi0, hz0, hz1', hz2⟩ := info_parts info_pick
    obtain ⟨j0, hj0, hy0', hy1', hy2'⟩ := info_parts info_i64
    go_upto_block 0 with fail
    go_cut [] (fun wx => ∃ (u : Value) (pre : List (Int × Int)) (s4 : List Nat) (b4 : Bool), Hid (Rb.picksG n3 s3 b3 = (pre, s4, b4)) ∧ Hid (Rb.Bytes s4 ∧ s4.length ≤ 100000000) ∧ Hid (Tk w wx w.heap.size g L B u (.slice none 0 0) (.slice none 0 0) (st : Int) 0 pre [] [] s4 b4))
    case first =>
      go_wp2_with fail
      go_loopg [7] n3 (fun q i wr => ∃ (u : Value) (pre : List (Int × Int)) (s4 : List Nat) (b4 : Bool), q ≤ n3 ∧ i = .int .i64 q ∧ Hid (Rb.picksG n3 s3 b3 = (pre ++ (Rb.picksG q s4 b4).1, (Rb.picksG q s4 b4).2)) ∧ Hid (Rb.Bytes s4 ∧ s4.length ≤ 100000000) ∧ Hid (pre.length + q ≤ n3) ∧ Hid (Tk w wr w.heap.size g L B u (.slice none 0 0) (.slice none 0 0) (st : Int) 0 pre [] [] s4 b4))
      case atStart => exact ⟨.slice none 0 0, [], s3, b3, Nat.le_refl _, rfl, Lib.hid (by simp), Lib.hid ⟨Hy1.out, by omega⟩, Lib.hid (by simp), HT4⟩
      case round =>
        obtain ⟨u, pre, s4, b4, hq, rfl, hp, hbs, hpl, hT⟩ := hrel
        by_cases hk0 : 0 < gk
        · have k0 : decide ((gk : Int) > 0) = true := by simp; omega
          have c1 : wr.cell? ⟨g, 1, none⟩ = some (.bool b4) := by obtain ⟨A, cp, hb, -, -⟩ := hT.out.rdr; exact hb.cell 1
          cases b4 with
          | true =>
            have HV := Lib.hid (show Rb.picksG n3 s3 b3 = (pre, s4, true) by rw [hp.out, Rb.picksG_stop]; simp)
            go_wp2_with fail
            go_meet
            exact ⟨u, pre, s4, true, HV, hbs, hT⟩
          | false =>
            obtain ⟨m, rfl⟩ : ∃ m, gk = m + 1 := ⟨gk - 1, by omega⟩
            have HSt := Lib.hid (Rb.picksG_step hp.out)
            obtain ⟨Au, cu, rfl, -, -, -⟩ := own_form hT.out.own1
            have c0 : wr.cell? ⟨L, 0, none⟩ = some (.slice Au pre.length cu) := hT.out.log.cell 0
            obtain ⟨hx1, hx2, hx3⟩ := Rb.boundG_fit false hbs.out.1
            have hlen4 := hbs.out.2
            have hB1 := HBo.out s4 false wr.drew hT.out.drew.rdr hbs.out.1 (by omega)
            obtain ⟨hx4, hx5, hx6⟩ := Rb.boundG_fit (Rb.boundG s4 false).2.2 hx1
            have hB2 := fun W h => HBo.out (Rb.boundG s4 false).2.1 (Rb.boundG s4 false).2.2 W h hx1 (by omega)
            generalize Rb.boundG s4 false = x at *
            obtain ⟨a1, s5, b5⟩ := x
            simp only at *
            generalize Rb.boundG s5 b5 = x at *
            obtain ⟨a2, s6, b6⟩ := x
            simp only at *
            have HB1 := Lib.hid hB1
            have HB2 := Lib.hid hB2
            have Hx4 := Lib.hid hx4
            have hwm : IntKind.i64.wrap (((m + 1 : Nat) : Int) - 1) = ((m : Nat) : Int) := by rw [IntWalk.i64_in _ (by omega)]; omega
            have hp9 : pre.length ≤ 100000000 := by have := hpl.out; omega
            clear hB1 hB2 hx1 hx4 hp
            go_upto_region 14 with fail
            have hS0 : wr.drew.cell? ⟨L, 0, none⟩ = some (.slice Au pre.length cu) := c0
            refine z_region (fun w' => w'.cell? ⟨L, 0, none⟩ = some (.slice Au pre.length cu)) 10 (by kernel_rfl) ?_
            refine z_take (i := 0) (v := ?_) rfl (by kernel_rfl) (by kernel_rfl) (by kernel_rfl) (fun _ _ _ h => h) (by kernel_rfl) (by decide) hS0 (by rfl) (by intro w hSw; (try dsimp only at hSw); go_simp; rfl) ?_
            refine z_take (i := 1) (v := ?_) rfl (by kernel_rfl) (by kernel_rfl) (by kernel_rfl) (fun _ _ _ h => h) (by kernel_rfl) (by decide) hS0 (by rfl) (by intro w hSw; (try dsimp only at hSw); go_simp; rfl) ?_
            refine z_take (i := 2) (v := ?_) rfl (by kernel_rfl) (by kernel_rfl) (by kernel_rfl) (fun _ _ _ h => h) (by kernel_rfl) (by decide) hS0 (by rfl) (by intro w hSw; (try dsimp only at hSw); go_simp; rfl) ?_
            refine z_take (i := 4) (v := ?_) rfl (by kernel_rfl) (by kernel_rfl) (by kernel_rfl) (fun _ _ _ h => h) (by kernel_rfl) (by decide) hS0 (by rfl) (by intro w hSw; (try dsimp only at hSw); go_simp; rfl) ?_
            simp only [Act.put, List.setIfInBounds_toArray]
            refine z_one (i := 3) rfl (by kernel_rfl) (by rfl) (fun K hK => ?_)
            go_simp
            refine HB1.out.mono ?_
            rintro e w5 ⟨rfl, hr5, hg5⟩
            have hT5 := hT.out.drew.taker hr5 hg5
            have hS5 : w5.cell? ⟨L, 0, none⟩ = some (.slice Au pre.length cu) := hT5.log.cell 0
            refine hK _ _ (fun _ => hS5) ?_
            clear hK K
            refine z_one (i := 5) rfl (by kernel_rfl) (by rfl) (fun K hK => ?_)
            go_simp
            refine (HB2.out _ hT5.rdr).mono ?_
            rintro e w6 ⟨rfl, hr6, hg6⟩
            have hT6 := hT5.taker hr6 hg6
            have hS6 : w6.cell? ⟨L, 0, none⟩ = some (.slice Au pre.length cu) := hT6.log.cell 0
            refine hK _ _ (fun _ => hS6) ?_
            clear hK K
            refine z_take (i := 6) (v := ?_) rfl (by kernel_rfl) (by kernel_rfl) (by kernel_rfl) (fun _ _ _ h => h) (by kernel_rfl) (by decide) hS6 (by rfl) (by intro w hSw; (try dsimp only at hSw); go_simp; rfl) ?_
            simp only [Act.put, List.setIfInBounds_toArray]
            refine z_one (i := 7) rfl (by kernel_rfl) (by rfl) (fun K hK => ?_)
            go_simp
            have hT7 := hT6.alloc (.cells #[.int .i64 (a1 : Int), .int .i64 (a2 : Int)] 56)
            have hS7 : (w6.alloc (.cells #[.int .i64 (a1 : Int), .int .i64 (a2 : Int)] 56)).cell? ⟨L, 0, none⟩ = some (.slice Au pre.length cu) := hT7.log.cell 0
            have HNb := Blk.new w6 56 #[.int .i64 (a1 : Int), .int .i64 (a2 : Int)]
            have hL6 := hT6.log.lt
            have hL7 := hT7.log.lt
            refine hK _ _ (fun _ => hS7) ?_
            clear hK K
            refine z_one (i := 8) rfl (by kernel_rfl) (by rfl) (fun K hK => ?_)
            refine wp_append_any _ _ _ 22 rfl (L + 1) 56 i0 _ 2 16 Tryz.underlying22 hi0 hz0 hz1' hz2 rfl (by decide) (.slice Au pre.length cu) pre.length _ (by rfl) hT7.own1 (w6.heap.size + 1) _ 1 _ [.int .i64 (a1 : Int), .int .i64 (a2 : Int)] (by rfl) (reads_12 (by omega) (HNb.cell 0) (HNb.cell 1)) (by intro u hu; simp at hu; rcases hu with rfl | rfl <;> rfl) (by unfold maxLen; omega) (by omega) (by omega) ?_
            intro v2 w8 hown2 hg2 hat2
            obtain ⟨A4, c4, rfl, -, -, -⟩ := own_form hown2
            obtain ⟨-, hlog8, -, -⟩ := hT7.row hg2 (fun k e => own_ge hT7.own1 _ e)
            have hS8 : w8.cell? ⟨L, 0, none⟩ = some (.slice Au pre.length cu) := hlog8.cell 0
            have hf8 := hlog8.frozen 0
            have HT9 := Lib.hid (hT7.app1 (x := ((a1 : Int), (a2 : Int))) hown2 hg2 (.inr rfl) (.inr rfl))
            clear hown2 hg2 hat2 hlog8 HNb
            refine hK _ _ (fun _ => hS8) ?_
            clear hK K
            refine z_take (i := 9) (v := ?_) rfl (by kernel_rfl) (by kernel_rfl) (by kernel_rfl) (fun _ _ _ h => h) (by kernel_rfl) (by decide) hS8 (by rfl) (by intro w hSw; (try dsimp only at hSw); go_simp; rfl) ?_
            simp only [Act.put, List.setIfInBounds_toArray]
            refine z_one (i := 10) rfl (by kernel_rfl) (by rfl) (fun K hK => ?_)
            go_simp
            refine hK _ _ (fun h => absurd rfl h) ?_
            clear hK K
            refine z_done (by kernel_rfl) ?_ _
            clear hT5 hT6 hT7 hr5 hr6 hg5 hg6 hS5 hS6 hS7 hS8 hS0 hT
            go_wp2_with fail
            go_roundg m
            case rel => exact ⟨.slice A4 (pre.length + 1) c4, pre ++ [((a1 : Int), (a2 : Int))], s6, b6, by omega, rfl, HSt, Lib.hid ⟨Hx4.out, by omega⟩, Lib.hid (by have := hpl.out; rw [List.length_append, List.length_singleton]; omega), HT9⟩
            case measure => omega
        · have k0 : decide ((gk : Int) > 0) = false := by simp; omega
          have HV := Lib.hid (show Rb.picksG n3 s3 b3 = (pre, s4, b4) by rw [hp.out, show gk = 0 by omega]; show (pre ++ [], _) = _; rw [List.append_nil]; rfl)
          clear hp
          go_wp2_with fail
          go_meet
          exact ⟨u, pre, s4, b4, HV, hbs, hT⟩
    case rest =>
      obtain ⟨u1, pre, s4, b4, hp1, hbs4, hTc⟩ := hcut
      obtain ⟨hy1, hy2, hy3⟩ := Rb.countG_fit b4 hbs4.out.1
      have hl9 := hbs4.out.2
      have HC2 := Lib.hid (HCo.out s4 b4 _ hTc.out.rdr hbs4.out.1 (by omega))
      generalize hXe : Rb.countG s4 b4 = x at *
      obtain ⟨n4, s4', b4'⟩ := x
      simp only at *
      have HXc2 := Lib.hid hXe
      have Hy2 := Lib.hid hy1
      clear hXe hy1
      go_wp2_with fail
      refine HC2.out.mono ?_
      rintro e wk2 ⟨rfl, hr4, hg4⟩
      have HTs2 := Lib.hid (hTc.out.taker hr4 hg4)
      clear hr4 hg4 HC2
      go_upto_block 2 with fail
      go_cut [] (fun wx => ∃ (u : Value) (zs : List Int) (s6 : List Nat) (b6 : Bool), Hid (Rb.valsG n4 s4' b4' = (zs, s6, b6)) ∧ Hid (Rb.Bytes s6 ∧ s6.length ≤ 100000000) ∧ Hid (zs.length ≤ 100000000) ∧ Hid (Tk w wx w.heap.size g L B u1 u (.slice none 0 0) (st : Int) 0 pre zs [] s6 b6))
      case first =>
        go_wp2_with fail
        go_loopg [8] n4 (fun q i wr => ∃ (u : Value) (zs : List Int) (s6 : List Nat) (b6 : Bool), q ≤ n4 ∧ i = .int .i64 q ∧ Hid (Rb.valsG n4 s4' b4' = (zs ++ (Rb.valsG q s6 b6).1, (Rb.valsG q s6 b6).2)) ∧ Hid (Rb.Bytes s6 ∧ s6.length ≤ 100000000) ∧ Hid (zs.length + q ≤ n4) ∧ Hid (Tk w wr w.heap.size g L B u1 u (.slice none 0 0) (st : Int) 0 pre zs [] s6 b6))
        case atStart => exact ⟨.slice none 0 0, [], s4', b4', Nat.le_refl _, rfl, Lib.hid (by simp), Lib.hid ⟨Hy2.out, by omega⟩, Lib.hid (by simp), HTs2⟩
        case round =>
          obtain ⟨u, zs, s6, b6, hq, rfl, hp, hbs, hpl, hT⟩ := hrel
          by_cases hk0 : 0 < gk
          · have k0 : decide ((gk : Int) > 0) = true := by simp; omega
            have c1 : wr.cell? ⟨g, 1, none⟩ = some (.bool b6) := by obtain ⟨A, cp, hb, -, -⟩ := hT.out.rdr; exact hb.cell 1
            cases b6 with
            | true =>
              have HV := Lib.hid (show Rb.valsG n4 s4' b4' = (zs, s6, true) by rw [hp.out, Rb.valsG_stop]; simp)
              go_wp2_with fail
              go_meet
              exact ⟨u, zs, s6, true, HV, hbs, Lib.hid (by have := hpl.out; omega), hT⟩
            | false =>
              obtain ⟨m, rfl⟩ : ∃ m, gk = m + 1 := ⟨gk - 1, by omega⟩
              have HSt := Lib.hid (Rb.valsG_step hp.out)
              obtain ⟨Au, cu, rfl, -, -, -⟩ := own_form hT.out.own2
              have c0 : wr.cell? ⟨L, 1, none⟩ = some (.slice Au zs.length cu) := hT.out.log.cell 1
              have hnf := Rb.numG_fit false hbs.out.1
              have hnl := Rb.numG_le s6 false
              have hlen6 := hbs.out.2
              have hB1 := HSi.out s6 false wr.drew hT.out.drew.rdr hbs.out.1
              generalize Rb.numG s6 false = x at *
              obtain ⟨a1, s7, b7⟩ := x
              simp only at *
              have HB1 := Lib.hid hB1
              have Hnf := Lib.hid hnf.2
              have hwm : IntKind.i64.wrap (((m + 1 : Nat) : Int) - 1) = ((m : Nat) : Int) := by rw [IntWalk.i64_in _ (by omega)]; omega
              have hp9 : zs.length ≤ 100000000 := by have := hpl.out; omega
              clear hB1 hnf hp
              generalize Rb.unzz a1 = z at *
              go_upto_region 18 with fail
              have hS0 : wr.drew.cell? ⟨L, 1, none⟩ = some (.slice Au zs.length cu) := c0
              refine z_region (fun w' => w'.cell? ⟨L, 1, none⟩ = some (.slice Au zs.length cu)) 7 (by kernel_rfl) ?_
              refine z_take (i := 0) (v := ?_) rfl (by kernel_rfl) (by kernel_rfl) (by kernel_rfl) (fun _ _ _ h => h) (by kernel_rfl) (by decide) hS0 (by rfl) (by intro w hSw; (try dsimp only at hSw); go_simp; rfl) ?_
              refine z_take (i := 1) (v := ?_) rfl (by kernel_rfl) (by kernel_rfl) (by kernel_rfl) (fun _ _ _ h => h) (by kernel_rfl) (by decide) hS0 (by rfl) (by intro w hSw; (try dsimp only at hSw); go_simp; rfl) ?_
              refine z_take (i := 2) (v := ?_) rfl (by kernel_rfl) (by kernel_rfl) (by kernel_rfl) (fun _ _ _ h => h) (by kernel_rfl) (by decide) hS0 (by rfl) (by intro w hSw; (try dsimp only at hSw); go_simp; rfl) ?_
              simp only [Act.put, List.setIfInBounds_toArray]
              refine z_one (i := 3) rfl (by kernel_rfl) (by rfl) (fun K hK => ?_)
              go_simp
              refine HB1.out.mono ?_
              rintro e w6 ⟨rfl, hr6, hg6⟩
              have hT6 := hT.out.drew.taker hr6 hg6
              have hS6 : w6.cell? ⟨L, 1, none⟩ = some (.slice Au zs.length cu) := hT6.log.cell 1
              refine hK _ _ (fun _ => hS6) ?_
              clear hK K
              refine z_one (i := 4) rfl (by kernel_rfl) (by rfl) (fun K hK => ?_)
              go_simp
              have hT7 := hT6.alloc (.cells #[.int .i64 z] 2)
              have hS7 : (w6.alloc (.cells #[.int .i64 z] 2)).cell? ⟨L, 1, none⟩ = some (.slice Au zs.length cu) := hT7.log.cell 1
              have HNb := Blk.new w6 2 #[.int .i64 z]
              have hL6 := hT6.log.lt
              have hL7 := hT7.log.lt
              refine hK _ _ (fun _ => hS7) ?_
              clear hK K
              refine z_one (i := 5) rfl (by kernel_rfl) (by rfl) (fun K hK => ?_)
              refine wp_append_any _ _ _ 23 rfl (L + 1) 2 j0 _ 1 8 Tryz.underlying23 hj0 hy0' hy1' hy2' rfl (by decide) (.slice Au zs.length cu) zs.length _ (by rfl) hT7.own2 (w6.heap.size + 1) _ 1 _ [.int .i64 z] (by rfl) (reads_1 (by omega) (HNb.cell 0)) (by intro u hu; simp at hu; subst hu; rfl) (by unfold maxLen; omega) (by omega) (by omega) ?_
              intro v2 w8 hown2 hg2 hat2
              obtain ⟨A4, c4, rfl, -, -, -⟩ := own_form hown2
              obtain ⟨-, hlog8, -, -⟩ := hT7.row hg2 (fun k e => own_ge hT7.own2 _ e)
              have hS8 : w8.cell? ⟨L, 1, none⟩ = some (.slice Au zs.length cu) := hlog8.cell 1
              have hf8 := hlog8.frozen 1
              have HT9 := Lib.hid (hT7.app2 (x := z) hown2 hg2 rfl)
              clear hown2 hg2 hat2 hlog8 HNb
              refine hK _ _ (fun _ => hS8) ?_
              clear hK K
              refine z_take (i := 6) (v := ?_) rfl (by kernel_rfl) (by kernel_rfl) (by kernel_rfl) (fun _ _ _ h => h) (by kernel_rfl) (by decide) hS8 (by rfl) (by intro w hSw; (try dsimp only at hSw); go_simp; rfl) ?_
              simp only [Act.put, List.setIfInBounds_toArray]
              refine z_one (i := 7) rfl (by kernel_rfl) (by rfl) (fun K hK => ?_)
              go_simp
              refine hK _ _ (fun h => absurd rfl h) ?_
              clear hK K
              refine z_done (by kernel_rfl) ?_ _
              clear hT6 hT7 hr6 hg6 hS6 hS7 hS8 hS0 hT
              go_wp2_with fail
              go_roundg m
              case rel => exact ⟨.slice A4 (zs.length + 1) c4, zs ++ [z], s7, b7, by omega, rfl, HSt, Lib.hid ⟨Hnf.out, by omega⟩, Lib.hid (by have := hpl.out; rw [List.length_append, List.length_singleton]; omega), HT9⟩
              case measure => omega
          · have k0 : decide ((gk : Int) > 0) = false := by simp; omega
            have HV := Lib.hid (show Rb.valsG n4 s4' b4' = (zs, s6, b6) by rw [hp.out, show gk = 0 by omega]; show (zs ++ [], _) = _; rw [List.append_nil]; rfl)
            clear hp
            go_wp2_with fail
            go_meet
            exact ⟨u, zs, s6, b6, HV, hbs, Lib.hid (by have := hpl.out; omega), hT⟩
      case rest =>
        obtain ⟨iv, xs, s5, b5, hp2, hbs5, hxl, hTd⟩ := hcut
        obtain ⟨hy1, hy2, hy3⟩ := Rb.countG_fit b5 hbs5.out.1
        have hl9 := hbs5.out.2
        have HC3 := Lib.hid (HCo.out s5 b5 _ hTd.out.rdr hbs5.out.1 (by omega))
        generalize hXe : Rb.countG s5 b5 = x at *
        obtain ⟨n5, s5', b5'⟩ := x
        simp only at *
        have HXc3 := Lib.hid hXe
        have Hy3 := Lib.hid hy1
        clear hXe hy1
        go_wp2_with fail
        refine HC3.out.mono ?_
        rintro e wk3 ⟨rfl, hr4, hg4⟩
        have HTs3 := Lib.hid (hTd.out.taker hr4 hg4)
        clear hr4 hg4 HC3
        go_upto_block 4 with fail
        go_cut [] (fun wx => ∃ (u : Value) (zs : List Int) (s6 : List Nat) (b6 : Bool), Hid (Rb.valsG n5 s5' b5' = (zs, s6, b6)) ∧ Hid (Rb.Bytes s6 ∧ s6.length ≤ 100000000) ∧ Hid (zs.length ≤ 100000000) ∧ Hid (Tk w wx w.heap.size g L B u1 iv u (st : Int) 0 pre xs zs s6 b6))
        case first =>
          go_wp2_with fail
          go_loopg [9] n5 (fun q i wr => ∃ (u : Value) (zs : List Int) (s6 : List Nat) (b6 : Bool), q ≤ n5 ∧ i = .int .i64 q ∧ Hid (Rb.valsG n5 s5' b5' = (zs ++ (Rb.valsG q s6 b6).1, (Rb.valsG q s6 b6).2)) ∧ Hid (Rb.Bytes s6 ∧ s6.length ≤ 100000000) ∧ Hid (zs.length + q ≤ n5) ∧ Hid (Tk w wr w.heap.size g L B u1 iv u (st : Int) 0 pre xs zs s6 b6) ∧ Hid (∀ j, u.ownBlock = some j → iv.ownBlock ≠ some j))
          case atStart => exact ⟨.slice none 0 0, [], s5', b5', Nat.le_refl _, rfl, Lib.hid (by simp), Lib.hid ⟨Hy3.out, by omega⟩, Lib.hid (by simp), HTs3, Lib.hid (fun j e => by cases e)⟩
          case round =>
            obtain ⟨u, zs, s6, b6, hq, rfl, hp, hbs, hpl, hT, hne⟩ := hrel
            by_cases hk0 : 0 < gk
            · have k0 : decide ((gk : Int) > 0) = true := by simp; omega
              have c1 : wr.cell? ⟨g, 1, none⟩ = some (.bool b6) := by obtain ⟨A, cp, hb, -, -⟩ := hT.out.rdr; exact hb.cell 1
              cases b6 with
              | true =>
                have HV := Lib.hid (show Rb.valsG n5 s5' b5' = (zs, s6, true) by rw [hp.out, Rb.valsG_stop]; simp)
                go_wp2_with fail
                go_meet
                exact ⟨u, zs, s6, true, HV, hbs, Lib.hid (by have := hpl.out; omega), hT⟩
              | false =>
                obtain ⟨m, rfl⟩ : ∃ m, gk = m + 1 := ⟨gk - 1, by omega⟩
                have HSt := Lib.hid (Rb.valsG_step hp.out)
                obtain ⟨Au, cu, rfl, -, -, -⟩ := own_form hT.out.own3
                have c0 : wr.cell? ⟨L, 2, none⟩ = some (.slice Au zs.length cu) := hT.out.log.cell 2
                have hnf := Rb.numG_fit false hbs.out.1
                have hnl := Rb.numG_le s6 false
                have hlen6 := hbs.out.2
                have hB1 := HSi.out s6 false wr.drew hT.out.drew.rdr hbs.out.1
                generalize Rb.numG s6 false = x at *
                obtain ⟨a1, s7, b7⟩ := x
                simp only at *
                have HB1 := Lib.hid hB1
                have Hnf := Lib.hid hnf.2
                have hwm : IntKind.i64.wrap (((m + 1 : Nat) : Int) - 1) = ((m : Nat) : Int) := by rw [IntWalk.i64_in _ (by omega)]; omega
                have hp9 : zs.length ≤ 100000000 := by have := hpl.out; omega
                clear hB1 hnf hp
                generalize Rb.unzz a1 = z at *
                go_upto_region 22 with fail
                have hS0 : wr.drew.cell? ⟨L, 2, none⟩ = some (.slice Au zs.length cu) := c0
                refine z_region (fun w' => w'.cell? ⟨L, 2, none⟩ = some (.slice Au zs.length cu)) 7 (by kernel_rfl) ?_
                refine z_take (i := 0) (v := ?_) rfl (by kernel_rfl) (by kernel_rfl) (by kernel_rfl) (fun _ _ _ h => h) (by kernel_rfl) (by decide) hS0 (by rfl) (by intro w hSw; (try dsimp only at hSw); go_simp; rfl) ?_
                refine z_take (i := 1) (v := ?_) rfl (by kernel_rfl) (by kernel_rfl) (by kernel_rfl) (fun _ _ _ h => h) (by kernel_rfl) (by decide) hS0 (by rfl) (by intro w hSw; (try dsimp only at hSw); go_simp; rfl) ?_
                refine z_take (i := 2) (v := ?_) rfl (by kernel_rfl) (by kernel_rfl) (by kernel_rfl) (fun _ _ _ h => h) (by kernel_rfl) (by decide) hS0 (by rfl) (by intro w hSw; (try dsimp only at hSw); go_simp; rfl) ?_
                simp only [Act.put, List.setIfInBounds_toArray]
                refine z_one (i := 3) rfl (by kernel_rfl) (by rfl) (fun K hK => ?_)
                go_simp
                refine HB1.out.mono ?_
                rintro e w6 ⟨rfl, hr6, hg6⟩
                have hT6 := hT.out.drew.taker hr6 hg6
                have hS6 : w6.cell? ⟨L, 2, none⟩ = some (.slice Au zs.length cu) := hT6.log.cell 2
                refine hK _ _ (fun _ => hS6) ?_
                clear hK K
                refine z_one (i := 4) rfl (by kernel_rfl) (by rfl) (fun K hK => ?_)
                go_simp
                have hT7 := hT6.alloc (.cells #[.int .i64 z] 2)
                have hS7 : (w6.alloc (.cells #[.int .i64 z] 2)).cell? ⟨L, 2, none⟩ = some (.slice Au zs.length cu) := hT7.log.cell 2
                have HNb := Blk.new w6 2 #[.int .i64 z]
                have hL6 := hT6.log.lt
                have hL7 := hT7.log.lt
                refine hK _ _ (fun _ => hS7) ?_
                clear hK K
                refine z_one (i := 5) rfl (by kernel_rfl) (by rfl) (fun K hK => ?_)
                refine wp_append_any _ _ _ 23 rfl (L + 1) 2 j0 _ 1 8 Tryz.underlying23 hj0 hy0' hy1' hy2' rfl (by decide) (.slice Au zs.length cu) zs.length _ (by rfl) hT7.own3 (w6.heap.size + 1) _ 1 _ [.int .i64 z] (by rfl) (reads_1 (by omega) (HNb.cell 0)) (by intro u hu; simp at hu; subst hu; rfl) (by unfold maxLen; omega) (by omega) (by omega) ?_
                intro v2 w8 hown2 hg2 hat2
                obtain ⟨A4, c4, rfl, -, -, -⟩ := own_form hown2
                obtain ⟨-, hlog8, -, -⟩ := hT7.row hg2 (fun k e => own_ge hT7.own3 _ e)
                have hS8 : w8.cell? ⟨L, 2, none⟩ = some (.slice Au zs.length cu) := hlog8.cell 2
                have hf8 := hlog8.frozen 2
                have HT9 := Lib.hid (hT7.app3 (x := z) hown2 hg2 hne.out)
                have HNe := Lib.hid (show ∀ j, (Value.slice A4 (zs.length + 1) c4).ownBlock = some j → iv.ownBlock ≠ some j by
                  intro j e1 e2
                  rcases hat2 with h | h
                  · exact hne.out j (h.symm.trans e1) e2
                  · have h2 := own_lt hT7.own2 j e2
                    rw [h] at e1; cases e1; omega)
                clear hown2 hg2 hat2 hlog8 HNb
                refine hK _ _ (fun _ => hS8) ?_
                clear hK K
                refine z_take (i := 6) (v := ?_) rfl (by kernel_rfl) (by kernel_rfl) (by kernel_rfl) (fun _ _ _ h => h) (by kernel_rfl) (by decide) hS8 (by rfl) (by intro w hSw; (try dsimp only at hSw); go_simp; rfl) ?_
                simp only [Act.put, List.setIfInBounds_toArray]
                refine z_one (i := 7) rfl (by kernel_rfl) (by rfl) (fun K hK => ?_)
                go_simp
                refine hK _ _ (fun h => absurd rfl h) ?_
                clear hK K
                refine z_done (by kernel_rfl) ?_ _
                clear hT6 hT7 hr6 hg6 hS6 hS7 hS8 hS0 hT
                go_wp2_with fail
                go_roundg m
                case rel => exact ⟨.slice A4 (zs.length + 1) c4, zs ++ [z], s7, b7, by omega, rfl, HSt, Lib.hid ⟨Hnf.out, by omega⟩, Lib.hid (by have := hpl.out; rw [List.length_append, List.length_singleton]; omega), HT9, HNe⟩
                case measure => omega
            · have k0 : decide ((gk : Int) > 0) = false := by simp; omega
              have HV := Lib.hid (show Rb.valsG n5 s5' b5' = (zs, s6, b6) by rw [hp.out, show gk = 0 by omega]; show (zs ++ [], _) = _; rw [List.append_nil]; rfl)
              clear hp
              go_wp2_with fail
              go_meet
              exact ⟨u, zs, s6, b6, HV, hbs, Lib.hid (by have := hpl.out; omega), hT⟩
        case rest =>
          obtain ⟨cv, ys, s6, b6, hp3, hbs6, hyl, hTe⟩ := hcut
          have HLg := Lib.hid (Rb.logG_of HX1.out HX2.out hp1.out HXc2.out hp2.out HXc3.out hp3.out)
          have hxl' := hxl.out
          have hyl' := hyl.out
          have HBad := Lib.hid (Rb.decR_bad h4'.out HSum.out HHd.out)
          have HRe := Lib.hid (Rb.decR_re h4'.out HSum.out HHd.out)
          have HOk := Lib.hid (Rb.decR_ok h4'.out HSum.out HHd.out)
          rw [Hs.out, HLg.out] at HBad HRe HOk
          simp only at HBad HRe HOk
          obtain ⟨A7, c7, hbk7, hc7, hrd7⟩ := hTe.out.rdr
          have HRd7 := Lib.hid hrd7
          have t0 : wc.cell? ⟨g, 0, none⟩ = some (.slice A7 s6.length c7) := hbk7.cell 0
          have t1 : wc.cell? ⟨g, 1, none⟩ = some (.bool b6) := hbk7.cell 1
          have HResE := Lib.hid hTe.out.res
          have HFE := Lib.hid hTe.out.low
          clear hbk7 hrd7 hc7 HBo HCo HSi HT HT0 HT1 HT2 HT4 HTs2 HTs3 hTc hTd
          have k8 : ((s6.length : Int) != 8) = !decide (s6.length = 8) := by
            rw [Bool.eq_iff_iff]; simp; omega
          cases b6
          case true =>
            have HE0 := Lib.hid (HBad.out (by simp))
            go_upto_region 24 with fail
            have hE := HE0.out
            obtain ⟨⟨l0, l1, l2, l3, l4⟩, ⟨m0, m1, m2, m3, m4⟩, ⟨n1, n2, n3, n4⟩, hBz, hgz⟩ := log_same HResE.out
            have HBz := Lib.hid hBz
            have HFz := Lib.hid (HFE.out.grown hgz (Nat.le_trans HFE.out.size (Nat.le_refl _)) (fun k e => by cases e; exact Nat.le_refl _))
            have HE := Lib.hid hE
            clear hBz hgz hE
            go_wp2_with fail
            have k0 := HBz.out.cell 0
            have k1 := HBz.out.cell 1
            have k2 := HBz.out.cell 2
            have k3 := HBz.out.cell 3
            have k4 := HBz.out.cell 4
            simp at k0 k1 k2 k3 k4
            refine bodyPost_ret (v := .tuple #[.agg #[.slice none 0 0, .slice none 0 0, .slice none 0 0, .int .i64 0, .int .u64 0], .int .i64 4]) (by simp [results, Tryz.results14, go_sem, k0, k1, k2, k3, k4]) rfl ?_
            unfold DecPost
            rw [HE.out]
            exact ⟨_, rfl, zeroLg_reads _, HFz.out⟩
          by_cases h8 : s6.length = 8
          case neg =>
            have HE0 := Lib.hid (HBad.out (by simp [h8]))
            have k9 : ((s6.length : Int) != 8) = true := by simp; omega
            clear k8
            go_upto_region 24 with fail
            have hE := HE0.out
            obtain ⟨⟨l0, l1, l2, l3, l4⟩, ⟨m0, m1, m2, m3, m4⟩, ⟨n1, n2, n3, n4⟩, hBz, hgz⟩ := log_same HResE.out
            have HBz := Lib.hid hBz
            have HFz := Lib.hid (HFE.out.grown hgz (Nat.le_trans HFE.out.size (Nat.le_refl _)) (fun k e => by cases e; exact Nat.le_refl _))
            have HE := Lib.hid hE
            clear hBz hgz hE
            go_wp2_with fail
            have k0 := HBz.out.cell 0
            have k1 := HBz.out.cell 1
            have k2 := HBz.out.cell 2
            have k3 := HBz.out.cell 3
            have k4 := HBz.out.cell 4
            simp at k0 k1 k2 k3 k4
            refine bodyPost_ret (v := .tuple #[.agg #[.slice none 0 0, .slice none 0 0, .slice none 0 0, .int .i64 0, .int .u64 0], .int .i64 4]) (by simp [results, Tryz.results14, go_sem, k0, k1, k2, k3, k4]) rfl ?_
            unfold DecPost
            rw [HE.out]
            exact ⟨_, rfl, zeroLg_reads _, HFz.out⟩
          have k9 : ((s6.length : Int) != 8) = false := by simp; omega
          have HRe' := Lib.hid (HRe.out (by simp [h8]))
          have HOk' := Lib.hid (HOk.out (by simp [h8]))
          have Hby := Lib.hid hbs6.out.1
          clear k8 HBad HRe HOk HResE HFE
          go_wp2_with fail
          go_loopg [10] 8 (fun q i wr => q ≤ 8 ∧ i = .int .i64 ((q : Int) - 1) ∧ Hid (Tk w wr w.heap.size g L B u1 iv cv (st : Int) (Rb.sumOf (s6.drop q)) pre xs ys s6 false))
          case atStart => exact ⟨Nat.le_refl _, rfl, by rw [List.drop_of_length_le (by omega)]; exact hTe⟩
          case round =>
            obtain ⟨hq8, rfl, hT⟩ := hrel
            by_cases hk0 : 0 < gk
            · obtain ⟨m, rfl⟩ : ∃ m, gk = m + 1 := ⟨gk - 1, by omega⟩
              have hi : ((m + 1 : Nat) : Int) - 1 = (m : Int) := by omega
              rw [hi]
              obtain ⟨A8, c8, hbk8, -, hrd8⟩ := hT.out.rdr
              obtain ⟨ad8, rfl, -, hcell⟩ := rdB_at hrd8 (show m < s6.length by omega)
              have y0 : wr.cell? ⟨g, 0, none⟩ = some (.slice (some ad8) s6.length c8) := hbk8.cell 0
              have y4 : wr.cell? ⟨L, 4, none⟩ = some (.int .u64 ((Rb.sumOf (s6.drop (m + 1)) : Nat) : Int)) := hT.out.log.cell 4
              have yf := hT.out.log.frozen 4
              have hbyte := Rb.bytes_at Hby.out m
              have hsum : Rb.sumOf (s6.drop m) = s6.getD m 0 + 256 * Rb.sumOf (s6.drop (m + 1)) := by
                rw [List.drop_eq_getElem_cons (show m < s6.length by omega), List.getD_eq_getElem?_getD, List.getElem?_eq_getElem (show m < s6.length by omega)]
                rfl
              have hlt : Rb.sumOf (s6.drop m) < 18446744073709551616 := by
                have h1 := Rb.sumOf_lt (s6.drop m) fun x hx => Hby.out x (List.mem_of_mem_drop hx)
                have h2 : 256 ^ (s6.drop m).length ≤ 256 ^ 8 := Nat.pow_le_pow_right (by omega) (by rw [List.length_drop]; omega)
                have h3 : (256 : Nat) ^ 8 = 18446744073709551616 := rfl
                omega
              have HSum2 := Lib.hid hsum
              generalize Rb.sumOf (s6.drop (m + 1)) = acc at *
              generalize hA2 : Rb.sumOf (s6.drop m) = acc2 at *
              have HA2 := Lib.hid hA2
              clear hA2
              generalize s6.getD m 0 = x at *
              have e1 : IntKind.u64.wrap (256 * (acc : Int)) = 256 * (acc : Int) := by rw [IntKind.wrap_u64]; omega
              have e2 : IntKind.u64.wrap (x : Int) = (x : Int) := by rw [IntKind.wrap_u64]; omega
              have e3 : IntKind.u64.wrap (256 * (acc : Int) + (x : Int)) = (acc2 : Int) := by rw [IntKind.wrap_u64]; omega
              have r1 : (0 : Int) ≤ (m : Int) := by omega
              have r2 : (m : Int) < (s6.length : Int) := by omega
              have r3 : m < s6.length := by omega
              have r4 : (m : Int).toNat = m := by omega
              have r5 : (m : Int) < 8 := by omega
              have r6 : m < 8 := by omega
              have HT9 := Lib.hid ((hT.out.sums acc2).drew)
              clear hsum hlt hbk8 hrd8 hT hi
              go_wp2_with fail
              have hS0 : wr.drew.cell? ⟨g, 0, none⟩ = some (.slice (some ad8) s6.length c8) ∧ wr.drew.cell? ⟨L, 4, none⟩ = some (.int .u64 (acc : Int)) ∧ wr.drew.cell? (ad8.add m) = some (.int .u8 (x : Int)) := ⟨y0, y4, hcell⟩
              refine z_region (fun w' => w'.cell? ⟨g, 0, none⟩ = some (.slice (some ad8) s6.length c8) ∧ w'.cell? ⟨L, 4, none⟩ = some (.int .u64 (acc : Int)) ∧ w'.cell? (ad8.add m) = some (.int .u8 (x : Int))) 13 (by kernel_rfl) ?_
              refine z_take (i := 0) (v := ?_) rfl (by kernel_rfl) (by kernel_rfl) (by kernel_rfl) (fun _ _ _ h => h) (by kernel_rfl) (by decide) hS0 (by rfl) (by intro w hSw; obtain ⟨q0, q4, q5⟩ := hSw; go_simp; rfl) ?_
              refine z_take (i := 1) (v := ?_) rfl (by kernel_rfl) (by kernel_rfl) (by kernel_rfl) (fun _ _ _ h => h) (by kernel_rfl) (by decide) hS0 (by rfl) (by intro w hSw; obtain ⟨q0, q4, q5⟩ := hSw; go_simp; rfl) ?_
              refine z_take (i := 2) (v := ?_) rfl (by kernel_rfl) (by kernel_rfl) (by kernel_rfl) (fun _ _ _ h => h) (by kernel_rfl) (by decide) hS0 (by rfl) (by intro w hSw; obtain ⟨q0, q4, q5⟩ := hSw; go_simp; rfl) ?_
              refine z_take (i := 3) (v := ?_) rfl (by kernel_rfl) (by kernel_rfl) (by kernel_rfl) (fun _ _ _ h => h) (by kernel_rfl) (by decide) hS0 (by rfl) (by intro w hSw; obtain ⟨q0, q4, q5⟩ := hSw; go_simp; rfl) ?_
              refine z_take (i := 4) (v := ?_) rfl (by kernel_rfl) (by kernel_rfl) (by kernel_rfl) (fun _ _ _ h => h) (by kernel_rfl) (by decide) hS0 (by rfl) (by intro w hSw; obtain ⟨q0, q4, q5⟩ := hSw; go_simp; rfl) ?_
              refine z_take (i := 5) (v := ?_) rfl (by kernel_rfl) (by kernel_rfl) (by kernel_rfl) (fun _ _ _ h => h) (by kernel_rfl) (by decide) hS0 (by rfl) (by intro w hSw; obtain ⟨q0, q4, q5⟩ := hSw; go_simp; rfl) ?_
              refine z_take (i := 6) (v := ?_) rfl (by kernel_rfl) (by kernel_rfl) (by kernel_rfl) (fun _ _ _ h => h) (by kernel_rfl) (by decide) hS0 (by rfl) (by intro w hSw; obtain ⟨q0, q4, q5⟩ := hSw; go_simp; rfl) ?_
              refine z_take (i := 7) (v := ?_) rfl (by kernel_rfl) (by kernel_rfl) (by kernel_rfl) (fun _ _ _ h => h) (by kernel_rfl) (by decide) hS0 (by rfl) (by intro w hSw; obtain ⟨q0, q4, q5⟩ := hSw; go_simp; rfl) ?_
              refine z_take (i := 8) (v := ?_) rfl (by kernel_rfl) (by kernel_rfl) (by kernel_rfl) (fun _ _ _ h => h) (by kernel_rfl) (by decide) hS0 (by rfl) (by intro w hSw; obtain ⟨q0, q4, q5⟩ := hSw; go_simp; rfl) ?_
              refine z_take (i := 9) (v := ?_) rfl (by kernel_rfl) (by kernel_rfl) (by kernel_rfl) (fun _ _ _ h => h) (by kernel_rfl) (by decide) hS0 (by rfl) (by intro w hSw; obtain ⟨q0, q4, q5⟩ := hSw; go_simp; rfl) ?_
              refine z_take (i := 10) (v := ?_) rfl (by kernel_rfl) (by kernel_rfl) (by kernel_rfl) (fun _ _ _ h => h) (by kernel_rfl) (by decide) hS0 (by rfl) (by intro w hSw; obtain ⟨q0, q4, q5⟩ := hSw; go_simp; rfl) ?_
              refine z_take (i := 11) (v := ?_) rfl (by kernel_rfl) (by kernel_rfl) (by kernel_rfl) (fun _ _ _ h => h) (by kernel_rfl) (by decide) hS0 (by rfl) (by intro w hSw; obtain ⟨q0, q4, q5⟩ := hSw; go_simp; rfl) ?_
              refine z_take (i := 12) (v := ?_) rfl (by kernel_rfl) (by kernel_rfl) (by kernel_rfl) (fun _ _ _ h => h) (by kernel_rfl) (by decide) hS0 (by rfl) (by intro w hSw; obtain ⟨q0, q4, q5⟩ := hSw; go_simp; rfl) ?_
              simp only [Act.put, List.setIfInBounds_toArray]
              refine z_one (i := 13) rfl (by kernel_rfl) (by rfl) (fun K hK => ?_)
              go_simp
              refine hK _ _ (fun h => absurd rfl h) ?_
              clear hK K
              refine z_done (by kernel_rfl) ?_ _
              clear hS0
              go_wp2_with fail
              go_roundg m
              case rel => exact ⟨by omega, rfl, by rw [HA2.out]; exact HT9⟩
              case measure => omega
            · obtain rfl : gk = 0 := by omega
              rw [show ((0 : Nat) : Int) - 1 = -1 from rfl]
              rw [List.drop_zero] at hT
              generalize Rb.sumOf s6 = su at *
              obtain ⟨Au, cu, rfl, -, -, -⟩ := own_form hT.out.own1
              obtain ⟨Ai, ci, rfl, -, -, -⟩ := own_form hT.out.own2
              obtain ⟨Ac, cc, rfl, -, -, -⟩ := own_form hT.out.own3
              have y0 : wr.cell? ⟨L, 0, none⟩ = some (.slice Au pre.length cu) := hT.out.log.cell 0
              have y1 : wr.cell? ⟨L, 1, none⟩ = some (.slice Ai xs.length ci) := hT.out.log.cell 1
              have y2 : wr.cell? ⟨L, 2, none⟩ = some (.slice Ac ys.length cc) := hT.out.log.cell 2
              have y3 : wr.cell? ⟨L, 3, none⟩ = some (.int .i64 (st : Int)) := hT.out.log.cell 3
              have y4 : wr.cell? ⟨L, 4, none⟩ = some (.int .u64 (su : Int)) := hT.out.log.cell 4
              have HoL := Lib.hid (show OwnL wr (L + 1) (.agg #[.slice Au pre.length cu, .slice Ai xs.length ci, .slice Ac ys.length cc, .int .i64 (st : Int), .int .u64 (su : Int)]) ⟨(st : Int), pre, xs, ys, su⟩ from ⟨_, _, _, rfl, hT.out.own1, hT.out.own2, hT.out.own3, by show xs.length ≤ _; omega, by show ys.length ≤ _; omega⟩)
              have HShp := Lib.hid (rshape_any _ ⟨(st : Int), pre, xs, ys, su⟩ wr.heap.size wr HoL.out.reads (Nat.le_refl _))
              obtain ⟨sh, hsh⟩ : ∃ sh, Rb.shape ⟨(st : Int), pre, xs, ys, su⟩ = sh := ⟨_, rfl⟩
              rw [hsh] at HShp
              have Hsh := Lib.hid hsh
              clear hsh
              have HB10 := Lib.hid hT.out.log
              have HRes10 := Lib.hid hT.out.res
              have HF10 := Lib.hid hT.out.low
              clear hTe hT
              go_wp2_with fail
              refine HShp.out.mono ?_
              rintro e w10 ⟨rfl, hb10⟩
              have HRes11 := Lib.hid (HRes10.out.below hb10 HRes10.out.lt)
              have HF11 := Lib.hid (HF10.out.trans (hb10.mono HF10.out.size))
              have HBl11 := Lib.hid (HB10.out.below hb10 HB10.out.lt)
              have HoL11 := Lib.hid (HoL.out.kept (row := none) ⟨hb10.os, hb10.tape, hb10.output, hb10.size, fun i hi _ => hb10.block i hi⟩ (fun k e => by cases e))
              clear hb10 HShp y0 y1 y2 y3 y4
              by_cases hz : sh = 0
              case neg =>
                have hs1 : (sh != 0) = true := by simpa using hz
                have HE0 := Lib.hid (HRe'.out (by rw [Hsh.out]; exact hz))
                clear hz
                go_upto_region 30 with fail
                have hE := HE0.out
                obtain ⟨⟨l0, l1, l2, l3, l4⟩, ⟨m0, m1, m2, m3, m4⟩, ⟨n1, n2, n3, n4⟩, hBz, hgz⟩ := log_same HRes11.out
                have HBz := Lib.hid hBz
                have HFz := Lib.hid (HF11.out.grown hgz (Nat.le_trans HF11.out.size (Nat.le_refl _)) (fun k e => by cases e; exact Nat.le_refl _))
                have HE := Lib.hid hE
                clear hBz hgz hE
                go_wp2_with fail
                have k0 := HBz.out.cell 0
                have k1 := HBz.out.cell 1
                have k2 := HBz.out.cell 2
                have k3 := HBz.out.cell 3
                have k4 := HBz.out.cell 4
                simp at k0 k1 k2 k3 k4
                refine bodyPost_ret (v := .tuple #[.agg #[.slice none 0 0, .slice none 0 0, .slice none 0 0, .int .i64 0, .int .u64 0], .int .i64 4]) (by simp [results, Tryz.results14, go_sem, k0, k1, k2, k3, k4]) rfl ?_
                unfold DecPost
                rw [HE.out]
                exact ⟨_, rfl, zeroLg_reads _, HFz.out⟩
              subst hz
              have HE0 := Lib.hid (HOk'.out Hsh.out)
              go_upto_region 31 with fail
              have y0 : w10.cell? ⟨L, 0, none⟩ = some (.slice Au pre.length cu) := HBl11.out.cell 0
              have y1 : w10.cell? ⟨L, 1, none⟩ = some (.slice Ai xs.length ci) := HBl11.out.cell 1
              have y2 : w10.cell? ⟨L, 2, none⟩ = some (.slice Ac ys.length cc) := HBl11.out.cell 2
              have y3 : w10.cell? ⟨L, 3, none⟩ = some (.int .i64 (st : Int)) := HBl11.out.cell 3
              have y4 : w10.cell? ⟨L, 4, none⟩ = some (.int .u64 (su : Int)) := HBl11.out.cell 4
              obtain ⟨⟨l0, l1, l2, l3, l4⟩, ⟨m0, m1, m2, m3, m4⟩, hBz, hgz⟩ := log_set (.slice Au pre.length cu) (.slice Ai xs.length ci) (.slice Ac ys.length cc) (.int .i64 (st : Int)) (.int .u64 (su : Int)) HRes11.out
              have HBz := Lib.hid hBz
              have HFz := Lib.hid (HF11.out.grown hgz (Nat.le_trans HF11.out.size (Nat.le_refl _)) (fun k e => by cases e; exact Nat.le_refl _))
              have HoLz := Lib.hid (HoL11.out.kept hgz (fun k e => by cases e; omega))
              clear hBz hgz
              go_wp2_with fail
              have k0 := HBz.out.cell 0
              have k1 := HBz.out.cell 1
              have k2 := HBz.out.cell 2
              have k3 := HBz.out.cell 3
              have k4 := HBz.out.cell 4
              simp at k0 k1 k2 k3 k4
              refine bodyPost_ret (v := .tuple #[.agg #[.slice Au pre.length cu, .slice Ai xs.length ci, .slice Ac ys.length cc, .int .i64 (st : Int), .int .u64 (su : Int)], .int .i64 0]) (by simp [results, Tryz.results14, go_sem, k0, k1, k2, k3, k4]) rfl ?_
              unfold DecPost
              rw [HE0.out]
              exact ⟨_, rfl, HoLz.out.reads, HFz.out⟩
end Go.Proofs.YtdpoecjbofofoaaGreatDoor
