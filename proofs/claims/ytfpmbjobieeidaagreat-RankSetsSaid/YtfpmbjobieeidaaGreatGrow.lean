/-
  The walk of the search for hitting sets.
-/
import Derived.Test.YtfpmbjobieeidaaGreatLeaf
import Derived.Deep.RegionHeld3
namespace Go.Proofs.YtfpmbjobieeidaaGreat
open Go.RowKit

theorem keepB {B : Nat} {w w' : World} (h : Below B w w') {p : Addr} (hp : p.block < B) {u : Value} (hc : w.cell? p = some u) : w'.cell? p = some u := (h.cell hp).trans hc
theorem below_any {W0 W w1 : World} (h : Below W0.heap.size W0 W) (hb : Below W.heap.size W w1) : Below W0.heap.size W0 w1 := h.trans (hb.mono h.size)

theorem cell_new0 (w : World) (t : TypeId) (u : Value) : (w.alloc (.cells #[u] t)).cell? ⟨w.heap.size, 0, none⟩ = some u := (Blk.new w t #[u]).cell 0
theorem reads_one {w : World} {g B : Nat} {u : Value} (hb : g < B) (h : w.cell? ⟨g, 0, none⟩ = some u) : Reads w B 1 (some ⟨g, 0, none⟩) 1 [u] :=
  ⟨rfl, fun _ => ⟨_, rfl, hb, fun j v hj => by
    cases j with
    | zero => simp at hj; subst hj; rw [add_zero_]; exact h
    | succ j => simp at hj⟩⟩
theorem own_row_ge {w : World} {base : Nat} {e : TypeId} {n s : Nat} {v : Value} {xs : List Value} (h : w.ownsRow base e s v n xs) : ∀ k, v.ownBlock = some k → base ≤ k := by
  intro k hk
  obtain ⟨A, c, rfl, _, _, hb⟩ := own_form h
  cases A with
  | none => simp [Value.ownBlock] at hk
  | some ad => simp [Value.ownBlock] at hk; have := hb ad rfl; omega
theorem own_snoc {w : World} {base : Nat} {v : Value} {l : List Int} {x : Int} (h : w.ownsRow base 3 1 v (l.length + 1) (l.map (Value.int .i64) ++ [.int .i64 x])) : OwnInts w base v (l ++ [x]) := by
  unfold OwnInts
  simpa using h

/-- The arguments of the search. -/
def gArgs (v : Value) (m b gs gz gh gn : Nat) : Array Value := #[v, mk m, .pointer (some ⟨gs, 0, none⟩), .pointer (some ⟨b + 1, 0, none⟩), .pointer (some ⟨gn, 0, none⟩), .pointer (some ⟨b + 2, 0, none⟩), .pointer (some ⟨gz, 0, none⟩), .pointer (some ⟨b + 3, 0, none⟩), .pointer (some ⟨gh, 0, none⟩)]

set_option maxRecDepth 100000 in
set_option maxHeartbeats 1000000 in
/-- No number more may be taken. -/
theorem grow_end {w : World} {b gs gz gH gh gn : Nat} {As : Option Addr} {cS : Nat} {H : Nat → Nat} {ss : List (List Int)} {size : Nat} (E : Env w b gs gz gH gh gn As cS H ss size) {found : List (List Int)} (F : Fnd w b found)
    {v : Value} {l : List Int} (hl : OwnInts w 0 v l) (hls : l.length = size) (hs3 : size ≤ 3) (m : Nat) (hfo : 0 ≤ Rk.fo m ss.length) :
    Calls Tryz.prog 60 (gArgs v m b gs gz gh gn) w (GPost b (true, found) w) := by
  obtain ⟨A, c, rfl, hnc, hr, _⟩ := own_form hl
  have HE := Lib.hid E
  have HF := Lib.hid F
  have lt_gs := E.bSets.lt
  have lt_gz := E.bSize.lt
  have c_gs : w.cell? ⟨gs, 0, none⟩ = some (.slice As ss.length cS) := E.bSets.cell 0
  have c_gz : w.cell? ⟨gz, 0, none⟩ = some (.int .i64 size) := E.bSize.cell 0
  have Hop := Lib.hid (fun W => open_any m ss.length W E.many)
  unfold gArgs mk
  unfold mk at Hop
  subst hls
  clear E F hr hl hnc
  generalize Rk.fo m ss.length = f at *
  generalize Rk.wd m 0 = a0 at *
  generalize Rk.wd m 1 = a1 at *
  generalize Rk.wd m 2 = a2 at *
  generalize Rk.wd m 3 = a3 at *
  go_enter Tryz.func60, Tryz.ntmps60
  go_wp2_with fail
  refine (Hop.out _).mono ?_
  rintro e w2 ⟨rfl, hb2⟩
  have h02 : Below w.heap.size w w2 := ((Below.refl _ w).alloc (Nat.le_refl _) _).trans (hb2.mono (by simp))
  have c_gz2 := keepB h02 (p := ⟨gz, 0, none⟩) lt_gz c_gz
  clear hb2 Hop c_gs c_gz
  go_wp2
  go_ret
  exact ⟨rfl, HF.out.below h02, FrB.below h02⟩

set_option maxRecDepth 100000 in
set_option maxHeartbeats 2000000 in
theorem grow_step {size : Nat} {b gs gz gH gh gn : Nat} {As : Option Addr} {cS : Nat} {H : Nat → Nat} {ss : List (List Int)} (hs3 : size ≤ 3) (d : Nat)
    (IH : ∀ (w : World) (found : List (List Int)) (v : Value) (l : List Int) (m : Nat), Env w b gs gz gH gh gn As cS H ss size → Fnd w b found → found.length ≤ 256 → OwnInts w 0 v l → l.length + d = size → (∀ x ∈ l, 0 ≤ x ∧ x < 256) →
      Calls Tryz.prog 60 (gArgs v m b gs gz gh gn) w (GPost b (Rk.grow H ss d l m found) w))
    {w : World} (E : Env w b gs gz gH gh gn As cS H ss size) {found : List (List Int)} (F : Fnd w b found) (hfl : found.length ≤ 256)
    {v : Value} {l : List Int} (hl : OwnInts w 0 v l) (hls : l.length + (d + 1) = size) (hlr : ∀ x ∈ l, 0 ≤ x ∧ x < 256) (m : Nat) (hfo : 0 ≤ Rk.fo m ss.length) :
    Calls Tryz.prog 60 (gArgs v m b gs gz gh gn) w (GPost b (Rk.steps (fun x found => Rk.grow H ss d (l ++ [x]) (m ||| H x.toNat) found) (ss.getD (Rk.fo m ss.length).toNat []) found) w) := by
  obtain ⟨A, c, rfl, hnc, hr, _⟩ := own_form hl
  have HE := Lib.hid E
  have HF := Lib.hid F
  have HL := Lib.hid hl
  unfold gArgs mk at IH
  have HIH := Lib.hid IH
  have Hlr := Lib.hid hlr
  have lt_gs := E.bSets.lt
  have lt_gz := E.bSize.lt
  have c_gs : w.cell? ⟨gs, 0, none⟩ = some (.slice As ss.length cS) := E.bSets.cell 0
  have c_gz : w.cell? ⟨gz, 0, none⟩ = some (.int .i64 size) := E.bSize.cell 0
  have Hop := Lib.hid (fun W => open_any m ss.length W E.many)
  obtain ⟨k, hk, hf, _⟩ : ∃ k : Nat, k < ss.length ∧ Rk.fo m ss.length = (k : Int) ∧ True := by
    rcases Rk.fo_cases m ss.length with ⟨h, _⟩ | ⟨k, h1, h2, _⟩
    · omega
    · exact ⟨k, h1, h2, trivial⟩
  rw [hf] at Hop
  rw [hf, Int.toNat_natCast]
  have hne : ((l.length : Int) == size) = false := by simp; omega
  obtain ⟨A', c', vs, e', _, _, hrs, his⟩ := E.rSets
  have eA : As = A' := by injection e'
  subst eA
  obtain ⟨ad, u, rfl, hadb, hcu, hu⟩ := sets_at hrs his hk
  have hns : ∀ x ∈ ss.getD k [], 0 ≤ x ∧ x < 256 := (E.each _ (by rw [List.getD_eq_getElem?_getD, List.getElem?_eq_getElem hk]; exact List.getElem_mem hk)).2
  have Hns := Lib.hid hns
  have Hu := Lib.hid hu
  have lt_b := E.lts
  have lt_b3 := E.bGrow.lt
  have Hmk := Lib.hid (show mk m = .agg #[.int .u64 (Rk.wd m 0 : Int), .int .u64 (Rk.wd m 1 : Int), .int .u64 (Rk.wd m 2 : Int), .int .u64 (Rk.wd m 3 : Int)] from rfl)
  unfold gArgs mk
  unfold mk at Hop
  clear E F hr hl hnc IH hlr hrs his hu hns hf hfo e'
  generalize ss.getD k [] = ns at *
  obtain ⟨An, cn, rfl, _, hnl, hrn⟩ := Hu.out
  have Hrn := Lib.hid hrn
  clear hrn
  go_enter Tryz.func60, Tryz.ntmps60
  go_wp2_with fail
  refine (Hop.out _).mono ?_
  rintro e w2 ⟨rfl, hb2⟩
  have h02 : Below w.heap.size w w2 := ((Below.refl _ w).alloc (Nat.le_refl _) _).trans (hb2.mono (by simp))
  have c_gz2 := keepB h02 (p := ⟨gz, 0, none⟩) lt_gz c_gz
  have c_gs2 := keepB h02 (p := ⟨gs, 0, none⟩) lt_gs c_gs
  have c_u2 := keepB h02 (p := ad.add k) (by rw [block_of_add]; omega) hcu
  have Hhave := Lib.hid ((Blk.new w 91 #[.int .u64 (Rk.wd m 0 : Int), .int .u64 (Rk.wd m 1 : Int), .int .u64 (Rk.wd m 2 : Int), .int .u64 (Rk.wd m 3 : Int)]).below hb2 (by simp))
  clear hb2 Hop c_gs c_gz hcu
  go_wp2
  go_loopg [58] ns.length (fun g i wr => ∃ j : Nat, j ≤ ns.length ∧ g = ns.length - j ∧ i = .int .i64 j ∧ ∃ fd, Hid (Rk.steps (fun x found => Rk.grow H ss d (l ++ [x]) (m ||| H x.toNat) found) (ns.take j) found = (true, fd)) ∧ fd.length ≤ 256 ∧ Fnd wr b fd ∧ FrB b w2 wr)
  case atStart => exact ⟨0, Nat.zero_le _, rfl, rfl, found, rfl, hfl, HF.out.below h02, FrB.refl _ _⟩
  case round =>
    obtain ⟨j, hj, hgj, rfl, fd, hst, hfdl, hF, hFr⟩ := hrel
    have Hgj := Lib.hid hgj
    have HFw := Lib.hid hF
    have HFr := Lib.hid hFr
    have E2 := (HE.out.fr (FrB.below h02)).fr hFr
    have HEw := Lib.hid E2
    clear hgj hF hFr
    by_cases hlt : j < ns.length
    · obtain ⟨adn, en, hadnb, hcn⟩ := ints_at Hrn.out hlt
      subst en
      obtain ⟨hx0, hx1⟩ := Hns.out _ (Rk.getD_mem hlt)
      obtain ⟨x, hx⟩ : ∃ x : Nat, ns.getD j 0 = x := ⟨(ns.getD j 0).toNat, by omega⟩
      have Hyes := Lib.hid (fun h => Rk.steps_yes hlt hst.out h)
      have Hno := Lib.hid (fun h => Rk.steps_no hlt hst.out h)
      rw [hx] at hcn Hyes Hno hx1
      have hx256 : x < 256 := by omega
      have Hy := Lib.hid (show (Rk.grow H ss d (l ++ [(x : Int)]) (m ||| H x) fd).1 = true → Rk.steps (fun x found => Rk.grow H ss d (l ++ [x]) (m ||| H x.toNat) found) (ns.take (j + 1)) found = (true, (Rk.grow H ss d (l ++ [(x : Int)]) (m ||| H x) fd).2) from Hyes.out)
      have Hn := Lib.hid (show (Rk.grow H ss d (l ++ [(x : Int)]) (m ||| H x) fd).1 = false → Rk.steps (fun x found => Rk.grow H ss d (l ++ [x]) (m ||| H x.toNat) found) ns found = (false, (Rk.grow H ss d (l ++ [(x : Int)]) (m ||| H x) fd).2) from Hno.out)
      have Hle := Lib.hid ((Rk.grow_le H ss d (l ++ [(x : Int)]) (m ||| H x) fd hfdl).2)
      clear Hyes Hno
      have ltw2 : w.heap.size < w2.heap.size := Hhave.out.lt
      have ltwr : w.heap.size < wr.heap.size := Nat.lt_of_lt_of_le ltw2 HFr.out.size
      have c_n : wr.cell? (adn.add j) = some (.int .i64 x) := by
        have h1 : adn.block < b := hadnb
        refine (World.cell?_of_block (HFr.out.block _ ?_ ?_ ?_ (.inl ?_))).trans ((h02.cell ?_).trans hcn) <;> rw [block_of_add] <;> omega
      have c_gg : wr.cell? ⟨b + 3, 0, none⟩ = some (.func (.func 60) #[] #[.pointer (some ⟨gs, 0, none⟩), .pointer (some ⟨b + 1, 0, none⟩), .pointer (some ⟨gn, 0, none⟩), .pointer (some ⟨b + 2, 0, none⟩), .pointer (some ⟨gz, 0, none⟩), .pointer (some ⟨b + 3, 0, none⟩), .pointer (some ⟨gh, 0, none⟩)]) := HEw.out.bGrow.cell 0
      have c_gh : wr.cell? ⟨gh, 0, none⟩ = some (.slice (some ⟨gH, 0, none⟩) 256 256) := HEw.out.bHits.cell 0
      have hhv := HFr.out.blk Hhave.out (by omega) (by omega) (.inr (by decide))
      have c_h0 : wr.cell? ⟨w.heap.size, 0, none⟩ = some (.int .u64 (Rk.wd m 0 : Int)) := hhv.cell 0
      have c_h1 : wr.cell? ⟨w.heap.size, 1, none⟩ = some (.int .u64 (Rk.wd m 1 : Int)) := hhv.cell 1
      have c_h2 : wr.cell? ⟨w.heap.size, 2, none⟩ = some (.int .u64 (Rk.wd m 2 : Int)) := hhv.cell 2
      have c_h3 : wr.cell? ⟨w.heap.size, 3, none⟩ = some (.int .u64 (Rk.wd m 3 : Int)) := hhv.cell 3
      have c_t0 := HEw.out.bTable.cell hx256 (show 0 < 4 by decide)
      have c_t1 := HEw.out.bTable.cell hx256 (show 1 < 4 by decide)
      have c_t2 := HEw.out.bTable.cell hx256 (show 2 < 4 by decide)
      have c_t3 := HEw.out.bTable.cell hx256 (show 3 < 4 by decide)
      rw [Nat.add_zero] at c_t0
      have lt1 := HEw.out.bGrow.lt
      have lt2 := HEw.out.bHits.lt
      have lt3 := HEw.out.bTable.lt
      have HLr := Lib.hid (HFr.out.own (own_below HL.out h02 (Nat.le_refl _)) (HF.out.below h02).isMap (HF.out.below h02).isBox)
      obtain ⟨A5, c5, e5, _, hrl, _⟩ := own_form HLr.out
      have e6 : A = A5 := by injection e5
      subst e6
      have Hrl := Lib.hid hrl
      have Hnil := Lib.hid (show A = none → l.length = 0 from fun h => by
        rcases Nat.eq_zero_or_pos l.length with h0 | h0
        · exact h0
        · obtain ⟨ad, e, _⟩ := hrl.2 h0
          rw [h] at e
          cases e)
      have Hone := Lib.hid (show ∀ u ∈ l.map (Value.int .i64), u.oneCell' = true from fun u hu => by obtain ⟨x, _, rfl⟩ := List.mem_map.1 hu; rfl)
      have Hor := Lib.hid (fun W => or_any m (H x) W)
      obtain ⟨i0, hi0, hz0, hz1, hz2⟩ := info_parts info_int
      unfold mk at Hor
      have Hrx := Lib.hid (show ∀ y ∈ l ++ [(x : Int)], 0 ≤ y ∧ y < 256 from fun y hy => by
        rcases List.mem_append.1 hy with h | h
        · exact Hlr.out y h
        · obtain rfl := List.mem_singleton.1 h; omega)
      have Hhv := Lib.hid hhv
      clear hst hrl e5 hhv hcn hx E2
      go_wp2
      go_region_held3 (fun w' => w'.cell? ⟨b + 3, 0, none⟩ = some (.func (.func 60) #[] #[.pointer (some ⟨gs, 0, none⟩), .pointer (some ⟨b + 1, 0, none⟩), .pointer (some ⟨gn, 0, none⟩), .pointer (some ⟨b + 2, 0, none⟩), .pointer (some ⟨gz, 0, none⟩), .pointer (some ⟨b + 3, 0, none⟩), .pointer (some ⟨gh, 0, none⟩)]) ∧ w'.cell? ⟨gh, 0, none⟩ = some (.slice (some ⟨gH, 0, none⟩) 256 256) ∧
          w'.cell? ⟨w.heap.size, 0, none⟩ = some (.int .u64 (Rk.wd m 0 : Int)) ∧ w'.cell? ⟨w.heap.size, 1, none⟩ = some (.int .u64 (Rk.wd m 1 : Int)) ∧ w'.cell? ⟨w.heap.size, 2, none⟩ = some (.int .u64 (Rk.wd m 2 : Int)) ∧ w'.cell? ⟨w.heap.size, 3, none⟩ = some (.int .u64 (Rk.wd m 3 : Int)) ∧
          w'.cell? ⟨gH, x * 4, none⟩ = some (.int .u64 (Rk.wd (H x) 0 : Int)) ∧ w'.cell? ⟨gH, x * 4 + 1, none⟩ = some (.int .u64 (Rk.wd (H x) 1 : Int)) ∧ w'.cell? ⟨gH, x * 4 + 2, none⟩ = some (.int .u64 (Rk.wd (H x) 2 : Int)) ∧ w'.cell? ⟨gH, x * 4 + 3, none⟩ = some (.int .u64 (Rk.wd (H x) 3 : Int)))
        (first
          | go_keep
          | exact HS6.out
          | (exact ⟨keepB hB1 lt1 c_gg, keepB hB1 lt2 c_gh, keepB hB1 ltwr c_h0, keepB hB1 ltwr c_h1, keepB hB1 ltwr c_h2, keepB hB1 ltwr c_h3, keepB hB1 lt3 c_t0, keepB hB1 lt3 c_t1, keepB hB1 lt3 c_t2, keepB hB1 lt3 c_t3⟩)
          | (exact ⟨keepB hB2 lt1 c_gg, keepB hB2 lt2 c_gh, keepB hB2 ltwr c_h0, keepB hB2 ltwr c_h1, keepB hB2 ltwr c_h2, keepB hB2 ltwr c_h3, keepB hB2 lt3 c_t0, keepB hB2 lt3 c_t1, keepB hB2 lt3 c_t2, keepB hB2 lt3 c_t3⟩)
          | (exact ⟨keepB hB3 lt1 c_gg, keepB hB3 lt2 c_gh, keepB hB3 ltwr c_h0, keepB hB3 ltwr c_h1, keepB hB3 ltwr c_h2, keepB hB3 ltwr c_h3, keepB hB3 lt3 c_t0, keepB hB3 lt3 c_t1, keepB hB3 lt3 c_t2, keepB hB3 lt3 c_t3⟩))
        (first
          | (go_at_call 61; refine (cloneInts_any A l.length c _ wr.heap.size _ (by first | exact Hrl.out | exact Hrl.out.alloc (Nat.le_refl _) _) (by simp) Hone.out (by omega) Hnil.out).mono ?_; rintro e w3 ⟨v1, rfl, hown1, hb1⟩; have hB1 := below_any (W0 := wr) (by repeat (first | exact Below.refl _ _ | apply Below.drew | (refine Below.alloc ?_ (by simp) _))) hb1)
          | (refine step_append_any _ rfl _ _ 26 (by rfl) wr.heap.size 3 i0 _ 1 8 Tryz.underlying26 hi0 hz0 hz1 hz2 rfl (by decide) v1 l.length _ (by rfl) (by first | exact own_more hown1 (by simp) | exact own_kept (own_more hown1 (by simp)) (World.grownBy_alloc _ _ none) (fun g e => by cases e)) (wr.heap.size + w3.heap.size + 1) _ 1 _ [.int .i64 x] (by rfl) (by first | exact reads_one (by omega) (cell_new0 _ _ _) | exact reads_one (by omega) (keepB hb1 (by simp) (cell_new0 _ _ _))) (by intro u hu; simp at hu; subst hu; rfl) (by unfold maxLen; omega) (by omega) (by have := hB1.size; simp; omega) ?_
             intro v2 w4 hown2 hg2 hat2
             have hB2 : Below wr.heap.size wr w4 := (by first | exact hB1.grown hg2 hB1.size (fun k hk => Nat.le_trans (by simp) (own_row_ge hown1 k hk)) | exact (hB1.alloc hB1.size _).grown hg2 (by have := hB1.size; simp; omega) (fun k hk => Nat.le_trans (by simp) (own_row_ge hown1 k hk)))
             have hOwn2 := Lib.hid (own_snoc hown2)
             clear hown2 hg2 hat2)
          | (go_at_call 58; refine (Hor.out _).mono ?_; rintro e w5 ⟨rfl, hb5⟩; have hB3 := below_any (W0 := wr) (by repeat (first | exact hB2 | apply Below.drew | (refine Below.alloc ?_ (by simp) _))) hb5; have hOwn3 := Lib.hid (own_below hOwn2.out hb5 (Nat.le_refl _)))
          | (go_at_call 60; refine (HIH.out _ fd v2 (l ++ [(x : Int)]) (m ||| H x) (HEw.out.fr (FrB.below hB3)) (HFw.out.below hB3) hfdl (own_more hOwn3.out (Nat.zero_le _)) (by simp; omega) Hrx.out).mono ?_; rintro e w6 ⟨rfl, hF6, hFr6⟩; have HF6 := Lib.hid hF6; have hFr7 : FrB b wr w6 := (FrB.below hB3).trans ⟨hFr6.os, hFr6.tape, hFr6.output, hFr6.size, hFr6.block⟩; have HFr7 := Lib.hid hFr7; have hE6 := HEw.out.fr hFr7; have hh6 := hFr7.blk Hhv.out (by omega) (by omega) (.inr (by decide)); have ht6 := hE6.bTable.cell hx256 (show 0 < 4 by decide); rw [Nat.add_zero] at ht6; have HS6 := Lib.hid (And.intro (show w6.cell? ⟨b + 3, 0, none⟩ = some (.func (.func 60) #[] #[.pointer (some ⟨gs, 0, none⟩), .pointer (some ⟨b + 1, 0, none⟩), .pointer (some ⟨gn, 0, none⟩), .pointer (some ⟨b + 2, 0, none⟩), .pointer (some ⟨gz, 0, none⟩), .pointer (some ⟨b + 3, 0, none⟩), .pointer (some ⟨gh, 0, none⟩)]) from hE6.bGrow.cell 0) (And.intro (show w6.cell? ⟨gh, 0, none⟩ = some (.slice (some ⟨gH, 0, none⟩) 256 256) from hE6.bHits.cell 0) (And.intro (show w6.cell? ⟨w.heap.size, 0, none⟩ = some (.int .u64 (Rk.wd m 0 : Int)) from hh6.cell 0) (And.intro (show w6.cell? ⟨w.heap.size, 1, none⟩ = some (.int .u64 (Rk.wd m 1 : Int)) from hh6.cell 1) (And.intro (show w6.cell? ⟨w.heap.size, 2, none⟩ = some (.int .u64 (Rk.wd m 2 : Int)) from hh6.cell 2) (And.intro (show w6.cell? ⟨w.heap.size, 3, none⟩ = some (.int .u64 (Rk.wd m 3 : Int)) from hh6.cell 3) (And.intro ht6 (And.intro (hE6.bTable.cell hx256 (show 1 < 4 by decide)) (And.intro (hE6.bTable.cell hx256 (show 2 < 4 by decide)) (hE6.bTable.cell hx256 (show 3 < 4 by decide))))))))))); clear hF6 hFr6 hE6 hh6 ht6 hFr7))
      all_goals
        generalize Rk.grow H ss d (l ++ [(x : Int)]) (m ||| H x) fd = r at *
        obtain ⟨rb, rf⟩ := r
        have HFr8 := Lib.hid ((FrB.below h02).trans (HFr.out.trans HFr7.out))
        have HFr9 := Lib.hid (HFr.out.trans HFr7.out)
        cases rb
        · have Hst := Lib.hid (Hn.out rfl)
          clear Hy Hn Hle
          go_wp2
          go_ret
          exact ⟨ret_bool (by rw [Hst.out]), by rw [Hst.out]; exact HF6.out, HFr8.out⟩
        · have Hst := Lib.hid (Hy.out rfl)
          have hle := Hle.out rfl
          clear Hy Hn Hle
          go_wp2
          go_roundg (ns.length - (j + 1))
          case rel => exact ⟨j + 1, by omega, rfl, by go_num, rf, Hst, hle, HF6.out, HFr9.out⟩
          case measure => rw [Hgj.out]; omega
    · obtain rfl : j = ns.length := by omega
      have Hst := Lib.hid (show Rk.steps (fun x found => Rk.grow H ss d (l ++ [x]) (m ||| H x.toNat) found) ns found = (true, fd) by have := hst.out; rwa [List.take_length] at this)
      clear hst
      go_wp2
      go_ret
      exact ⟨ret_bool (by rw [Hst.out]), by rw [Hst.out]; exact HFw.out, (FrB.below h02).trans HFr.out⟩

theorem grow_any {size : Nat} {b gs gz gH gh gn : Nat} {As : Option Addr} {cS : Nat} {H : Nat → Nat} {ss : List (List Int)} (hs3 : size ≤ 3) : ∀ (d : Nat) (w : World) (found : List (List Int)) (v : Value) (l : List Int) (m : Nat), Env w b gs gz gH gh gn As cS H ss size → Fnd w b found → found.length ≤ 256 → OwnInts w 0 v l → l.length + d = size → (∀ x ∈ l, 0 ≤ x ∧ x < 256) →
    Calls Tryz.prog 60 (gArgs v m b gs gz gh gn) w (GPost b (Rk.grow H ss d l m found) w)
  | 0, w, found, v, l, m, E, F, hfl, hl, hls, hlr => by
    rw [Rk.grow]
    by_cases hfo : Rk.fo m ss.length < 0
    · rw [if_pos hfo]
      exact grow_leaf E F hfl hl (by omega) hlr m hfo
    · rw [if_neg hfo]
      exact grow_end E F hl hls hs3 m (by omega)
  | d + 1, w, found, v, l, m, E, F, hfl, hl, hls, hlr => by
    rw [Rk.grow]
    by_cases hfo : Rk.fo m ss.length < 0
    · rw [if_pos hfo]
      exact grow_leaf E F hfl hl (by omega) hlr m hfo
    · rw [if_neg hfo]
      exact grow_step hs3 d (fun w found v l m => grow_any hs3 d w found v l m) E F hfl hl hls hlr m (by omega)

end Go.Proofs.YtfpmbjobieeidaaGreat
