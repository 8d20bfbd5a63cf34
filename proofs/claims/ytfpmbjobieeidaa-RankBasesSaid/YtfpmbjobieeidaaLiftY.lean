/-
  The walk of Lift, where it goes on.
-/
import Derived.Test.YtfpmbjobieeidaaLift
import Derived.Test.YtfpmbjobieeidaaTallies
import Derived.Test.YtfpmbjobieeidaaOwnD
import Derived.Test.YtfpmbjobieeidaaRegZ
namespace Go.Proofs.Ytfpmbjobieeidaa
open Go.RowKit

theorem info_bool : (Try.prog.info? 4).map (fun i => (i.zero, i.size, i.bytes)) = some (some (.bool false), 1, 1) := by kernel_rfl
theorem make_bools (w : World) (n : Nat) (hn : n ≤ 256) : (Instr.makeSlice 112 (.int .i64 n) (.int .i64 n)).run Try.prog w = .ok (.slice (some ⟨w.heap.size, 0, none⟩) n n) (w.alloc (.cells (madeCells #[.bool false] n) 4)) := by
  obtain ⟨i, hi, hz, hs, hb⟩ := info_parts info_bool
  have h := run_make (P := Try.prog) w 112 4 i (.bool false) Try.underlying112 hi hz .i64 .i64 n n (by omega) (by omega) (by rw [hb]; omega) (by omega)
  rw [hs, Nat.mul_one] at h
  exact h

/-- A block of Bools. -/
def BoolsAt (w : World) (g n : Nat) (f : Nat → Bool) : Prop := ∃ cs, Blk w g 4 cs ∧ cs.size = n ∧ ∀ m, m < n → cs[m]? = some (.bool (f m))
theorem BoolsAt.made (w : World) (n : Nat) : BoolsAt (w.alloc (.cells (madeCells #[.bool false] n) 4)) w.heap.size n (fun _ => false) :=
  ⟨_, Blk.new w _ _, by simpa using size_madeCells #[.bool false] n, fun m hm => by
    unfold madeCells
    rw [Array.getElem?_map, Array.getElem?_range, if_pos hm]
    simp [Nat.mod_one]⟩
theorem BoolsAt.set_ {w : World} {g n : Nat} {f f' : Nat → Bool} (h : BoolsAt w g n f) (m : Nat) (hf : ∀ x, x < n → f' x = (f x || decide (x = m))) : BoolsAt (w.setCell ⟨g, m, none⟩ (.bool true)) g n f' := by
  obtain ⟨cs, hb, hs, hc⟩ := h
  refine ⟨_, hb.set_ m _, by simpa using hs, fun x hx => ?_⟩
  rw [Array.getElem?_setIfInBounds]
  by_cases e : m = x
  · subst e
    rw [if_pos rfl, if_pos (by omega), hf _ hx]
    simp
  · rw [if_neg e, hc x hx, hf x hx]
    have : ¬ x = m := fun h => e h.symm
    simp [this]
theorem Rk.lifted_take (owner hits : List Int) (j n : Nat) (h : j < hits.length) : Rk.lifted owner (hits.take (j + 1)) n = (Rk.lifted owner (hits.take j) n || decide (owner.getD (hits.getD j 0).toNat 0 = (n : Int))) := by
  unfold Rk.lifted
  rw [List.take_succ_eq_append_getElem h, List.any_append, List.getD_eq_getElem?_getD (l := hits), List.getElem?_eq_getElem h]
  simp

theorem specErr_ok {parts : Int} {rows : List RowL} (h : specErr parts rows = 0) : 1 ≤ parts ∧ parts ≤ 256 ∧ rows.length ≤ 64 ∧ ∀ i, i < rows.length → Rk.Incr parts (Rk.rowAt rows i).1 := by
  unfold specErr at h
  split at h
  · cases h
  · split at h
    · cases h
    · split at h
      · rename_i h3
        exact ⟨by omega, by omega, by omega, fun i hi => of_decide_eq_true (h3 i hi)⟩
      · cases h

/-- Rows of the call's own stay what they are while a later block is written. -/
theorem OwnRows.far {w0 w w' : World} {base : Nat} {v : Value} {rows : List RowL} {row : Option Nat} (h : OwnRows w0 base v rows) (hb : Below w0.heap.size w0 w) (hg : w.grownBy w' row) (hr : ∀ g, row = some g → w0.heap.size ≤ g) : OwnRows w' base v rows := by
  obtain ⟨us, h, hi⟩ := h
  have far : ∀ {e : TypeId} {n s : Nat} {u : Value} {xs : List Value}, w0.ownsRow base e s u n xs → w'.ownsRow base e s u n xs := fun h =>
    own_kept (own_below h hb (Nat.le_refl _)) hg (fun g e e2 => by have := (own_row_lt h g e2).2; have := hr g e; omega)
  exact ⟨us, far h, fun i hlt => by obtain ⟨u, h1, h2, h3⟩ := hi i hlt; exact ⟨u, h1, h2, far h3⟩⟩
theorem OwnRows.drewN {w : World} {base : Nat} {v : Value} {rows : List RowL} (h : OwnRows w base v rows) (k : Nat) : OwnRows (w.drewN k) base v rows := h
theorem read_row {w : World} {B : Nat} {u : Value} {b : Bool} {t : TypeId} (hB : w.heap.size < B) : Reads (w.alloc (.cells #[u, .bool b] t)) B 2 (some ⟨w.heap.size, 0, none⟩) 1 [u, .bool b] :=
  ⟨rfl, fun _ => ⟨_, rfl, hB, fun j v hj => by
    rw [at0, (Blk.new w t #[u, .bool b]).cell j]
    simpa using hj⟩⟩

set_option maxRecDepth 100000 in
set_option maxHeartbeats 2000000 in
theorem lift_yes (parts : Int) (v vo : Value) (rows : List RowL) (owner : List Int) (owners : Int) (B : Nat) (w : World) (hv : Rows w B v rows) (ho : Ints w B vo owner) (hB : B ≤ w.heap.size)
    (he : specErr parts rows = 0) (ho1 : 1 ≤ owners) (ho2 : owners ≤ 256) (hlen : (owner.length : Int) = parts) :
    Calls Try.prog 37 #[.agg #[.int .i64 parts, v], vo, .int .i64 owners] w (SpPost owners (Rk.liftErr (specErr parts rows) parts owner owners) (rows.map (Rk.liftRow owner owners.toNat)) w) := by
  obtain ⟨Ao, co, rfl, hon, hom, hor⟩ := ho
  have Hor := Lib.hid hor
  clear hor hon
  obtain ⟨A, c, vs, rfl, hn, hm, hr, hi⟩ := hv
  have Hv := Lib.hid (show Rows w B (.slice A rows.length c) rows from ⟨A, c, vs, rfl, hn, hm, hr, hi⟩)
  clear hr hi hn
  obtain ⟨W, hW⟩ : ∃ W, W = (w.alloc (.cells #[.int .i64 parts, .slice A rows.length c] 48)).alloc (.cells #[.int .i64 0, .slice none 0 0] 48) := ⟨_, rfl⟩
  have hbW : Below w.heap.size w W := by rw [hW]; exact ((Below.refl _ _).alloc (Nat.le_refl _) _).alloc (by simp) _
  have hs : Blk W w.heap.size 48 #[.int .i64 parts, .slice A rows.length c] := by rw [hW]; exact (Blk.new w _ _).alloc _
  have hs' : Blk W (w.heap.size + 1) 48 #[.int .i64 0, .slice none 0 0] := by
    rw [hW]
    have := Blk.new (w.alloc (.cells #[.int .i64 parts, .slice A rows.length c] 48)) 48 #[.int .i64 0, .slice none 0 0]
    simpa using this
  have HC := Lib.hid (checkspectrum_any parts _ rows B W (Hv.out.below (hbW.mono hB)) (Nat.le_trans hB hbW.size))
  have HbW := Lib.hid hbW
  have HW := Lib.hid hW
  have s0 : W.cell? ⟨w.heap.size, 0, none⟩ = some (.int .i64 parts) := hs.cell 0
  have s1 : W.cell? ⟨w.heap.size, 1, none⟩ = some (.slice A rows.length c) := hs.cell 1
  have Hs := Lib.hid hs
  have Hs' := Lib.hid hs'
  clear hbW hW hs hs'
  have hle : Rk.liftErr (specErr parts rows) parts owner owners = if ∀ i, i < owner.length → 0 ≤ owner.getD i 0 ∧ owner.getD i 0 < owners then 0 else 1 := by
    unfold Rk.liftErr
    rw [if_neg (by omega), if_neg (by omega), if_neg (by omega), if_neg (by omega)]
  obtain ⟨er, her⟩ : ∃ er, Rk.liftErr (specErr parts rows) parts owner owners = er := ⟨_, rfl⟩
  rw [her] at hle ⊢
  have Her := Lib.hid hle
  obtain ⟨out, hout⟩ : ∃ out, rows.map (Rk.liftRow owner owners.toNat) = out := ⟨_, rfl⟩
  rw [hout]
  have Hout := Lib.hid hout
  clear hout her
  have Hse := Lib.hid he
  rw [he] at HC
  clear hle he
  have hlz : ((owner.length : Int) != parts) = false := by simpa using hlen
  have Hlen := Lib.hid hlen
  clear hlen
  go_enter Try.func37, Try.ntmps37
  go_wp2_with fail
  rw [← HW.out]
  go_wp2_with fail
  refine HC.out.mono ?_
  rintro e w1 ⟨rfl, hb⟩
  have z := Hs'.out.below hb Hs'.out.lt
  have y := Hs.out.below hb Hs.out.lt
  have HB := Lib.hid (HbW.out.trans (hb.mono HbW.out.size))
  have Z := Lib.hid z
  have Y := Lib.hid y
  have Hro := Lib.hid (Hor.out.below (HB.out.mono hB))
  have hlt := z.lt
  have hlt0 := y.lt
  have y0 := z.cell 0
  have y1 := z.cell 1
  have x0 := y.cell 0
  have x1 := y.cell 1
  have f0 := z.frozen 0
  have f1 := z.frozen 1
  simp only [List.getElem?_toArray, List.getElem?_cons_zero, List.getElem?_cons_succ] at y0 y1 x0 x1
  clear hb z y HC
  go_wp2
  go_loopg [40] owner.length (fun g i wr => ∃ k : Nat, k ≤ owner.length ∧ g = owner.length - k ∧ i = .int .i64 k ∧ wr = w1 ∧ Hid (∀ j, j < k → 0 ≤ owner.getD j 0 ∧ owner.getD j 0 < owners))
  case atStart => exact ⟨0, Nat.zero_le _, rfl, rfl, rfl, fun j h => by omega⟩
  case round =>
    obtain ⟨k, hk, hg, rfl, rfl, hok⟩ := hrel
    have Hg := Lib.hid hg
    clear hg
    by_cases hlt2 : k < owner.length
    · obtain ⟨ad, rfl, hadB, hc⟩ := ints_at Hro.out hlt2
      by_cases hin : 0 ≤ owner.getD k 0 ∧ owner.getD k 0 < owners
      · have Hok := Lib.hid (show ∀ j, j < k + 1 → 0 ≤ owner.getD j 0 ∧ owner.getD j 0 < owners from fun j hj => by
          by_cases e : j = k
          · rw [e]; exact hin
          · exact hok.out j (by omega))
        obtain ⟨i1, i2⟩ := hin
        clear hok
        generalize owner.getD k 0 = x at *
        go_wp2
        go_roundg (owner.length - (k + 1))
        case rel => exact ⟨k + 1, hlt2, rfl, by go_num, rfl, Hok⟩
        case measure => rw [Hg.out]; omega
      · obtain rfl : er = 1 := Her.out.trans (if_neg (fun h => hin (h k hlt2)))
        have hin2 : owner.getD k 0 < 0 ∨ 0 ≤ owner.getD k 0 ∧ owners ≤ owner.getD k 0 := by omega
        clear hin hok
        generalize owner.getD k 0 = x at *
        rcases hin2 with h1 | ⟨h1, h2⟩
        all_goals
          go_wp2
          have K := (st2 Z.out (.int .i64 0) (.slice none 0 0))
          have k0 := K.cell 0
          have k1 := K.cell 1
          simp only [List.getElem?_toArray, List.getElem?_cons_zero, List.getElem?_cons_succ] at k0 k1
          refine bodyPost_ret (v := .tuple #[.agg #[.int .i64 0, .slice none 0 0], .int .i64 1]) (by simp [results, Try.results37, go_sem, k0, k1]) rfl ⟨_, by rw [if_neg (by decide)], by rw [if_neg (by decide)]; exact rowsO_none _ _, ?_⟩
          exact below_st2 (g := w.heap.size + 1) HB.out (by omega) HB.out.size _ _
    · have Hok := Lib.hid (show ∀ j, j < owner.length → 0 ≤ owner.getD j 0 ∧ owner.getD j 0 < owners from fun j hj => hok.out j (by omega))
      obtain rfl : er = 0 := Her.out.trans (if_pos Hok.out)
      clear hok Her
      obtain ⟨wa, rfl⟩ : ∃ wa : World, wa = wr := ⟨_, rfl⟩
      obtain ⟨W2, hW2⟩ : ∃ W2, W2 = wa.alloc (.cells #[.int .i64 owners, .slice none 0 0] 48) := ⟨_, rfl⟩
      have hg0 : Blk W2 wa.heap.size 48 #[.int .i64 owners, .slice none 0 0] := by rw [hW2]; exact Blk.new wa _ _
      have hB2 : Below wa.heap.size wa W2 := by rw [hW2]; exact below_alloc0 _ _
      have HW2 := Lib.hid hW2
      have HB2 := Lib.hid hB2
      have Hg0 := Lib.hid hg0
      clear hW2 hB2 hg0
      go_wp2
      rw [← HW2.out]
      go_loopg [58] rows.length (fun g i wx => ∃ (k : Nat) (u : Value), k ≤ rows.length ∧ g = rows.length - k ∧ i = .int .i64 k ∧ Hid (Blk wx wa.heap.size 48 #[.int .i64 owners, u]) ∧ Hid (OwnRows wx (wa.heap.size + 1) u ((rows.take k).map (Rk.liftRow owner owners.toNat))) ∧ Hid (Below wa.heap.size wa wx))
      case atStart => exact ⟨0, _, Nat.zero_le _, rfl, rfl, Hg0.out, OwnRows.nil _ _, HB2.out⟩
      case round =>
        obtain ⟨k2, u, hk2, hg, rfl, hgb, hown, hbx⟩ := hrel
        have Hg := Lib.hid hg
        clear hg
        by_cases hlt3 : k2 < rows.length
        · obtain ⟨wo, rfl⟩ : ∃ wo : World, wo = wr := ⟨_, rfl⟩
          obtain ⟨A', c', vs', e1, _, _, hr, hi⟩ := Hv.out
          have hA : A = A' := by injection e1
          subst hA
          obtain ⟨ad, u0, rfl, hadb, hc0, hc1, hu⟩ := rows_at hr hi hlt3
          have hbw := HB.out.trans (hbx.out.mono HB.out.size)
          have c0 := ((hbw.mono hB).cell (p := ad.add (k2 * 2)) (by rw [block_of_add]; omega)).trans hc0
          have c1 := ((hbw.mono hB).cell (p := ad.add (k2 * 2 + 1)) (by rw [block_of_add]; omega)).trans hc1
          have hux := hu.below (hbw.mono hB)
          have c1' : wo.cell? ⟨(ad.add (k2 * 2)).block, (ad.add (k2 * 2)).off + 1, none⟩ = some (.bool (Rk.rowAt rows k2).2) := by
            have h := c1
            rw [← add_of_add] at h
            exact h
          obtain ⟨A1, cu1, rfl, hn1, hm1, hr1⟩ := hux
          have hmk := fun W => make_bools W owners.toNat (by omega)
          rw [show ((owners.toNat : Nat) : Int) = owners by omega] at hmk
          have Hbw := Lib.hid hbw
          have Hr1 := Lib.hid hr1
          clear hr hi e1 hc0 hc1 hu hbw hr1 hn1
          have hin := (specErr_ok Hse.out).2.2.2 k2 hlt3
          have Hin := Lib.hid (show ∀ j, j < (Rk.rowAt rows k2).1.length → 0 ≤ (Rk.rowAt rows k2).1.getD j 0 ∧ (Rk.rowAt rows k2).1.getD j 0 < owner.length from fun j hj => by
            have := hin j hj
            have := Hlen.out
            omega)
          have Htake := Lib.hid (take_row hlt3)
          clear hin
          obtain ⟨hits, hhits⟩ : ∃ hits, (Rk.rowAt rows k2).1 = hits := ⟨_, rfl⟩
          obtain ⟨fb, hfb⟩ : ∃ fb, (Rk.rowAt rows k2).2 = fb := ⟨_, rfl⟩
          rw [hhits] at c0 Hin Hr1 hm1
          rw [hfb] at c1'
          have Hhf := Lib.hid (And.intro hhits hfb)
          clear hhits hfb c1
          obtain ⟨W3, hW3⟩ : ∃ W3, W3 = (wo.alloc (.cells #[.slice A1 hits.length cu1, .bool fb] 65)).alloc (.cells (madeCells #[.bool false] owners.toNat) 4) := ⟨_, rfl⟩
          have hrow : Blk W3 wo.heap.size 65 #[.slice A1 hits.length cu1, .bool fb] := by rw [hW3]; exact (Blk.new wo _ _).alloc _
          have hbools : BoolsAt W3 (wo.heap.size + 1) owners.toNat (Rk.lifted owner (hits.take 0)) := by
            rw [hW3]
            have h := BoolsAt.made (wo.alloc (.cells #[.slice A1 hits.length cu1, .bool fb] 65)) owners.toNat
            have e : Rk.lifted owner (hits.take 0) = fun _ => false := by funext n; simp [Rk.lifted]
            rw [e]
            simpa using h
          have hB3 : Below wo.heap.size wo W3 := by rw [hW3]; exact ((Below.refl _ _).alloc (Nat.le_refl _) _).alloc (by simp) _
          have HW3 := Lib.hid hW3
          have Hrow := Lib.hid hrow
          have Hbools := Lib.hid hbools
          have HB3 := Lib.hid hB3
          clear hW3 hrow hbools hB3
          go_wp2
          rw [← HW3.out]
          go_loopg [67] hits.length (fun g i wy => ∃ j : Nat, j ≤ hits.length ∧ g = hits.length - j ∧ i = .int .i64 j ∧ Hid (BoolsAt wy (wo.heap.size + 1) owners.toNat (Rk.lifted owner (hits.take j))) ∧ Hid (W3.grownBy wy (some (wo.heap.size + 1))))
          case atStart => exact ⟨0, Nat.zero_le _, rfl, rfl, Hbools.out, World.grownBy.refl _ _⟩
          case round =>
            obtain ⟨j, hj, hgj, rfl, hbo, hgr⟩ := hrel
            have Hgj := Lib.hid hgj
            clear hgj
            by_cases hjl : j < hits.length
            · have hle := Hbw.out.size
              have hby := HB3.out.grown hgr.out HB3.out.size (fun k e => by injection e with e; omega)
              obtain ⟨adn, en, hadnb, hcn⟩ := ints_at Hr1.out hjl
              subst en
              have hcn' := (hby.cell (p := adn.add j) (by rw [block_of_add]; omega)).trans hcn
              obtain ⟨i1, i2⟩ := Hin.out j hjl
              obtain ⟨x, hx⟩ : ∃ x : Nat, hits.getD j 0 = x := ⟨(hits.getD j 0).toNat, by omega⟩
              have Htk := Lib.hid (fun n => Rk.lifted_take owner hits j n hjl)
              rw [hx] at hcn' i2 Htk
              have hxo : x < owner.length := by omega
              obtain ⟨ado, eo, hadob, hco⟩ := ints_at Hor.out hxo
              subst eo
              have hco' := (((Hbw.out.trans (hby.mono Hbw.out.size)).mono hB).cell (p := ado.add x) (by rw [block_of_add]; omega)).trans hco
              obtain ⟨o1, o2⟩ := Hok.out x hxo
              obtain ⟨y, hy⟩ : ∃ y : Nat, owner.getD x 0 = y := ⟨(owner.getD x 0).toNat, by omega⟩
              have hyn : y < owners.toNat := by omega
              have hyo : (y : Int) < owners := by omega
              rw [hy] at hco'
              have hbs := hbo.out
              obtain ⟨cs, hcs1, hcs2, hcs3⟩ := hbs
              have c_y := (hcs1.cell y).trans (hcs3 y hyn)
              have f_y := hcs1.frozen y
              have lt_y := hcs1.lt
              have Hbo := Lib.hid (hbo.out.set_ (f' := Rk.lifted owner (hits.take (j + 1))) y (fun n _ => by rw [Htk.out n, Int.toNat_natCast, hy]; congr 1; exact decide_eq_decide.2 ⟨fun h => by omega, fun h => by omega⟩))
              have Hgr := Lib.hid (hgr.out.trans (grown_setCell wr ⟨wo.heap.size + 1, y, none⟩ (.bool true)))
              clear hcn hco hx hy hcs1 hcs3 hby o1 o2 i1 Htk
              generalize Rk.lifted owner (hits.take j) y = bb at *
              go_wp2
              go_roundg (hits.length - (j + 1))
              case rel => exact ⟨j + 1, hjl, rfl, by go_num, Hbo.out, Hgr.out⟩
              case measure => rw [Hgj.out]; omega
            · obtain rfl : j = hits.length := by omega
              obtain ⟨us, hru, hiu⟩ := hown.out
              have hlk : ((rows.take k2).map (Rk.liftRow owner owners.toNat)).length = k2 := by simp; omega
              rw [hlk] at hru hiu
              obtain ⟨Au, cu, eu, _, _, _⟩ := own_form hru
              subst eu
              have hub := fun k e => (own_row_lt hru k e).1
              have hul := fun k e => (own_row_lt hru k e).2
              have hW3s := HB3.out.size
              have lta := hgb.out.lt
              have lto := Hrow.out.lt
              have c_u : wr.cell? ⟨wa.heap.size, 1, none⟩ = some (.slice Au k2 cu) := ((hgb.out.below HB3.out lta).grown hgr.out (by simp; omega)).cell 1
              have c_f : wr.cell? ⟨wo.heap.size, 1, none⟩ = some (.bool fb) := (Hrow.out.grown hgr.out (by simp)).cell 1
              have f_u : wr.frozen? ⟨wa.heap.size, 1, none⟩ = false := ((hgb.out.below HB3.out lta).grown hgr.out (by simp; omega)).frozen 1
              have hwr : W3.heap.size ≤ wr.heap.size := hgr.out.size
              rw [List.take_length] at hbo
              have HBs := Lib.hid (show Bools wr wr.heap.size (.slice (some ⟨wo.heap.size + 1, 0, none⟩) owners.toNat owners.toNat) owners.toNat (Rk.lifted owner hits) from
                ⟨_, _, rfl, fun _ => ⟨_, rfl, (let ⟨cs, h, _⟩ := hbo.out; h.lt)⟩, fun ad e j hj => by
                  injection e with e
                  subst e
                  obtain ⟨cs, h1, h2, h3⟩ := hbo.out
                  rw [at0, h1.cell]
                  exact h3 j hj⟩)
              obtain ⟨i0, hi0, hz0, hz1, hz2⟩ := info_parts info_row
              have HOwn := Lib.hid (hown.out.far HB3.out hgr.out (fun g e => by injection e with e; omega))
              clear hru hiu hbo
              have hlb : wa.heap.size + 1 ≤ wr.heap.size := by omega
              have hlto : wo.heap.size < wr.heap.size := by omega
              have hlta : wa.heap.size < wr.heap.size := by omega
              go_wp2
              have hS0 : wr.drew.cell? ⟨wa.heap.size, 1, none⟩ = some (.slice Au k2 cu) ∧ wr.drew.cell? ⟨wo.heap.size, 1, none⟩ = some (.bool fb) := ⟨c_u, c_f⟩
              refine z_region (fun w' => w'.cell? ⟨wa.heap.size, 1, none⟩ = some (.slice Au k2 cu) ∧ w'.cell? ⟨wo.heap.size, 1, none⟩ = some (.bool fb)) 10 (by kernel_rfl) ?_
              refine z_take (i := 0) (v := ?_) rfl (by kernel_rfl) (by kernel_rfl) (by kernel_rfl) (fun _ _ _ h => h) (by kernel_rfl) (by decide) hS0 (by rfl) (by intro w hSw; obtain ⟨hSa, hSb⟩ := hSw; go_simp; rfl) ?_
              refine z_take (i := 1) (v := ?_) rfl (by kernel_rfl) (by kernel_rfl) (by kernel_rfl) (fun _ _ _ h => h) (by kernel_rfl) (by decide) hS0 (by rfl) (by intro w hSw; obtain ⟨hSa, hSb⟩ := hSw; go_simp; rfl) ?_
              refine z_take (i := 2) (v := ?_) rfl (by kernel_rfl) (by kernel_rfl) (by kernel_rfl) (fun _ _ _ h => h) (by kernel_rfl) (by decide) hS0 (by rfl) (by intro w hSw; obtain ⟨hSa, hSb⟩ := hSw; go_simp; rfl) ?_
              refine z_take (i := 4) (v := ?_) rfl (by kernel_rfl) (by kernel_rfl) (by kernel_rfl) (fun _ _ _ h => h) (by kernel_rfl) (by decide) hS0 (by rfl) (by intro w hSw; obtain ⟨hSa, hSb⟩ := hSw; go_simp; rfl) ?_
              refine z_take (i := 5) (v := ?_) rfl (by kernel_rfl) (by kernel_rfl) (by kernel_rfl) (fun _ _ _ h => h) (by kernel_rfl) (by decide) hS0 (by rfl) (by intro w hSw; obtain ⟨hSa, hSb⟩ := hSw; go_simp; rfl) ?_
              simp only [Act.put, List.setIfInBounds_toArray]
              refine z_one (i := 3) rfl (by kernel_rfl) (by rfl) (fun K hK => ?_)
              go_simp
              refine (chosen_any _ owners.toNat (Rk.lifted owner hits) wr.heap.size _ (by exact HBs.out) (by simp) (by omega)).mono ?_
              rintro e w3 ⟨v1, rfl, hown1, hb1⟩
              have hB1 : Below wr.heap.size wr w3 := below_any (W0 := wr) (by repeat (first | exact Below.refl _ _ | apply Below.drew)) hb1
              obtain ⟨A1, cv1, ev1, _, _, _⟩ := own_form hown1
              subst ev1
              have hOwn1 := Lib.hid (own_more hown1 (show wa.heap.size + 1 ≤ _ by simp; omega))
              obtain ⟨us, hru, hiu⟩ := HOwn.out.below hB1 (Nat.le_refl _)
              rw [hlk] at hru hiu
              have hRu := Lib.hid hru
              have hIu := Lib.hid hiu
              have hsz1 := hB1.size
              have hS1 : w3.cell? ⟨wa.heap.size, 1, none⟩ = some (.slice Au k2 cu) ∧ w3.cell? ⟨wo.heap.size, 1, none⟩ = some (.bool fb) := ⟨keepB hB1 hlta c_u, keepB hB1 hlto c_f⟩
              have hla3 : wa.heap.size < w3.heap.size := by omega
              have hlo3 : wo.heap.size < w3.heap.size := by omega
              clear hown1 hb1 hru hiu
              refine hK _ _ (fun _ => hS1) ?_
              clear hK K
              refine z_take (i := 6) (v := ?_) rfl (by kernel_rfl) (by kernel_rfl) (by kernel_rfl) (fun _ _ _ h => h) (by kernel_rfl) (by decide) hS1 (by rfl) (by intro w hSw; obtain ⟨hSa, hSb⟩ := hSw; go_simp; rfl) ?_
              refine z_one (i := 7) rfl (by kernel_rfl) (by rfl) (fun K hK => ?_)
              go_simp
              refine hK _ _ (fun _ => ⟨(World.cell?_alloc_lt _ _ _ hla3).trans hS1.1, (World.cell?_alloc_lt _ _ _ hlo3).trans hS1.2⟩) ?_
              clear hK K
              refine z_one (i := 8) rfl (by kernel_rfl) (by rfl) (fun K hK => ?_)
              refine wp_append_any _ _ _ 46 rfl (wa.heap.size + 1) 65 i0 _ 2 32 Try.underlying46 hi0 hz0 hz1 hz2 rfl (by decide) (.slice Au k2 cu) k2 us (by rfl) (own_kept hRu.out (World.grownBy_alloc _ _ none) (fun g e => by cases e)) (w3.heap.size + 1) _ 1 _ [.slice A1 (Rk.chosenTo (Rk.lifted owner hits) owners.toNat).length cv1, .bool fb] (by rfl) (read_row (by omega)) (by intro u hu; simp at hu; rcases hu with rfl | rfl <;> rfl) (by unfold maxLen; omega) (by omega) (by simp; omega) ?_
              intro v2 w4 hown2 hg2 hat2
              have hub2 := fun k e => (own_row_lt hRu.out k e).1
              have hne : ∀ b, (b ≤ wa.heap.size ∨ b = wo.heap.size) → b < w3.heap.size → w4.heap[b]? = w3.heap[b]? := fun b h1 h2 => (hg2.block b (by simp; omega) (fun e => by
                have := hub2 b e.symm
                have := hul b e.symm
                omega)).trans (Below.heap_alloc _ _ _ h2)
              have hS4 : w4.cell? ⟨wa.heap.size, 1, none⟩ = some (.slice Au k2 cu) ∧ w4.cell? ⟨wo.heap.size, 1, none⟩ = some (.bool fb) := ⟨(World.cell?_of_block (hne _ (.inl (Nat.le_refl _)) hla3)).trans hS1.1, (World.cell?_of_block (hne _ (.inr rfl) hlo3)).trans hS1.2⟩
              obtain ⟨A4, c4, ev4, _, _, _⟩ := own_form hown2
              subst ev4
              have hgb4 : Blk w4 wa.heap.size 48 #[.int .i64 owners, .slice Au k2 cu] := (hne _ (.inl (Nat.le_refl _)) hla3).trans ((((hgb.out.below HB3.out lta).grown hgr.out (by simp; omega))).below hB1 hlta)
              have hf4 := hgb4.frozen 1
              have hz4 := hgb4.lt
              have hcx := hS4.1
              have HOwn3 := Lib.hid (HOwn.out.below hB1 (Nat.le_refl _))
              have Hgb4 := Lib.hid hgb4
              have Hg2 := Lib.hid hg2
              have Hown2 := Lib.hid hown2
              clear hown2 hg2 hat2 hne hgb4
              refine hK _ _ (fun _ => hS4) ?_
              clear hK K
              refine z_take (i := 9) (v := ?_) rfl (by kernel_rfl) (by kernel_rfl) (by kernel_rfl) (fun _ _ _ h => h) (by kernel_rfl) (by decide) hS4 (by rfl) (by intro w hSw; obtain ⟨hSa, hSb⟩ := hSw; go_simp; rfl) ?_
              simp only [Act.put, List.setIfInBounds_toArray]
              refine z_one (i := 10) rfl (by kernel_rfl) (by rfl) (fun K hK => ?_)
              go_simp
              refine hK _ _ (fun h => absurd rfl h) ?_
              clear hK K
              refine z_done (by kernel_rfl) ?_ _
              have HRel := Lib.hid (show OwnRows (w4.setCell ⟨wa.heap.size, 1, none⟩ (.slice A4 (k2 + 1) c4)) (wa.heap.size + 1) (.slice A4 (k2 + 1) c4) ((rows.take (k2 + 1)).map (Rk.liftRow owner owners.toNat)) from by
                have hga : w3.grownBy (w3.alloc (.cells #[.slice A1 (Rk.chosenTo (Rk.lifted owner hits) owners.toNat).length cv1, .bool fb] 65)) none := World.grownBy_alloc _ _ none
                have e : (rows.take (k2 + 1)).map (Rk.liftRow owner owners.toNat) = (rows.take k2).map (Rk.liftRow owner owners.toNat) ++ [(Rk.chosenTo (Rk.lifted owner hits) owners.toNat, fb)] := by
                  rw [Htake.out, List.map_append]
                  unfold Rk.liftRow
                  rw [List.map_singleton, Hhf.out.1, Hhf.out.2]
                rw [e]
                exact (OwnRows.snoc (rows := (rows.take k2).map (Rk.liftRow owner owners.toNat)) (r := (Rk.chosenTo (Rk.lifted owner hits) owners.toNat, fb)) (by rw [hlk]; exact own_kept hRu.out hga (fun g e => by cases e)) (by
                  rw [hlk]
                  exact fun i hi => by
                    obtain ⟨u, h1, h2, h3⟩ := hIu.out i hi
                    exact ⟨u, h1, h2, own_kept h3 hga (fun g e => by cases e)⟩) (own_kept hOwn1.out hga (fun g e => by cases e)) (by rw [hlk]; exact Hown2.out) Hg2.out).kept (grown_setCell w4 ⟨wa.heap.size, 1, none⟩ (.slice A4 (k2 + 1) c4)) (by intro g e; simp at e; omega))
              have HBel := Lib.hid (show Below wa.heap.size wa (w4.setCell ⟨wa.heap.size, 1, none⟩ (.slice A4 (k2 + 1) c4)) from by
                have b1 : Below wa.heap.size wa wr := hbx.out.trans ((HB3.out.grown hgr.out HB3.out.size (fun g e => by injection e with e; omega)).mono hbx.out.size)
                have b2 : Below wa.heap.size wa w3 := b1.trans (hB1.mono b1.size)
                have b3 := b2.alloc b2.size (.cells #[.slice A1 (Rk.chosenTo (Rk.lifted owner hits) owners.toNat).length cv1, .bool fb] 65)
                have b4 := b3.grown Hg2.out b3.size (fun g e => by have := (own_row_lt hRu.out g e).1; omega)
                exact b4.grown (grown_setCell w4 ⟨wa.heap.size, 1, none⟩ (.slice A4 (k2 + 1) c4)) b4.size (fun g e => by simp at e; omega))
              have HBlk := Lib.hid (show Blk (w4.setCell ⟨wa.heap.size, 1, none⟩ (.slice A4 (k2 + 1) c4)) wa.heap.size 48 #[.int .i64 owners, .slice A4 (k2 + 1) c4] from Hgb4.out.set_ 1 _)
              go_wp2
              go_roundg (rows.length - (k2 + 1))
              case rel => exact ⟨k2 + 1, _, hlt3, rfl, by go_num, HBlk.out, HRel.out, HBel.out⟩
              case measure => rw [Hg.out]; omega
        · obtain rfl : k2 = rows.length := by omega
          rw [List.take_length, Hout.out] at hown
          obtain ⟨Au, cu, rfl⟩ : ∃ Au cu, u = .slice Au out.length cu := by
            obtain ⟨us, hrow, _⟩ := hown.out
            obtain ⟨Au, cu, e, _⟩ := own_form hrow
            exact ⟨Au, cu, e⟩
          have hbw := HB.out.trans (hbx.out.mono HB.out.size)
          have z := Z.out.below hbx.out hlt
          have hltg := hgb.out.lt
          have hltz := z.lt
          have g0 := hgb.out.cell 0
          have g1 := hgb.out.cell 1
          have y0 := z.cell 0
          have y1 := z.cell 1
          have f0 := z.frozen 0
          have f1 := z.frozen 1
          simp only [List.getElem?_toArray, List.getElem?_cons_zero, List.getElem?_cons_succ] at g0 g1 y0 y1
          have hfin := Lib.hid (show RowsO w ((wr.setCell ⟨w.heap.size + 1, 0, none⟩ (.int .i64 owners)).setCell ⟨w.heap.size + 1, 1, none⟩ (.slice Au out.length cu)) (.slice Au out.length cu) out by
            have h1 := (hown.out.kept (grown_setCell wr ⟨w.heap.size + 1, 0, none⟩ (.int .i64 owners)) (by intro g e; simp at e; omega)).kept (grown_setCell _ ⟨w.heap.size + 1, 1, none⟩ (.slice Au out.length cu)) (by intro g e; simp at e; omega)
            exact ⟨h1.reads (by rw [← Hout.out]; simp; omega) (fun r hr => by
              rw [← Hout.out] at hr
              obtain ⟨r0, _, rfl⟩ := List.mem_map.1 hr
              have := Rk.chosenTo_len (Rk.lifted owner r0.1) owners.toNat
              unfold Rk.liftRow
              simp
              omega), h1.more (by omega)⟩)
          have Hz := Lib.hid z
          have Hbw := Lib.hid hbw
          clear z hbw
          go_wp2
          have K := (st2 Hz.out (.int .i64 owners) (.slice Au out.length cu))
          have k0 := K.cell 0
          have k1 := K.cell 1
          simp only [List.getElem?_toArray, List.getElem?_cons_zero, List.getElem?_cons_succ] at k0 k1
          refine bodyPost_ret (v := .tuple #[.agg #[.int .i64 owners, .slice Au out.length cu], .int .i64 0]) (by simp [results, Try.results37, go_sem, k0, k1]) rfl ⟨_, by rw [if_pos rfl], by rw [if_pos rfl]; exact hfin.out, ?_⟩
          exact below_st2 (g := w.heap.size + 1) Hbw.out (by omega) Hbw.out.size _ _
end Go.Proofs.Ytfpmbjobieeidaa
