/-
  The walk of Hit.
-/
import Derived.Test.YtfpmbjobieeidaaGreatGrow
import Derived.Test.YtfpmbjobieeidaaGreatSmall
import Derived.Test.YtfpmbjobieeidaaGreatPlainA
import Derived.Test.YtfpmbjobieeidaaGreatIncr
import Derived.Laws.EntriesVeiled
namespace Go.Proofs.YtfpmbjobieeidaaGreat
open Go.RowKit

theorem Table.add {w : World} {g : Nat} {H : Nat → Nat} (h : Table w g H) {n i : Nat} (hn : n < 256) (hi : i < 256) : Table (w.setCell ⟨g, n * 4 + i / 64, none⟩ (.int .u64 ((Rk.wd (H n) (i / 64) ||| 2 ^ (i % 64) : Nat) : Int))) g (Rk.hAdd H n i) := by
  obtain ⟨cur, hb, hs, hc⟩ := h
  refine ⟨_, hb.set_ _ _, by simpa using hs, fun n' j hn' hj => ?_⟩
  have hj4 : i / 64 < 4 := by omega
  rw [Array.getElem?_setIfInBounds]
  by_cases e : n * 4 + i / 64 = n' * 4 + j
  · have e1 : n' = n := by omega
    have e2 : j = i / 64 := by omega
    subst e1
    subst e2
    rw [if_pos rfl, if_pos (by omega)]
    unfold Rk.hAdd
    rw [if_pos rfl, Rk.wd_add_same]
  · rw [if_neg e, hc n' j hn' hj]
    unfold Rk.hAdd
    by_cases e1 : n' = n
    · subst e1
      rw [if_pos rfl, Rk.wd_add_other _ _ _ (by omega)]
    · rw [if_neg e1]
theorem Table.made (w : World) : Table (w.alloc (.cells (madeCells #[.int .u64 0, .int .u64 0, .int .u64 0, .int .u64 0] 1024) 91)) w.heap.size (fun _ => 0) := by
  refine ⟨_, Blk.new w _ _, size_madeCells _ _, fun n j hn hj => ?_⟩
  rw [Rk.wd_zero]
  unfold madeCells
  have hlt : n * 4 + j < 1024 := by omega
  rw [Array.getElem?_map, Array.getElem?_range, if_pos hlt]
  have e : (n * 4 + j) % 4 = j := by omega
  show some (#[Value.int .u64 0, .int .u64 0, .int .u64 0, .int .u64 0][(n * 4 + j) % 4]!) = _
  rw [e]
  rcases (show j = 0 ∨ j = 1 ∨ j = 2 ∨ j = 3 by omega) with rfl | rfl | rfl | rfl <;> rfl

theorem info_marks : (Tryz.prog.info? 91).map (fun i => (i.zero, i.size, i.bytes)) = some (some (.agg #[.int .u64 0, .int .u64 0, .int .u64 0, .int .u64 0]), 4, 32) := by kernel_rfl
theorem make_marks (w : World) : (Instr.makeSlice 89 (.int .i64 256) (.int .i64 256)).run Tryz.prog w = .ok (.slice (some ⟨w.heap.size, 0, none⟩) 256 256) (w.alloc (.cells (madeCells #[.int .u64 0, .int .u64 0, .int .u64 0, .int .u64 0] 1024) 91)) := by
  obtain ⟨i, hi, hz, hs, hb⟩ := info_parts info_marks
  have h := run_make (P := Tryz.prog) w 89 91 i (.agg #[.int .u64 0, .int .u64 0, .int .u64 0, .int .u64 0]) Tryz.underlying89 hi hz .i64 .i64 256 256 (by omega) (by omega) (by rw [hb]; omega) (by omega)
  rw [hs] at h
  exact h

theorem below_alloc_ (w : World) (o : Obj) : Below w.heap.size w (w.alloc o) := (Below.refl _ _).alloc (Nat.le_refl _) _
theorem OwnSets.kept_ {w w' : World} {base g : Nat} {v : Value} {xss : List (List Int)} (h : OwnSets w base v xss) (hg : w.grownBy w' (some g)) (hb : g < base) : OwnSets w' base v xss := by
  obtain ⟨us, h, hi⟩ := h
  have hne : ∀ {e : TypeId} {n : Nat} {u : Value} {xs : List Value}, w.ownsRow base e 1 u n xs → ∀ g', some g = some g' → u.ownBlock ≠ some g' := fun h g' e1 e2 => by
    injection e1 with e1
    have := own_row_ge h g' e2
    omega
  exact ⟨us, own_kept h hg (hne h), fun i hlt => by obtain ⟨u, h1, h2⟩ := hi i hlt; exact ⟨u, h1, own_kept h2 hg (hne h2)⟩⟩
theorem Table.drewN {w : World} {g : Nat} {H : Nat → Nat} (h : Table w g H) (n : Nat) : Table (w.drewN n) g H := h
theorem grownBy_draws {a w : World} {r : Option Nat} (h : a.grownBy w r) (n : Nat) : a.grownBy (w.drewN n) r := ⟨h.os, h.tape, h.output, h.size, h.block⟩

theorem grow_short (H : Nat → Nat) (sets : List (List Int)) : ∀ (d : Nat) (l : List Int) (m : Nat) (found : List (List Int)), ∀ s ∈ (Rk.grow H sets d l m found).2, s ∈ found ∨ s.length ≤ l.length + d := by
  have hleaf : ∀ (n : Nat) (l : List Int) (found : List (List Int)), ∀ s ∈ (Rk.leaf H n l found).2, s ∈ found ∨ s.length ≤ l.length := fun n l found s hs => by
    unfold Rk.leaf at hs
    split at hs
    · exact .inl hs
    · rcases List.mem_append.1 hs with h | h
      · exact .inl h
      · obtain rfl := List.mem_singleton.1 h
        unfold Rk.sortInts
        exact .inr (by simp)
  intro d
  induction d with
  | zero =>
    intro l m found s hs
    rw [Rk.grow] at hs
    split at hs
    · exact hleaf _ _ _ s hs
    · exact .inl hs
  | succ d ih =>
    intro l m found s hs
    rw [Rk.grow] at hs
    split at hs
    · exact (hleaf _ _ _ s hs).imp id (fun h => by omega)
    · generalize sets.getD (Rk.fo m sets.length).toNat [] = xs at hs
      induction xs generalizing found with
      | nil => exact .inl hs
      | cons x xs ihx =>
        rw [Rk.steps] at hs
        have h1 := ih (l ++ [x]) (m ||| H x.toNat) found
        split at hs
        · rcases ihx _ hs with h | h
          · exact (h1 s h).imp id (fun h => by simp at h; omega)
          · exact .inr h
        · exact (h1 s hs).imp id (fun h => by simp at h; omega)

def funNeeded (gs gh : Nat) : Value := .func (.func 57) #[] #[.pointer (some ⟨gh, 0, none⟩), .pointer (some ⟨gs, 0, none⟩)]
def funGrow (b gs gz gh gn : Nat) : Value := .func (.func 60) #[] #[.pointer (some ⟨gs, 0, none⟩), .pointer (some ⟨b + 1, 0, none⟩), .pointer (some ⟨gn, 0, none⟩), .pointer (some ⟨b + 2, 0, none⟩), .pointer (some ⟨gz, 0, none⟩), .pointer (some ⟨b + 3, 0, none⟩), .pointer (some ⟨gh, 0, none⟩)]
def startWorld (wr : World) (gs gz gh : Nat) : World :=
  ((((wr.alloc (.cells #[funNeeded gs gh] 95)).alloc (.map #[] 0)).alloc (.cells #[.map (some (wr.heap.size + 1))] 96)).alloc (.cells #[.slice none 0 0] 40)).alloc (.cells #[funGrow (wr.heap.size + 1) gs gz gh wr.heap.size] 97)
theorem startWorld_below (wr : World) (gs gz gh : Nat) : Below wr.heap.size wr (startWorld wr gs gz gh) := by
  unfold startWorld
  exact (((((Below.refl _ _).alloc (Nat.le_refl _) _).alloc (by simp) _).alloc (by simp; omega) _).alloc (by simp; omega) _).alloc (by simp; omega) _
theorem env_start {wr : World} {gs gz gH gh : Nat} {As : Option Addr} {cS : Nat} {H : Nat → Nat} {ss : List (List Int)} {size : Nat} {B : Nat}
    (bs : Blk wr gs 40 #[.slice As ss.length cS]) (rs : Sets wr B (.slice As ss.length cS) ss) (hB : B ≤ wr.heap.size) (bz : Blk wr gz 3 #[.int .i64 size]) (T : Table wr gH H)
    (bh : Blk wr gh 89 #[.slice (some ⟨gH, 0, none⟩) 256 256]) (hm : ss.length ≤ 256) (he : ∀ s ∈ ss, s.length ≤ 256 ∧ ∀ x ∈ s, 0 ≤ x ∧ x < 256) :
    Env (startWorld wr gs gz gh) (wr.heap.size + 1) gs gz gH gh wr.heap.size As cS H ss size ∧ Fnd (startWorld wr gs gz gh) (wr.heap.size + 1) [] := by
  have hb := startWorld_below wr gs gz gh
  have hTl : gH < wr.heap.size := by obtain ⟨cur, h, _⟩ := T; exact h.lt
  have s1 : (wr.alloc (.cells #[funNeeded gs gh] 95)).heap.size = wr.heap.size + 1 := by simp
  have n0 := Blk.new wr 95 #[funNeeded gs gh]
  have n1 := MapAt.made (wr.alloc (.cells #[funNeeded gs gh] 95)) Tryz.prog 100
  have n2 := Blk.new ((wr.alloc (.cells #[funNeeded gs gh] 95)).alloc (.map #[] 0)) 96 #[.map (some (wr.heap.size + 1))]
  have n3 := Blk.new (((wr.alloc (.cells #[funNeeded gs gh] 95)).alloc (.map #[] 0)).alloc (.cells #[.map (some (wr.heap.size + 1))] 96)) 40 #[.slice none 0 0]
  have n4 := Blk.new ((((wr.alloc (.cells #[funNeeded gs gh] 95)).alloc (.map #[] 0)).alloc (.cells #[.map (some (wr.heap.size + 1))] 96)).alloc (.cells #[.slice none 0 0] 40)) 97 #[funGrow (wr.heap.size + 1) gs gz gh wr.heap.size]
  have s2 : ((wr.alloc (.cells #[funNeeded gs gh] 95)).alloc (.map #[] 0)).heap.size = wr.heap.size + 1 + 1 := by simp
  have s3 : (((wr.alloc (.cells #[funNeeded gs gh] 95)).alloc (.map #[] 0)).alloc (.cells #[.map (some (wr.heap.size + 1))] 96)).heap.size = wr.heap.size + 1 + 2 := by simp
  have s4 : ((((wr.alloc (.cells #[funNeeded gs gh] 95)).alloc (.map #[] 0)).alloc (.cells #[.map (some (wr.heap.size + 1))] 96)).alloc (.cells #[.slice none 0 0] 40)).heap.size = wr.heap.size + 1 + 3 := by simp
  rw [s1] at n1
  rw [s2] at n2
  rw [s3] at n3
  rw [s4] at n4
  have hrs := (rs.keep (w' := startWorld wr gs gz gh) fun p hp => hb.cell (by omega)).more (B' := wr.heap.size + 1) (by omega)
  have hmap : MapAt (startWorld wr gs gz gh) Tryz.prog 100 (wr.heap.size + 1) [] := by
    refine n1.same ?_
    have hbb : Below (wr.heap.size + 1 + 1) ((wr.alloc (.cells #[funNeeded gs gh] 95)).alloc (.map #[] 0)) (startWorld wr gs gz gh) := by
      unfold startWorld
      exact (((Below.refl _ _).alloc (by simp) _).alloc (by simp) _).alloc (by simp) _
    exact hbb.block _ (by omega)
  refine ⟨⟨⟨?_, ?_, ?_, ?_, ?_⟩, bs.below hb bs.lt, hrs, bz.below hb bz.lt, T.below hb hTl, bh.below hb bh.lt, (((n0.alloc _).alloc _).alloc _).alloc _, (n2.alloc _).alloc _, n4, hm, he⟩, ⟨_, n3.alloc _, OwnSets.nil _ _⟩, hmap⟩
  · have := bs.lt; omega
  · have := bz.lt; omega
  · omega
  · have := bh.lt; omega
  · omega

def HitPost (xss : List (List Int)) (size : Int) (w : World) (e : Ending) (w' : World) : Prop :=
  ∃ v' err l, e = .returned (.tuple #[v', .int .i64 err]) ∧ Sets w' w'.heap.size v' l ∧ Below w.heap.size w w' ∧
    err = Rk.hitErr (setsErr xss) (Rk.hitRun (Rk.smallest xss) size).1 size ∧ l = (if err = 0 then Rk.sortSets (Rk.hitRun (Rk.smallest xss) size).2 else [])

theorem sets_nil (w : World) (B : Nat) : Sets w B (.slice none 0 0) [] := ⟨none, 0, [], rfl, Nat.le_refl _, Nat.zero_le _, Reads.none_, fun i hi => by simp at hi⟩

set_option maxRecDepth 100000 in
set_option maxHeartbeats 1000000 in
theorem hit_no (v : Value) (xss : List (List Int)) (size : Int) (B : Nat) (w : World) (hv : Sets w B v xss) (hB : B ≤ w.heap.size) (h : setsErr xss ≠ 0 ∨ size < 0 ∨ 3 < size) :
    Calls Tryz.prog 24 #[v, .int .i64 size] w (HitPost xss size w) := by
  have hw2 : ∀ o o', Below w.heap.size w ((w.alloc o).alloc o') := fun o o' => ((Below.refl _ _).alloc (Nat.le_refl _) _).alloc (by simp) _
  have HC := Lib.hid (fun o o' => checksets_any v xss B ((w.alloc o).alloc o') (hv.below ((hw2 o o').mono hB)))
  have Hw2 := Lib.hid hw2
  obtain ⟨A, c, vs, rfl, _, _, _, _⟩ := hv
  clear hw2
  by_cases he : setsErr xss = 0
  · rcases (show size < 0 ∨ 3 < size by omega) with hs | hs
    · have Hp := Lib.hid (show Rk.hitErr (setsErr xss) (Rk.hitRun (Rk.smallest xss) size).1 size = 1 by unfold Rk.hitErr; rw [if_neg (by simpa using he), if_pos hs])
      rw [he] at HC
      clear he h
      go_enter Tryz.func24, Tryz.ntmps24
      go_wp2_with (go_at_call 22; refine (HC.out _ _).mono ?_; rintro e w' ⟨rfl, rfl⟩)
      go_ret2
      exact ⟨_, 1, [], rfl, sets_nil _ _, Hw2.out _ _, Hp.out.symm, rfl⟩
    · have Hp := Lib.hid (show Rk.hitErr (setsErr xss) (Rk.hitRun (Rk.smallest xss) size).1 size = 3 by unfold Rk.hitErr; rw [if_neg (by simpa using he), if_neg (by omega), if_pos hs])
      rw [he] at HC
      clear he h
      go_enter Tryz.func24, Tryz.ntmps24
      go_wp2_with (go_at_call 22; refine (HC.out _ _).mono ?_; rintro e w' ⟨rfl, rfl⟩)
      go_ret2
      exact ⟨_, 3, [], rfl, sets_nil _ _, Hw2.out _ _, Hp.out.symm, rfl⟩
  · have Hp := Lib.hid (show Rk.hitErr (setsErr xss) (Rk.hitRun (Rk.smallest xss) size).1 size = setsErr xss by unfold Rk.hitErr; rw [if_pos (by simpa using he)])
    have Hne := Lib.hid he
    have hne : (setsErr xss != 0) = true := by simpa using he
    clear he h
    obtain ⟨err, herr⟩ : ∃ err, setsErr xss = err := ⟨_, rfl⟩
    rw [herr] at HC hne
    have Herr := Lib.hid herr
    clear herr
    go_enter Tryz.func24, Tryz.ntmps24
    go_wp2_with (go_at_call 22; refine (HC.out _ _).mono ?_; rintro e w' ⟨rfl, rfl⟩)
    go_ret2
    exact ⟨_, err, [], rfl, sets_nil _ _, Hw2.out _ _, Herr.out.symm.trans Hp.out.symm, by rw [if_neg (by rw [← Herr.out]; exact Hne.out)]⟩

set_option maxRecDepth 100000 in
set_option maxHeartbeats 1000000 in
theorem hit_yes (v : Value) (xss : List (List Int)) (size : Int) (B : Nat) (w : World) (hv : Sets w B v xss) (hB : B ≤ w.heap.size) (herr : setsErr xss = 0) (hs0 : 0 ≤ size) (hs3 : size ≤ 3) :
    Calls Tryz.prog 24 #[v, .int .i64 size] w (HitPost xss size w) := by
  have hmany : xss.length ≤ 256 := by
    unfold setsErr at herr
    split at herr
    · cases herr
    · omega
  have hincr : ∀ s ∈ xss, Rk.Incr 256 s := by
    unfold setsErr at herr
    rw [if_neg (by omega)] at herr
    split at herr
    · rename_i h
      intro s hs
      obtain ⟨i, hi, rfl⟩ := List.mem_iff_getElem.1 hs
      have := h i hi
      rw [List.getD_eq_getElem?_getD, List.getElem?_eq_getElem hi] at this
      exact of_decide_eq_true this
    · cases herr
  have hlong : ∀ s ∈ xss, s.length ≤ 256 := fun s hs => by have := (hincr s hs).length_le; omega
  have hw2 : ∀ o o', Below w.heap.size w ((w.alloc o).alloc o') := fun o o' => ((Below.refl _ _).alloc (Nat.le_refl _) _).alloc (by simp) _
  have HC := Lib.hid (fun o o' => checksets_any v xss B ((w.alloc o).alloc o') (hv.below ((hw2 o o').mono hB)))
  rw [herr] at HC
  have HS := Lib.hid (fun o o' => smallest_any v xss B ((w.alloc o).alloc o') (hv.below ((hw2 o o').mono hB)) (by simp; omega) (by omega) (fun s hs => by have := hlong s hs; omega))
  have Hw2 := Lib.hid hw2
  have hsub := Rk.smFold_sub (Rk.sortSets xss) []
  have hss : ∀ s ∈ Rk.smallest xss, s ∈ xss := fun s hs => (Rk.sortSets_perm xss).mem_iff.1 ((hsub.1 s hs).resolve_left (by simp))
  have hssl : (Rk.smallest xss).length ≤ 256 := by have h1 := hsub.2; rw [(Rk.sortSets_perm xss).length_eq] at h1; unfold Rk.smallest; simp at h1; omega
  have Hss := Lib.hid (show ∀ s ∈ Rk.smallest xss, s.length ≤ 256 ∧ ∀ x ∈ s, 0 ≤ x ∧ x < 256 from fun s hs => ⟨hlong s (hss s hs), fun x hx => (hincr s (hss s hs)).mem hx⟩)
  have Hp := Lib.hid (show Rk.hitErr (setsErr xss) (Rk.hitRun (Rk.smallest xss) size).1 size = if (Rk.hitRun (Rk.smallest xss) size).1 = true then 0 else 3 by unfold Rk.hitErr; rw [if_neg (by simpa using herr), if_neg (by omega), if_neg (by omega)])
  obtain ⟨A, c, vs, rfl, _, _, _, _⟩ := hv
  clear hincr hlong hw2 hsub hss herr
  obtain ⟨ss, hssd⟩ : ∃ ss, Rk.smallest xss = ss := ⟨_, rfl⟩
  rw [hssd] at HS Hss Hp hssl
  have Hssd := Lib.hid hssd
  clear hssd
  have hmk := make_marks
  go_enter Tryz.func24, Tryz.ntmps24
  go_wp2_with (go_at_call 22; refine (HC.out _ _).mono ?_; rintro e w' ⟨rfl, rfl⟩)
  refine (HS.out _ _).mono ?_
  rintro e w1 ⟨v1, rfl, hown1, hb1⟩
  obtain ⟨As, cS, ev1⟩ : ∃ As cS, v1 = .slice As ss.length cS := by
    obtain ⟨us, hrow, _⟩ := hown1
    obtain ⟨As, cS, e, _⟩ := own_form hrow
    exact ⟨As, cS, e⟩
  subst ev1
  have Bgs := Lib.hid (((Blk.new w 40 #[.slice A xss.length c]).alloc (.cells #[.int .i64 size] 3)).below hb1 (by simp; omega))
  have Bgz := Lib.hid ((Blk.new (w.alloc (.cells #[.slice A xss.length c] 40)) 3 #[.int .i64 size]).below hb1 (by simp))
  rw [show (w.alloc (.cells #[.slice A xss.length c] 40)).heap.size = w.heap.size + 1 by simp] at Bgz
  have hg1 := grown_setCell w1 ⟨w.heap.size, 0, none⟩ (.slice As ss.length cS)
  have hown2 := hown1.kept_ hg1 (by simp; omega)
  have hset2 := hown2.reads (by omega) (fun s hs => by have := (Hss.out s hs).1; omega)
  have c_gs := Bgs.out.cell 0
  have f_gs := Bgs.out.frozen 0
  have h01 : Below w.heap.size w w1 := (Hw2.out _ _).trans (hb1.mono (by simp; omega))
  have ltgs := Bgs.out.lt
  have ltgz := Bgz.out.lt
  have b02 : Below w.heap.size w (w1.setCell ⟨w.heap.size, 0, none⟩ (.slice As ss.length cS)) := h01.grown hg1 h01.size (fun k e => by injection e with e; subst e; exact Nat.le_refl _)
  have hs2 : (w1.setCell ⟨w.heap.size, 0, none⟩ (.slice As ss.length cS)).heap.size = w1.heap.size := by simp
  rw [hs2] at hset2
  obtain ⟨W0, hW0⟩ : ∃ W0, W0 = ((w1.setCell ⟨w.heap.size, 0, none⟩ (.slice As ss.length cS)).alloc (.cells (madeCells #[.int .u64 0, .int .u64 0, .int .u64 0, .int .u64 0] 1024) 91)).alloc (.cells #[.slice (some ⟨w1.heap.size, 0, none⟩) 256 256] 89) := ⟨_, rfl⟩
  have T0 : Table W0 w1.heap.size (fun _ => 0) := by
    have h := Table.made (w1.setCell ⟨w.heap.size, 0, none⟩ (.slice As ss.length cS))
    rw [hs2] at h
    rw [hW0]
    exact h.below (below_alloc_ _ _) (by simp)
  have Bs0 : Blk W0 w.heap.size 40 #[.slice As ss.length cS] := by rw [hW0]; exact ((Bgs.out.set_ 0 _).alloc _).alloc _
  have Bz0 : Blk W0 (w.heap.size + 1) 3 #[.int .i64 size] := by rw [hW0]; exact ((Bgz.out.far (by simp) _).alloc _).alloc _
  have Bh0 : Blk W0 (w1.heap.size + 1) 89 #[.slice (some ⟨w1.heap.size, 0, none⟩) 256 256] := by
    have h := Blk.new ((w1.setCell ⟨w.heap.size, 0, none⟩ (.slice As ss.length cS)).alloc (.cells (madeCells #[.int .u64 0, .int .u64 0, .int .u64 0, .int .u64 0] 1024) 91)) 89 #[.slice (some ⟨w1.heap.size, 0, none⟩) 256 256]
    rw [hW0]
    simpa [hs2] using h
  have S0 : Sets W0 w1.heap.size (.slice As ss.length cS) ss := by rw [hW0]; exact hset2.below ((((Below.refl _ _).alloc (by rw [hs2]; exact Nat.le_refl _) _).alloc (by simp) _))
  have b00 : Below w.heap.size w W0 := by rw [hW0]; exact (b02.alloc b02.size _).alloc (by have := b02.size; simp at this ⊢; omega) _
  clear hown1 hown2 hset2 hs2 b02 hb1 HC HS
  have hW0' := hW0
  have HW0 := Lib.hid hW0
  have HT0 := Lib.hid T0
  have HBs0 := Lib.hid Bs0
  have HBz0 := Lib.hid Bz0
  have HBh0 := Lib.hid Bh0
  have HS0 := Lib.hid S0
  have Hb00 := Lib.hid b00
  have lth : w1.heap.size + 1 < W0.heap.size := Bh0.lt
  have lt01 : w.heap.size + 1 < w1.heap.size := ltgz
  clear hW0 hW0' T0 Bs0 Bz0 Bh0 S0 b00 Bgs Bgz hg1
  go_wp2
  rw [← HW0.out]
  go_loopg [32] ss.length (fun g i wr => ∃ k : Nat, k ≤ ss.length ∧ g = ss.length - k ∧ i = .int .i64 k ∧ Hid (Table wr w1.heap.size (Rk.hTo ss k)) ∧ Hid (W0.grownBy wr (some w1.heap.size)))
  case atStart => exact ⟨0, Nat.zero_le _, rfl, rfl, HT0.out, ⟨rfl, rfl, rfl, Nat.le_refl _, fun _ _ _ => rfl⟩⟩
  case round =>
    obtain ⟨k, hk, hg, rfl, hT, hG⟩ := hrel
    have Hg := Lib.hid hg
    clear hg
    by_cases hlt : k < ss.length
    · have hsk : ∀ p : Addr, p.block < w1.heap.size → wr.cell? p = W0.cell? p := fun p hp => World.cell?_of_block (hG.out.block _ (by omega) (fun e => by injection e with e; omega))
      have hSk := HS0.out.keep hsk
      obtain ⟨A', c', vs', e', _, _, hrs, his⟩ := hSk
      have eA : As = A' := by injection e'
      subst eA
      obtain ⟨ad, u, rfl, hadb, hcu, hu⟩ := sets_at hrs his hlt
      have hmem : ss.getD k [] ∈ ss := by rw [List.getD_eq_getElem?_getD, List.getElem?_eq_getElem hlt]; exact List.getElem_mem hlt
      have Hs := Lib.hid (Hss.out _ hmem)
      have Hto := Lib.hid (show Rk.hTo ss (k + 1) = Rk.hSet (Rk.hTo ss k) k (ss.getD k []) from rfl)
      clear hrs his hmem hsk e'
      generalize ss.getD k [] = s at *
      obtain ⟨An, cn, rfl, _, hnl, hrn⟩ := hu
      have Hrn := Lib.hid hrn
      clear hrn
      have c_gh : wr.cell? ⟨w1.heap.size + 1, 0, none⟩ = some (.slice (some ⟨w1.heap.size, 0, none⟩) 256 256) := (World.cell?_of_block (hG.out.block _ lth (fun e => by injection e with e; simp at e))).trans (HBh0.out.cell 0)
      obtain ⟨wo, rfl⟩ : ∃ wo : World, wo = wr := ⟨_, rfl⟩
      have lths : w1.heap.size + 1 < wo.heap.size := Nat.lt_of_lt_of_le lth hG.out.size
      go_wp2
      go_loopg [39] s.length (fun g i wr => ∃ j : Nat, j ≤ s.length ∧ g = s.length - j ∧ i = .int .i64 j ∧ Hid (Table wr w1.heap.size (Rk.hSet (Rk.hTo ss k) k (s.take j))) ∧ Hid (wo.grownBy wr (some w1.heap.size)))
      case atStart => exact ⟨0, Nat.zero_le _, rfl, rfl, hT.out, ⟨rfl, rfl, rfl, Nat.le_refl _, fun _ _ _ => rfl⟩⟩
      case round =>
        obtain ⟨j, hj, hgj, rfl, hTj, hGj⟩ := hrel
        have Hgj := Lib.hid hgj
        clear hgj
        by_cases hltj : j < s.length
        · obtain ⟨adn, en, hadnb, hcn⟩ := ints_at Hrn.out hltj
          subst en
          obtain ⟨hx0, hx1⟩ := Hs.out.2 _ (Rk.getD_mem hltj)
          have Hst := Lib.hid (Rk.hSet_take (Rk.hTo ss k) k s j hltj)
          obtain ⟨x, hx⟩ : ∃ x : Nat, s.getD j 0 = x := ⟨(s.getD j 0).toNat, by omega⟩
          rw [hx] at hcn Hst hx1
          have hx256 : x < 256 := by omega
          have Hst2 := Lib.hid (show Rk.hSet (Rk.hTo ss k) k (s.take (j + 1)) = Rk.hAdd (Rk.hSet (Rk.hTo ss k) k (s.take j)) x k from Hst.out)
          have hk256 : k < 256 := by omega
          have c_n : wr.cell? (adn.add j) = some (.int .i64 x) := (World.cell?_of_block (hGj.out.block _ (by rw [block_of_add]; omega) (fun e => by injection e with e; rw [block_of_add] at e; omega))).trans hcn
          have c_gh2 : wr.cell? ⟨w1.heap.size + 1, 0, none⟩ = some (.slice (some ⟨w1.heap.size, 0, none⟩) 256 256) := (World.cell?_of_block (hGj.out.block _ lths (fun e => by injection e with e; simp at e))).trans c_gh
          have hc4 := hTj.out.cell hx256 (show k / 64 < 4 by omega)
          obtain ⟨cur, hcur, _⟩ := hTj.out
          have Had := Lib.hid (add_any w1.heap.size (x * 4) k _ wr hk256 (Rk.wd_lt _ _) hc4 (hcur.frozen _))
          have HTn := Lib.hid (hTj.out.add hx256 hk256)
          clear hcn hx Hst c_gh hcu hcur hc4
          go_wp2_with fail
          refine Had.out.mono ?_
          rintro e w2 ⟨rfl, q, rfl⟩
          have HT2 := Lib.hid (HTn.out.drewN q)
          rw [← Hst2.out] at HT2
          have HG2 := Lib.hid (grownBy_draws (hGj.out.trans (grown_setCell wr ⟨w1.heap.size, x * 4 + k / 64, none⟩ (.int .u64 ((Rk.wd (Rk.hSet (Rk.hTo ss k) k (s.take j) x) (k / 64) ||| 2 ^ (k % 64) : Nat) : Int)))) q)
          clear Had HTn hTj hGj
          go_wp2
          go_roundg (s.length - (j + 1))
          case rel => exact ⟨j + 1, by omega, rfl, by go_num, HT2.out, HG2.out⟩
          case measure => rw [Hgj.out]; omega
        · obtain rfl : j = s.length := by omega
          have HTs := hTj.out
          rw [List.take_length, ← Hto.out] at HTs
          have HTf := Lib.hid HTs
          have HGf := Lib.hid (hG.out.trans hGj.out)
          clear hTj hGj HTs
          go_wp2
          go_roundg (ss.length - (k + 1))
          case rel => exact ⟨k + 1, by omega, rfl, by go_num, HTf.out, HGf.out⟩
          case measure => rw [Hg.out]; omega
    · obtain rfl : k = ss.length := by omega
      have hmm := @run_makeMap Tryz.prog
      obtain ⟨n, rfl⟩ : ∃ n : Nat, size = n := ⟨size.toNat, by omega⟩
      have hgk : ∀ {g : Nat} {t : TypeId} {cs : Array Value}, g ≠ w1.heap.size → Blk W0 g t cs → Blk wr g t cs := fun hne hk => hk.grown hG.out (fun e => by injection e with e; exact hne e)
      have hSk := HS0.out.keep (w' := wr) fun p hp => World.cell?_of_block (hG.out.block _ (by omega) (fun e => by injection e with e; omega))
      have hlt0 : W0.heap.size ≤ wr.heap.size := hG.out.size
      have HE := Lib.hid (env_start (size := n) (hgk (by omega) HBs0.out) hSk (by omega) (hgk (by omega) HBz0.out) hT.out (hgk (by omega) HBh0.out) hssl Hss.out)
      have HC := Lib.hid (grow_any (by omega) n _ [] (.slice none 0 0) [] 0 HE.out.1 HE.out.2 (by simp) ⟨by simp, .inl ⟨rfl, rfl⟩⟩ (by simp) (fun x hx => by cases hx))
      have Hshort := Lib.hid (grow_short (Rk.hTo ss ss.length) ss n [] 0 [])
      have Hle := Lib.hid (Rk.grow_le (Rk.hTo ss ss.length) ss n [] 0 [] (by simp)).2
      have hb05 : Below w.heap.size w (startWorld wr w.heap.size (w.heap.size + 1) (w1.heap.size + 1)) := (Hb00.out.grown hG.out Hb00.out.size (fun k e => by injection e with e; omega)).trans ((startWorld_below _ _ _ _).mono (by have := Hb00.out.size; omega))
      have Hb05 := Lib.hid hb05
      have Hrun : Rk.hitRun ss (n : Int) = Rk.grow (Rk.hTo ss ss.length) ss n [] 0 [] := by unfold Rk.hitRun; rw [Int.toNat_natCast]
      rw [Hrun] at Hp
      have Hrun2 := Lib.hid Hrun
      have HE2 := Lib.hid (show startWorld wr w.heap.size (w.heap.size + 1) (w1.heap.size + 1) = _ from rfl)
      obtain ⟨rb, rf, hrr⟩ : ∃ rb rf, Rk.grow (Rk.hTo ss ss.length) ss n [] 0 [] = (rb, rf) := ⟨_, _, rfl⟩
      rw [hrr] at HC Hshort Hle Hrun2 Hp
      unfold gArgs mk startWorld funNeeded funGrow at HC
      simp only [Rk.wd_zero] at HC
      have ltw : w.heap.size + 1 < wr.heap.size := by omega
      clear hgk hSk hb05 Hrun hT hG hrr HE2
      have Hbel := Lib.hid (fun (w6 : World) (h : FrB (wr.heap.size + 1) (startWorld wr w.heap.size (w.heap.size + 1) (w1.heap.size + 1)) w6) => show Below w.heap.size w w6 from
        ⟨h.os.trans Hb05.out.os, h.tape.trans Hb05.out.tape, h.output.trans Hb05.out.output, Nat.le_trans Hb05.out.size h.size, fun i hi => (h.block i (by have := Hb05.out.size; omega) (by omega) (by omega) (.inl (by omega))).trans (Hb05.out.block i hi)⟩)
      cases rb
      · go_wp2_with (go_at_call 60; refine HC.out.mono ?_; rintro e w6 ⟨rfl, hF6, hFr6⟩; have Hb6 := Lib.hid (Hbel.out w6 hFr6); clear hF6 hFr6)
        go_ret2
        exact ⟨_, 3, [], rfl, sets_nil _ _, Hb6.out, by rw [Hssd.out, Hrun2.out]; exact Hp.out.symm, rfl⟩
      · have Hsh := Lib.hid (show ∀ s ∈ rf, s.length ≤ 17592186043904 from fun s hs => by rcases Hshort.out s hs with h | h; exact absurd h (by simp); simp at h; omega)
        have Hlen := Lib.hid (show rf.length ≤ 256 from Hle.out rfl)
        go_wp2_with fail
        refine HC.out.mono ?_
        rintro e w6 ⟨rfl, hF6, hFr6⟩
        have Hb6 := Lib.hid (Hbel.out w6 hFr6)
        obtain ⟨fv, hbox, hown⟩ := hF6.box
        obtain ⟨Af, cf, efv⟩ : ∃ Af cf, fv = .slice Af rf.length cf := by
          obtain ⟨us, hrow, _⟩ := hown
          obtain ⟨Af, cf, e, _⟩ := own_form hrow
          exact ⟨Af, cf, e⟩
        subst efv
        have c_f : w6.cell? ⟨wr.heap.size + 1 + 1 + 1, 0, none⟩ = some (.slice Af rf.length cf) := hbox.cell 0
        have hown : OwnSets w6 (wr.heap.size + 1 + 4) (.slice Af rf.length cf) rf := hown
        have HS6 := Lib.hid (sortSets_own hown (by have := Hlen.out; omega) Hsh.out)
        have HB6 := Lib.hid hbox
        have HO6 := Lib.hid hown
        clear hF6 hFr6 hbox hown
        go_wp2_with fail
        refine HS6.out.mono ?_
        rintro e w7 ⟨rfl, hown7, hg7⟩
        obtain ⟨us, hrow, hall⟩ := HO6.out
        have hge : ∀ kk, (Value.slice Af rf.length cf).ownBlock = some kk → wr.heap.size + 1 + 4 ≤ kk := own_row_ge hrow
        have Hb7 := Lib.hid (Hb6.out.grown hg7 Hb6.out.size (fun kk e => by have := hge kk e; omega))
        have c_f7 : w7.cell? ⟨wr.heap.size + 1 + 1 + 1, 0, none⟩ = some (.slice Af rf.length cf) := (HB6.out.grown hg7 (fun e => by have := hge _ e.symm; omega)).cell 0
        have hperm := Rk.sortSets_perm rf
        have HO7 := Lib.hid (hown7.reads (by rw [hperm.length_eq]; have := Hlen.out; omega) (fun s hs => Hsh.out s (hperm.mem_iff.1 hs)))
        clear c_f hrow hall hge hown7 hg7 hperm
        go_wp2
        go_ret2
        exact ⟨_, 0, _, rfl, HO7.out, Hb7.out, by rw [Hssd.out, Hrun2.out]; exact Hp.out.symm, by rw [Hssd.out, Hrun2.out]; rfl⟩

/-- Hit. -/
theorem hit_any (v : Value) (xss : List (List Int)) (size : Int) (B : Nat) (w : World) (hv : Sets w B v xss) (hB : B ≤ w.heap.size) :
    Calls Tryz.prog 24 #[v, .int .i64 size] w (HitPost xss size w) := by
  by_cases h : setsErr xss ≠ 0 ∨ size < 0 ∨ 3 < size
  · exact hit_no v xss size B w hv hB h
  · exact hit_yes v xss size B w hv hB (Classical.byContradiction fun h1 => h (.inl h1)) (by omega) (by omega)

end Go.Proofs.YtfpmbjobieeidaaGreat
