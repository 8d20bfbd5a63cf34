/-
  Regions that draw their order and call functions which leave the old blocks alone; and what a law's row asks.
  The law RecordBytes, walked: it returns true, and leaves what was there.
  The law RecordLogs, walked: it returns true, and leaves what was there.
  Arguments that came in, opened: bytes; numbers of 64 bits; picks; a log.
-/
import Derived.Test.YtdpoecjbofofoaaGreatDoorVRDec
import Derived.BigQuiet
import Derived.ProofKit
import Derived.OpenShut
import Derived.Carry
import Derived.ChangeSame
import Derived.SizedLaws
import Derived.Deep.Slices
import Derived.Deep.Fields
import Derived.Lib.SmallJoins
namespace Go.Proofs.YtdpoecjbofofoaaGreatDoor
open Go.RowKit

/-- A world in which the old blocks are as they were. -/
structure BW (w : World) where
  wd : World
  ok : Below w.heap.size w wd
instance (w : World) : Inhabited (BW w) := ⟨⟨w, Below.refl _ _⟩⟩
theorem wp_region_bw {P : Program} {id : Nat} {Q : Exit → Act → World → Prop} {a : Act} {w : World} {l : List Oper} (hm : P.follows .mixedOrders = true) (hB : Region.lexB .any l.toArray = true)
    (h : wpQuiet P l.toArray (fun w' => ∃ p : BW w, w' = p.wd) (fun a' => ∀ w', (∃ p : BW w, w' = p.wd) → Q .normal a' w') l a) : (Code.region id l.toArray true).wp P Q a w :=
  wp_region_quiet (C := fun w' => ∃ p : BW w, w' = p.wd) hm hB ⟨⟨w.drewN 1, below_drewN (Below.refl _ _) 1⟩, rfl⟩ (by simpa using h)
theorem cell_bw {w : World} {a : Addr} {v : Value} (hb : a.block < w.heap.size) (h : w.cell? a = some v) (p : BW w) : p.wd.cell? a = some v := (p.ok.cell hb).trans h
theorem calls_bw {P : Program} {f : FuncId} {args : Array Value} {w : World} {p : BW w} {v : Value} (h : Calls P f args p.wd fun e w' => e = .returned v ∧ Below p.wd.heap.size p.wd w') :
    Calls P f args p.wd fun e w'' => e = .returned v ∧ ∃ q : BW w, w'' = q.wd :=
  h.mono fun _ w' ⟨he, hb⟩ => ⟨he, ⟨⟨w', p.ok.trans (hb.mono p.ok.size)⟩, rfl⟩⟩
theorem calls_bw_draws {P : Program} {f : FuncId} {args : Array Value} {w : World} {p : BW w} {v : Value} (h : Calls P f args p.wd fun e w' => e = .returned v ∧ ∃ n, w' = p.wd.drewN n) :
    Calls P f args p.wd fun e w'' => e = .returned v ∧ ∃ q : BW w, w'' = q.wd :=
  calls_bw (h.mono fun _ _ ⟨he, n, hn⟩ => ⟨he, by rw [hn]; exact below_drewN (Below.refl _ _) n⟩)

theorem i64_of_wf {n : Int} (h : (Lit.int .i64 n).wf = true) : -9223372036854775808 ≤ n ∧ n ≤ 9223372036854775807 := by
  simp [Lit.wf, IntKind.min, IntKind.max, IntKind.signed, IntKind.bits] at h
  omega
theorem u8_of_wf {n : Int} (h : (Lit.int .u8 n).wf = true) : 0 ≤ n ∧ n < 256 := by
  simp [Lit.wf, IntKind.min, IntKind.max, IntKind.signed, IntKind.bits] at h
  omega
section
open Go.WideShapes Go.ChangeShapes
variable {H : Type} {enc : TypeId × Value → H} {P : Program}
theorem trodAll_stays (hl : laidOutB P = true) {W W' : World} {sp : Nat → Bool} : ∀ {ts : List TypeId} {vs : List Value} {ds : List (DataW H)} {ps : List MemPlace}, (∀ t ∈ ts, P.readableRec t = true ∧ t < P.types.size) →
    DataW.TrodAll enc P W 0 (fun _ => true) true ts vs ds ps → (∀ x ∈ ps, W.sameAt W' x) → (∀ x ∈ ps, sp x.block = true) → DataW.TrodAll enc P W' 0 sp true ts vs ds ps
  | [], [], [], ps, _, h, _, _ => h
  | t :: ts, v :: vs, d :: ds, ps, hr, h, h1, h2 => by
    obtain ⟨p, q, ht, hrest, rfl⟩ := h
    refine ⟨p, q, WideElems.Trod_stays hl (hr t (List.mem_cons_self ..)).1 (hr t (List.mem_cons_self ..)).2 ht (fun x hx => h1 x (List.mem_append.2 (.inl hx))) (fun x hx => h2 x (List.mem_append.2 (.inl hx))), ?_, rfl⟩
    exact trodAll_stays hl (fun t ht => hr t (List.mem_cons_of_mem _ ht)) hrest (fun x hx => h1 x (List.mem_append.2 (.inr hx))) (fun x hx => h2 x (List.mem_append.2 (.inr hx)))

/-- What is owed behind a law's walk: it has returned true, and no old block has turned. -/
theorem law_post {f : Func} {s : ChangeSpec} {apart : Bool} {W W' : World} {args : Array Value} {ds gs : List (DataW H)} {before : List MemPlace} {tb : TypeId}
    (hl : laidOutB P = true) (hr : ∀ t ∈ f.params.toList, P.readableRec t = true ∧ t < P.types.size)
    (hW : DataW.Whole enc P f.params.toList s.vars apart W args.toList ds gs before) (hvars : s.vars = []) (hfn : s.fn H ds = { results := [.lit (.bool true)], args := ds })
    (htb : P.underlying tb = some .bool) (hres : f.resultTypes = #[tb]) (hb : Below W.heap.size W W') : s.post enc P f apart true false false W args (.bool true) W' := by
  have hlt : ∀ p ∈ before, p.block < W.heap.size := fun p hp => hW.lt p hp
  have hW0 := hW
  obtain ⟨pa, pv, hA, hV, hbef, hz, hn⟩ := hW0
  rw [hvars] at hV
  obtain ⟨rfl, rfl⟩ := trodVars_none hV
  simp only [List.append_nil] at hbef
  subst hbef
  have hargs : ∀ sp : Nat → Bool, (∀ p ∈ before, sp p.block = true) → DataW.TrodAll enc P W' 0 sp true f.params.toList args.toList ds before := fun sp hsp =>
    trodAll_stays hl hr hA (fun x hx => hb.same (hlt x hx)) hsp
  have hold : ∀ p ∈ before, (fun b => decide (b < W.heap.size)) p.block = true := fun p hp => by simpa using hlt p hp
  have hR : ∀ (b : Nat) (sp : Nat → Bool) (hd : Bool), DataW.TrodAll enc P W' b sp hd f.resultTypes.toList ((Value.bool true).resultList f.resultTypes.size) [.lit (.bool true)] [] := fun b sp hd => by
    rw [hres]
    exact trodAll_mk1 (shut_bool htb _)
  refine ⟨ds, [], before, [], before, [], hW, ?_, ?_, ?_, World.keptBut_mono (fun p hp => ⟨hp, ?_⟩) (hb.frame (· ∈ before)), fun h => by cases h⟩
  · rw [List.append_nil, hfn]; exact hR _ _ _
  · rw [List.append_nil, hfn]; exact hargs _ hold
  · rw [hvars, List.append_nil, hfn]; exact rfl
  · exact .inr (.inl hp)
end
end Go.Proofs.YtdpoecjbofofoaaGreatDoor
namespace Go.Proofs.YtdpoecjbofofoaaGreatDoor
open Go.RowKit
attribute [local go_sem ↓] Go.wp_at_zero Go.wp_at_succ
namespace Rb
theorem decP_err {b : List Nat} {n : Int} (h : decP b = .inr n) : n = 4 ∨ n = 10 := by
  unfold decP at h
  split at h
  · cases h; exact .inl rfl
  · split at h
    · cases h; exact .inr rfl
    · split at h
      · cases h; exact .inl rfl
      · split at h
        · cases h; exact .inl rfl
        · split at h
          · cases h; exact .inl rfl
          · cases h
end Rb
theorem dec_out {r : Rb.Lg ⊕ Int} {lg : Rb.Lg} {er : Int} (h : Rb.out r = (lg, er)) {w w' : World} {e : Ending} (hd : DecPost r w e w') : ∃ v', e = .returned (.tuple #[v', .int .i64 er]) ∧ RdL w' w'.heap.size v' lg ∧ Below w.heap.size w w' := by
  unfold DecPost at hd
  rw [h] at hd
  exact hd
/-- What is known of an answer of the decoder. -/
theorem dec_said {b : List Nat} (hb : Rb.Bytes b) {lg : Rb.Lg} {er : Int} (h : Rb.out (Rb.decP b) = (lg, er)) : lg.picks.length ≤ 65536 ∧ (er = 0 → Rb.Fit lg ∧ Rb.enc lg = b) := by
  cases hr : Rb.decP b with
  | inl l =>
    rw [hr] at h
    obtain ⟨rfl, rfl⟩ : l = lg ∧ (0 : Int) = er := by injection h with h1 h2; exact ⟨h1, h2⟩
    obtain ⟨h1, h2⟩ := Rb.decP_inl hb hr
    exact ⟨(Rb.shape_inv h1.1).1, fun _ => ⟨h1, h2⟩⟩
  | inr n =>
    rw [hr] at h
    obtain ⟨rfl, rfl⟩ : (⟨0, [], [], [], 0⟩ : Rb.Lg) = lg ∧ n = er := by injection h with h1 h2; exact ⟨h1, h2⟩
    refine ⟨by simp, fun h0 => ?_⟩
    rcases Rb.decP_err hr with h | h <;> omega
/-- What the laws' closed example answers. -/
def Lives : Prop := ∀ W : World, Calls Tryz.prog 6 #[] W fun e w' => e = .returned (.bool true) ∧ Below W.heap.size W w'
set_option maxRecDepth 20000 in
set_option maxHeartbeats 1600000 in
theorem recordBytes_any (hlv : Lives) (v : Value) (b : List Nat) (B : Nat) (w : World) (hv : RdB w B v b) (hB : B ≤ w.heap.size) (hb : Rb.Bytes b) :
    Calls Tryz.prog 4 #[v] w fun e w' => e = .returned (.bool true) ∧ Below w.heap.size w w' := by
  have HL := Lib.hid hlv
  clear hlv
  have HV := Lib.hid hv
  have HBy := Lib.hid hb
  obtain ⟨A, c, rfl, hc, hr⟩ := hv
  have HR := Lib.hid hr
  clear hr hb
  by_cases hbig : 4096 < b.length
  · have h1 : decide ((b.length : Int) > 4096) = true := by simp; omega
    go_enter Tryz.func4, Tryz.ntmps4
    go_wp2_with fail
    refine (HL.out _).mono ?_
    rintro e w1 ⟨rfl, hb1⟩
    have H1 := Lib.hid hb1
    clear hb1
    go_wp2_with fail
    go_ret
    exact ⟨rfl, H1.out⟩
  · have h1 : decide ((b.length : Int) > 4096) = false := by simp; omega
    obtain ⟨i0, hi0, hz0, hz1, hz2⟩ := info_parts info_u8
    have hone : ∀ u ∈ b.map fun (b : Nat) => Value.int .u8 (b : Int), u.oneCell' = true := fun u hu => by
      obtain ⟨b, -, rfl⟩ := List.mem_map.1 hu; rfl
    have Hone := Lib.hid hone
    obtain ⟨lg, er, hout⟩ : ∃ lg er, Rb.out (Rb.decP b) = (lg, er) := ⟨_, _, rfl⟩
    have hsaid := dec_said HBy.out hout
    have HDP := Lib.hid (fun (u : Value) (W : World) (B' : Nat) h1 h2 => (decode_any u b B' W h1 h2 HBy.out (by omega)).mono (fun _ _ h => dec_out hout h))
    have hout' : Rb.out (Rb.decR b) = (lg, er) := (congrArg Rb.out (Rb.dec_eq HBy.out)).symm.trans hout
    have HDR := Lib.hid (fun (u : Value) (W : World) (B' : Nat) h1 h2 => (rdecode_any u b B' W h1 h2 HBy.out (by omega)).mono (fun _ _ h => dec_out hout' h))
    have hpk := hsaid.1
    have HOkk := Lib.hid hsaid.2
    have HEqq := Lib.hid (fun (u u' : Value) (W : World) (B' : Nat) h1 h2 h3 => sameLog_any u u' lg B' W h1 h2 h3 (by omega))
    have HStr := Lib.hid (Rb.str_beq HBy.out HBy.out)
    clear hone hout hout' hsaid
    go_enter Tryz.func4, Tryz.ntmps4
    go_wp2_with (at_builtin; go_must (refine wpList_append_any _ rfl _ _ 30 rfl w.heap.size 5 i0 _ 1 1 Tryz.underlying30 hi0 hz0 hz1 hz2 rfl (by decide) _ ([] : List Nat).length _ rfl (OwnB.nil w w.heap.size) B _ b.length _ (b.map fun (b : Nat) => Value.int .u8 (b : Int)) rfl HR.out Hone.out (by unfold maxLen; simp; omega) (by simp; omega) (Nat.le_refl _) ?_))
    intro v1 w1 hown1 hg1 hat1
    have HO1 := Lib.hid (show OwnB w1 w.heap.size v1 b by unfold OwnB; simpa using hown1)
    have HF1 := Lib.hid (show Below w.heap.size w w1 from (Below.refl _ _).grown hg1 (Nat.le_refl _) (fun k hk => by simp [Value.ownBlock] at hk))
    have HDP1 := Lib.hid (HDP.out v1 w1 w1.heap.size (rdB_of_own HO1.out) (Nat.le_refl _))
    clear hown1 hg1 hat1 HDP
    have hz1s : w.heap.size ≤ w1.heap.size := HF1.out.size
    go_wp2_with fail
    refine HDP1.out.mono ?_
    rintro e w2 ⟨v2, rfl, hr2, hb2⟩
    have HO2 := Lib.hid (own_below HO1.out hb2 (Nat.le_refl _))
    have HF2 := Lib.hid (HF1.out.trans (hb2.mono hz1s))
    have hz2s : w1.heap.size ≤ w2.heap.size := hb2.size
    have HR2 := Lib.hid hr2
    obtain ⟨pv, iv, cv, rfl, ⟨Ap, cp, rfl, -, -⟩, ⟨Ai, ci, rfl, -, -, -⟩, ⟨Ac, cc, rfl, -, -, -⟩⟩ := hr2
    have HBk2 := Blk.new w2 26 #[.slice Ap lg.picks.length cp, .slice Ai lg.inputs.length ci, .slice Ac lg.clocks.length cc, .int .i64 lg.steps, .int .u64 (lg.sum : Int)]
    have hA2 : Below w2.heap.size w2 (w2.alloc (.cells #[.slice Ap lg.picks.length cp, .slice Ai lg.inputs.length ci, .slice Ac lg.clocks.length cc, .int .i64 lg.steps, .int .u64 (lg.sum : Int)] 26)) := (Below.refl _ _).alloc (Nat.le_refl _) _
    have HA2 := Lib.hid hA2
    have HBk2' := Lib.hid HBk2
    clear hb2 HDP1 HBk2 hA2
    go_wp2_with fail
    refine (HDR.out (.slice A b.length c) _ B (HV.out.below ((HF2.out.trans (HA2.out.mono (by omega))).mono hB)) (by have := HA2.out.size; omega)).mono ?_
    rintro e w3 ⟨v3, rfl, hr3, hb3⟩
    have HR3 := Lib.hid hr3
    obtain ⟨pv', iv', cv', rfl, ⟨Ap', cp', rfl, -, -⟩, ⟨Ai', ci', rfl, -, -, -⟩, ⟨Ac', cc', rfl, -, -, -⟩⟩ := hr3
    generalize hW : w2.alloc (.cells #[.slice Ap lg.picks.length cp, .slice Ai lg.inputs.length ci, .slice Ac lg.clocks.length cc, .int .i64 lg.steps, .int .u64 (lg.sum : Int)] 26) = w2' at HA2 HBk2' hb3
    have HBk3 := Lib.hid (HBk2'.out.below hb3 HBk2'.out.lt)
    have h23 : Below w2.heap.size w2 w3 := HA2.out.trans (hb3.mono HA2.out.size)
    have HO3 := Lib.hid (own_below HO2.out h23 (Nat.le_refl _))
    have HF3 := Lib.hid (HF2.out.trans (h23.mono (by omega)))
    have HR23 := Lib.hid (HR2.out.below h23)
    have hz3 : w2.heap.size ≤ w3.heap.size := h23.size
    have hz3' : w2.heap.size < w3.heap.size := HBk3.out.lt
    have HA3 := Lib.hid ((Below.refl w3.heap.size w3).alloc (Nat.le_refl _) (.cells #[.slice Ap' lg.picks.length cp', .slice Ai' lg.inputs.length ci', .slice Ac' lg.clocks.length cc', .int .i64 lg.steps, .int .u64 (lg.sum : Int)] 26))
    have HBk4 := Lib.hid (Blk.new w3 26 #[.slice Ap' lg.picks.length cp', .slice Ai' lg.inputs.length ci', .slice Ac' lg.clocks.length cc', .int .i64 lg.steps, .int .u64 (lg.sum : Int)])
    clear hb3 h23 hW HDR HBk2' HA2
    go_upto_region 6 with fail
    generalize hW : w3.alloc (.cells #[.slice Ap' lg.picks.length cp', .slice Ai' lg.inputs.length ci', .slice Ac' lg.clocks.length cc', .int .i64 lg.steps, .int .u64 (lg.sum : Int)] 26) = w4 at HA3 HBk4 ⊢
    clear hW
    have hz4 := HA3.out.size
    have HF4 := Lib.hid (HF3.out.trans (HA3.out.mono (by omega)))
    have HO4 := Lib.hid (own_below HO3.out HA3.out (Nat.le_refl _))
    have HBk5 := Lib.hid (HBk3.out.below HA3.out hz3')
    have HSm := Lib.hid (HEqq.out _ _ w4 w4.heap.size ((HR23.out.below (HA3.out.mono hz3)).more (by omega)) ((HR3.out.below HA3.out).more (by omega)) (Nat.le_refl _))
    have a0 : w4.cell? ⟨w2.heap.size, 0, none⟩ = some (.slice Ap lg.picks.length cp) := HBk5.out.cell 0
    have a1 : w4.cell? ⟨w2.heap.size, 1, none⟩ = some (.slice Ai lg.inputs.length ci) := HBk5.out.cell 1
    have a2 : w4.cell? ⟨w2.heap.size, 2, none⟩ = some (.slice Ac lg.clocks.length cc) := HBk5.out.cell 2
    have a3 : w4.cell? ⟨w2.heap.size, 3, none⟩ = some (.int .i64 lg.steps) := HBk5.out.cell 3
    have a4 : w4.cell? ⟨w2.heap.size, 4, none⟩ = some (.int .u64 (lg.sum : Int)) := HBk5.out.cell 4
    have b0 : w4.cell? ⟨w3.heap.size, 0, none⟩ = some (.slice Ap' lg.picks.length cp') := HBk4.out.cell 0
    have b1 : w4.cell? ⟨w3.heap.size, 1, none⟩ = some (.slice Ai' lg.inputs.length ci') := HBk4.out.cell 1
    have b2 : w4.cell? ⟨w3.heap.size, 2, none⟩ = some (.slice Ac' lg.clocks.length cc') := HBk4.out.cell 2
    have b3 : w4.cell? ⟨w3.heap.size, 3, none⟩ = some (.int .i64 lg.steps) := HBk4.out.cell 3
    have b4 : w4.cell? ⟨w3.heap.size, 4, none⟩ = some (.int .u64 (lg.sum : Int)) := HBk4.out.cell 4
    have her : (er != er) = false := by simp
    go_wp2_with fail
    refine HSm.out.mono ?_
    rintro e w5 ⟨rfl, hb5⟩
    have hs1 := run_str (HV.out.below ((HF4.out.trans (hb5.mono (by have := HF4.out.size; omega))).mono hB))
    have hs2 := run_str (rdB_of_own (own_below HO4.out hb5 (Nat.le_refl _)))
    have HS2 := Lib.hid HStr.out
    have HF5 := Lib.hid (HF4.out.trans (hb5.mono (by have := HF4.out.size; omega)))
    have HBk6 := Lib.hid (HBk5.out.below hb5 HBk5.out.lt)
    have HR5 := Lib.hid ((HR23.out.below (HA3.out.mono hz3)).below (hb5.mono (by omega)))
    have hz5 : w2.heap.size ≤ w5.heap.size := by have := hb5.size; omega
    clear hb5 a0 a1 a2 a3 a4 b0 b1 b2 b3 b4 HSm
    have e0 : ((Rb.str b).toList == (Rb.str b).toList) = true := by rw [HS2.out]; simp
    by_cases hz : er = 0
    · obtain ⟨hfit, henc⟩ := HOkk.out hz
      subst hz
      have c0 : w5.cell? ⟨w2.heap.size, 0, none⟩ = some (.slice Ap lg.picks.length cp) := HBk6.out.cell 0
      have c1 : w5.cell? ⟨w2.heap.size, 1, none⟩ = some (.slice Ai lg.inputs.length ci) := HBk6.out.cell 1
      have c2 : w5.cell? ⟨w2.heap.size, 2, none⟩ = some (.slice Ac lg.clocks.length cc) := HBk6.out.cell 2
      have c3 : w5.cell? ⟨w2.heap.size, 3, none⟩ = some (.int .i64 lg.steps) := HBk6.out.cell 3
      have c4 : w5.cell? ⟨w2.heap.size, 4, none⟩ = some (.int .u64 (lg.sum : Int)) := HBk6.out.cell 4
      have HEn := Lib.hid (encode_any _ lg w2.heap.size w5 HR5.out hz5 hfit)
      rw [henc] at HEn
      have hz0 := HF5.out.size
      clear henc
      go_wp2_with fail
      refine HEn.out.mono ?_
      rintro e w6 ⟨v6, rfl, ho6, hb6⟩
      have HF6 := Lib.hid (HF5.out.trans (hb6.mono hz0))
      have hs3 := run_str (HV.out.below (HF6.out.mono hB))
      have hs4 := run_str (rdB_of_own ho6)
      have hz6 := HF6.out.size
      clear ho6 hb6 HEn c0 c1 c2 c3 c4 hs1 hs2
      go_wp2_with fail
      refine (HL.out _).mono ?_
      rintro e w7 ⟨rfl, hb7⟩
      have H7 := Lib.hid (HF6.out.trans (hb7.mono hz6))
      clear hb7 hs3 hs4
      go_wp2_with fail
      go_ret
      exact ⟨rfl, H7.out⟩
    · have hz1 : (er != 0) = true := by simpa using hz
      have hz0 := HF5.out.size
      clear hz
      go_wp2_with fail
      refine (HL.out _).mono ?_
      rintro e w7 ⟨rfl, hb7⟩
      have H7 := Lib.hid (HF5.out.trans (hb7.mono hz0))
      clear hb7 hs1 hs2
      go_wp2_with fail
      go_ret
      exact ⟨rfl, H7.out⟩
end Go.Proofs.YtdpoecjbofofoaaGreatDoor
namespace Go.Proofs.YtdpoecjbofofoaaGreatDoor
open Go.RowKit
namespace Rb
def bsOf (l : Lg) : List Nat := if shape l = 0 then enc l else []
theorem bsOf_bytes (l : Lg) : Bytes (bsOf l) := by
  unfold bsOf; split
  · exact enc_bytes l
  · intro x hx; cases hx
end Rb
theorem rdB_nil (w : World) (B : Nat) : RdB w B (.slice none 0 0) [] := ⟨none, 0, rfl, Nat.le_refl _, rfl, fun h => absurd h (by simp)⟩
theorem enc_uni (v : Value) (l : Rb.Lg) (B : Nat) (w : World) (hv : RdL w B v l) (hB : B ≤ w.heap.size) (hi : ∀ x ∈ l.inputs, Rb.I64 x) (hc : ∀ x ∈ l.clocks, Rb.I64 x) (hs : l.sum < 18446744073709551616) :
    Calls Tryz.prog 8 #[v] w fun e w' => ∃ v', e = .returned (.tuple #[v', .int .i64 (Rb.shape l)]) ∧ RdB w' w'.heap.size v' (Rb.bsOf l) ∧ Below w.heap.size w w' := by
  by_cases h : Rb.shape l = 0
  · refine (encode_any v l B w hv hB ⟨h, hi, hc, hs⟩).mono ?_
    rintro e w' ⟨v', rfl, ho, hb⟩
    exact ⟨v', by rw [h], by unfold Rb.bsOf; rw [if_pos h]; exact rdB_of_own ho, hb⟩
  · refine (encode_bad v l B w hv hB h).mono ?_
    rintro e w' ⟨rfl, hb⟩
    exact ⟨_, rfl, by unfold Rb.bsOf; rw [if_neg h]; exact rdB_nil _ _, hb⟩
theorem renc_uni (v : Value) (l : Rb.Lg) (B : Nat) (w : World) (hv : RdL w B v l) (hB : B ≤ w.heap.size) (hi : ∀ x ∈ l.inputs, Rb.I64 x) (hc : ∀ x ∈ l.clocks, Rb.I64 x) (hs : l.sum < 18446744073709551616) :
    Calls Tryz.prog 9 #[v] w fun e w' => ∃ v', e = .returned (.tuple #[v', .int .i64 (Rb.shape l)]) ∧ RdB w' w'.heap.size v' (Rb.bsOf l) ∧ Below w.heap.size w w' := by
  by_cases h : Rb.shape l = 0
  · refine (rencode_any v l B w hv hB ⟨h, hi, hc, hs⟩).mono ?_
    rintro e w' ⟨v', rfl, ho, hb⟩
    exact ⟨v', by rw [h], by unfold Rb.bsOf; rw [if_pos h]; exact rdB_of_own ho, hb⟩
  · refine (rencode_bad v l B w hv hB h).mono ?_
    rintro e w' ⟨rfl, hb⟩
    exact ⟨_, rfl, by unfold Rb.bsOf; rw [if_neg h]; exact rdB_nil _ _, hb⟩
theorem enc_le {l : Rb.Lg} (h : Rb.Fit l) : (Rb.enc l).length ≤ 100000000 := by
  obtain ⟨h1, h2, h3, h4⟩ := h
  obtain ⟨a, b, c, d, e, f⟩ := Rb.shape_inv h1
  have x1 := Rb.encP_le l.picks f
  have x2 := Rb.values_le h2 (by omega)
  have x3 := Rb.values_le h3 (by omega)
  have x4 := Rb.vi_len10 (n := l.steps.toNat) (by omega)
  have x5 := Rb.vi_len10 (n := l.picks.length) (by omega)
  have x6 := Rb.lows_len 8 l.sum
  have x7 := Rb.lows_len 4 (Rb.fnv (Rb.head ++ Rb.body l))
  have x8 : Rb.head.length = 5 := rfl
  unfold Rb.enc Rb.body at *
  simp only [List.length_append] at *
  omega
set_option maxRecDepth 20000 in
set_option maxHeartbeats 1600000 in
theorem recordLogs_any (hlv : Lives) (v : Value) (l : Rb.Lg) (B : Nat) (w : World) (hv : RdL w B v l) (hB : B ≤ w.heap.size) (hi : ∀ x ∈ l.inputs, Rb.I64 x) (hc : ∀ x ∈ l.clocks, Rb.I64 x) (hs : l.sum < 18446744073709551616) :
    Calls Tryz.prog 3 #[v] w fun e w' => e = .returned (.bool true) ∧ Below w.heap.size w w' := by
  have HL := Lib.hid hlv
  have HI := Lib.hid hi
  have HC := Lib.hid hc
  have HSu := Lib.hid hs
  have HV := Lib.hid hv
  clear hlv hi hc hs
  obtain ⟨pv, iv, cv, rfl, ⟨Ap, cp, rfl, -, -⟩, ⟨Ai, ci, rfl, -, -, -⟩, ⟨Ac, cc, rfl, -, -, -⟩⟩ := hv
  have HBx := Lib.hid (Blk.new w 26 #[.slice Ap l.picks.length cp, .slice Ai l.inputs.length ci, .slice Ac l.clocks.length cc, .int .i64 l.steps, .int .u64 (l.sum : Int)])
  have HF0 := Lib.hid ((Below.refl w.heap.size w).alloc (Nat.le_refl _) (.cells #[.slice Ap l.picks.length cp, .slice Ai l.inputs.length ci, .slice Ac l.clocks.length cc, .int .i64 l.steps, .int .u64 (l.sum : Int)] 26))
  have HGr := Lib.hid (greatLog_any _ l B _ (HV.out.below (HF0.out.mono hB)))
  obtain ⟨q, hq⟩ : ∃ q, decide (66000 < l.picks.length ∨ 1100 < l.inputs.length ∨ 1100 < l.clocks.length) = q := ⟨_, rfl⟩
  rw [hq] at HGr
  have Hq := Lib.hid hq
  clear hq
  go_enter Tryz.func3, Tryz.ntmps3
  go_wp2_with fail
  refine HGr.out.mono ?_
  rintro e w1 ⟨rfl, hb1⟩
  have HF1 := Lib.hid (HF0.out.trans (hb1.mono HF0.out.size))
  have HB1 := Lib.hid (HBx.out.below hb1 HBx.out.lt)
  have hz1 : w.heap.size < w1.heap.size := HB1.out.lt
  clear hb1 HGr HBx
  cases q with
  | true =>
    go_wp2_with fail
    refine (HL.out _).mono ?_
    rintro e w2 ⟨rfl, hb2⟩
    have H2 := Lib.hid (HF1.out.trans (hb2.mono (by omega)))
    clear hb2
    go_wp2_with fail
    go_ret
    exact ⟨rfl, H2.out⟩
  | false =>
    have hpk : l.picks.length ≤ 66000 ∧ l.inputs.length ≤ 1100 ∧ l.clocks.length ≤ 1100 := by have := of_decide_eq_false Hq.out; omega
    obtain ⟨hp1, hp2, hp3⟩ := hpk
    have a0 : w1.cell? ⟨w.heap.size, 0, none⟩ = some (.slice Ap l.picks.length cp) := HB1.out.cell 0
    have a1 : w1.cell? ⟨w.heap.size, 1, none⟩ = some (.slice Ai l.inputs.length ci) := HB1.out.cell 1
    have a2 : w1.cell? ⟨w.heap.size, 2, none⟩ = some (.slice Ac l.clocks.length cc) := HB1.out.cell 2
    have a3 : w1.cell? ⟨w.heap.size, 3, none⟩ = some (.int .i64 l.steps) := HB1.out.cell 3
    have a4 : w1.cell? ⟨w.heap.size, 4, none⟩ = some (.int .u64 (l.sum : Int)) := HB1.out.cell 4
    have HTw := Lib.hid (twinLog_any _ l B w1 (HV.out.below (HF1.out.mono hB)) (by omega) (by omega))
    go_wp2_with fail
    refine HTw.out.mono ?_
    rintro e w2 ⟨v2, rfl, hr2, hb2⟩
    have HR2 := Lib.hid hr2
    obtain ⟨pv', iv', cv', rfl, ⟨Ap', cp', rfl, -, -⟩, ⟨Ai', ci', rfl, -, -, -⟩, ⟨Ac', cc', rfl, -, -, -⟩⟩ := hr2
    have HF2 := Lib.hid (HF1.out.trans (hb2.mono (by omega)))
    have HB2 := Lib.hid (HB1.out.below hb2 hz1)
    have hz2 : w1.heap.size ≤ w2.heap.size := hb2.size
    have HA2 := Lib.hid ((Below.refl w2.heap.size w2).alloc (Nat.le_refl _) (.cells #[.slice Ap' l.picks.length cp', .slice Ai' l.inputs.length ci', .slice Ac' l.clocks.length cc', .int .i64 l.steps, .int .u64 (l.sum : Int)] 26))
    have HM3 := Lib.hid (Blk.new w2 26 #[.slice Ap' l.picks.length cp', .slice Ai' l.inputs.length ci', .slice Ac' l.clocks.length cc', .int .i64 l.steps, .int .u64 (l.sum : Int)])
    clear hb2 a0 a1 a2 a3 a4 HTw
    go_upto_region 4 with fail
    generalize hW : w2.alloc (.cells #[.slice Ap' l.picks.length cp', .slice Ai' l.inputs.length ci', .slice Ac' l.clocks.length cc', .int .i64 l.steps, .int .u64 (l.sum : Int)] 26) = w3 at HA2 HM3 ⊢
    clear hW
    have hz3 : w2.heap.size < w3.heap.size := HM3.out.lt
    have HF3 := Lib.hid (HF2.out.trans (HA2.out.mono (by omega)))
    have HB3 := Lib.hid (HB2.out.below HA2.out (by omega))
    have HR3 := Lib.hid ((HR2.out.below HA2.out).more (Nat.le_of_lt hz3))
    have c0 : w3.cell? ⟨w2.heap.size, 0, none⟩ = some (.slice Ap' l.picks.length cp') := HM3.out.cell 0
    have c1 : w3.cell? ⟨w2.heap.size, 1, none⟩ = some (.slice Ai' l.inputs.length ci') := HM3.out.cell 1
    have c2 : w3.cell? ⟨w2.heap.size, 2, none⟩ = some (.slice Ac' l.clocks.length cc') := HM3.out.cell 2
    have c3 : w3.cell? ⟨w2.heap.size, 3, none⟩ = some (.int .i64 l.steps) := HM3.out.cell 3
    have c4 : w3.cell? ⟨w2.heap.size, 4, none⟩ = some (.int .u64 (l.sum : Int)) := HM3.out.cell 4
    have HEn := Lib.hid (enc_uni _ l w3.heap.size w3 HR3.out (Nat.le_refl _) HI.out HC.out HSu.out)
    go_wp2_with fail
    refine HEn.out.mono ?_
    rintro e w4 ⟨v4, rfl, hr4, hb4⟩
    have HF4 := Lib.hid (HF3.out.trans (hb4.mono (by omega)))
    have HB4 := Lib.hid (HB3.out.below hb4 (by omega))
    have HM4 := Lib.hid (HM3.out.below hb4 hz3)
    have HR4 := Lib.hid ((HR3.out.below hb4).more hb4.size)
    have HE4 := Lib.hid hr4
    have hz4 : w3.heap.size ≤ w4.heap.size := hb4.size
    clear hr4 hb4 HEn c0 c1 c2 c3 c4
    have a0 : w4.cell? ⟨w.heap.size, 0, none⟩ = some (.slice Ap l.picks.length cp) := HB4.out.cell 0
    have a1 : w4.cell? ⟨w.heap.size, 1, none⟩ = some (.slice Ai l.inputs.length ci) := HB4.out.cell 1
    have a2 : w4.cell? ⟨w.heap.size, 2, none⟩ = some (.slice Ac l.clocks.length cc) := HB4.out.cell 2
    have a3 : w4.cell? ⟨w.heap.size, 3, none⟩ = some (.int .i64 l.steps) := HB4.out.cell 3
    have a4 : w4.cell? ⟨w.heap.size, 4, none⟩ = some (.int .u64 (l.sum : Int)) := HB4.out.cell 4
    have HEr := Lib.hid (renc_uni _ l B w4 (HV.out.below (HF4.out.mono hB)) (by omega) HI.out HC.out HSu.out)
    go_wp2_with fail
    refine HEr.out.mono ?_
    rintro e w5 ⟨v6, rfl, hr5, hb5⟩
    have HF5 := Lib.hid (HF4.out.trans (hb5.mono (by omega)))
    have HB5 := Lib.hid (HB4.out.below hb5 (by omega))
    have HM5 := Lib.hid (HM4.out.below hb5 (by omega))
    have HR5 := Lib.hid ((HR4.out.below hb5).more hb5.size)
    have HE5 := Lib.hid (HE4.out.below hb5)
    have HG5 := Lib.hid hr5
    have hz5 : w4.heap.size ≤ w5.heap.size := hb5.size
    clear hr5 hb5 HEr a0 a1 a2 a3 a4
    have a0 : ∀ p : BW w5, p.wd.cell? ⟨w.heap.size, 0, none⟩ = some (.slice Ap l.picks.length cp) := fun p => cell_bw HB5.out.lt (HB5.out.cell 0) p
    have a1 : ∀ p : BW w5, p.wd.cell? ⟨w.heap.size, 1, none⟩ = some (.slice Ai l.inputs.length ci) := fun p => cell_bw HB5.out.lt (HB5.out.cell 1) p
    have a2 : ∀ p : BW w5, p.wd.cell? ⟨w.heap.size, 2, none⟩ = some (.slice Ac l.clocks.length cc) := fun p => cell_bw HB5.out.lt (HB5.out.cell 2) p
    have a3 : ∀ p : BW w5, p.wd.cell? ⟨w.heap.size, 3, none⟩ = some (.int .i64 l.steps) := fun p => cell_bw HB5.out.lt (HB5.out.cell 3) p
    have a4 : ∀ p : BW w5, p.wd.cell? ⟨w.heap.size, 4, none⟩ = some (.int .u64 (l.sum : Int)) := fun p => cell_bw HB5.out.lt (HB5.out.cell 4) p
    have c0 : ∀ p : BW w5, p.wd.cell? ⟨w2.heap.size, 0, none⟩ = some (.slice Ap' l.picks.length cp') := fun p => cell_bw HM5.out.lt (HM5.out.cell 0) p
    have c1 : ∀ p : BW w5, p.wd.cell? ⟨w2.heap.size, 1, none⟩ = some (.slice Ai' l.inputs.length ci') := fun p => cell_bw HM5.out.lt (HM5.out.cell 1) p
    have c2 : ∀ p : BW w5, p.wd.cell? ⟨w2.heap.size, 2, none⟩ = some (.slice Ac' l.clocks.length cc') := fun p => cell_bw HM5.out.lt (HM5.out.cell 2) p
    have c3 : ∀ p : BW w5, p.wd.cell? ⟨w2.heap.size, 3, none⟩ = some (.int .i64 l.steps) := fun p => cell_bw HM5.out.lt (HM5.out.cell 3) p
    have c4 : ∀ p : BW w5, p.wd.cell? ⟨w2.heap.size, 4, none⟩ = some (.int .u64 (l.sum : Int)) := fun p => cell_bw HM5.out.lt (HM5.out.cell 4) p
    have hs1 := fun p : BW w5 => run_str ((HE5.out.more hz5).below p.ok)
    have hs2 := fun p : BW w5 => run_str (HG5.out.below p.ok)
    have HSh := Lib.hid (fun p : BW w5 => shape_any _ l w5.heap.size p.wd (HR5.out.below p.ok) p.ok.size)
    have HSr := Lib.hid (fun p : BW w5 => rshape_any _ l B p.wd ((HV.out.below (HF5.out.mono hB)).below (p.ok.mono (by omega))) (by have := p.ok.size; omega))
    have HSm := Lib.hid (fun p : BW w5 => sameLog_any _ _ l w5.heap.size p.wd (((HV.out.below (HF5.out.mono hB)).more (by omega)).below p.ok) (HR5.out.below p.ok) p.ok.size (by omega))
    have HBs := Lib.hid (Rb.str_beq (Rb.bsOf_bytes l) (Rb.bsOf_bytes l))
    have e0 : ((Rb.str (Rb.bsOf l)).toList == (Rb.str (Rb.bsOf l)).toList) = true := by rw [HBs.out]; simp
    obtain ⟨sh, hsh⟩ : ∃ sh, Rb.shape l = sh := ⟨_, rfl⟩
    rw [hsh] at HSh HSr
    have Hsh := Lib.hid hsh
    rw [hsh]
    obtain ⟨A4, c4', rfl, -, -⟩ := HE4.out
    obtain ⟨A6, c6', rfl, -, -⟩ := HG5.out
    have n0 : (sh != sh) = false := by simp
    clear hsh
    go_upto_region 6 with fail
    refine wp_region_bw (by kernel_rfl) (by kernel_rfl) ?_
    repeat (go_big_quiet_step (first | ((go_at_call 10; with_reducible exact calls_bw (HSh.out _))) | ((go_at_call 11; with_reducible exact calls_bw (HSr.out _))) | ((go_at_call 12; with_reducible exact calls_bw (HSm.out _)))))
    refine wpQuiet_nil ?_
    intro _ hw'
    obtain ⟨p, hw''⟩ := hw'
    subst hw''
    have HF6 := Lib.hid (HF5.out.trans (p.ok.mono (by omega)))
    have HB6 := Lib.hid (HB5.out.below p.ok HB5.out.lt)
    have hz6 : w5.heap.size ≤ p.wd.heap.size := p.ok.size
    have HE6 := Lib.hid ((HE5.out.more hz5).below p.ok)
    clear a0 a1 a2 a3 a4 c0 c1 c2 c3 c4 hs1 hs2 HSh HSr HSm
    generalize p.wd = w6 at *
    clear p
    by_cases hz : sh = 0
    · subst hz
      have hfit : Rb.Fit l := ⟨Hsh.out, HI.out, HC.out, HSu.out⟩
      have hbs : Rb.bsOf l = Rb.enc l := by unfold Rb.bsOf; rw [if_pos Hsh.out]
      have HDe := Lib.hid (decode_any _ _ w5.heap.size w6 HE6.out hz6 (Rb.bsOf_bytes l) (by rw [hbs]; exact enc_le hfit))
      rw [hbs, Rb.decP_enc hfit, ← hbs] at HDe
      clear hbs hfit
      go_wp2_with fail
      refine HDe.out.mono ?_
      rintro e w7 ⟨v7, rfl, hr7, hb7⟩
      simp only [Rb.out] at hr7
      have HR7 := Lib.hid hr7
      obtain ⟨pv7, iv7, cv7, rfl, ⟨Ap7, cp7, rfl, -, -⟩, ⟨Ai7, ci7, rfl, -, -, -⟩, ⟨Ac7, cc7, rfl, -, -, -⟩⟩ := hr7
      have HF7 := Lib.hid (HF6.out.trans (hb7.mono (by omega)))
      have HB7 := Lib.hid (HB6.out.below hb7 HB6.out.lt)
      have hz7 : w6.heap.size ≤ w7.heap.size := hb7.size
      have HA8 := Lib.hid ((Below.refl w7.heap.size w7).alloc (Nat.le_refl _) (.cells #[.slice Ap7 l.picks.length cp7, .slice Ai7 l.inputs.length ci7, .slice Ac7 l.clocks.length cc7, .int .i64 l.steps, .int .u64 (l.sum : Int)] 26))
      have HN8 := Lib.hid (Blk.new w7 26 #[.slice Ap7 l.picks.length cp7, .slice Ai7 l.inputs.length ci7, .slice Ac7 l.clocks.length cc7, .int .i64 l.steps, .int .u64 (l.sum : Int)])
      clear hb7 HDe
      go_upto_region 11 with fail
      generalize hW : w7.alloc (.cells #[.slice Ap7 l.picks.length cp7, .slice Ai7 l.inputs.length ci7, .slice Ac7 l.clocks.length cc7, .int .i64 l.steps, .int .u64 (l.sum : Int)] 26) = w8 at HA8 HN8 ⊢
      clear hW
      have hz8 : w7.heap.size < w8.heap.size := HN8.out.lt
      have HB8 := Lib.hid (HB7.out.below HA8.out (by omega))
      have HF8 := Lib.hid (HF7.out.trans (HA8.out.mono (by omega)))
      have c0 : w8.cell? ⟨w7.heap.size, 0, none⟩ = some (.slice Ap7 l.picks.length cp7) := HN8.out.cell 0
      have c1 : w8.cell? ⟨w7.heap.size, 1, none⟩ = some (.slice Ai7 l.inputs.length ci7) := HN8.out.cell 1
      have c2 : w8.cell? ⟨w7.heap.size, 2, none⟩ = some (.slice Ac7 l.clocks.length cc7) := HN8.out.cell 2
      have c3 : w8.cell? ⟨w7.heap.size, 3, none⟩ = some (.int .i64 l.steps) := HN8.out.cell 3
      have c4 : w8.cell? ⟨w7.heap.size, 4, none⟩ = some (.int .u64 (l.sum : Int)) := HN8.out.cell 4
      have a0 : w8.cell? ⟨w.heap.size, 0, none⟩ = some (.slice Ap l.picks.length cp) := HB8.out.cell 0
      have a1 : w8.cell? ⟨w.heap.size, 1, none⟩ = some (.slice Ai l.inputs.length ci) := HB8.out.cell 1
      have a2 : w8.cell? ⟨w.heap.size, 2, none⟩ = some (.slice Ac l.clocks.length cc) := HB8.out.cell 2
      have a3 : w8.cell? ⟨w.heap.size, 3, none⟩ = some (.int .i64 l.steps) := HB8.out.cell 3
      have a4 : w8.cell? ⟨w.heap.size, 4, none⟩ = some (.int .u64 (l.sum : Int)) := HB8.out.cell 4
      have HSm := Lib.hid (sameLog_any _ _ l w8.heap.size w8 ((HR7.out.below HA8.out).more (Nat.le_of_lt hz8)) ((HV.out.below (HF8.out.mono hB)).more (by omega)) (Nat.le_refl _) (by omega))
      go_wp2_with fail
      refine HSm.out.mono ?_
      rintro e w9 ⟨rfl, hb9⟩
      have HF9 := Lib.hid (HF8.out.trans (hb9.mono (by omega)))
      have hz9 := HF9.out.size
      clear hb9 HSm a0 a1 a2 a3 a4 c0 c1 c2 c3 c4
      go_wp2_with fail
      refine (HL.out _).mono ?_
      rintro e w10 ⟨rfl, hb10⟩
      have H10 := Lib.hid (HF9.out.trans (hb10.mono hz9))
      clear hb10
      go_wp2_with fail
      go_ret
      exact ⟨rfl, H10.out⟩
    · have hz1s : (sh != 0) = true := by simpa using hz
      clear hz
      go_wp2_with fail
      refine (HL.out _).mono ?_
      rintro e w7 ⟨rfl, hb7⟩
      have H7 := Lib.hid (HF6.out.trans (hb7.mono (by omega)))
      clear hb7
      go_wp2_with fail
      go_ret
      exact ⟨rfl, H7.out⟩
end Go.Proofs.YtdpoecjbofofoaaGreatDoor
namespace Go.Proofs.YtdpoecjbofofoaaGreatDoor
open Go.RowKit Go.ChangeShapes Go.WideShapes Go.Deep
theorem lt_of_cell {w : World} {p : Addr} {u : Value} (h : w.cell? p = some u) : p.block < w.heap.size := by
  rcases Nat.lt_or_ge p.block w.heap.size with hlt | hge
  · exact hlt
  · exfalso
    unfold World.cell? at h
    rw [Array.getElem?_eq_none hge] at h
    simp at h
theorem cells_u8 : Tryz.prog.cellsOf 5 = 1 := by kernel_rfl
theorem cells_i64 : Tryz.prog.cellsOf 2 = 1 := by kernel_rfl
section
variable {H : Type} {enc : TypeId × Value → H} {W : World}
theorem open_bytes {v : Value} {d : DataW H} {p : List MemPlace} (h : DataW.Trod enc Tryz.prog W 0 (fun _ => true) true 30 v d p) (hv : ∃ A n c, v = .slice A n c) : ∃ b, RdB W W.heap.size v b ∧ Rb.Bytes b := by
  obtain ⟨fuel, hf⟩ := h
  obtain ⟨A0, n0, c0, rfl⟩ := hv
  rcases open_ints Tryz.underlying30 Tryz.underlying5 cells_u8 hf with ⟨hc, hx⟩ | ⟨a, len, cap, zs, hc, _, hl, _, hz, hx, hcell, hwf⟩
  · have e : A0 = none ∧ n0 = 0 ∧ c0 = 0 := by simpa [Value.cells] using hc
    obtain ⟨rfl, rfl, rfl⟩ := e
    exact ⟨[], rdB_nil _ _, fun x hx => by cases hx⟩
  · have e : A0 = some a ∧ n0 = len ∧ c0 = cap := by simpa [Value.cells] using hc
    obtain ⟨rfl, rfl, rfl⟩ := e
    rw [if_pos rfl] at hz
    have hb : ∀ n ∈ zs, 0 ≤ n ∧ n < 256 := fun n hn => by
      have := hwf n hn
      simp [Lit.wf, IntKind.min, IntKind.max, IntKind.signed, IntKind.bits] at this
      omega
    have hlen : ((zs.take n0).map Int.toNat).length = n0 := by rw [List.length_map, List.length_take]; omega
    refine ⟨(zs.take n0).map Int.toNat, ⟨some a, c0, by rw [hlen], by rw [hlen]; exact hl, ?_⟩, ?_⟩
    · rw [hlen]
      refine ⟨by rw [List.length_map, hlen, Nat.mul_one], fun hn => ⟨a, rfl, ?_, fun j u hj => ?_⟩⟩
      · have := lt_of_cell (hcell 0 (by omega))
        rwa [block_of_add] at this
      · have hjn : j < n0 := by
          rcases Nat.lt_or_ge j n0 with h | h
          · exact h
          · rw [List.getElem?_eq_none (by rw [List.length_map, hlen]; exact h)] at hj; cases hj
        have hjz : j < zs.length := by omega
        have h2 := hb _ (List.getElem_mem hjz)
        rw [hcell j (by omega), ← hj, List.getElem?_map, List.getElem?_map, List.getElem?_take_of_lt hjn, List.getD_eq_getElem?_getD, List.getElem?_eq_getElem hjz]
        simp
        omega
    · intro x hx
      obtain ⟨y, hy, rfl⟩ := List.mem_map.1 hx
      have := hb y (List.mem_of_mem_take hy)
      omega
end
end Go.Proofs.YtdpoecjbofofoaaGreatDoor
