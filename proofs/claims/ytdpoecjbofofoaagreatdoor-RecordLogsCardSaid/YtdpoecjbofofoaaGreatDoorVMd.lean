/-
  Contracts: bytes.Equal, bytes.HasPrefix.
  Contract: the program's Decode.
  Contract: the specification's Taker.number.
  Contracts: the specification's Taker.count, .bounded, .signed.
  A region whose last operation stores into a cell that the region reads: a condition on the world that holds till that operation comes up.
  Memory while the specification's decoder runs: its taker (block g), its log (block L), its result (block R).
-/
import Derived.Test.YtdpoecjbofofoaaGreatDoorVMc
import Derived.Laws.BytesArg
import Derived.Lib.Bytes
import Derived.Laws.CopyOwn
import Derived.OrdersHeld
import Derived.Deep.RegionWith
import Derived.Laws.World
namespace Go.Proofs.YtdpoecjbofofoaaGreatDoor
open Go.RowKit
namespace Rb
/-- Bytes as a string. -/
def str (l : List Nat) : ByteArray := ⟨(l.map fun n => UInt8.ofNat n).toArray⟩
theorem str_list (l : List Nat) : (str l).toList = l.map fun n => UInt8.ofNat n := by
  have h := Lib.strOfNums_toList (l.map fun (n : Nat) => (n : Int))
  have e : strOfNums (l.map fun (n : Nat) => (n : Int)) = str l := by unfold strOfNums str; simp
  rw [e] at h
  rw [h]; simp [Lib.bytesOf]
theorem map_inj {a b : List Nat} (ha : Bytes a) (hb : Bytes b) (h1 : (a.map fun n => UInt8.ofNat n) = b.map fun n => UInt8.ofNat n) : a = b := by
  induction a generalizing b with
  | nil => cases b with
    | nil => rfl
    | cons y b => cases h1
  | cons x a ih => cases b with
    | nil => cases h1
    | cons y b =>
      simp only [List.map_cons, List.cons.injEq] at h1
      have hx := ha x List.mem_cons_self
      have hy := hb y List.mem_cons_self
      have h2 := congrArg UInt8.toNat h1.1
      simp only [UInt8.toNat_ofNat'] at h2
      rw [ih (fun z hz => ha z (List.mem_cons_of_mem _ hz)) (fun z hz => hb z (List.mem_cons_of_mem _ hz)) h1.2]
      congr 1
      omega
theorem str_beq {a b : List Nat} (ha : Bytes a) (hb : Bytes b) : ((str a).toList == (str b).toList) = decide (a = b) := by
  rw [Bool.eq_iff_iff, beq_iff_eq, decide_eq_true_eq, str_list, str_list]
  exact ⟨map_inj ha hb, fun h => by rw [h]⟩
end Rb
theorem run_str {w : World} {B : Nat} {v : Value} {l : List Nat} (h : RdB w B v l) : (convert 30 9 v).run Tryz.prog w = .ok (.string (Rb.str l)) w := by
  obtain ⟨A, c, rfl, hc, hr⟩ := h
  rw [run_convert_bytes_string w _ _ 5 _ _ _ Tryz.underlying30 Tryz.underlying5 Tryz.underlying9]
  cases A with
  | none =>
    have h0 : l = [] := by
      cases l with
      | nil => rfl
      | cons x l => obtain ⟨ad, h, -⟩ := hr.2 (by simp); cases h
    subst h0
    simp [Conv.bytesToString, Rb.str]
    rfl
  | some ad =>
    have hl := run_loadCells_list (P := Tryz.prog) w ad ((l.map fun (n : Nat) => (n : Int)).map (Value.int .u8)) (fun j v hj => by
      have hj' : (l.map fun (b : Nat) => Value.int .u8 (b : Int))[j]? = some v := by simpa using hj
      have hjl : j < l.length := by
        rcases Nat.lt_or_ge j l.length with h | h
        · exact h
        · rw [List.getElem?_eq_none (by simpa using h)] at hj'; cases hj'
      obtain ⟨ad', h, -, hcell⟩ := hr.2 (by omega)
      injection h with h
      subst h
      exact hcell j v hj')
    rw [run_bytesToString w _ l.length c (l.map fun (n : Nat) => (n : Int)) (by simpa using hl), foldl_push_bytes]
    simp [Rb.str, ByteArray.empty, ByteArray.emptyWithCapacity]
    rfl
set_option maxHeartbeats 800000 in
theorem equal_any (v v' : Value) (l l' : List Nat) (B B' : Nat) (w : World) (hv : RdB w B v l) (hv' : RdB w B' v' l') (hl : Rb.Bytes l) (hl' : Rb.Bytes l') :
    Calls Tryz.prog 27 #[v, v'] w fun e w' => e = .returned (.bool (decide (l = l'))) ∧ w' = w := by
  have h1 := run_str hv
  have h2 := run_str hv'
  have HE := Lib.hid (Rb.str_beq hl hl')
  obtain ⟨A, c, rfl, -, -⟩ := hv
  obtain ⟨A', c', rfl, -, -⟩ := hv'
  generalize Rb.str l = s at *
  generalize Rb.str l' = s' at *
  go_enter Tryz.func27, Tryz.ntmps27
  go_wp2
  go_ret
  exact ⟨ret_bool HE.out, rfl⟩
theorem rdB_cut {w : World} {B : Nat} {A : Option Addr} {l : List Nat} {c k : Nat} (hr : Reads w B 1 A l.length (l.map fun (b : Nat) => Value.int .u8 (b : Int))) (hk : k ≤ l.length) (hc : k ≤ c) : RdB w B (.slice A k c) (l.take k) := by
  refine ⟨A, c, by rw [List.length_take, Nat.min_eq_left hk], by rw [List.length_take]; omega, ?_⟩
  rw [List.length_take, Nat.min_eq_left hk]
  refine ⟨by simp [Nat.min_eq_left hk], fun h => ?_⟩
  obtain ⟨ad, e, hb, hcell⟩ := hr.2 (by omega)
  refine ⟨ad, e, hb, fun j v hj => hcell j v ?_⟩
  rw [List.map_take, List.getElem?_take] at hj
  split at hj
  · exact hj
  · cases hj
set_option maxHeartbeats 800000 in
theorem hasPrefix_any (v v' : Value) (l l' : List Nat) (B B' : Nat) (w : World) (hv : RdB w B v l) (hv' : RdB w B' v' l') (hl : Rb.Bytes l) (hl' : Rb.Bytes l') :
    Calls Tryz.prog 28 #[v, v'] w fun e w' => e = .returned (.bool (decide (l.take l'.length = l'))) ∧ w' = w := by
  have hv2 := hv'
  obtain ⟨A, c, rfl, hc, hr⟩ := hv
  obtain ⟨A', c', rfl, hc', -⟩ := hv'
  by_cases hlen : l'.length ≤ l.length
  · have HE := Lib.hid (equal_any (.slice A l'.length c) (.slice A' l'.length c') (l.take l'.length) l' B B' w (rdB_cut hr hlen (by omega)) hv2 (fun b hb => hl b (List.mem_of_mem_take hb)) hl')
    have hz : decide ((l.length : Int) ≥ (l'.length : Int)) = true := by simp; omega
    clear hr hv2
    go_enter Tryz.func28, Tryz.ntmps28
    go_wp2_with fail
    refine HE.out.mono ?_
    rintro e w1 ⟨rfl, rfl⟩
    go_wp2
    go_ret
    exact ⟨rfl, rfl⟩
  · have hz : decide ((l.length : Int) ≥ (l'.length : Int)) = false := by simp; omega
    have hr2 := Lib.hid (show decide (l.take l'.length = l') = false from decide_eq_false (fun h => by
      have := congrArg List.length h
      rw [List.length_take] at this; omega))
    clear hr hv2
    go_enter Tryz.func28, Tryz.ntmps28
    go_wp2
    go_ret
    exact ⟨ret_bool hr2.out.symm, rfl⟩
end Go.Proofs.YtdpoecjbofofoaaGreatDoor
namespace Go.Proofs.YtdpoecjbofofoaaGreatDoor
open Go.RowKit
attribute [local go_sem ↓] Go.wp_at_zero Go.wp_at_succ
namespace Rb
def out : Lg ⊕ Int → Lg × Int
  | .inl l => (l, 0)
  | .inr n => (⟨0, [], [], [], 0⟩, n)
section
variable {b : List Nat}
theorem decP_short (h : b.length < 4) : decP b = .inr 4 := by unfold decP; rw [if_pos h]
theorem decP_sum (h : ¬ b.length < 4) (h2 : lows (fnv (b.take (b.length - 4))) 4 ≠ b.drop (b.length - 4)) : decP b = .inr 10 := by unfold decP; rw [if_neg h, if_pos h2]
theorem decP_head (h : ¬ b.length < 4) (h2 : lows (fnv (b.take (b.length - 4))) 4 = b.drop (b.length - 4)) (h3 : (b.take (b.length - 4)).take 5 ≠ head) : decP b = .inr 4 := by unfold decP; rw [if_neg h, if_neg (by simp [h2]), if_pos h3]
theorem decP_bad (h : ¬ b.length < 4) (h2 : lows (fnv (b.take (b.length - 4))) 4 = b.drop (b.length - 4)) (h3 : (b.take (b.length - 4)).take 5 = head) (h4 : (logF ((b.take (b.length - 4)).drop 5)).2 = true) : decP b = .inr 4 := by
  unfold decP; rw [if_neg h, if_neg (by simp [h2]), if_neg (by simp [h3]), if_pos h4]
theorem decP_re (h : ¬ b.length < 4) (h2 : lows (fnv (b.take (b.length - 4))) 4 = b.drop (b.length - 4)) (h3 : (b.take (b.length - 4)).take 5 = head) (h4 : (logF ((b.take (b.length - 4)).drop 5)).2 = false) (h5 : shape (logF ((b.take (b.length - 4)).drop 5)).1 ≠ 0 ∨ enc (logF ((b.take (b.length - 4)).drop 5)).1 ≠ b) : decP b = .inr 4 := by
  unfold decP; rw [if_neg h, if_neg (by simp [h2]), if_neg (by simp [h3]), if_neg (by simp [h4]), if_pos h5]
theorem decP_ok (h : ¬ b.length < 4) (h2 : lows (fnv (b.take (b.length - 4))) 4 = b.drop (b.length - 4)) (h3 : (b.take (b.length - 4)).take 5 = head) (h4 : (logF ((b.take (b.length - 4)).drop 5)).2 = false) (h5 : ¬ (shape (logF ((b.take (b.length - 4)).drop 5)).1 ≠ 0 ∨ enc (logF ((b.take (b.length - 4)).drop 5)).1 ≠ b)) : decP b = .inl (logF ((b.take (b.length - 4)).drop 5)).1 := by
  unfold decP; rw [if_neg h, if_neg (by simp [h2]), if_neg (by simp [h3]), if_neg (by simp [h4]), if_neg h5]
theorem enc_bytes (l : Lg) : Bytes (enc l) := (body_bytes l).app (lows_byte 4 _)
end
end Rb
theorem zeroLg_reads (w : World) : RdL w w.heap.size (.agg #[.slice none 0 0, .slice none 0 0, .slice none 0 0, .int .i64 0, .int .u64 0]) ⟨0, [], [], [], 0⟩ :=
  ⟨_, _, _, rfl, (OwnP.nil w 0).reads, (OwnV.nil w 0).reads (by decide), (OwnV.nil w 0).reads (by decide)⟩
/-- What a decoder answers. -/
def DecPost (r : Rb.Lg ⊕ Int) (w : World) (e : Ending) (w' : World) : Prop := ∃ v', e = .returned (.tuple #[v', .int .i64 (Rb.out r).2]) ∧ RdL w' w'.heap.size v' (Rb.out r).1 ∧ Below w.heap.size w w'
theorem make_bytes (w : World) (n : Nat) (hn : n ≤ 100000000) : (Instr.makeSlice 30 (.int .i64 n) (.int .i64 n)).run Tryz.prog w = .ok (.slice (some ⟨w.heap.size, 0, none⟩) n n) (w.alloc (.cells (madeCells #[.int .u8 0] n) 5)) := by
  obtain ⟨i, hi, hz, hs, hb⟩ := info_parts info_u8
  have h := run_make (P := Tryz.prog) w 30 5 i (.int .u8 0) Tryz.underlying30 hi hz .i64 .i64 n n (by omega) (by omega) (by rw [hb]; omega) (by omega)
  rw [hs, Nat.mul_one] at h
  exact h
theorem rdB_blk {w : World} {g B : Nat} {l : List Nat} (h : Blk w g 5 (l.map fun (b : Nat) => Value.int .u8 (b : Int)).toArray) (hg : g < B) : RdB w B (.slice (some ⟨g, 0, none⟩) l.length l.length) l := by
  refine ⟨_, _, rfl, Nat.le_refl _, by simp, fun _ => ⟨_, rfl, hg, fun j v hj => ?_⟩⟩
  have e : (⟨g, 0, none⟩ : Addr).add j = ⟨g, j, none⟩ := by unfold Addr.add; split <;> simp_all
  rw [e, h.cell j]
  simpa using hj
theorem rdB_drop {w : World} {B : Nat} {A : Option Addr} {l : List Nat} {c k : Nat} (hr : Reads w B 1 A l.length (l.map fun (b : Nat) => Value.int .u8 (b : Int))) (hk : k ≤ l.length) (hc : l.length ≤ c) (hck : c ≠ k) : RdB w B (.slice (A.map (·.add k)) (l.length - k) (c - k)) (l.drop k) := by
  have := hr.cut hk hc
  rw [if_neg hck, Nat.mul_one, ← List.map_drop] at this
  exact ⟨_, _, by rw [List.length_drop], by rw [List.length_drop]; omega, by rw [List.length_drop]; exact this⟩
theorem splice_all (n : Nat) (cs : List Value) (h : cs.length = n) : splice (madeCells #[Value.int .u8 0] n).toList 0 cs = cs := by
  have hl : (madeCells #[Value.int .u8 0] n).toList.length = n := by rw [Array.length_toList]; exact size_madeCells _ _
  unfold splice
  rw [List.take_zero, List.nil_append, Nat.zero_add, h, List.drop_of_length_le (by omega), List.append_nil]
theorem log_set {W : World} {R : Nat} {a' b' c' d' e' : Value} (a b c d e : Value) (h : Blk W R 26 #[a', b', c', d', e']) :
    (W.cell? ⟨R, 0, none⟩ = some a' ∧ (W.setCell ⟨R, 0, none⟩ a).cell? ⟨R, 1, none⟩ = some b' ∧ ((W.setCell ⟨R, 0, none⟩ a).setCell ⟨R, 1, none⟩ b).cell? ⟨R, 2, none⟩ = some c' ∧ (((W.setCell ⟨R, 0, none⟩ a).setCell ⟨R, 1, none⟩ b).setCell ⟨R, 2, none⟩ c).cell? ⟨R, 3, none⟩ = some d' ∧ ((((W.setCell ⟨R, 0, none⟩ a).setCell ⟨R, 1, none⟩ b).setCell ⟨R, 2, none⟩ c).setCell ⟨R, 3, none⟩ d).cell? ⟨R, 4, none⟩ = some e') ∧
    (W.frozen? ⟨R, 0, none⟩ = false ∧ (W.setCell ⟨R, 0, none⟩ a).frozen? ⟨R, 1, none⟩ = false ∧ ((W.setCell ⟨R, 0, none⟩ a).setCell ⟨R, 1, none⟩ b).frozen? ⟨R, 2, none⟩ = false ∧ (((W.setCell ⟨R, 0, none⟩ a).setCell ⟨R, 1, none⟩ b).setCell ⟨R, 2, none⟩ c).frozen? ⟨R, 3, none⟩ = false ∧ ((((W.setCell ⟨R, 0, none⟩ a).setCell ⟨R, 1, none⟩ b).setCell ⟨R, 2, none⟩ c).setCell ⟨R, 3, none⟩ d).frozen? ⟨R, 4, none⟩ = false) ∧
    Blk (((((W.setCell ⟨R, 0, none⟩ a).setCell ⟨R, 1, none⟩ b).setCell ⟨R, 2, none⟩ c).setCell ⟨R, 3, none⟩ d).setCell ⟨R, 4, none⟩ e) R 26 #[a, b, c, d, e] ∧ W.grownBy (((((W.setCell ⟨R, 0, none⟩ a).setCell ⟨R, 1, none⟩ b).setCell ⟨R, 2, none⟩ c).setCell ⟨R, 3, none⟩ d).setCell ⟨R, 4, none⟩ e) (some R) := by
  have x0 : (#[a', b', c', d', e'] : Array Value).setIfInBounds 0 a = #[a, b', c', d', e'] := rfl
  have h0 := h.set_ 0 a
  rw [x0] at h0
  have x1 : (#[a, b', c', d', e'] : Array Value).setIfInBounds 1 b = #[a, b, c', d', e'] := rfl
  have h1 := h0.set_ 1 b
  rw [x1] at h1
  have x2 : (#[a, b, c', d', e'] : Array Value).setIfInBounds 2 c = #[a, b, c, d', e'] := rfl
  have h2 := h1.set_ 2 c
  rw [x2] at h2
  have x3 : (#[a, b, c, d', e'] : Array Value).setIfInBounds 3 d = #[a, b, c, d, e'] := rfl
  have h3 := h2.set_ 3 d
  rw [x3] at h3
  have x4 : (#[a, b, c, d, e'] : Array Value).setIfInBounds 4 e = #[a, b, c, d, e] := rfl
  have h4 := h3.set_ 4 e
  rw [x4] at h4
  have gs : ∀ (V : World) (i : Nat) (u : Value), V.grownBy (V.setCell ⟨R, i, none⟩ u) (some R) := fun V i u => grown_setCell V ⟨R, i, none⟩ u
  have g0 := gs W 0 a
  have g1 := gs (W.setCell ⟨R, 0, none⟩ a) 1 b
  have g2 := gs ((W.setCell ⟨R, 0, none⟩ a).setCell ⟨R, 1, none⟩ b) 2 c
  have g3 := gs (((W.setCell ⟨R, 0, none⟩ a).setCell ⟨R, 1, none⟩ b).setCell ⟨R, 2, none⟩ c) 3 d
  have g4 := gs ((((W.setCell ⟨R, 0, none⟩ a).setCell ⟨R, 1, none⟩ b).setCell ⟨R, 2, none⟩ c).setCell ⟨R, 3, none⟩ d) 4 e
  exact ⟨⟨h.cell 0, h0.cell 1, h1.cell 2, h2.cell 3, h3.cell 4⟩, ⟨h.frozen 0, h0.frozen 1, h1.frozen 2, h2.frozen 3, h3.frozen 4⟩, h4, (((g0.trans g1).trans g2).trans g3).trans g4⟩
theorem infoSize_u8 : (Tryz.prog.info? 5).map (·.size) = some 1 := by kernel_rfl
set_option maxRecDepth 20000 in
set_option maxHeartbeats 1600000 in
theorem decode_any (v : Value) (b : List Nat) (B : Nat) (w : World) (hv : RdB w B v b) (hB : B ≤ w.heap.size) (hb : Rb.Bytes b) (hn : b.length ≤ 100000000) :
    Calls Tryz.prog 13 #[v] w (DecPost (Rb.decP b) w) := by
  have HV := Lib.hid hv
  have HBy := Lib.hid hb
  obtain ⟨A, c, rfl, hc, hr⟩ := hv
  have HR := Lib.hid hr
  clear hr hb
  by_cases h4 : b.length < 4
  · have HR0 := Lib.hid (Blk.new w 26 #[.slice none 0 0, .slice none 0 0, .slice none 0 0, .int .i64 0, .int .u64 0])
    have HF0 := Lib.hid ((Below.refl w.heap.size w).alloc (Nat.le_refl _) (.cells #[.slice none 0 0, .slice none 0 0, .slice none 0 0, .int .i64 0, .int .u64 0] 26))
    have HE := Lib.hid (Rb.decP_short h4)
    clear HR0
    go_enter Tryz.func13, Tryz.ntmps13
    go_wp2_with fail
    refine bodyPost_ret (v := .tuple #[.agg #[.slice none 0 0, .slice none 0 0, .slice none 0 0, .int .i64 0, .int .u64 0], .int .i64 4]) (by simp [results, Tryz.results13, go_sem]) rfl ?_
    unfold DecPost
    rw [HE.out]
    exact ⟨_, rfl, zeroLg_reads _, HF0.out⟩
  · have h4' := Lib.hid h4
    have h4i : (4 : Int) ≤ (b.length : Int) := by omega
    obtain ⟨n, hbn⟩ : ∃ n, b.length = n + 4 := ⟨b.length - 4, by omega⟩
    have hA : ∃ ad, A = some ad := by obtain ⟨ad, e, -⟩ := HR.out.2 (by omega); exact ⟨ad, e⟩
    obtain ⟨ad, rfl⟩ := hA
    have hck : c ≠ n := by omega
    have HT := Lib.hid (fun (W : World) (h : Below B w W) => (rdB_drop (k := n) (HR.out.below h) (by omega) hc hck))
    have HTk := Lib.hid (show b.take (b.length - 4) = b.take n by rw [hbn, Nat.add_sub_cancel])
    have HDr := Lib.hid (show b.drop (b.length - 4) = b.drop n by rw [hbn, Nat.add_sub_cancel])
    have hw1 : IntKind.i64.wrap ((b.length : Int) - 4) = (n : Int) := by rw [hbn, IntWalk.i64_in _ (by omega)]; omega
    have hmk := fun W => make_bytes W n (by omega)
    have Hbn := Lib.hid hbn
    have hnl : n ≤ b.length := by omega
    have hnc : n ≤ c := by omega
    have hn2 : n ≤ 100000000 := by omega
    have hni : (n : Int) ≤ (c : Int) := by omega
    have hni2 : (n : Int) ≤ (b.length : Int) := by omega
    obtain ⟨ah, hah⟩ : ∃ ah, ah = b.take n := ⟨_, rfl⟩
    have hal : ah.length = n := by rw [hah, List.length_take]; omega
    have HAb := Lib.hid (show Rb.Bytes ah from fun x hx => HBy.out x (List.mem_of_mem_take (hah ▸ hx)))
    have h4d : decide ((b.length : Int) < 4) = false := by simp; omega
    have HC0 := Lib.hid (show Blk ((w.alloc (.cells #[.slice none 0 0, .slice none 0 0, .slice none 0 0, .int .i64 0, .int .u64 0] 26)).alloc (.cells (madeCells #[Value.int .u8 0] n) 5)) (w.heap.size + 1) 5 (madeCells #[Value.int .u8 0] n) by
      have h := Blk.new (w.alloc (.cells #[.slice none 0 0, .slice none 0 0, .slice none 0 0, .int .i64 0, .int .u64 0] 26)) 5 (madeCells #[Value.int .u8 0] n)
      rwa [show (w.alloc (.cells #[.slice none 0 0, .slice none 0 0, .slice none 0 0, .int .i64 0, .int .u64 0] 26)).heap.size = w.heap.size + 1 by simp] at h)
    have HSrc := Lib.hid (show ∀ j v, (ah.map fun (b : Nat) => Value.int .u8 (b : Int))[j]? = some v → ((w.alloc (.cells #[.slice none 0 0, .slice none 0 0, .slice none 0 0, .int .i64 0, .int .u64 0] 26)).alloc (.cells (madeCells #[Value.int .u8 0] n) 5)).cell? (ad.add j) = some v by
      intro j v hj
      obtain ⟨ad', e, hbl, hcell⟩ := HR.out.2 (by omega)
      injection e with e
      subst e
      have hlo : (ad.add j).block < w.heap.size := by rw [block_of_add]; omega
      rw [World.cell?_alloc_lt _ _ _ (by simp; omega), World.cell?_alloc_lt _ _ _ hlo]
      refine hcell j v ?_
      rw [hah, List.map_take, List.getElem?_take] at hj
      split at hj
      · exact hj
      · cases hj)
    rw [hah.symm] at HTk
    have HHd := Lib.hid hah
    clear hbn h4 hah
    have hB' : B ≤ w.heap.size := hB
    go_enter Tryz.func13, Tryz.ntmps13
    go_wp2_with (refine wpList_copy_splice rfl (.tmp 19) (.tmp 23) 30 30 rfl 5 Tryz.underlying30 infoSize_u8 (some ⟨w.heap.size + 1, 0, none⟩) (some ad) n n n n rfl rfl (w.heap.size + 1) 0 (madeCells #[Value.int .u8 0] n).toList 5 ?g1 (ah.map fun (b : Nat) => Value.int .u8 (b : Int)) ?g2 ?g3 ?g4 ?g5 (w.heap.size + 1) (w.alloc (.cells #[.slice none 0 0, .slice none 0 0, .slice none 0 0, .int .i64 0, .int .u64 0] 26)) ?g6 (Nat.le_refl _) ?_)
    case g1 => rw [Array.toArray_toList]; exact HC0.out
    case g2 => rw [List.length_map, hal]; exact (Nat.min_self n).symm
    case g3 =>
      intro _
      first
        | exact ⟨rfl, ad, rfl, HSrc.out⟩
        | (intro j x hx; exact HSrc.out j _ (by rw [List.getElem?_map, hx]; rfl))
    case g4 => rw [List.length_map, hal, Array.length_toList, size_madeCells]; omega
    case g5 => intro u hu; obtain ⟨x, -, rfl⟩ := List.mem_map.1 hu; rfl
    case g6 => exact (Below.refl _ _).alloc (by simp) _
    intro w5 hk5 hb5
    have HB5 := Lib.hid (show Blk w5 (w.heap.size + 1) 5 (ah.map fun (b : Nat) => Value.int .u8 (b : Int)).toArray by
      have h := hk5.out
      rw [splice_all n _ (by rw [List.length_map, hal])] at h
      exact h)
    have HRes5 := Lib.hid ((Blk.new w 26 #[.slice none 0 0, .slice none 0 0, .slice none 0 0, .int .i64 0, .int .u64 0]).below hb5 (Nat.lt_succ_self _))
    have HF5 := Lib.hid (((Below.refl w.heap.size w).alloc (Nat.le_refl _) (.cells #[.slice none 0 0, .slice none 0 0, .slice none 0 0, .int .i64 0, .int .u64 0] 26)).trans (hb5.mono (Nat.le_succ _)))
    have hs5 := HB5.out.lt
    have HA5 := Lib.hid (show RdB w5 (w.heap.size + 2) (.slice (some ⟨w.heap.size + 1, 0, none⟩) n n) ah by
      have h := rdB_blk HB5.out (B := w.heap.size + 2) (by omega)
      rw [hal] at h; exact h)
    have HCk := Lib.hid (check_any _ ah (w.heap.size + 2) _ (show RdB w5.drew (w.heap.size + 2) (.slice (some ⟨w.heap.size + 1, 0, none⟩) n n) ah from HA5.out) HAb.out (by omega))
    have HEq := Lib.hid (fun (u : Value) (W : World) (B' : Nat) h1 (h2 : Below B w W) => equal_any u _ (Rb.lows (Rb.fnv ah) 4) (b.drop n) B' B W h1 (HT.out W h2) (Rb.lows_byte 4 _) (fun x hx => HBy.out x (List.mem_of_mem_drop hx)))
    obtain ⟨q, hq⟩ : ∃ q, decide (Rb.lows (Rb.fnv ah) 4 = b.drop n) = q := ⟨_, rfl⟩
    rw [hq] at HEq
    have Hq := Lib.hid hq
    clear hk5 hb5 hmk HSrc HC0 hq
    have hz5 : w.heap.size ≤ w5.heap.size := by omega
    go_wp2_with fail
    go_region_held3 (fun _ => True) (exact True.intro)
      (first
        | (go_at_call 27
           refine (HEq.out _ _ _ (rdB_of_own ho6) ((HF5.out.trans (hb6.mono hz5)).mono hB)).mono ?_
           rintro e w7 ⟨rfl, rfl⟩)
        | (go_at_call 21
           refine HCk.out.mono ?_
           rintro e w6 ⟨v6, rfl, ho6, hb6'⟩
           have hb6 : Below w5.heap.size w5 w6 := (Below.refl _ _).drew.trans hb6'))
    have HRes7 := Lib.hid (HRes5.out.below hb6 (by omega))
    have HF7 := Lib.hid (HF5.out.trans (hb6.mono hz5))
    have HA7 := Lib.hid (HA5.out.below (hb6.mono (by omega)))
    have hs7 : w.heap.size + 1 < w7.heap.size := Nat.lt_of_lt_of_le hs5 hb6.size
    clear hb6 hb6' ho6 HCk
    cases q
    case false =>
      have hsum : ¬ Rb.lows (Rb.fnv ah) 4 = b.drop n := of_decide_eq_false Hq.out
      have HE0 := Lib.hid (Rb.decP_sum h4'.out (by rw [HTk.out, HDr.out]; exact hsum))
      clear hsum
      go_upto_region 7 with fail
      have hE := HE0.out
      obtain ⟨⟨l0, l1, l2, l3, l4⟩, ⟨m0, m1, m2, m3, m4⟩, ⟨n1, n2, n3, n4⟩, hBz, hgz⟩ := log_same HRes7.out
      have HBz := Lib.hid hBz
      have HFz := Lib.hid (HF7.out.grown hgz (Nat.le_trans HF7.out.size (Nat.le_refl _)) (fun k e => by cases e; exact Nat.le_refl _))
      have HE := Lib.hid hE
      clear hBz hgz hE
      go_wp2_with fail
      have k0 := HBz.out.cell 0
      have k1 := HBz.out.cell 1
      have k2 := HBz.out.cell 2
      have k3 := HBz.out.cell 3
      have k4 := HBz.out.cell 4
      simp at k0 k1 k2 k3 k4
      refine bodyPost_ret (v := .tuple #[.agg #[.slice none 0 0, .slice none 0 0, .slice none 0 0, .int .i64 0, .int .u64 0], .int .i64 10]) (by simp [results, Tryz.results13, go_sem, k0, k1, k2, k3, k4]) rfl ?_
      unfold DecPost
      rw [HE.out]
      exact ⟨_, rfl, zeroLg_reads _, HFz.out⟩
    have hsum : Rb.lows (Rb.fnv ah) 4 = b.drop n := of_decide_eq_true Hq.out
    have HSum := Lib.hid (show Rb.lows (Rb.fnv (b.take (b.length - 4))) 4 = b.drop (b.length - 4) by rw [HTk.out, HDr.out]; exact hsum)
    clear hsum
    have HHB := Lib.hid (show RdB (w7.alloc (.cells #[.int .u8 83, .int .u8 76, .int .u8 79, .int .u8 71, .int .u8 1] 5)) (w7.heap.size + 1) (.slice (some ⟨w7.heap.size, 0, none⟩) 5 5) Rb.head from
      rdB_blk (l := Rb.head) (Blk.new w7 5 #[.int .u8 83, .int .u8 76, .int .u8 79, .int .u8 71, .int .u8 1]) (Nat.lt_succ_self _))
    have HBa := Lib.hid ((Below.refl w7.heap.size w7).alloc (Nat.le_refl _) (.cells #[.int .u8 83, .int .u8 76, .int .u8 79, .int .u8 71, .int .u8 1] 5))
    have HPre := Lib.hid (hasPrefix_any _ _ ah Rb.head (w.heap.size + 2) (w7.heap.size + 1) _ (HA7.out.below (HBa.out.mono (by omega))) HHB.out HAb.out Rb.head_bytes)
    have hhl : Rb.head.length = 5 := rfl
    rw [hhl] at HPre
    obtain ⟨q, hq⟩ : ∃ q, decide (ah.take 5 = Rb.head) = q := ⟨_, rfl⟩
    rw [hq] at HPre
    have Hq2 := Lib.hid hq
    clear hq
    go_wp2_with fail
    refine HPre.out.mono ?_
    rintro e w8 ⟨rfl, rfl⟩
    have HRes8 := Lib.hid (HRes7.out.below HBa.out (by omega))
    have HF8 := Lib.hid (HF7.out.trans (HBa.out.mono (by omega)))
    have HA8 := Lib.hid (HA7.out.below (HBa.out.mono (by omega)))
    have hs8 : w.heap.size + 1 < (w7.alloc (.cells #[.int .u8 83, .int .u8 76, .int .u8 79, .int .u8 71, .int .u8 1] 5)).heap.size := Nat.lt_of_lt_of_le hs7 HBa.out.size
    clear HPre HHB hhl
    cases q
    case false =>
      have hhd : ¬ ah.take 5 = Rb.head := of_decide_eq_false Hq2.out
      have HE0 := Lib.hid (Rb.decP_head h4'.out HSum.out (by rw [HTk.out]; exact hhd))
      clear hhd
      go_upto_region 9 with fail
      have hE := HE0.out
      obtain ⟨⟨l0, l1, l2, l3, l4⟩, ⟨m0, m1, m2, m3, m4⟩, ⟨n1, n2, n3, n4⟩, hBz, hgz⟩ := log_same HRes8.out
      have HBz := Lib.hid hBz
      have HFz := Lib.hid (HF8.out.grown hgz (Nat.le_trans HF8.out.size (Nat.le_refl _)) (fun k e => by cases e; exact Nat.le_refl _))
      have HE := Lib.hid hE
      clear hBz hgz hE
      go_wp2_with fail
      have k0 := HBz.out.cell 0
      have k1 := HBz.out.cell 1
      have k2 := HBz.out.cell 2
      have k3 := HBz.out.cell 3
      have k4 := HBz.out.cell 4
      simp at k0 k1 k2 k3 k4
      refine bodyPost_ret (v := .tuple #[.agg #[.slice none 0 0, .slice none 0 0, .slice none 0 0, .int .i64 0, .int .u64 0], .int .i64 4]) (by simp [results, Tryz.results13, go_sem, k0, k1, k2, k3, k4]) rfl ?_
      unfold DecPost
      rw [HE.out]
      exact ⟨_, rfl, zeroLg_reads _, HFz.out⟩
    have hhd : ah.take 5 = Rb.head := of_decide_eq_true Hq2.out
    have hn5 : 5 ≤ n := by
      have := congrArg List.length hhd
      rw [List.length_take, show Rb.head.length = 5 from rfl] at this
      omega
    have HHd2 := Lib.hid (show (b.take (b.length - 4)).take 5 = Rb.head by rw [HTk.out]; exact hhd)
    clear hhd HBa
    generalize hW : w7.alloc (.cells #[.int .u8 83, .int .u8 76, .int .u8 79, .int .u8 71, .int .u8 1] 5) = w8 at *
    clear hW
    go_upto_region 10 with fail
    go_cut [6] (fun s6 wx => ∃ g : Nat, s6 = .pointer (some ⟨g, 0, none⟩) ∧ Hid (Rdr 66 wx g (w.heap.size + 2) (ah.drop 5) false) ∧ w.heap.size + 2 ≤ g ∧ Hid (Below w.heap.size w wx) ∧ Hid (Blk wx w.heap.size 26 #[.slice none 0 0, .slice none 0 0, .slice none 0 0, .int .i64 0, .int .u64 0]))
    case first =>
      obtain ⟨A1, c1, hv1, hc1, hr1⟩ := HA8.out
      injection hv1 with i1 i2 i3
      subst i1
      have Hi := Lib.hid (And.intro i2 i3)
      have Hr1 := Lib.hid hr1
      clear hc1 hr1 i2 i3
      have hni5 : (5 : Int) ≤ (n : Int) := by omega
      have hcut := (Hr1.out.cut (k := 5) (cap := n) (by omega) (by omega))
      have hd5 : (ah.map fun (b : Nat) => Value.int .u8 (b : Int)).drop (5 * 1) = (ah.drop 5).map fun (b : Nat) => Value.int .u8 (b : Int) := by simp [List.map_drop]
      rw [hd5] at hcut
      have hdl : (ah.drop 5).length = n - 5 := by rw [List.length_drop, hal]
      have hle5 : ah.length - 5 = n - 5 := by rw [hal]
      have hRl := HRes8.out.lt
      have HRn := Lib.hid (fun (A' : Option Addr) (h : Reads w8 (w.heap.size + 2) 1 A' (n - 5) ((ah.drop 5).map fun (b : Nat) => Value.int .u8 (b : Int))) => (show Rdr 66 (w8.alloc (.cells #[.slice A' (n - 5) (n - 5), .bool false] 66)) w8.heap.size (w.heap.size + 2) (ah.drop 5) false from
        ⟨A', n - 5, by rw [hdl]; exact Blk.new w8 66 #[.slice A' (n - 5) (n - 5), .bool false], by omega, by rw [hdl]; exact h.alloc (by omega) _⟩))
      have HFn := Lib.hid (fun (o : Obj) => HF8.out.alloc (by omega : w.heap.size ≤ w8.heap.size) o)
      have HBn := Lib.hid (fun (o : Obj) => HRes8.out.alloc o)
      rw [hle5] at hcut
      have Hcut := Lib.hid hcut
      clear hcut hd5 hle5 hdl Hr1
      by_cases h5 : n = 5
      · have hz : n - 5 = 0 := by omega
        have HC2 := Hcut.out
        rw [if_pos h5] at HC2
        have HR2 := Lib.hid (HRn.out _ HC2)
        have H5 := Lib.hid h5
        clear HC2 Hcut HRn h5
        rw [hz] at HR2
        have hn0 : n ≤ 5 := by omega
        go_wp2_with fail
        go_meet
        exact ⟨w8.heap.size, rfl, HR2, by omega, Lib.hid (HFn.out _), Lib.hid (HBn.out _)⟩
      · have HC2 := Hcut.out
        rw [if_neg h5] at HC2
        have HR2 := Lib.hid (HRn.out _ HC2)
        clear HC2 Hcut HRn
        go_wp2_with fail
        go_meet
        exact ⟨w8.heap.size, rfl, HR2, by omega, Lib.hid (HFn.out _), Lib.hid (HBn.out _)⟩
    case rest =>
      obtain ⟨g, rfl, hR, hg, hF, hB⟩ := hcut
      have Hd5 := Lib.hid (show Rb.Bytes (ah.drop 5) from fun x hx => HAb.out x (List.mem_of_mem_drop hx))
      have HLog := Lib.hid (log_any g (w.heap.size + 2) (ah.drop 5) wc hR.out hg Hd5.out (by rw [List.length_drop]; omega))
      have HFit := Lib.hid (Rb.logF_fit Hd5.out)
      have HTk5 := Lib.hid (show (b.take (b.length - 4)).drop 5 = ah.drop 5 by rw [HTk.out])
      have HBad := Lib.hid (Rb.decP_bad h4'.out HSum.out HHd2.out)
      have HRe := Lib.hid (Rb.decP_re h4'.out HSum.out HHd2.out)
      have HOk := Lib.hid (Rb.decP_ok h4'.out HSum.out HHd2.out)
      rw [HTk5.out] at HBad HRe HOk
      have hglt := hR.out.lt
      generalize Rb.logF (ah.drop 5) = x at *
      obtain ⟨lg, bd⟩ := x
      simp only at *
      clear HEq HT HV hw1 h4d
      go_wp2_with fail
      refine HLog.out.mono ?_
      rintro e w9 ⟨v9, l9, s9, rfl, ho9, hl9, hr9, hg9⟩
      have HRes9 := Lib.hid (hB.out.grown hg9 (by simp; omega))
      have HF9 := Lib.hid (hF.out.grown hg9 (by omega) (fun k e => by cases e; omega))
      have HX9 := Lib.hid (show RdB w9 B (.slice (some ad) b.length c) b from ⟨_, _, rfl, hc, HR.out.below (HF9.out.mono hB')⟩)
      have hw9 := hg9.size
      have HoL := Lib.hid ho9
      obtain ⟨pv, iv, cv, rfl, hop, hoi, hoc, -, -⟩ := ho9
      obtain ⟨Ap, cp, rfl, -, -, -⟩ := own_form hop
      obtain ⟨Ai, ci, rfl, -, -, -⟩ := own_form hoi
      obtain ⟨Ac, cc, rfl, -, -, -⟩ := own_form hoc
      have HA10 : w9.grownBy (w9.alloc (.cells #[.slice Ap l9.picks.length cp, .slice Ai l9.inputs.length ci, .slice Ac l9.clocks.length cc, .int .i64 l9.steps, .int .u64 (l9.sum : Int)] 26)) none := World.grownBy_alloc _ _ _
      have HRes10 := Lib.hid (HRes9.out.grown HA10 (by simp))
      have HF10 := Lib.hid (HF9.out.grown HA10 (by omega) (fun k e => by cases e))
      have HoL10 := Lib.hid (HoL.out.kept HA10 (fun k e => by cases e))
      have hr10 := hr9.grown hg HA10 (fun k e => by cases e)
      have hB9 := hg9
      have HBlkL := Lib.hid (Blk.new w9 26 #[.slice Ap l9.picks.length cp, .slice Ai l9.inputs.length ci, .slice Ac l9.clocks.length cc, .int .i64 l9.steps, .int .u64 (l9.sum : Int)])
      obtain ⟨A10, c10, hbk10, -, -⟩ := hr10
      have hbad10 : (w9.alloc (.cells #[.slice Ap l9.picks.length cp, .slice Ai l9.inputs.length ci, .slice Ac l9.clocks.length cc, .int .i64 l9.steps, .int .u64 (l9.sum : Int)] 26)).cell? ⟨g, 1, none⟩ = some (.bool bd) := hbk10.cell 1
      have Hl9 := Lib.hid hl9
      clear hl9 hr9 hg9 hop hoi hoc HA10 hB9 hbk10
      go_upto_region 12 with fail
      generalize hW : w9.alloc (.cells #[.slice Ap l9.picks.length cp, .slice Ai l9.inputs.length ci, .slice Ac l9.clocks.length cc, .int .i64 l9.steps, .int .u64 (l9.sum : Int)] 26) = w10 at HRes10 HF10 HoL10 HBlkL hbad10 ⊢
      have hw10 : w9.heap.size < w10.heap.size := HBlkL.out.lt
      have HX10 := Lib.hid (show RdB w10 B (.slice (some ad) b.length c) b from ⟨_, _, rfl, hc, HR.out.below (HF10.out.mono hB')⟩)
      clear hW
      cases bd
      case true =>
        have HE0 := Lib.hid (HBad.out rfl)
        go_upto_region 13 with fail
        have hE := HE0.out
        obtain ⟨⟨l0, l1, l2, l3, l4⟩, ⟨m0, m1, m2, m3, m4⟩, ⟨n1, n2, n3, n4⟩, hBz, hgz⟩ := log_same HRes10.out
        have HBz := Lib.hid hBz
        have HFz := Lib.hid (HF10.out.grown hgz (Nat.le_trans HF10.out.size (Nat.le_refl _)) (fun k e => by cases e; exact Nat.le_refl _))
        have HE := Lib.hid hE
        clear hBz hgz hE
        go_wp2_with fail
        have k0 := HBz.out.cell 0
        have k1 := HBz.out.cell 1
        have k2 := HBz.out.cell 2
        have k3 := HBz.out.cell 3
        have k4 := HBz.out.cell 4
        simp at k0 k1 k2 k3 k4
        refine bodyPost_ret (v := .tuple #[.agg #[.slice none 0 0, .slice none 0 0, .slice none 0 0, .int .i64 0, .int .u64 0], .int .i64 4]) (by simp [results, Tryz.results13, go_sem, k0, k1, k2, k3, k4]) rfl ?_
        unfold DecPost
        rw [HE.out]
        exact ⟨_, rfl, zeroLg_reads _, HFz.out⟩
      have Heq := Lib.hid (Hl9.out rfl)
      have HRe' := Lib.hid (HRe.out rfl)
      have HOk' := Lib.hid (HOk.out rfl)
      have HFit' := Lib.hid (HFit.out rfl)
      rw [← Heq.out] at HRe' HOk' HFit'
      have y0 : w10.cell? ⟨w9.heap.size, 0, none⟩ = some (.slice Ap l9.picks.length cp) := HBlkL.out.cell 0
      have y1 : w10.cell? ⟨w9.heap.size, 1, none⟩ = some (.slice Ai l9.inputs.length ci) := HBlkL.out.cell 1
      have y2 : w10.cell? ⟨w9.heap.size, 2, none⟩ = some (.slice Ac l9.clocks.length cc) := HBlkL.out.cell 2
      have y3 : w10.cell? ⟨w9.heap.size, 3, none⟩ = some (.int .i64 l9.steps) := HBlkL.out.cell 3
      have y4 : w10.cell? ⟨w9.heap.size, 4, none⟩ = some (.int .u64 (l9.sum : Int)) := HBlkL.out.cell 4
      by_cases hsh : Rb.shape l9 = 0
      case neg =>
        have HEb := Lib.hid (encode_bad _ l9 w10.heap.size w10 HoL10.out.reads (Nat.le_refl _) hsh)
        have hs1 : (Rb.shape l9 != 0) = true := by simpa using hsh
        have HE0 := Lib.hid (HRe'.out (.inl hsh))
        clear hsh
        generalize Rb.shape l9 = sh at *
        go_wp2_with fail
        refine HEb.out.mono ?_
        rintro e w11 ⟨rfl, hb11⟩
        have HRes11 := Lib.hid (HRes10.out.below hb11 HRes10.out.lt)
        have HF11 := Lib.hid (HF10.out.trans (hb11.mono (by have := HF10.out.size; omega)))
        clear hb11 HEb y0 y1 y2 y3 y4
        go_upto_region 16 with fail
        have hE := HE0.out
        obtain ⟨⟨l0, l1, l2, l3, l4⟩, ⟨m0, m1, m2, m3, m4⟩, ⟨n1, n2, n3, n4⟩, hBz, hgz⟩ := log_same HRes11.out
        have HBz := Lib.hid hBz
        have HFz := Lib.hid (HF11.out.grown hgz (Nat.le_trans HF11.out.size (Nat.le_refl _)) (fun k e => by cases e; exact Nat.le_refl _))
        have HE := Lib.hid hE
        clear hBz hgz hE
        go_wp2_with fail
        have k0 := HBz.out.cell 0
        have k1 := HBz.out.cell 1
        have k2 := HBz.out.cell 2
        have k3 := HBz.out.cell 3
        have k4 := HBz.out.cell 4
        simp at k0 k1 k2 k3 k4
        refine bodyPost_ret (v := .tuple #[.agg #[.slice none 0 0, .slice none 0 0, .slice none 0 0, .int .i64 0, .int .u64 0], .int .i64 4]) (by simp [results, Tryz.results13, go_sem, k0, k1, k2, k3, k4]) rfl ?_
        unfold DecPost
        rw [HE.out]
        exact ⟨_, rfl, zeroLg_reads _, HFz.out⟩
      have HEn := Lib.hid (encode_any _ l9 w10.heap.size w10 HoL10.out.reads (Nat.le_refl _) (HFit'.out hsh))
      have Hsh := Lib.hid hsh
      clear hsh
      go_wp2_with fail
      refine HEn.out.mono ?_
      rintro e w11 ⟨v11, rfl, ho11, hb11⟩
      have HRes11 := Lib.hid (HRes10.out.below hb11 HRes10.out.lt)
      have HF11 := Lib.hid (HF10.out.trans (hb11.mono (by have := HF10.out.size; omega)))
      have HEq2 := Lib.hid (equal_any v11 _ (Rb.enc l9) b w11.heap.size B w11 (rdB_of_own ho11) (HX10.out.below (hb11.mono (by have := HF10.out.size; omega))) (Rb.enc_bytes l9) HBy.out)
      obtain ⟨q, hq⟩ : ∃ q, decide (Rb.enc l9 = b) = q := ⟨_, rfl⟩
      rw [hq] at HEq2
      have Hq3 := Lib.hid hq
      have HBl11 := Lib.hid (HBlkL.out.below hb11 hw10)
      have HoL11 := Lib.hid (HoL10.out.kept (row := none) ⟨hb11.os, hb11.tape, hb11.output, hb11.size, fun i hi _ => hb11.block i hi⟩ (fun k e => by cases e))
      clear hq HEn y0 y1 y2 y3 y4 ho11 hb11
      go_wp2_with fail
      refine HEq2.out.mono ?_
      rintro e w12 ⟨rfl, rfl⟩
      clear HEq2
      cases q
      case false =>
        have HE0 := Lib.hid (HRe'.out (.inr (of_decide_eq_false Hq3.out)))
        go_upto_region 16 with fail
        have hE := HE0.out
        obtain ⟨⟨l0, l1, l2, l3, l4⟩, ⟨m0, m1, m2, m3, m4⟩, ⟨n1, n2, n3, n4⟩, hBz, hgz⟩ := log_same HRes11.out
        have HBz := Lib.hid hBz
        have HFz := Lib.hid (HF11.out.grown hgz (Nat.le_trans HF11.out.size (Nat.le_refl _)) (fun k e => by cases e; exact Nat.le_refl _))
        have HE := Lib.hid hE
        clear hBz hgz hE
        go_wp2_with fail
        have k0 := HBz.out.cell 0
        have k1 := HBz.out.cell 1
        have k2 := HBz.out.cell 2
        have k3 := HBz.out.cell 3
        have k4 := HBz.out.cell 4
        simp at k0 k1 k2 k3 k4
        refine bodyPost_ret (v := .tuple #[.agg #[.slice none 0 0, .slice none 0 0, .slice none 0 0, .int .i64 0, .int .u64 0], .int .i64 4]) (by simp [results, Tryz.results13, go_sem, k0, k1, k2, k3, k4]) rfl ?_
        unfold DecPost
        rw [HE.out]
        exact ⟨_, rfl, zeroLg_reads _, HFz.out⟩
      have HE0 := Lib.hid (HOk'.out (by rintro (h | h); exact h Hsh.out; exact h (of_decide_eq_true Hq3.out)))
      go_upto_region 17 with fail
      have y0 : w12.cell? ⟨w9.heap.size, 0, none⟩ = some (.slice Ap l9.picks.length cp) := HBl11.out.cell 0
      have y1 : w12.cell? ⟨w9.heap.size, 1, none⟩ = some (.slice Ai l9.inputs.length ci) := HBl11.out.cell 1
      have y2 : w12.cell? ⟨w9.heap.size, 2, none⟩ = some (.slice Ac l9.clocks.length cc) := HBl11.out.cell 2
      have y3 : w12.cell? ⟨w9.heap.size, 3, none⟩ = some (.int .i64 l9.steps) := HBl11.out.cell 3
      have y4 : w12.cell? ⟨w9.heap.size, 4, none⟩ = some (.int .u64 (l9.sum : Int)) := HBl11.out.cell 4
      obtain ⟨⟨l0, l1, l2, l3, l4⟩, ⟨m0, m1, m2, m3, m4⟩, hBz, hgz⟩ := log_set (.slice Ap l9.picks.length cp) (.slice Ai l9.inputs.length ci) (.slice Ac l9.clocks.length cc) (.int .i64 l9.steps) (.int .u64 (l9.sum : Int)) HRes11.out
      have HBz := Lib.hid hBz
      have HFz := Lib.hid (HF11.out.grown hgz (Nat.le_trans HF11.out.size (Nat.le_refl _)) (fun k e => by cases e; exact Nat.le_refl _))
      have HoLz := Lib.hid (HoL11.out.kept hgz (fun k e => by cases e; have := hF.out.size; omega))
      clear hBz hgz
      go_wp2_with fail
      have k0 := HBz.out.cell 0
      have k1 := HBz.out.cell 1
      have k2 := HBz.out.cell 2
      have k3 := HBz.out.cell 3
      have k4 := HBz.out.cell 4
      simp at k0 k1 k2 k3 k4
      refine bodyPost_ret (v := .tuple #[.agg #[.slice Ap l9.picks.length cp, .slice Ai l9.inputs.length ci, .slice Ac l9.clocks.length cc, .int .i64 l9.steps, .int .u64 (l9.sum : Int)], .int .i64 0]) (by simp [results, Tryz.results13, go_sem, k0, k1, k2, k3, k4]) rfl ?_
      unfold DecPost
      rw [HE0.out]
      exact ⟨_, rfl, HoLz.out.reads, HFz.out⟩
end Go.Proofs.YtdpoecjbofofoaaGreatDoor
namespace Go.Proofs.YtdpoecjbofofoaaGreatDoor
open Go.RowKit
namespace Rb
theorem numR_step {s : List Nat} {i acc : Nat} (h : i < s.length) (h10 : i < 10) : numRgo (s.drop i) i acc = if i = 9 ∧ 1 < s.getD i 0 % 128 then none else if s.getD i 0 < 128 then (if 0 < i ∧ s.getD i 0 % 128 = 0 then none else some ((acc + ((s.getD i 0 % 128) <<< (7 * i)) % 18446744073709551616) % 18446744073709551616, s.drop (i + 1))) else numRgo (s.drop (i + 1)) (i + 1) ((acc + ((s.getD i 0 % 128) <<< (7 * i)) % 18446744073709551616) % 18446744073709551616) := by
  rw [List.drop_eq_getElem_cons h, List.getD_eq_getElem?_getD, List.getElem?_eq_getElem h]
  show (if 10 ≤ i then none else _) = _
  rw [if_neg (by omega)]
  rfl
theorem numR_stop {s : List Nat} {i acc : Nat} (h : ¬(i < s.length ∧ i < 10)) : numRgo (s.drop i) i acc = none := by
  rcases Nat.lt_or_ge i s.length with g | g
  · rw [List.drop_eq_getElem_cons g]
    show (if 10 ≤ i then none else _) = none
    rw [if_pos (by omega)]
  · rw [List.drop_eq_nil_of_le g]; rfl
end Rb
set_option maxRecDepth 20000 in
set_option maxHeartbeats 1600000 in
theorem taker_any (g B : Nat) (s : List Nat) (bad : Bool) (w : World) (h : Rdr 71 w g B s bad) (hB : B ≤ g) (hs : Rb.Bytes s) :
    Calls Tryz.prog 44 #[.pointer (some ⟨g, 0, none⟩)] w fun e w' => e = .returned (.int .u64 ((Rb.numG s bad).1 : Nat)) ∧ Rdr 71 w' g B (Rb.numG s bad).2.1 (Rb.numG s bad).2.2 ∧ w.grownBy w' (some g) := by
  obtain ⟨A, c, hb, hc, hr⟩ := h
  have c0 : w.cell? ⟨g, 0, none⟩ = some (.slice A s.length c) := hb.cell 0
  have c1 : w.cell? ⟨g, 1, none⟩ = some (.bool bad) := hb.cell 1
  have f0 := hb.frozen 0
  have f1 := hb.frozen 1
  have HR := Lib.hid hr
  have HS := Lib.hid hs
  have HRb := Lib.hid (Rdr.toBad (T := 71) ⟨A, c, hb, hc, hr⟩ hB)
  have HRc := Lib.hid (fun k (hk : k ≤ s.length) => Rdr.cut (k := k) hb hc hr hB hk)
  clear hr hs hb
  go_enter Tryz.func44, Tryz.ntmps44
  go_wp2
  go_loopg [3, 4] s.length (fun n a i wr => ∃ (k acc : Nat), k ≤ s.length ∧ k ≤ 10 ∧ n = s.length - k ∧ i = .int .i64 k ∧ a = .int .u64 acc ∧ Hid (acc < 18446744073709551616) ∧ Hid (Rb.numR s = Rb.numRgo (s.drop k) k acc) ∧ wr = w)
  case atStart => exact ⟨0, 0, Nat.zero_le _, by omega, rfl, rfl, rfl, Lib.hid (by decide), Lib.hid rfl, rfl⟩
  case round =>
    obtain ⟨k, acc, hk, hk10, hg, rfl, rfl, ha, hp, rfl⟩ := hrel
    have Hg := Lib.hid hg
    clear hg
    by_cases hlt : k < s.length ∧ k < 10
    · obtain ⟨h1, h2⟩ := hlt
      obtain ⟨ad, rfl, hadb, hcell⟩ := rdB_at HR.out h1
      have hbyte := Rb.bytes_at HS.out k
      have HP := Lib.hid (hp.out.trans (Rb.numR_step h1 h2))
      have hk7 : 7 * k ≤ 63 := by omega
      generalize s.getD k 0 = b at *
      obtain ⟨d, hd⟩ : ∃ d, d = b % 128 := ⟨_, rfl⟩
      obtain ⟨m, hm⟩ : ∃ m, m = (d <<< (7 * k)) % 18446744073709551616 := ⟨_, rfl⟩
      obtain ⟨acc', ha'⟩ : ∃ x, x = (acc + m) % 18446744073709551616 := ⟨_, rfl⟩
      rw [← hd, ← hm, ← ha'] at HP
      have hd127 : d ≤ 127 := by omega
      have e1 : (b : Int) % 128 = (d : Int) := by omega
      have e2 : IntKind.u64.wrap (d : Int) = (d : Int) := by rw [IntKind.wrap_u64]; omega
      have e3 : IntKind.u64.wrap ((d : Int) * 2 ^ (7 * k)) = (m : Int) := by
        rw [hm, Nat.shiftLeft_eq, IntKind.wrap_u64, Int.natCast_emod, Int.natCast_mul, Int.natCast_pow]; rfl
      have e4 : IntKind.u64.wrap ((acc : Int) + (m : Int)) = (acc' : Int) := by rw [ha', IntKind.wrap_u64]; omega
      have HA := Lib.hid (show acc' < 18446744073709551616 by omega)
      clear hd hm ha' hp
      by_cases x9 : k = 9 ∧ 1 < d
      · have HF := Lib.hid (show Rb.numG s bad = (0, s, true) by unfold Rb.numG; rw [HP.out.trans (if_pos x9)])
        obtain ⟨y1, y2⟩ := x9
        have z1 : ((k : Int) == 9) = true := by simp; omega
        have z2 : decide ((d : Int) > 1) = true := by simp; omega
        clear y1
        go_wp2
        go_ret
        rw [HF.out]
        exact ⟨rfl, HRb.out, grown_setCell _ _ _⟩
      · have HP2 := Lib.hid (HP.out.trans (if_neg x9))
        clear HP
        by_cases hk9 : k = 9
        · have z1 : ((k : Int) == 9) = true := by simp; omega
          have z2 : decide ((d : Int) > 1) = false := by simp; omega
          have hk9b : k ≤ 9 := by omega
          by_cases hb128 : b < 128
          · have HP3 := Lib.hid (HP2.out.trans (if_pos hb128))
            clear HP2
            by_cases x0 : 0 < k ∧ d = 0
            · have HF := Lib.hid (show Rb.numG s bad = (0, s, true) by unfold Rb.numG; rw [HP3.out.trans (if_pos x0)])
              obtain ⟨y1, y2⟩ := x0
              have z3 : ((d : Int) == 0) = true := by simp; omega
              have z4 : decide ((k : Int) > 0) = true := by simp; omega
              clear y2 x9 hk9
              go_wp2
              all_goals
                go_ret
                rw [HF.out]
                exact ⟨rfl, HRb.out, grown_setCell _ _ _⟩
            · have HF := Lib.hid (show Rb.numG s bad = (acc', s.drop (k + 1), bad) by unfold Rb.numG; rw [HP3.out.trans (if_neg x0)])
              have z4 : decide ((k : Int) > 0) = true := by simp; omega
              have z3 : ((d : Int) == 0) = false := by simp; omega
              clear x0 x9 hk9 HP3
              by_cases hcap : c = k + 1
              · subst hcap
                go_wp2
                all_goals
                  go_ret
                  rw [HF.out]
                  have h3 := HRc.out (k + 1) (by omega)
                  rw [if_pos rfl, show s.length - (k + 1) = 0 by omega] at h3
                  exact ⟨rfl, by simpa using h3, grown_setCell _ _ _⟩
              · go_wp2
                all_goals
                  go_ret
                  rw [HF.out]
                  have h3 := HRc.out (k + 1) (by omega)
                  rw [if_neg hcap] at h3
                  exact ⟨rfl, h3, grown_setCell _ _ _⟩
          · have HN := Lib.hid (HP2.out.trans (if_neg hb128))
            clear HP2 x9 hk9
            go_wp2
            go_roundg (s.length - (k + 1))
            case rel => exact ⟨k + 1, acc', h1, by omega, rfl, by go_num, rfl, HA, HN, rfl⟩
            case measure => rw [Hg.out]; omega
        · have z1 : ((k : Int) == 9) = false := by simp; omega
          have hk9b : k ≤ 9 := by omega
          by_cases hb128 : b < 128
          · have HP3 := Lib.hid (HP2.out.trans (if_pos hb128))
            clear HP2
            by_cases x0 : 0 < k ∧ d = 0
            · have HF := Lib.hid (show Rb.numG s bad = (0, s, true) by unfold Rb.numG; rw [HP3.out.trans (if_pos x0)])
              obtain ⟨y1, y2⟩ := x0
              have z3 : ((d : Int) == 0) = true := by simp; omega
              have z4 : decide ((k : Int) > 0) = true := by simp; omega
              clear y2 x9 hk9
              go_wp2
              all_goals
                go_ret
                rw [HF.out]
                exact ⟨rfl, HRb.out, grown_setCell _ _ _⟩
            · have HF := Lib.hid (show Rb.numG s bad = (acc', s.drop (k + 1), bad) by unfold Rb.numG; rw [HP3.out.trans (if_neg x0)])
              by_cases hk0 : 0 < k
              · have z4 : decide ((k : Int) > 0) = true := by simp; omega
                have z3 : ((d : Int) == 0) = false := by simp; omega
                clear x0 x9 hk9 HP3
                by_cases hcap : c = k + 1
                · subst hcap
                  go_wp2
                  all_goals
                    go_ret
                    rw [HF.out]
                    have h3 := HRc.out (k + 1) (by omega)
                    rw [if_pos rfl, show s.length - (k + 1) = 0 by omega] at h3
                    exact ⟨rfl, by simpa using h3, grown_setCell _ _ _⟩
                · go_wp2
                  all_goals
                    go_ret
                    rw [HF.out]
                    have h3 := HRc.out (k + 1) (by omega)
                    rw [if_neg hcap] at h3
                    exact ⟨rfl, h3, grown_setCell _ _ _⟩
              · have z4 : decide ((k : Int) > 0) = false := by simp; omega
                clear x0 x9 hk9 HP3
                by_cases hcap : c = k + 1
                · subst hcap
                  go_wp2
                  all_goals
                    go_ret
                    rw [HF.out]
                    have h3 := HRc.out (k + 1) (by omega)
                    rw [if_pos rfl, show s.length - (k + 1) = 0 by omega] at h3
                    exact ⟨rfl, by simpa using h3, grown_setCell _ _ _⟩
                · go_wp2
                  all_goals
                    go_ret
                    rw [HF.out]
                    have h3 := HRc.out (k + 1) (by omega)
                    rw [if_neg hcap] at h3
                    exact ⟨rfl, h3, grown_setCell _ _ _⟩
          · have HN := Lib.hid (HP2.out.trans (if_neg hb128))
            clear HP2 x9 hk9
            go_wp2
            go_roundg (s.length - (k + 1))
            case rel => exact ⟨k + 1, acc', h1, by omega, rfl, by go_num, rfl, HA, HN, rfl⟩
            case measure => rw [Hg.out]; omega
    · have HF := Lib.hid (show Rb.numG s bad = (0, s, true) by unfold Rb.numG; rw [hp.out.trans (Rb.numR_stop hlt)])
      rcases Nat.lt_or_ge k s.length with h1 | h1
      · have h2 : ¬ k < 10 := by omega
        clear hlt
        go_wp2
        go_ret
        rw [HF.out]
        exact ⟨rfl, HRb.out, grown_setCell _ _ _⟩
      · by_cases h2 : k < 10
        · clear hlt
          go_wp2
          go_ret
          rw [HF.out]
          exact ⟨rfl, HRb.out, grown_setCell _ _ _⟩
        · clear hlt
          go_wp2
          go_ret
          rw [HF.out]
          exact ⟨rfl, HRb.out, grown_setCell _ _ _⟩
end Go.Proofs.YtdpoecjbofofoaaGreatDoor
namespace Go.Proofs.YtdpoecjbofofoaaGreatDoor
open Go.RowKit
namespace Rb
theorem numRgo_le : ∀ (s : List Nat) (i acc : Nat) {v : Nat} {r : List Nat}, numRgo s i acc = some (v, r) → r.length ≤ s.length
  | [], _, _, _, _, h => by cases h
  | b :: s, i, acc, v, r, h => by
    unfold numRgo at h
    split at h
    · cases h
    · split at h
      · cases h
      · split at h
        · split at h
          · cases h
          · cases h; simp
        · have := numRgo_le s _ _ h; simp only [List.length_cons]; omega
theorem numG_le (s : List Nat) (bad : Bool) : (numG s bad).2.1.length ≤ s.length := by
  unfold numG
  cases h : numR s with
  | none => exact Nat.le_refl _
  | some x => obtain ⟨v, r⟩ := x; exact numRgo_le s 0 0 h
theorem numRgo_lt : ∀ (s : List Nat) (i acc : Nat) {v : Nat} {r : List Nat}, Bytes s → numRgo s i acc = some (v, r) → v < 18446744073709551616 ∧ Bytes r
  | [], _, _, _, _, _, h => by cases h
  | b :: s, i, acc, v, r, hs, h => by
    unfold numRgo at h
    split at h
    · cases h
    · split at h
      · cases h
      · split at h
        · split at h
          · cases h
          · cases h; exact ⟨Nat.mod_lt _ (by decide), fun x hx => hs x (List.mem_cons_of_mem _ hx)⟩
        · exact numRgo_lt s _ _ (fun x hx => hs x (List.mem_cons_of_mem _ hx)) h
theorem numG_fit {s : List Nat} (b : Bool) (hs : Bytes s) : (numG s b).1 < 18446744073709551616 ∧ Bytes (numG s b).2.1 := by
  unfold numG
  cases h : numR s with
  | none => exact ⟨by show 0 < _; omega, hs⟩
  | some x => obtain ⟨v, r⟩ := x; exact numRgo_lt s 0 0 hs h
end Rb
set_option maxRecDepth 20000 in
set_option maxHeartbeats 1600000 in
theorem count_any (g B : Nat) (s : List Nat) (bad : Bool) (w : World) (h : Rdr 71 w g B s bad) (hB : B ≤ g) (hs : Rb.Bytes s) (hl : s.length ≤ 1000000000000) :
    Calls Tryz.prog 32 #[.pointer (some ⟨g, 0, none⟩)] w fun e w' => e = .returned (.int .i64 ((Rb.countG s bad).1 : Nat)) ∧ Rdr 71 w' g B (Rb.countG s bad).2.1 (Rb.countG s bad).2.2 ∧ w.grownBy w' (some g) := by
  have HNum := Lib.hid (taker_any g B s bad w h hB hs)
  have hn := (Rb.numG_fit bad hs).1
  have hle := Rb.numG_le s bad
  unfold Rb.countG
  generalize Rb.numG s bad = x at *
  obtain ⟨n, s1, b1⟩ := x
  simp only at *
  clear h hs
  have hl1 : s1.length ≤ 1000000000000 := by omega
  by_cases ht : s1.length < n
  · rw [if_pos ht]
    go_enter Tryz.func32, Tryz.ntmps32
    go_wp2_with fail
    refine HNum.out.mono ?_
    rintro e w1 ⟨rfl, hr1, hg1⟩
    have HG := Lib.hid hg1
    have HRb := Lib.hid (hr1.toBad hB)
    obtain ⟨A, c, hb, -, -⟩ := hr1
    have c0 : w1.cell? ⟨g, 0, none⟩ = some (.slice A s1.length c) := hb.cell 0
    have c1 : w1.cell? ⟨g, 1, none⟩ = some (.bool b1) := hb.cell 1
    have f1 := hb.frozen 1
    have e1 : IntKind.u64.wrap (s1.length : Int) = (s1.length : Int) := by rw [IntKind.wrap_u64]; omega
    clear hb hg1 HNum
    go_wp2
    go_ret
    exact ⟨rfl, HRb.out, HG.out.trans (grown_setCell _ _ _)⟩
  · rw [if_neg ht]
    have e2 : IntKind.i64.wrap (n : Int) = (n : Int) := by rw [IntKind.wrap_i64]; omega
    go_enter Tryz.func32, Tryz.ntmps32
    go_wp2_with fail
    refine HNum.out.mono ?_
    rintro e w1 ⟨rfl, hr1, hg1⟩
    have HG := Lib.hid hg1
    have HR := Lib.hid hr1
    obtain ⟨A, c, hb, -, -⟩ := hr1
    have c0 : w1.cell? ⟨g, 0, none⟩ = some (.slice A s1.length c) := hb.cell 0
    have e1 : IntKind.u64.wrap (s1.length : Int) = (s1.length : Int) := by rw [IntKind.wrap_u64]; omega
    clear hb hg1 HNum
    go_wp2
    go_ret
    exact ⟨rfl, HR.out, HG.out⟩
set_option maxRecDepth 20000 in
set_option maxHeartbeats 1600000 in
theorem bounded_any (g B : Nat) (s : List Nat) (bad : Bool) (w : World) (h : Rdr 71 w g B s bad) (hB : B ≤ g) (hs : Rb.Bytes s) (hl : s.length ≤ 1000000000000) :
    Calls Tryz.prog 31 #[.pointer (some ⟨g, 0, none⟩)] w fun e w' => e = .returned (.int .i64 ((Rb.boundG s bad).1 : Nat)) ∧ Rdr 71 w' g B (Rb.boundG s bad).2.1 (Rb.boundG s bad).2.2 ∧ w.grownBy w' (some g) := by
  have HNum := Lib.hid (taker_any g B s bad w h hB hs)
  have hn := (Rb.numG_fit bad hs).1
  have hle := Rb.numG_le s bad
  unfold Rb.boundG
  generalize Rb.numG s bad = x at *
  obtain ⟨n, s1, b1⟩ := x
  simp only at *
  clear h hs
  have hl1 : s1.length ≤ 1000000000000 := by omega
  by_cases ht : 1073741824 < n
  · rw [if_pos ht]
    go_enter Tryz.func31, Tryz.ntmps31
    go_wp2_with fail
    refine HNum.out.mono ?_
    rintro e w1 ⟨rfl, hr1, hg1⟩
    have HG := Lib.hid hg1
    have HRb := Lib.hid (hr1.toBad hB)
    obtain ⟨A, c, hb, -, -⟩ := hr1
    have c0 : w1.cell? ⟨g, 0, none⟩ = some (.slice A s1.length c) := hb.cell 0
    have c1 : w1.cell? ⟨g, 1, none⟩ = some (.bool b1) := hb.cell 1
    have f1 := hb.frozen 1
    have e1 : IntKind.u64.wrap (s1.length : Int) = (s1.length : Int) := by rw [IntKind.wrap_u64]; omega
    clear hb hg1 HNum
    go_wp2
    go_ret
    exact ⟨rfl, HRb.out, HG.out.trans (grown_setCell _ _ _)⟩
  · rw [if_neg ht]
    have e2 : IntKind.i64.wrap (n : Int) = (n : Int) := by rw [IntKind.wrap_i64]; omega
    go_enter Tryz.func31, Tryz.ntmps31
    go_wp2_with fail
    refine HNum.out.mono ?_
    rintro e w1 ⟨rfl, hr1, hg1⟩
    have HG := Lib.hid hg1
    have HR := Lib.hid hr1
    obtain ⟨A, c, hb, -, -⟩ := hr1
    have c0 : w1.cell? ⟨g, 0, none⟩ = some (.slice A s1.length c) := hb.cell 0
    have e1 : IntKind.u64.wrap (s1.length : Int) = (s1.length : Int) := by rw [IntKind.wrap_u64]; omega
    clear hb hg1 HNum
    go_wp2
    go_ret
    exact ⟨rfl, HR.out, HG.out⟩
set_option maxRecDepth 20000 in
set_option maxHeartbeats 1600000 in
theorem signed_any (g B : Nat) (s : List Nat) (bad : Bool) (w : World) (h : Rdr 71 w g B s bad) (hB : B ≤ g) (hs : Rb.Bytes s) :
    Calls Tryz.prog 33 #[.pointer (some ⟨g, 0, none⟩)] w fun e w' => e = .returned (.int .i64 (Rb.unzz (Rb.numG s bad).1)) ∧ Rdr 71 w' g B (Rb.numG s bad).2.1 (Rb.numG s bad).2.2 ∧ w.grownBy w' (some g) := by
  have HNum := Lib.hid (taker_any g B s bad w h hB hs)
  have hn := (Rb.numG_fit bad hs).1
  generalize Rb.numG s bad = x at *
  obtain ⟨n, s1, b1⟩ := x
  simp only at *
  clear h hs
  by_cases hodd : n % 2 = 1
  · have HX := Lib.hid (show wrap64 (wrap64 (-wrap64 (IntKind.u64.wrap ((n : Int) / 2))) - 1) = Rb.unzz n by unfold Rb.unzz wrap64; rw [if_pos hodd, IntKind.wrap_u64]; omega)
    have e1 : ((n : Int) % 2 == 1) = true := by simp; omega
    clear hn hodd
    go_enter Tryz.func33, Tryz.ntmps33
    go_wp2_with fail
    refine HNum.out.mono ?_
    rintro e w1 ⟨rfl, hr1, hg1⟩
    have HR := Lib.hid hr1
    have HG := Lib.hid hg1
    clear hr1 hg1 HNum
    go_wp2_with fail
    go_ret
    exact ⟨ret_int HX.out, HR.out, HG.out⟩
  · have HX := Lib.hid (show wrap64 (IntKind.u64.wrap ((n : Int) / 2)) = Rb.unzz n by unfold Rb.unzz wrap64; rw [if_neg hodd, IntKind.wrap_u64]; omega)
    have e1 : ((n : Int) % 2 == 1) = false := by simp; omega
    clear hn hodd
    go_enter Tryz.func33, Tryz.ntmps33
    go_wp2_with fail
    refine HNum.out.mono ?_
    rintro e w1 ⟨rfl, hr1, hg1⟩
    have HR := Lib.hid hr1
    have HG := Lib.hid hg1
    clear hr1 hg1 HNum
    go_wp2_with fail
    go_ret
    exact ⟨ret_int HX.out, HR.out, HG.out⟩
end Go.Proofs.YtdpoecjbofofoaaGreatDoor
namespace Go.Proofs.YtdpoecjbofofoaaGreatDoor
open Go

section
variable {P : Program} {ops : Array Oper} {Q : Exit → Act → World → Prop} {md : Region.Mode} {S : World → Prop} {z : Nat}

/-- Whatever order is picked from here on; while number z has not come up, S holds behind every operation that is carried out. -/
def AnyZ (P : Program) (md : Region.Mode) (ops : Array Oper) (Q : Exit → Act → World → Prop) (S : World → Prop) (z : Nat) : Nat → Array Bool → Act → World → Prop
  | 0, listed, a, w => Region.ready md ops listed = [] ∧ Q .normal a w
  | fuel + 1, listed, a, w =>
    (Region.ready md ops listed = [] → Q .normal a w) ∧
    ∀ i ∈ Region.ready md ops listed, wpOp P ops Q i (fun a' w' => (i ≠ z → S w') ∧ AnyZ P md ops Q S z fuel (listed.setIfInBounds i true) a' w') a w

theorem any_of_z : ∀ (fuel : Nat) (listed : Array Bool) (a : Act) (w : World), AnyZ P md ops Q S z fuel listed a w → wpAny P md ops Q fuel listed a w
  | 0, _, _, _, h => h
  | fuel + 1, _, _, _, h => ⟨h.1, fun i hi => wpOp_mono (fun a' w' h' => any_of_z fuel _ a' w' h'.2) (h.2 i hi)⟩

/-- Number z waits for number i. -/
def Waits (md : Region.Mode) (ops : Array Oper) (z i : Nat) : Bool := match ops[z]? with
  | some o => o.after.any fun e => Region.binds md e && e.on == i
  | none => false

theorem z_first {i : Nat} {oi : Oper} {v : Value} (hi : ops[i]? = some oi) (hsel : ∀ (j : Nat) (o : Oper) cs b, ops[j]? = some o → o.op ≠ .select cs b)
    (hQ : ∀ c a w, Q (.panic c) (a.put oi.dst v) w → Q (.panic c) a w) (hz : Waits md ops z i = true) :
    ∀ (fuel : Nat) (listed : Array Bool) (a : Act) (w : World),
      (∀ j oj, ops[j]? = some oj → j ≠ i → listed.getD j true = false → (∀ e ∈ oj.after, Region.binds md e = true → e.on ≠ i) → oi.apart ops oj = true) →
      i ∈ Region.ready md ops listed → YieldsIf P ops S oi v a → S w → i ≠ z →
      AnyZ P md ops Q S z fuel (listed.setIfInBounds i true) (a.put oi.dst v) w → AnyZ P md ops Q S z (fuel + 1) listed a w := by
  intro fuel
  induction fuel with
  | zero =>
    intro listed a w _ hr hy hS _ H
    refine ⟨fun h => (by rw [h] at hr; cases hr), fun j hj => ?_⟩
    by_cases hji : j = i
    · subst hji; exact hy.wpOp hi hS ⟨fun _ => hS, H⟩
    · have := ready_mono hj hji
      rw [H.1] at this
      cases this
  | succ fuel ih =>
    intro listed a w hfree hr hy hS hiz H
    refine ⟨fun h => (by rw [h] at hr; cases hr), fun j hj => ?_⟩
    by_cases hji : j = i
    · subst hji; exact hy.wpOp hi hS ⟨fun _ => hS, H⟩
    · have h1 := H.2 j (ready_mono hj hji)
      obtain ⟨hjun, oj, hoj, hall⟩ := mem_ready.1 hj
      have hnot : ∀ e ∈ oj.after, Region.binds md e = true → e.on ≠ i := fun e he hb heq => by
        have h1 := hall e he hb
        have h0 := (mem_ready.1 hr).1
        rw [heq] at h1
        rcases Nat.lt_or_ge i listed.size with h' | h'
        · simp [h'] at h0 h1; rw [h0] at h1; cases h1
        · simp [Array.getElem?_eq_none h'] at h1
      have hjz : j ≠ z := fun e => by
        subst e
        unfold Waits at hz
        rw [hoj] at hz
        simp only [Array.any_eq_true'] at hz
        obtain ⟨e, he, hb⟩ := hz
        simp only [Bool.and_eq_true, beq_iff_eq] at hb
        exact hnot e he hb.1 hb.2
      have h2 := wpOp_putIf hoj (hfree j oj hoj hji hjun hnot) (fun cs b => hsel i oi cs b hi) (fun cs b => hsel j oj cs b hoj) hQ hy h1
      have hfree' : ∀ k ok, ops[k]? = some ok → k ≠ i → (listed.setIfInBounds j true).getD k true = false →
          (∀ e ∈ ok.after, Region.binds md e = true → e.on ≠ i) → oi.apart ops ok = true := fun k ok hk hki hun hno => by
        refine hfree k ok hk hki ?_ hno
        by_cases hjk : j = k
        · subst hjk; exact hjun
        · rw [getD_set_ne true hjk] at hun; exact hun
      refine wpOp_mono (fun a' w' h3 => ⟨h3.2.1, ih (listed.setIfInBounds j true) a' w' hfree' (ready_mono hr (Ne.symm hji)) h3.1 (h3.2.1 hjz) hiz ?_⟩) h2
      rw [Array.setIfInBounds_comm _ _ hji]
      exact h3.2.2

/-- Take number i first. -/
theorem z_take {i : Nat} {oi : Oper} {v : Value} {fuel : Nat} {listed : Array Bool} {a : Act} {w : World} (hi : ops[i]? = some oi)
    (hs : Region.noSelect ops = true) (hf : Region.free md ops listed i = true) (hr : (Region.ready md ops listed).contains i = true)
    (hQ : ∀ c a w, Q (.panic c) (a.put oi.dst v) w → Q (.panic c) a w) (hz : Waits md ops z i = true) (hiz : i ≠ z) (hS : S w) (hw : Region.wanted oi (yielded ops a.tmps) = true) (hy : ∀ w, S w → (execOp a.eval oi).run P w = .ok (.value v) w)
    (h : AnyZ P md ops Q S z fuel (listed.setIfInBounds i true) (a.put oi.dst v) w) : AnyZ P md ops Q S z (fuel + 1) listed a w :=
  z_first hi (Region.noSelect_spec hs) hQ hz fuel listed a w (Region.free_spec hi hf) (by simpa using hr) (.inl ⟨hw, hy⟩) hS hiz h
/-- One alone may come up. -/
theorem z_one {i : Nat} {oi : Oper} {fuel : Nat} {listed : Array Bool} {a : Act} {w : World} (hi : ops[i]? = some oi) (hr : Region.ready md ops listed = [i]) (hw : Region.wanted oi (yielded ops a.tmps) = true)
    (h : ∀ K : Act → World → Prop, (∀ a' w', (i ≠ z → S w') → AnyZ P md ops Q S z fuel (listed.setIfInBounds i true) a' w' → K a' w') → Oper.wp P oi a w K Q) : AnyZ P md ops Q S z (fuel + 1) listed a w :=
  ⟨fun h0 => (by rw [hr] at h0; cases h0), fun j hj => by
    rw [hr] at hj
    obtain rfl := List.mem_singleton.1 hj
    unfold wpOp
    simp only [hi, hw, if_true]
    exact .inl (h _ fun a' w' h1 h2 => ⟨h1, h2⟩)⟩
/-- One of two may come up. -/
theorem z_two {i j : Nat} {oi oj : Oper} {fuel : Nat} {listed : Array Bool} {a : Act} {w : World} (hi : ops[i]? = some oi) (hj : ops[j]? = some oj) (hr : Region.ready md ops listed = [i, j]) (hwi : Region.wanted oi (yielded ops a.tmps) = true) (hwj : Region.wanted oj (yielded ops a.tmps) = true)
    (h : ∀ K : Act → World → Prop, (∀ a' w', (i ≠ z → S w') → AnyZ P md ops Q S z fuel (listed.setIfInBounds i true) a' w' → K a' w') → Oper.wp P oi a w K Q)
    (h' : ∀ K : Act → World → Prop, (∀ a' w', (j ≠ z → S w') → AnyZ P md ops Q S z fuel (listed.setIfInBounds j true) a' w' → K a' w') → Oper.wp P oj a w K Q) : AnyZ P md ops Q S z (fuel + 1) listed a w :=
  ⟨fun h0 => (by rw [hr] at h0; cases h0), fun k hk => by
    rw [hr] at hk
    unfold wpOp
    rcases List.mem_cons.1 hk with rfl | hk
    · simp only [hi, hwi, if_true]
      exact .inl (h _ fun a' w' h1 h2 => ⟨h1, h2⟩)
    · obtain rfl := List.mem_singleton.1 hk
      simp only [hj, hwj, if_true]
      exact .inl (h' _ fun a' w' h1 h2 => ⟨h1, h2⟩)⟩
theorem z_done {listed : Array Bool} {a : Act} {w : World} (hr : Region.ready md ops listed = []) (h : Q .normal a w) : ∀ fuel, AnyZ P md ops Q S z fuel listed a w
  | 0 => ⟨hr, h⟩
  | _ + 1 => ⟨fun _ => h, by rw [hr]; simp⟩
theorem z_region (S : World → Prop) (z : Nat) {id : Nat} {a : Act} {w : World} (hm : P.follows .mixedOrders = true) (h : AnyZ P .any ops Q S z ops.size (Array.replicate ops.size false) a w.drew) : (Code.region id ops true).wp P Q a w :=
  wp_region_any hm (any_of_z _ _ _ _ h)
end
end Go.Proofs.YtdpoecjbofofoaaGreatDoor
namespace Go.Proofs.YtdpoecjbofofoaaGreatDoor
open Go.RowKit
abbrev zl : Array Value := #[.slice none 0 0, .slice none 0 0, .slice none 0 0, .int .i64 0, .int .u64 0]
structure Tk (w wr : World) (R g L B : Nat) (u iv cv : Value) (st : Int) (su : Nat) (pre : List (Int × Int)) (xs ys : List Int) (s : List Nat) (b : Bool) : Prop where
  res : Blk wr R 26 #[.slice none 0 0, .slice none 0 0, .slice none 0 0, .int .i64 0, .int .u64 0]
  log : Blk wr L 26 #[u, iv, cv, .int .i64 st, .int .u64 (su : Int)]
  own1 : OwnP wr (L + 1) u pre
  own2 : OwnV wr (L + 1) iv xs
  own3 : OwnV wr (L + 1) cv ys
  rdr : Rdr 71 wr g B s b
  low : Below R w wr
  lt1 : R < g
  lt2 : g < L
  lt3 : B ≤ R
section
variable {w wr w' : World} {R g L B : Nat} {u iv cv : Value} {st : Int} {su : Nat} {pre : List (Int × Int)} {xs ys : List Int} {s : List Nat} {b : Bool}
/-- What touches one block alone that is neither the result's, the log's nor a row's, and leaves a reader. -/
theorem Tk.taker (h : Tk w wr R g L B u iv cv st su pre xs ys s b) {s' : List Nat} {b' : Bool} (hr : Rdr 71 w' g B s' b') (hg : wr.grownBy w' (some g)) : Tk w w' R g L B u iv cv st su pre xs ys s' b' := by
  have h1 := h.lt1
  have h2 := h.lt2
  have hR := h.res.lt
  refine ⟨h.res.grown hg (by simp; omega), h.log.grown hg (by simp; omega), own_kept h.own1 hg ?_, own_kept h.own2 hg ?_, own_kept h.own3 hg ?_, hr, h.low.grown hg (by omega) (fun k e => by cases e; omega), h1, h2, h.lt3⟩
  · intro k e he; cases e; have := own_ge h.own1 _ he; omega
  · intro k e he; cases e; have := own_ge h.own2 _ he; omega
  · intro k e he; cases e; have := own_ge h.own3 _ he; omega
theorem Tk.kept (h : Tk w wr R g L B u iv cv st su pre xs ys s b) (hg : wr.grownBy w' none) : Tk w w' R g L B u iv cv st su pre xs ys s b :=
  h.taker (h.rdr.grown (by have := h.lt1; have := h.lt3; omega) hg (fun k e => by cases e)) ⟨hg.os, hg.tape, hg.output, hg.size, fun i hi _ => hg.block i hi (by simp)⟩
theorem grown_drew (w : World) (row : Option Nat) : w.grownBy w.drew row := ⟨rfl, rfl, rfl, Nat.le_refl _, fun _ _ _ => rfl⟩
theorem Tk.drew (h : Tk w wr R g L B u iv cv st su pre xs ys s b) : Tk w wr.drew R g L B u iv cv st su pre xs ys s b := h.kept (grown_drew _ _)
theorem Tk.alloc (h : Tk w wr R g L B u iv cv st su pre xs ys s b) (o : Obj) : Tk w (wr.alloc o) R g L B u iv cv st su pre xs ys s b := h.kept (World.grownBy_alloc _ _ _)
/-- A row that grows. -/
theorem Tk.row (h : Tk w wr R g L B u iv cv st su pre xs ys s b) {row : Option Nat} (hg : wr.grownBy w' row) (hr : ∀ k, row = some k → L + 1 ≤ k) :
    Blk w' R 26 #[.slice none 0 0, .slice none 0 0, .slice none 0 0, .int .i64 0, .int .u64 0] ∧ Blk w' L 26 #[u, iv, cv, .int .i64 st, .int .u64 (su : Int)] ∧ Rdr 71 w' g B s b ∧ Below R w w' := by
  have h1 := h.lt1
  have h2 := h.lt2
  have hR := h.res.lt
  exact ⟨h.res.grown hg (fun e => by have := hr _ e.symm; omega), h.log.grown hg (fun e => by have := hr _ e.symm; omega), h.rdr.grown (by have := h.lt3; omega) hg (fun k e => by have := hr k e; omega), h.low.grown hg (by omega) (fun k e => by have := hr k e; omega)⟩
/-- A store into a cell of the log. -/
theorem Tk.put {v : Value} {i : Nat} {u' iv' cv' : Value} {st' : Int} {su' : Nat} {pre' : List (Int × Int)} {xs' ys' : List Int} (hR : Blk w' R 26 #[.slice none 0 0, .slice none 0 0, .slice none 0 0, .int .i64 0, .int .u64 0]) (hL : Blk (w'.setCell ⟨L, i, none⟩ v) L 26 #[u', iv', cv', .int .i64 st', .int .u64 (su' : Int)])
    (h1 : OwnP w' (L + 1) u' pre') (h2 : OwnV w' (L + 1) iv' xs') (h3 : OwnV w' (L + 1) cv' ys') (hr : Rdr 71 w' g B s b) (hlow : Below R w w') (a : R < g) (c : g < L) (d : B ≤ R) :
    Tk w (w'.setCell ⟨L, i, none⟩ v) R g L B u' iv' cv' st' su' pre' xs' ys' s b := by
  have hgs : w'.grownBy (w'.setCell ⟨L, i, none⟩ v) (some L) := grown_setCell w' ⟨L, i, none⟩ v
  exact ⟨hR.grown hgs (by simp; omega), hL, ownsRow_setCell_below h1 (a := ⟨L, i, none⟩) (Nat.lt_succ_self _) _, ownsRow_setCell_below h2 (a := ⟨L, i, none⟩) (Nat.lt_succ_self _) _, ownsRow_setCell_below h3 (a := ⟨L, i, none⟩) (Nat.lt_succ_self _) _,
    hr.grown (by omega) hgs (fun k e => by cases e; exact c), hlow.setCell (p := ⟨L, i, none⟩) (show R ≤ L by omega) v, a, c, d⟩
theorem Tk.app1 (h : Tk w wr R g L B u iv cv st su pre xs ys s b) {x : Int × Int} {v' : Value} (ho : w'.ownsRow (L + 1) 56 2 v' (pre.length + 1) (cellsP pre ++ [.int .i64 x.1, .int .i64 x.2])) (hg : wr.grownBy w' u.ownBlock)
    (hne2 : iv.ownBlock ≠ u.ownBlock ∨ iv.ownBlock = none) (hne3 : cv.ownBlock ≠ u.ownBlock ∨ cv.ownBlock = none) : Tk w (w'.setCell ⟨L, 0, none⟩ v') R g L B v' iv cv st su (pre ++ [x]) xs ys s b := by
  obtain ⟨a, c, d, e⟩ := h.row hg (fun k e => own_ge h.own1 _ e)
  refine Tk.put a (c.set_ 0 v') ?_ (own_kept h.own2 hg ?_) (own_kept h.own3 hg ?_) d e h.lt1 h.lt2 h.lt3
  · unfold OwnP; rw [List.length_append, cellsP_snoc]; exact ho
  · intro k e1 e2; rcases hne2 with hn | hn
    · exact hn (e2.trans e1.symm)
    · rw [hn] at e2; cases e2
  · intro k e1 e2; rcases hne3 with hn | hn
    · exact hn (e2.trans e1.symm)
    · rw [hn] at e2; cases e2
theorem Tk.app2 (h : Tk w wr R g L B u iv cv st su pre xs ys s b) {x : Int} {v' : Value} (ho : w'.ownsRow (L + 1) 2 1 v' (xs.length + 1) (xs.map (.int .i64) ++ [.int .i64 x])) (hg : wr.grownBy w' iv.ownBlock)
    (hne3 : cv.ownBlock = none) : Tk w (w'.setCell ⟨L, 1, none⟩ v') R g L B u v' cv st su pre (xs ++ [x]) ys s b := by
  obtain ⟨a, c, d, e⟩ := h.row hg (fun k e => own_ge h.own2 _ e)
  refine Tk.put a (c.set_ 1 v') (own_kept h.own1 hg ?_) ?_ (own_kept h.own3 hg ?_) d e h.lt1 h.lt2 h.lt3
  · intro k e1 e2; exact own_own_ne h.own2 h.own1 (by decide) e1 e2
  · unfold OwnV; rw [List.length_append, List.map_append]; exact ho
  · intro k e1 e2; rw [hne3] at e2; cases e2
theorem Tk.app3 (h : Tk w wr R g L B u iv cv st su pre xs ys s b) {x : Int} {v' : Value} (ho : w'.ownsRow (L + 1) 2 1 v' (ys.length + 1) (ys.map (.int .i64) ++ [.int .i64 x])) (hg : wr.grownBy w' cv.ownBlock)
    (hne2 : ∀ k, cv.ownBlock = some k → iv.ownBlock ≠ some k) : Tk w (w'.setCell ⟨L, 2, none⟩ v') R g L B u iv v' st su pre xs (ys ++ [x]) s b := by
  obtain ⟨a, c, d, e⟩ := h.row hg (fun k e => own_ge h.own3 _ e)
  refine Tk.put a (c.set_ 2 v') (own_kept h.own1 hg ?_) (own_kept h.own2 hg ?_) ?_ d e h.lt1 h.lt2 h.lt3
  · intro k e1 e2; exact own_own_ne h.own3 h.own1 (by decide) e1 e2
  · intro k e1 e2; exact hne2 k e1 e2
  · unfold OwnV; rw [List.length_append, List.map_append]; exact ho
theorem Tk.steps (h : Tk w wr R g L B u iv cv st su pre xs ys s b) (st' : Int) : Tk w (wr.setCell ⟨L, 3, none⟩ (.int .i64 st')) R g L B u iv cv st' su pre xs ys s b :=
  Tk.put h.res (h.log.set_ 3 (.int .i64 st')) h.own1 h.own2 h.own3 h.rdr h.low h.lt1 h.lt2 h.lt3
theorem Tk.sums (h : Tk w wr R g L B u iv cv st su pre xs ys s b) (su' : Nat) : Tk w (wr.setCell ⟨L, 4, none⟩ (.int .u64 (su' : Int))) R g L B u iv cv st su' pre xs ys s b :=
  Tk.put h.res (h.log.set_ 4 (.int .u64 (su' : Int))) h.own1 h.own2 h.own3 h.rdr h.low h.lt1 h.lt2 h.lt3
end
end Go.Proofs.YtdpoecjbofofoaaGreatDoor
