/-
  The walks of table and Score (written by wip/gen_table.py).
-/
import Derived.Test.YtfpmbjobieeidaaGreatScore
import Derived.Laws.EntriesVeiled
namespace Go.Proofs.YtfpmbjobieeidaaGreat
open Go.RowKit

/-- The function of a formula. -/
def tabN (k : Nat) : FuncId := match k with
  | 1 => 72
  | 2 => 74
  | 3 => 75
  | 4 => 76
  | 5 => 77
  | 6 => 78
  | 7 => 79
  | 8 => 81
  | 9 => 82
  | 10 => 83
  | 11 => 85
  | 12 => 86
  | 13 => 87
  | 14 => 88
  | _ => 0
def tabF (k : Nat) : Value := if 1 ≤ k ∧ k ≤ 14 then .func (.func (tabN k)) #[] #[] else .nilFunc
def tabOk (k : Nat) : Bool := decide (1 ≤ k ∧ k ≤ 14)
def TabPost (k : Nat) (w : World) (e : Ending) (w' : World) : Prop := e = .returned (.tuple #[.agg #[tabF k], .bool (tabOk k)]) ∧ Below w.heap.size w w'
theorem below_alloc2_ (w : World) (o o' : Obj) : Below w.heap.size w ((w.alloc o).alloc o') := (below_alloc_ w o).alloc (by simp) o'

set_option maxHeartbeats 800000 in
theorem table_0 (w : World) : Calls Tryz.prog 39 #[.int .u8 0] w (TabPost 0 w) := by
  go_enter Tryz.func39, Tryz.ntmps39
  go_wp2
  exact bodyPost_ret (v := .tuple #[.agg #[.nilFunc], .bool false]) (by simp [results, Tryz.results39, go_sem]) rfl ⟨rfl, below_alloc2_ _ _ _⟩

set_option maxHeartbeats 800000 in
theorem table_1 (w : World) : Calls Tryz.prog 39 #[.int .u8 1] w (TabPost 1 w) := by
  go_enter Tryz.func39, Tryz.ntmps39
  go_wp2
  exact bodyPost_ret (v := .tuple #[.agg #[.func (.func 72) #[] #[]], .bool true]) (by simp [results, Tryz.results39, go_sem]) rfl ⟨rfl, below_alloc2_ _ _ _⟩

set_option maxHeartbeats 800000 in
theorem table_2 (w : World) : Calls Tryz.prog 39 #[.int .u8 2] w (TabPost 2 w) := by
  go_enter Tryz.func39, Tryz.ntmps39
  go_wp2
  exact bodyPost_ret (v := .tuple #[.agg #[.func (.func 74) #[] #[]], .bool true]) (by simp [results, Tryz.results39, go_sem]) rfl ⟨rfl, below_alloc2_ _ _ _⟩

set_option maxHeartbeats 800000 in
theorem table_3 (w : World) : Calls Tryz.prog 39 #[.int .u8 3] w (TabPost 3 w) := by
  go_enter Tryz.func39, Tryz.ntmps39
  go_wp2
  exact bodyPost_ret (v := .tuple #[.agg #[.func (.func 75) #[] #[]], .bool true]) (by simp [results, Tryz.results39, go_sem]) rfl ⟨rfl, below_alloc2_ _ _ _⟩

set_option maxHeartbeats 800000 in
theorem table_4 (w : World) : Calls Tryz.prog 39 #[.int .u8 4] w (TabPost 4 w) := by
  go_enter Tryz.func39, Tryz.ntmps39
  go_wp2
  exact bodyPost_ret (v := .tuple #[.agg #[.func (.func 76) #[] #[]], .bool true]) (by simp [results, Tryz.results39, go_sem]) rfl ⟨rfl, below_alloc2_ _ _ _⟩

set_option maxHeartbeats 800000 in
theorem table_5 (w : World) : Calls Tryz.prog 39 #[.int .u8 5] w (TabPost 5 w) := by
  go_enter Tryz.func39, Tryz.ntmps39
  go_wp2
  exact bodyPost_ret (v := .tuple #[.agg #[.func (.func 77) #[] #[]], .bool true]) (by simp [results, Tryz.results39, go_sem]) rfl ⟨rfl, below_alloc2_ _ _ _⟩

set_option maxHeartbeats 800000 in
theorem table_6 (w : World) : Calls Tryz.prog 39 #[.int .u8 6] w (TabPost 6 w) := by
  go_enter Tryz.func39, Tryz.ntmps39
  go_wp2
  exact bodyPost_ret (v := .tuple #[.agg #[.func (.func 78) #[] #[]], .bool true]) (by simp [results, Tryz.results39, go_sem]) rfl ⟨rfl, below_alloc2_ _ _ _⟩

set_option maxHeartbeats 800000 in
theorem table_7 (w : World) : Calls Tryz.prog 39 #[.int .u8 7] w (TabPost 7 w) := by
  go_enter Tryz.func39, Tryz.ntmps39
  go_wp2
  exact bodyPost_ret (v := .tuple #[.agg #[.func (.func 79) #[] #[]], .bool true]) (by simp [results, Tryz.results39, go_sem]) rfl ⟨rfl, below_alloc2_ _ _ _⟩

set_option maxHeartbeats 800000 in
theorem table_8 (w : World) : Calls Tryz.prog 39 #[.int .u8 8] w (TabPost 8 w) := by
  go_enter Tryz.func39, Tryz.ntmps39
  go_wp2
  exact bodyPost_ret (v := .tuple #[.agg #[.func (.func 81) #[] #[]], .bool true]) (by simp [results, Tryz.results39, go_sem]) rfl ⟨rfl, below_alloc2_ _ _ _⟩

set_option maxHeartbeats 800000 in
theorem table_9 (w : World) : Calls Tryz.prog 39 #[.int .u8 9] w (TabPost 9 w) := by
  go_enter Tryz.func39, Tryz.ntmps39
  go_wp2
  exact bodyPost_ret (v := .tuple #[.agg #[.func (.func 82) #[] #[]], .bool true]) (by simp [results, Tryz.results39, go_sem]) rfl ⟨rfl, below_alloc2_ _ _ _⟩

set_option maxHeartbeats 800000 in
theorem table_10 (w : World) : Calls Tryz.prog 39 #[.int .u8 10] w (TabPost 10 w) := by
  go_enter Tryz.func39, Tryz.ntmps39
  go_wp2
  exact bodyPost_ret (v := .tuple #[.agg #[.func (.func 83) #[] #[]], .bool true]) (by simp [results, Tryz.results39, go_sem]) rfl ⟨rfl, below_alloc2_ _ _ _⟩

set_option maxHeartbeats 800000 in
theorem table_11 (w : World) : Calls Tryz.prog 39 #[.int .u8 11] w (TabPost 11 w) := by
  go_enter Tryz.func39, Tryz.ntmps39
  go_wp2
  exact bodyPost_ret (v := .tuple #[.agg #[.func (.func 85) #[] #[]], .bool true]) (by simp [results, Tryz.results39, go_sem]) rfl ⟨rfl, below_alloc2_ _ _ _⟩

set_option maxHeartbeats 800000 in
theorem table_12 (w : World) : Calls Tryz.prog 39 #[.int .u8 12] w (TabPost 12 w) := by
  go_enter Tryz.func39, Tryz.ntmps39
  go_wp2
  exact bodyPost_ret (v := .tuple #[.agg #[.func (.func 86) #[] #[]], .bool true]) (by simp [results, Tryz.results39, go_sem]) rfl ⟨rfl, below_alloc2_ _ _ _⟩

set_option maxHeartbeats 800000 in
theorem table_13 (w : World) : Calls Tryz.prog 39 #[.int .u8 13] w (TabPost 13 w) := by
  go_enter Tryz.func39, Tryz.ntmps39
  go_wp2
  exact bodyPost_ret (v := .tuple #[.agg #[.func (.func 87) #[] #[]], .bool true]) (by simp [results, Tryz.results39, go_sem]) rfl ⟨rfl, below_alloc2_ _ _ _⟩

set_option maxHeartbeats 800000 in
theorem table_14 (w : World) : Calls Tryz.prog 39 #[.int .u8 14] w (TabPost 14 w) := by
  go_enter Tryz.func39, Tryz.ntmps39
  go_wp2
  exact bodyPost_ret (v := .tuple #[.agg #[.func (.func 88) #[] #[]], .bool true]) (by simp [results, Tryz.results39, go_sem]) rfl ⟨rfl, below_alloc2_ _ _ _⟩

set_option maxHeartbeats 800000 in
theorem table_n (k : Nat) (w : World) (h : 15 ≤ k) (h1 : k < 256) : Calls Tryz.prog 39 #[.int .u8 k] w (TabPost k w) := by
  have h2 : ((k : Int) == 0) = false := by simp; omega
  have h3 : Hid (tabF k = .nilFunc ∧ tabOk k = false) := ⟨if_neg (by omega), decide_eq_false (by omega)⟩
  go_enter Tryz.func39, Tryz.ntmps39
  go_wp2
  exact bodyPost_ret (v := .tuple #[.agg #[.nilFunc], .bool false]) (by simp [results, Tryz.results39, go_sem]) rfl ⟨by rw [h3.out.1, h3.out.2], below_alloc2_ _ _ _⟩
theorem table_any (k : Nat) (w : World) (h1 : k < 256) : Calls Tryz.prog 39 #[.int .u8 k] w (TabPost k w) := by
  by_cases h : 15 ≤ k
  · exact table_n k w h h1
  · rcases (show k = 0 ∨ k = 1 ∨ k = 2 ∨ k = 3 ∨ k = 4 ∨ k = 5 ∨ k = 6 ∨ k = 7 ∨ k = 8 ∨ k = 9 ∨ k = 10 ∨ k = 11 ∨ k = 12 ∨ k = 13 ∨ k = 14 by omega) with rfl | rfl | rfl | rfl | rfl | rfl | rfl | rfl | rfl | rfl | rfl | rfl | rfl | rfl | rfl
    · exact table_0 w
    · exact table_1 w
    · exact table_2 w
    · exact table_3 w
    · exact table_4 w
    · exact table_5 w
    · exact table_6 w
    · exact table_7 w
    · exact table_8 w
    · exact table_9 w
    · exact table_10 w
    · exact table_11 w
    · exact table_12 w
    · exact table_13 w
    · exact table_14 w
/-- A formula's function, called. -/
theorem formula_any (k : Nat) (h0 : 1 ≤ k) (h1 : k ≤ 14) (h q m r : Int) (hh : 0 ≤ h ∧ h ≤ 64) (hq : 0 ≤ q ∧ q ≤ 64) (hm : 0 ≤ m ∧ m ≤ 64) (hr : 0 ≤ r ∧ r ≤ 64) (w : World) :
    Calls Tryz.prog (tabN k) #[.int .i64 h, .int .i64 q, .int .i64 m, .int .i64 r] w (FvPost (Rk.score k h q m r) w) := by
  rcases (show k = 1 ∨ k = 2 ∨ k = 3 ∨ k = 4 ∨ k = 5 ∨ k = 6 ∨ k = 7 ∨ k = 8 ∨ k = 9 ∨ k = 10 ∨ k = 11 ∨ k = 12 ∨ k = 13 ∨ k = 14 by omega) with rfl | rfl | rfl | rfl | rfl | rfl | rfl | rfl | rfl | rfl | rfl | rfl | rfl | rfl
  · exact score1_any h q m r hh hq hm hr w
  · exact score2_any h q m r hh hq hm hr w
  · exact score3_any h q m r hh hq hm hr w
  · exact score4_any h q m r hh hq hm hr w
  · exact score5_any h q m r hh hq hm hr w
  · exact score6_any h q m r hh hq hm hr w
  · exact score7_any h q m r hh hq hm hr w
  · exact score8_any h q m r hh hq hm hr w
  · exact score9_any h q m r hh hq hm hr w
  · exact score10_any h q m r hh hq hm hr w
  · exact score11_any h q m r hh hq hm hr w
  · exact score12_any h q m r hh hq hm hr w
  · exact score13_any h q m r hh hq hm hr w
  · exact score14_any h q m r hh hq hm hr w

end Go.Proofs.YtfpmbjobieeidaaGreat
