/-
  THE WALKS OF 'huff.HasPrefix' (7) AND OF THE BITWISE MODEL (8): each returns the same bool of the same four numbers, and leaves two new blocks behind (its two boxed parameters).
-/
import Derived.Test.YmwhbeChecked
import Derived.WalkKit
import Derived.WalkLawsBesides
import Derived.Test.YmwhbeBits
namespace Go.Proofs.Ymwhbe
open Go.RowKit
set_option linter.unusedVariables false

set_option maxHeartbeats 400000 in
theorem hp_yes (c cl p pl : Int) (hl0 : 0 ≤ cl) (hl1 : cl < 256) (hm0 : 0 ≤ pl) (hm1 : pl < 256) (w : World) (h : pl ≤ cl) :
    Calls Ybev.prog 7 #[.agg #[.int .u32 c, .int .u8 cl], .agg #[.int .u32 p, .int .u8 pl]] w fun e w' => e = .returned (.bool (c / 2 ^ min (cl - pl).toNat 32 == p)) ∧ w' = (w.alloc (.cells #[.int .u32 c, .int .u8 cl] 28)).alloc (.cells #[.int .u32 p, .int .u8 pl] 28) := by
  go_enter Ybev.func7, Ybev.ntmps7
  go_wp2
  go_ret
  exact ⟨rfl, rfl⟩

set_option maxHeartbeats 400000 in
theorem hp_no (c cl p pl : Int) (w : World) (h : cl < pl) :
    Calls Ybev.prog 7 #[.agg #[.int .u32 c, .int .u8 cl], .agg #[.int .u32 p, .int .u8 pl]] w fun e w' => e = .returned (.bool false) ∧ w' = (w.alloc (.cells #[.int .u32 c, .int .u8 cl] 28)).alloc (.cells #[.int .u32 p, .int .u8 pl] 28) := by
  go_enter Ybev.func7, Ybev.ntmps7
  go_wp2
  go_ret
  exact ⟨rfl, rfl⟩

set_option maxHeartbeats 400000 in
theorem md_no (c cl p pl : Int) (hl0 : 0 ≤ cl) (hl1 : cl < 256) (hm0 : 0 ≤ pl) (hm1 : pl < 256) (w : World) (h : cl < pl) :
    Calls Ybev.prog 8 #[.agg #[.int .u32 c, .int .u8 cl], .agg #[.int .u32 p, .int .u8 pl]] w fun e w' => e = .returned (.bool false) ∧ w' = (w.alloc (.cells #[.int .u32 c, .int .u8 cl] 28)).alloc (.cells #[.int .u32 p, .int .u8 pl] 28) := by
  go_enter Ybev.func8, Ybev.ntmps8
  go_wp2
  go_ret
  exact ⟨rfl, rfl⟩

theorem ret_bool {a b : Bool} (h : b = a) : Ending.returned (.bool a) = .returned (.bool b) := by rw [h]

set_option maxHeartbeats 1000000 in
theorem md_yes (c cl p pl : Int) (hc0 : 0 ≤ c) (hc1 : c < 4294967296) (hp0 : 0 ≤ p) (hp1 : p < 4294967296) (hl0 : 0 ≤ cl) (hl1 : cl < 256) (hm0 : 0 ≤ pl) (hm1 : pl < 256) (w : World) (h : pl ≤ cl) :
    Calls Ybev.prog 8 #[.agg #[.int .u32 c, .int .u8 cl], .agg #[.int .u32 p, .int .u8 pl]] w fun e w' => e = .returned (.bool (c / 2 ^ min (cl - pl).toNat 32 == p)) ∧ w' = (w.alloc (.cells #[.int .u32 c, .int .u8 cl] 28)).alloc (.cells #[.int .u32 p, .int .u8 pl] 28) := by
  go_enter Ybev.func8, Ybev.ntmps8
  go_wp2
  go_loop [6] (fun j => ∃ k : Nat, k ≤ 32 ∧ j = .int .i64 k ∧ Agree c p (cl - pl).toNat k) (fun j => 32 - (intOf j).toNat)
  case atStart => exact ⟨0, by omega, rfl, Agree.zero _ _ _⟩
  case round =>
    obtain ⟨k, hk, rfl, A⟩ := hrel
    by_cases hlt : k < 32
    · by_cases hd : (k : Int) + (cl - pl) < 32
      · go_wp2
        · have ht : (bits BinOp.and IntKind.u32 (c / 2 ^ ((k : Int) + (cl - pl)).toNat) 1 != bits BinOp.and IntKind.u32 (p / 2 ^ k) 1) = true := by assumption
          go_ret
          exact ⟨ret_bool (miss_in h hc0 hc1 hp0 hp1 ht), rfl⟩
        · have ht : (bits BinOp.and IntKind.u32 (c / 2 ^ ((k : Int) + (cl - pl)).toNat) 1 != bits BinOp.and IntKind.u32 (p / 2 ^ k) 1) = false := by assumption
          go_round
          case rel => exact ⟨k + 1, by omega, by go_num, step_in h hc0 hc1 hp0 hp1 A ht⟩
          case measure => simp [intOf]; omega
      · have hd' : 32 ≤ (k : Int) + (cl - pl) := by omega
        go_wp2
        · have ht : ((0 : Int) != bits BinOp.and IntKind.u32 (p / 2 ^ k) 1) = true := by assumption
          go_ret
          exact ⟨ret_bool (miss_out hd' hc0 hc1 hp0 hp1 ht), rfl⟩
        · have ht : ((0 : Int) != bits BinOp.and IntKind.u32 (p / 2 ^ k) 1) = false := by assumption
          go_round
          case rel => exact ⟨k + 1, by omega, by go_num, step_out hd' hc1 hp0 hp1 A ht⟩
          case measure => simp [intOf]; omega
    · obtain rfl : k = 32 := by omega
      have hfin : Hid ((c / 2 ^ min (cl - pl).toNat 32 == p) = true) := all_same c p _ hc0 hc1 hp0 hp1 A
      go_wp2
      go_ret
      exact ⟨ret_bool hfin.out, rfl⟩
end Go.Proofs.Ymwhbe
