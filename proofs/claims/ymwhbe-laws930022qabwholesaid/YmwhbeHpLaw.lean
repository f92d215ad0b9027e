/-
  THE LAW OVER HasPrefix, WALKED: both callees by their contracts, in whichever order Go takes them.
-/
import Derived.Test.YmwhbeHp
import Derived.Deep.RegionHeld3
namespace Go.Proofs.Ymwhbe
open Go.RowKit
set_option linter.unusedVariables false

/-- What both functions answer. -/
def hpB (c cl p pl : Int) : Bool := if pl ≤ cl then c / 2 ^ min (cl - pl).toNat 32 == p else false

theorem hpB_self (c cl : Int) : hpB c cl c cl = true := by simp [hpB]

theorem hp_any (c cl p pl : Int) (hl0 : 0 ≤ cl) (hl1 : cl < 256) (hm0 : 0 ≤ pl) (hm1 : pl < 256) (w : World) :
    Calls Ybev.prog 7 #[.agg #[.int .u32 c, .int .u8 cl], .agg #[.int .u32 p, .int .u8 pl]] w fun e w' => e = .returned (.bool (hpB c cl p pl)) ∧ w' = (w.alloc (.cells #[.int .u32 c, .int .u8 cl] 28)).alloc (.cells #[.int .u32 p, .int .u8 pl] 28) := by
  by_cases h : pl ≤ cl
  · have e : hpB c cl p pl = (c / 2 ^ min (cl - pl).toNat 32 == p) := by simp [hpB, h]
    rw [e]
    exact hp_yes c cl p pl hl0 hl1 hm0 hm1 w h
  · have e : hpB c cl p pl = false := by simp [hpB, h]
    rw [e]
    exact hp_no c cl p pl w (by omega)

theorem md_any (c cl p pl : Int) (hc0 : 0 ≤ c) (hc1 : c < 4294967296) (hp0 : 0 ≤ p) (hp1 : p < 4294967296) (hl0 : 0 ≤ cl) (hl1 : cl < 256) (hm0 : 0 ≤ pl) (hm1 : pl < 256) (w : World) :
    Calls Ybev.prog 8 #[.agg #[.int .u32 c, .int .u8 cl], .agg #[.int .u32 p, .int .u8 pl]] w fun e w' => e = .returned (.bool (hpB c cl p pl)) ∧ w' = (w.alloc (.cells #[.int .u32 c, .int .u8 cl] 28)).alloc (.cells #[.int .u32 p, .int .u8 pl] 28) := by
  by_cases h : pl ≤ cl
  · have e : hpB c cl p pl = (c / 2 ^ min (cl - pl).toNat 32 == p) := by simp [hpB, h]
    rw [e]
    exact md_yes c cl p pl hc0 hc1 hp0 hp1 hl0 hl1 hm0 hm1 w h
  · have e : hpB c cl p pl = false := by simp [hpB, h]
    rw [e]
    exact md_no c cl p pl hl0 hl1 hm0 hm1 w (by omega)

set_option maxHeartbeats 1000000 in
theorem law_walk (c cl p pl : Int) (hc0 : 0 ≤ c) (hc1 : c < 4294967296) (hp0 : 0 ≤ p) (hp1 : p < 4294967296) (hl0 : 0 ≤ cl) (hl1 : cl < 256) (hm0 : 0 ≤ pl) (hm1 : pl < 256) (w : World) :
    Calls Ybev.prog 4 #[.int .u32 c, .int .u8 cl, .int .u32 p, .int .u8 pl] w fun e w' => e = .returned (.bool true) ∧ Grown w w' := by
  go_enter Ybev.func4, Ybev.ntmps4
  go_wp2_with fail
  go_region_held3 (fun w' => w'.cell? ⟨w.heap.size, 0, none⟩ = some (.int .u32 c) ∧ w'.cell? ⟨w.heap.size, 1, none⟩ = some (.int .u8 cl) ∧ w'.cell? ⟨w.heap.size + 1, 0, none⟩ = some (.int .u32 p) ∧ w'.cell? ⟨w.heap.size + 1, 1, none⟩ = some (.int .u8 pl)) (refine ⟨?_, ?_, ?_, ?_⟩ <;> go_simp)
    (first | (go_at_call 7; refine (hp_any _ _ _ _ hl0 hl1 hm0 hm1 _).mono ?_; rintro e w' ⟨rfl, rfl⟩) | (go_at_call 8; refine (md_any _ _ _ _ hc0 hc1 hp0 hp1 hl0 hl1 hm0 hm1 _).mono ?_; rintro e w' ⟨rfl, rfl⟩))
  go_wp2_with fail
  go_region_held3 (fun w' => w'.cell? ⟨w.heap.size, 0, none⟩ = some (.int .u32 c) ∧ w'.cell? ⟨w.heap.size, 1, none⟩ = some (.int .u8 cl) ∧ w'.cell? ⟨w.heap.size + 1, 0, none⟩ = some (.int .u32 p) ∧ w'.cell? ⟨w.heap.size + 1, 1, none⟩ = some (.int .u8 pl)) (refine ⟨?_, ?_, ?_, ?_⟩ <;> go_simp)
    (first | (go_at_call 7; refine (hp_any _ _ _ _ hm0 hm1 hl0 hl1 _).mono ?_; rintro e w' ⟨rfl, rfl⟩) | (go_at_call 8; refine (md_any _ _ _ _ hp0 hp1 hc0 hc1 hm0 hm1 hl0 hl1 _).mono ?_; rintro e w' ⟨rfl, rfl⟩))
  have hs := hpB_self c cl
  go_wp2_with (first | (go_at_call 7; refine (hp_any _ _ _ _ hl0 hl1 hl0 hl1 _).mono ?_; rintro e w' ⟨rfl, rfl⟩) | (go_at_call 8; refine (md_any _ _ _ _ hc0 hc1 hc0 hc1 hl0 hl1 hl0 hl1 _).mono ?_; rintro e w' ⟨rfl, rfl⟩))
  go_ret
  refine ⟨rfl, Grown.drew (Grown.drew ?_)⟩
  iterate 14 (refine Grown.alloc ?_ _ _)
  exact Grown.refl _
end Go.Proofs.Ymwhbe
