/-
  THE WALK OF 'huff.CountLengths' (9): it returns the table of how many lengths equal l, for l = 0 .. 15.
-/
import Derived.Test.YmwhbeChecked
import Derived.WalkKit
import Derived.WalkLawsBesides
import Derived.Test.YmwhbeSortParts
namespace Go.Proofs.Ymwhbe.Srt
open Go.RowKit
set_option linter.unusedVariables false

theorem count_hit {wr : World} {g n k : Nat} {ns : List Nat} (h : Blk wr g (fun l => cnt ns l k)) (hE : ns.getD k 0 = n) :
    Blk (wr.setCell ⟨g, n, none⟩ (.int .i64 (((cnt ns n k : Nat) : Int) + 1))) g (fun l => cnt ns l (k + 1)) := by
  have h1 := h.store n (cnt ns n k + 1)
  rw [show (((cnt ns n k + 1 : Nat) : Int)) = ((cnt ns n k : Nat) : Int) + 1 from by omega] at h1
  refine h1.ext (fun x _ => ?_)
  by_cases e : x = n
  · subst e; rw [if_pos rfl, cnt_hit hE]
  · rw [if_neg e, cnt_miss (fun h => e (by omega))]

theorem count_miss {wr : World} {g n k : Nat} {ns : List Nat} (h : Blk wr g (fun l => cnt ns l k)) (hE : ns.getD k 0 = n) (hn : ¬ n ≤ 15) :
    Blk wr g (fun l => cnt ns l (k + 1)) := h.ext (fun x hx => (cnt_miss (fun h => by omega)).symm)

set_option maxHeartbeats 1000000 in
theorem count_any (a : Option Addr) (cap : Nat) (ns : List Nat) (w : World) (hin : Inp w a ns) (hsm : ∀ j, ns.getD j 0 < 256) (hlen : ns.length ≤ 4096) :
    Calls Ybev.prog 9 #[.slice a ns.length cap] w fun e w' => e = .returned (.agg (arr16 (fun l => cnt ns l ns.length))) ∧ Below w.heap.size w w' := by
  go_enter Ybev.func9, Ybev.ntmps9
  go_wp2_with fail
  go_loopw [8] (fun i wr => ∃ k : Nat, k ≤ ns.length ∧ i = .int .i64 k ∧ Blk wr (w.heap.size + 1) (fun l => cnt ns l k) ∧ Blk wr w.heap.size (fun _ => 0) ∧ Below w.heap.size w wr) (fun i _ => ns.length - (intOf i).toNat)
  case atStart =>
    refine ⟨0, Nat.zero_le _, rfl, ?_, (Blk.fresh w).alloc _, ((Below.refl _ _).alloc (Nat.le_refl _) _).alloc (by simp) _⟩
    have h1 := Blk.fresh (w.alloc (.cells #[.int .i64 0, .int .i64 0, .int .i64 0, .int .i64 0, .int .i64 0, .int .i64 0, .int .i64 0, .int .i64 0, .int .i64 0, .int .i64 0, .int .i64 0, .int .i64 0, .int .i64 0, .int .i64 0, .int .i64 0, .int .i64 0] 31))
    rw [World.size_alloc] at h1
    exact h1.ext (fun _ _ => rfl)
  case round =>
    obtain ⟨k, hk, rfl, hB1, hB0, hbel⟩ := hrel
    by_cases hlt : k < ns.length
    · obtain ⟨b, off, rfl, hb, hc⟩ := hin (by omega)
      have hcell := (hbel.cell (p := ⟨b, off + k, none⟩) hb).trans (hc k hlt)
      have hn := hsm k
      clear hc hin hsm
      generalize hE : ns.getD k 0 = n at *
      have HE : Hid (ns.getD k 0 = n) := hE
      clear hE
      by_cases hle : n ≤ 15
      · have hc1 := hB1.cell (l := n) (by omega)
        have hf1 := hB1.free n
        have hcn := cnt_le ns n k
        go_wp2
        go_roundw
        case rel => exact ⟨k + 1, by omega, by go_num, count_hit hB1 HE.out, hB0.other (by simp) _, hbel.setCell (by simp) _⟩
        case measure => simp [intOf]; omega
      · go_wp2
        go_roundw
        case rel => exact ⟨k + 1, by omega, by go_num, count_miss hB1 HE.out hle, hB0, hbel⟩
        case measure => simp [intOf]; omega
    · obtain rfl : k = ns.length := by omega
      have hi : (Ybev.prog.info? 31).map (·.size) = some (arr16 (fun l => cnt ns l ns.length)).size := by rw [arr16_size]; kernel_rfl
      clear hin hsm
      go_wp2_with (first | (refine wpList_load_row rfl 31 (.tmp 3) rfl (w.heap.size + 1) rfl 31 _ (0, 0) _ hB1 Ybev.underlying31 rfl hi ?_) | (refine wpList_store_row rfl 31 (.tmp 2) (.tmp 20) rfl w.heap.size _ rfl rfl 31 _ hB0 hi rfl (arr16_one _) ?_))
      exact bodyPost_ret (v := .agg (arr16 (fun l => cnt ns l ns.length))) (results_cell_row Ybev.results9 _ _ w.heap.size 31 _ (0, 0) _ rfl (hB0.setRow _) Ybev.underlying31 rfl hi) rfl ⟨rfl, below_setRow hbel (Nat.le_refl _) _⟩
end Go.Proofs.Ymwhbe.Srt
