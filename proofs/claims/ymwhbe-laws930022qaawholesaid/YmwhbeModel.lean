/-
  THE WALK OF THE MODEL 'huff.zzs930022qaamodel' (6): it returns a new slice that holds, for each length 1 .. 15 in turn, the symbols of that length in order.
-/
import Derived.Test.YmwhbeChecked
import Derived.WalkKit
import Derived.WalkLawsBesides
import Derived.Test.YmwhbeSortParts
namespace Go.Proofs.Ymwhbe.Srt
open Go.RowKit
set_option linter.unusedVariables false

theorem info3 : (Ybev.prog.info? 3).map (fun i => (i.zero, i.size, i.bytes)) = some (some (.int .i64 0), 1, 8) := by kernel_rfl

/-- A new slice that holds 'xs', somewhere from block B on; it is not nil. -/
def Own (w : World) (B : Nat) (v : Value) (xs : List Nat) : Prop := w.ownsRow B 3 1 v xs.length (xs.map fun i => Value.int .i64 ((i : Nat) : Int)) ∧ ¬ v = .slice none 0 0

theorem Own.more {w1 : World} {B : Nat} {v' : Value} {xs : List Nat} {x : Nat} (hx : w1.ownsRow B 3 1 v' (xs.length + 1) ((xs.map fun i => Value.int .i64 ((i : Nat) : Int)) ++ [Value.int .i64 ((x : Nat) : Int)]))
    (hn : ¬ v' = .slice none 0 0) : Own w1 B v' (xs ++ [x]) := by
  refine ⟨?_, hn⟩
  rw [List.length_append, List.map_append]
  exact hx

/-- What such a slice is, and what its cells hold. -/
theorem Own.shape {w : World} {B : Nat} {v : Value} {xs : List Nat} (h : Own w B v xs) :
    ∃ g cap, v = .slice (some ⟨g, 0, none⟩) xs.length cap ∧ B ≤ g ∧ g < w.heap.size ∧ ∀ j, j < xs.length → w.cell? ⟨g, j, none⟩ = some (.int .i64 ((xs.getD j 0 : Nat) : Int)) := by
  obtain ⟨ho, hn⟩ := h
  rcases ho.2 with ⟨h', _⟩ | ⟨g, cap, cur, h', hB, hg, _⟩
  · exact absurd h' hn
  · subst h'
    refine ⟨g, cap, rfl, hB, (Array.getElem?_eq_some_iff.1 hg).1, fun j hj => ?_⟩
    rw [ho.cellAt j (by omega)]
    simp [hj]

theorem below_append {w wr w1 : World} {v : Value} {xs : List Nat} {o : Obj} (hO : Own wr w.heap.size v xs) (hbel : Below w.heap.size w wr) (hgrow : (wr.alloc o).grownBy w1 v.ownBlock) : Below w.heap.size w w1 :=
  (hbel.alloc hbel.size o).grown hgrow (by have := hbel.size; rw [World.size_alloc]; omega) (fun k hk => (hO.1.lt k hk).1)

set_option maxHeartbeats 2000000 in
theorem model_any (a : Option Addr) (cap : Nat) (ns : List Nat) (w : World) (hin : Inp w a ns) (hsm : ∀ j, ns.getD j 0 < 256) (hlen : ns.length ≤ 4096) :
    Calls Ybev.prog 6 #[.slice a ns.length cap] w fun e w' => ∃ v, e = .returned v ∧ Own w' w.heap.size v (lst ns 15 0) ∧ Below w.heap.size w w' := by
  obtain ⟨i0, hi, hz0, hz1, hz2⟩ := info_parts info3
  go_enter Ybev.func6, Ybev.ntmps6
  go_wp2_with (first | (at_make; refine wpList_make_own _ rfl _ _ 23 rfl w.heap.size 3 i0 (.int .i64 0) 1 Ybev.underlying23 hi hz0 hz1 _ _ _ ns.length rfl rfl (by omega) (by rw [hz2]; omega) (by unfold maxLen; omega) (Nat.le_refl _) ?_; intro w1 hown hgrow))
  go_loopw [3, 4] (fun v l wr => ∃ m : Nat, m ≤ 15 ∧ l = .int .i64 ((m : Int) + 1) ∧ Own wr w.heap.size v (lst ns m 0) ∧ Below w.heap.size w wr) (fun _ l _ => 17 - (intOf l).toNat)
  case atStart => exact ⟨0, by omega, rfl, ⟨hown, by simp⟩, (Below.refl _ _).grown hgrow (Nat.le_refl _) (fun k hk => by cases hk)⟩
  case round =>
    obtain ⟨m, hm, rfl, hO, hbel⟩ := hrel
    clear hown hgrow
    by_cases hm15 : m < 15
    · have hd15 : decide ((m : Int) + 1 ≤ 15) = true := by simp; omega
      go_wp2_with fail
      obtain ⟨wo, rfl⟩ : ∃ wo : World, wo = wr := ⟨_, rfl⟩
      go_loopw [3, 5] (fun v i wr => ∃ k : Nat, k ≤ ns.length ∧ i = .int .i64 (k : Int) ∧ Own wr w.heap.size v (lst ns m k) ∧ Below w.heap.size w wr) (fun _ i _ => ns.length - (intOf i).toNat)
      case atStart => exact ⟨0, by omega, rfl, hO, hbel⟩
      case round =>
        clear hO hbel
        obtain ⟨k, hk, rfl, hO, hbel⟩ := hrel
        by_cases hlt : k < ns.length
        · obtain ⟨b, off, rfl, hb, hc⟩ := hin (by omega)
          have hcell := (hbel.cell (p := ⟨b, off + k, none⟩) hb).trans (hc k hlt)
          have hn := hsm k
          clear hc hin hsm
          generalize hE : ns.getD k 0 = n at *
          have HE : Hid (ns.getD k 0 = n) := hE
          clear hE
          by_cases hnm : n = m + 1
          · subst hnm
            have hle := lst_le ns (m := m) (i := k) hm hk
            go_wp2_with (first | (at_builtin; refine wpList_append_own _ rfl _ _ 23 rfl w.heap.size 3 i0 (.int .i64 0) 1 8 Ybev.underlying23 hi hz0 hz1 hz2 rfl (by decide) _ _ _ rfl (hO.1.alloc _) ⟨wr.heap.size, 0, none⟩ 1 1 [.int .i64 (k : Int)] rfl rfl ?c1 ?c2 ?c3 ?c4 ?c5 ?_))
            case c1 =>
              intro j u hj
              match j, hj with
              | 0, hj => simp at hj; subst hj; simp [Addr.add]
            case c2 => intro u hu; simp at hu; subst hu; rfl
            case c3 => unfold maxLen; omega
            case c4 => omega
            case c5 => have := hbel.size; rw [World.size_alloc]; omega
            intro v' w1 hown' hgrow hnil
            have hO' : Own w1 w.heap.size v' (lst ns m (k + 1)) := by rw [lst_hit HE.out]; exact Own.more hown' hnil
            have hb' := below_append hO hbel hgrow
            clear hown' hgrow hO hbel
            go_wp2
            go_roundw
            case rel => exact ⟨k + 1, by omega, by go_num, hO', hb'⟩
            case measure => simp [intOf]; omega
          · have ht : ((n : Int) == (m : Int) + 1) = false := by rw [beq_eq_false_iff_ne]; omega
            go_wp2
            go_roundw
            case rel => exact ⟨k + 1, by omega, by go_num, by rw [lst_miss (fun h => hnm (by rw [← HE.out]; exact h))]; exact hO, hbel⟩
            case measure => simp [intOf]; omega
        · obtain rfl : k = ns.length := by omega
          go_wp2
          go_roundw
          case rel => exact ⟨m + 1, by omega, by go_num, by rw [← lst_next]; exact hO, hbel⟩
          case measure => simp [intOf]; omega
    · obtain rfl : m = 15 := by omega
      go_wp2
      go_ret
      exact ⟨_, rfl, hO, hbel⟩
end Go.Proofs.Ymwhbe.Srt
