/-
  THE LAW OVER SortSymbols, WALKED: 'before' is a copy of the lengths; the two callees by their contracts; the two comparisons find no difference.
-/
import Derived.Test.YmwhbeSortWalk
import Derived.BigQuiet
import Derived.WalkSpells
namespace Go.Proofs.Ymwhbe.Srt
open Go.RowKit
set_option linter.unusedVariables false

/-- A row of numbers in block g. -/
def Ints (w : World) (g : Nat) (xs : List Nat) : Prop := g < w.heap.size ∧ ∀ j, j < xs.length → w.cell? ⟨g, j, none⟩ = some (.int .i64 ((xs.getD j 0 : Nat) : Int))

theorem Ints.below {w w' : World} {g B : Nat} {xs : List Nat} (h : Ints w g xs) (hb : Below B w w') (hB : w.heap.size ≤ B) : Ints w' g xs :=
  ⟨by have := hb.size; have := h.1; omega, fun j hj => (hb.cell (p := ⟨g, j, none⟩) (by show g < B; have := h.1; omega)).trans (h.2 j hj)⟩

theorem sort_to (a : Option Addr) (cap : Nat) (ns xs : List Nat) (hx : xs = lst ns 15 0) (w : World) (hin : Inp w a ns) (hsm : ∀ j, ns.getD j 0 < 256) (hlen : ns.length ≤ 4096) :
    Calls Ybev.prog 5 #[.slice a ns.length cap] w fun e w' => ∃ g, e = .returned (.slice (some ⟨g, 0, none⟩) xs.length xs.length) ∧ w.heap.size ≤ g ∧ Ints w' g xs ∧ Below w.heap.size w w' := by
  refine (sort_any a cap ns w hin hsm hlen).mono fun e w' h => ?_
  obtain ⟨g, he, hg, hR, hb⟩ := h
  have el : st ns 15 = xs.length := by rw [hx, lst_length]
  rw [el] at he
  rw [ord_done, ← hx] at hR
  exact ⟨g, he, hg, ⟨hR.lt, fun j hj => hR.cell hj⟩, hb⟩

theorem model_to (a : Option Addr) (cap : Nat) (ns xs : List Nat) (hx : xs = lst ns 15 0) (w : World) (hin : Inp w a ns) (hsm : ∀ j, ns.getD j 0 < 256) (hlen : ns.length ≤ 4096) :
    Calls Ybev.prog 6 #[.slice a ns.length cap] w fun e w' => ∃ g c, e = .returned (.slice (some ⟨g, 0, none⟩) xs.length c) ∧ Ints w' g xs ∧ Below w.heap.size w w' := by
  refine (model_any a cap ns w hin hsm hlen).mono fun e w' h => ?_
  obtain ⟨v, he, hO, hb⟩ := h
  rw [← hx] at hO
  obtain ⟨g, c, rfl, _, hlt, hc⟩ := hO.shape
  exact ⟨g, c, he, ⟨hlt, hc⟩, hb⟩

theorem info5 : (Ybev.prog.info? 5).map (fun i => (i.zero, i.size, i.bytes)) = some (some (.int .u8 0), 1, 1) := by kernel_rfl

/-- 'make([]uint8, n)'. -/
theorem made5 {w : World} {base g n : Nat} (h : w.ownsRow base 5 1 (.slice (some ⟨g, 0, none⟩) n n) n (madeCells (Value.int .u8 0).cells (n * 1)).toList) : w.heap[g]? = some (.cells (List.replicate n (Value.int .u8 0)).toArray 5 (0, 0)) := by
  rcases h.2 with ⟨h', _⟩ | ⟨g', cap', cur, h', _, hg, _, _, hcs, htake⟩
  · simp at h'
  · simp only [Value.slice.injEq, Option.some.injEq, Addr.mk.injEq, and_true, true_and] at h'
    obtain ⟨rfl, rfl⟩ := h'
    rw [hg]
    have e : cur.toList = List.replicate n (Value.int .u8 0) := by
      rw [List.take_of_length_le (by simp [hcs])] at htake
      rw [htake]
      show (madeCells #[Value.int .u8 0] (n * 1)).toList = _
      rw [toList_madeCells_one, Nat.mul_one]
    have e2 : cur = (List.replicate n (Value.int .u8 0)).toArray := by rw [← e]
    rw [e2]

/-- The lengths as cells. -/
def u8s (ns : List Nat) : List Value := ns.map fun i => Value.int .u8 ((i : Nat) : Int)
theorem u8s_length (ns : List Nat) : (u8s ns).length = ns.length := by simp [u8s]
theorem u8s_one (ns : List Nat) : ∀ v ∈ u8s ns, v.oneCell' = true := by
  intro v hv
  obtain ⟨_, _, rfl⟩ := List.mem_map.1 hv
  rfl
theorem u8s_get {ns : List Nat} {j : Nat} (h : j < ns.length) : (u8s ns)[j]? = some (.int .u8 ((ns.getD j 0 : Nat) : Int)) := by simp [u8s, h]

/-- A block that holds the lengths. -/
def U8s (w : World) (g : Nat) (ns : List Nat) : Prop := g < w.heap.size ∧ ∀ j, j < ns.length → w.cell? ⟨g, j, none⟩ = some (.int .u8 ((ns.getD j 0 : Nat) : Int))

theorem U8s.below {w w' : World} {g B : Nat} {ns : List Nat} (h : U8s w g ns) (hb : Below B w w') (hB : w.heap.size ≤ B) : U8s w' g ns :=
  ⟨by have := hb.size; have := h.1; omega, fun j hj => (hb.cell (p := ⟨g, j, none⟩) (by show g < B; have := h.1; omega)).trans (h.2 j hj)⟩

theorem u8s_of_block {w : World} {g : Nat} {ns : List Nat} (h : w.heap[g]? = some (.cells (u8s ns).toArray 5 (0, 0))) : U8s w g ns :=
  ⟨(Array.getElem?_eq_some_iff.1 h).1, fun j hj => by
    rw [cell_of_row w g j _ 5 (0, 0) h]
    simpa using u8s_get hj⟩

theorem splice_all (ns : List Nat) : splice (List.replicate ns.length (Value.int .u8 0)) 0 (u8s ns) = u8s ns := by simp [splice, u8s_length]

theorem Inp.src {w : World} {a : Option Addr} {ns : List Nat} (h : Inp w a ns) (h0 : 0 < (u8s ns).length) : ∃ ad, a = some ad ∧ ∀ j v, (u8s ns)[j]? = some v → w.cell? (ad.add j) = some v := by
  obtain ⟨b, off, rfl, _, hc⟩ := h (by rw [← u8s_length]; exact h0)
  refine ⟨_, rfl, fun j v hv => ?_⟩
  have hj : j < ns.length := by rw [← u8s_length]; exact (List.getElem?_eq_some_iff.1 hv).1
  rw [u8s_get hj] at hv
  rw [Addr.add_lit, hc j hj, hv]

set_option maxHeartbeats 1000000 in
theorem law_some (x : Addr) (cap : Nat) (ns xs : List Nat) (hx : Hid (xs = lst ns 15 0)) (hxl : xs.length ≤ 61440) (w : World) (hin : Inp w (some x) ns) (hsm : ∀ j, ns.getD j 0 < 256) (hlen : ns.length ≤ 4096) :
    Calls Ybev.prog 3 #[.slice (some x) ns.length cap] w fun e w' => e = .returned (.bool true) ∧ Below w.heap.size w w' := by
  obtain ⟨i5, hi, hz0, hz1, hz2⟩ := info_parts info5
  have hs5 : (Ybev.prog.info? 5).map (·.size) = some 1 := by kernel_rfl
  have q23 : ∀ (w : World) (a : Option Addr) (n c n' c' : Nat), (binOp .eql 23 (.slice a n c) (.slice none n' c')).run Ybev.prog w = .ok (.bool a.isNone) w := fun w a n c n' c' => Lib.run_eql_slice_nil w _ _ a n c n' c' Ybev.underlying23
  have hd : decide ((4096 : Int) < (ns.length : Int)) = false := by simp; omega
  have hmin : (u8s ns).length = Nat.min ns.length ns.length := by rw [u8s_length]; exact (Nat.min_self _).symm
  have hfit : 0 + (u8s ns).length ≤ (List.replicate ns.length (Value.int .u8 0)).length := by rw [u8s_length]; simp
  go_enter Ybev.func3, Ybev.ntmps3
  go_wp2_with (first
    | (at_make; refine wpList_make_full _ rfl _ _ 22 rfl w.heap.size 5 i5 (.int .u8 0) 1 Ybev.underlying22 hi hz0 hz1 _ _ _ _ ns.length rfl rfl rfl rfl (by rw [hz2]; omega) (by unfold maxLen; omega) (Nat.le_refl _) ?_; intro w1 hown hgrow; have hb1 : Below w.heap.size w w1 := (Below.refl _ _).grown hgrow (Nat.le_refl _) (fun k hk => by cases hk); have hg1 : Hid (w1.heap[w.heap.size]? = some (.cells (List.replicate ns.length (Value.int .u8 0)).toArray 5 (0, 0))) := made5 hown; have hin1 : Inp w1 (some x) ns := hin.below hb1 (Nat.le_refl _); clear hown hgrow)
    | (refine wpList_copy_splice rfl (.tmp 16) (.tmp 17) 22 22 rfl 5 Ybev.underlying22 hs5 _ _ _ _ _ _ rfl rfl w.heap.size 0 _ 5 hg1.out (u8s ns) hmin (fun h0 => ⟨rfl, hin1.src h0⟩) hfit (u8s_one ns) w.heap.size w hb1 (Nat.le_refl _) ?_; intro w2 HG2 hb2)
    | fail)
  have hbf2 : U8s w2 w.heap.size ns := u8s_of_block (by have h := HG2.out; rw [splice_all] at h; exact h)
  have hin2 : Inp w2 (some x) ns := hin.below hb2 (Nat.le_refl _)
  clear HG2 hg1 hin1 hb1 hmin hfit hin hi hz0 hz1 hz2 hs5
  refine (sort_to (some x) cap ns xs hx.out w2 hin2 hsm hlen).mono ?_
  rintro e w3 ⟨g1, rfl, hg1, hI1, hb3⟩
  have hin3 := hin2.below hb3 (Nat.le_refl _)
  have hbf3 := hbf2.below hb3 (Nat.le_refl _)
  have hbe3 := hb2.trans (hb3.mono hb2.size)
  clear hin2 hbf2 hb2 hb3 hg1
  go_wp2_with fail
  refine (model_to (some x) cap ns xs hx.out w3 hin3 hsm hlen).mono ?_
  rintro e w4 ⟨g2, c2, rfl, hI2, hb4⟩
  have hin4 := hin3.below hb4 (Nat.le_refl _)
  have hbf4 := hbf3.below hb4 (Nat.le_refl _)
  have hJ1 := hI1.below hb4 (Nat.le_refl _)
  have hbe4 := hbe3.trans (hb4.mono hbe3.size)
  clear hin3 hbf3 hbe3 hb4 hI1 q23 hx
  go_wp2_with fail
  go_loopw [6] (fun i wr => ∃ k : Nat, k ≤ xs.length ∧ i = .int .i64 (k : Int) ∧ Below w4.heap.size w4 wr) (fun i _ => xs.length - (intOf i).toNat)
  case atStart => exact ⟨0, Nat.zero_le _, rfl, Below.refl _ _⟩
  case round =>
    obtain ⟨k, hk, rfl, hbr⟩ := hrel
    by_cases hlt : k < xs.length
    · have d1 := (hJ1.below hbr (Nat.le_refl _)).2 k hlt
      have d2 := (hI2.below hbr (Nat.le_refl _)).2 k hlt
      generalize xs.getD k 0 = v at d1 d2
      clear hJ1 hI2 hin4 hbf4 hsm
      go_wp2
      go_quiet (fail)
      go_wp2
      go_roundw
      case rel => exact ⟨k + 1, by omega, by go_num, below_drewN hbr _⟩
      case measure => simp [intOf]; omega
    · have hin5 := hin4.below hbr (Nat.le_refl _)
      have hbf5 := hbf4.below hbr (Nat.le_refl _)
      have hbe5 := hbe4.trans (hbr.mono hbe4.size)
      clear hJ1 hI2 hin4 hbf4 hbe4
      go_wp2_with fail
      obtain ⟨wo, rfl⟩ : ∃ wo : World, wo = wr := ⟨_, rfl⟩
      go_loopw [7] (fun i wr => ∃ k : Nat, k ≤ ns.length ∧ i = .int .i64 (k : Int) ∧ Below wo.heap.size wo wr) (fun i _ => ns.length - (intOf i).toNat)
      case atStart => exact ⟨0, Nat.zero_le _, rfl, Below.refl _ _⟩
      case round =>
        clear hbr hlt hk
        obtain ⟨j, hj, rfl, hbr⟩ := hrel
        by_cases hlt : j < ns.length
        · obtain ⟨b, off, hxe, hb, hc⟩ := (hin5.below hbr (Nat.le_refl _)) (by omega)
          obtain rfl := Option.some.inj hxe
          have d1 := (hbf5.below hbr (Nat.le_refl _)).2 j hlt
          have d2 := hc j hlt
          have hn := hsm j
          generalize ns.getD j 0 = v at d1 d2 hn
          clear hbf5 hin5 hsm hc hxe
          go_wp2
          go_quiet (fail)
          go_wp2
          go_roundw
          case rel => exact ⟨j + 1, by omega, by go_num, below_drewN hbr _⟩
          case measure => simp [intOf]; omega
        · go_wp2
          go_ret
          exact ⟨rfl, hbe5.trans (hbr.mono hbe5.size)⟩

set_option maxHeartbeats 1000000 in
theorem law_none (xs : List Nat) (hx : Hid (xs = lst [] 15 0)) (hxl : xs.length ≤ 61440) (w : World) :
    Calls Ybev.prog 3 #[.slice none 0 0] w fun e w' => e = .returned (.bool true) ∧ Below w.heap.size w w' := by
  have q23 : ∀ (w : World) (a : Option Addr) (n c n' c' : Nat), (binOp .eql 23 (.slice a n c) (.slice none n' c')).run Ybev.prog w = .ok (.bool a.isNone) w := fun w a n c n' c' => Lib.run_eql_slice_nil w _ _ a n c n' c' Ybev.underlying23
  have hin : ∀ W, Inp W none [] := fun W h => by simp at h
  have hsm : ∀ j, ([] : List Nat).getD j 0 < 256 := fun j => by simp
  have hlen : ([] : List Nat).length ≤ 4096 := by simp
  go_enter Ybev.func3, Ybev.ntmps3
  go_wp2_with fail
  refine (sort_to none 0 [] xs hx.out _ (hin _) hsm hlen).mono ?_
  rintro e w3 ⟨g1, rfl, hg1, hI1, hb3⟩
  go_wp2_with fail
  refine (model_to none 0 [] xs hx.out w3 (hin _) hsm hlen).mono ?_
  rintro e w4 ⟨g2, c2, rfl, hI2, hb4⟩
  have hJ1 := hI1.below hb4 (Nat.le_refl _)
  have hbe4 := hb3.trans (hb4.mono hb3.size)
  clear hb3 hb4 hI1 q23 hx hin hsm hlen hg1
  go_wp2_with fail
  go_loopw [6] (fun i wr => ∃ k : Nat, k ≤ xs.length ∧ i = .int .i64 (k : Int) ∧ Below w4.heap.size w4 wr) (fun i _ => xs.length - (intOf i).toNat)
  case atStart => exact ⟨0, Nat.zero_le _, rfl, Below.refl _ _⟩
  case round =>
    obtain ⟨k, hk, rfl, hbr⟩ := hrel
    by_cases hlt : k < xs.length
    · have d1 := (hJ1.below hbr (Nat.le_refl _)).2 k hlt
      have d2 := (hI2.below hbr (Nat.le_refl _)).2 k hlt
      generalize xs.getD k 0 = v at d1 d2
      clear hJ1 hI2
      go_wp2
      go_quiet (fail)
      go_wp2
      go_roundw
      case rel => exact ⟨k + 1, by omega, by go_num, below_drewN hbr _⟩
      case measure => simp [intOf]; omega
    · clear hJ1 hI2
      go_wp2_with fail
      refine wp_loop_rounds 1 ?_
      rw [rounds_succ]
      go_wp2
      go_ret
      exact ⟨rfl, hbe4.trans (hbr.mono hbe4.size)⟩

set_option maxHeartbeats 400000 in
/-- More than 4096 lengths: the law looks at none of them. -/
theorem law_long (a : Option Addr) (len cap : Nat) (hm : len ≤ 9223372036854775807) (hl : 4096 < len) (w : World) :
    Calls Ybev.prog 3 #[.slice a len cap] w fun e w' => e = .returned (.bool true) ∧ Below w.heap.size w w' := by
  go_enter Ybev.func3, Ybev.ntmps3
  go_wp2
  go_ret
  exact ⟨rfl, Below.refl _ _⟩
end Go.Proofs.Ymwhbe.Srt
