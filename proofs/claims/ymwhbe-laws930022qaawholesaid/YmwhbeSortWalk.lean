/-
  THE WALK OF 'huff.SortSymbols' (5): it returns a new slice that holds the symbols by length, then by symbol.
-/
import Derived.Test.YmwhbeCount
import Derived.Test.YmwhbeModel
namespace Go.Proofs.Ymwhbe.Srt
open Go.RowKit
set_option linter.unusedVariables false

/-- The table 'place' when the first m lengths have been given their place. -/
def plc1 (ns : List Nat) (m : Nat) (l : Nat) : Nat := if 1 ≤ l ∧ l ≤ m then st ns (l - 1) else 0
/-- The table 'place' when k symbols have been placed. -/
def plc (ns : List Nat) (k : Nat) (l : Nat) : Nat := if 1 ≤ l then st ns (l - 1) + cnt ns l k else 0

theorem plc1_step {wr : World} {g m : Nat} {ns : List Nat} (h : Blk wr g (plc1 ns m)) : Blk (wr.setCell ⟨g, m + 1, none⟩ (.int .i64 ((st ns m : Nat) : Int))) g (plc1 ns (m + 1)) := by
  refine (h.store (m + 1) (st ns m)).ext (fun x _ => ?_)
  unfold plc1
  by_cases e : x = m + 1
  · subst e; simp
  · rw [if_neg e]
    by_cases h1 : 1 ≤ x ∧ x ≤ m
    · rw [if_pos h1, if_pos (by omega)]
    · rw [if_neg h1, if_neg (by omega)]

theorem plc1_done {wr : World} {g : Nat} {ns : List Nat} (h : Blk wr g (plc1 ns 15)) : Blk wr g (plc ns 0) := by
  refine h.ext (fun x hx => ?_)
  unfold plc1 plc
  by_cases h1 : 1 ≤ x
  · rw [if_pos ⟨h1, by omega⟩, if_pos h1, cnt_zero]; rfl
  · rw [if_neg h1, if_neg (by omega)]

theorem plc_hit {wr : World} {g n k p : Nat} {ns : List Nat} (h : Blk wr g (plc ns k)) (hE : ns.getD k 0 = n) (h1 : 1 ≤ n) (hp : plc ns k n = p) :
    Blk (wr.setCell ⟨g, n, none⟩ (.int .i64 (((p : Nat) : Int) + 1))) g (plc ns (k + 1)) := by
  have h2 := h.store n (p + 1)
  rw [show (((p + 1 : Nat) : Int)) = ((p : Nat) : Int) + 1 from by omega] at h2
  refine h2.ext (fun x _ => ?_)
  by_cases e : x = n
  · subst e
    rw [if_pos rfl, ← hp]
    unfold plc
    rw [if_pos h1, if_pos h1, cnt_hit hE]
    omega
  · rw [if_neg e]
    unfold plc
    rw [cnt_miss (fun h => e (by omega))]

theorem plc_miss {wr : World} {g n k : Nat} {ns : List Nat} (h : Blk wr g (plc ns k)) (hE : ns.getD k 0 = n) (h1 : n = 0 ∨ 15 < n) : Blk wr g (plc ns (k + 1)) := by
  refine h.ext (fun x hx => ?_)
  unfold plc
  by_cases h2 : 1 ≤ x
  · rw [if_pos h2, if_pos h2, cnt_miss (fun h => by omega)]
  · rw [if_neg h2, if_neg h2]

theorem plc_lt {n k p : Nat} {ns : List Nat} (hk : k < ns.length) (hE : ns.getD k 0 = n) (h1 : 1 ≤ n) (h15 : n ≤ 15) (hp : plc ns k n = p) : p < st ns 15 ∧ ord ns (k + 1) = (ord ns k).set p k := by
  obtain ⟨l, rfl⟩ : ∃ l, n = l + 1 := ⟨n - 1, by omega⟩
  have h := ord_hit hk hE h15
  have e : p = st ns l + cnt ns (l + 1) k := by rw [← hp]; simp [plc]
  rw [e]
  exact ⟨h.2, h.1⟩

theorem ord_put {wr : World} {g n k p : Nat} {ns : List Nat} (h : Row wr g (ord ns k)) (e : ord ns (k + 1) = (ord ns k).set p k) :
    Row (wr.setCell ⟨g, p, none⟩ (.int .i64 ((k : Nat) : Int))) g (ord ns (k + 1)) := by rw [e]; exact h.store p k

/-- A whole table into a table's block, the world behind it a letter. -/
theorem wpList_store_blk {P : Program} {ops : Array Oper} {rest : List Oper} {o : Oper} {a : Act} {w : World} {Q : Exit → Act → World → Prop} (hgd : o.guard = none) (x y : Operand) (ho : o.op = .store 31 x y)
    (g : Nat) (f f' : Nat → Nat) (hx : a.eval x = .pointer (some ⟨g, 0, none⟩)) (hy : a.eval y = .agg (arr16 f'))
    (hg : Blk w g f) (hi : (P.info? 31).map (·.size) = some 16)
    (h : ∀ w', Blk w' g f' → Below g w w' → w'.heap.size = w.heap.size → wpList P ops Q rest (a.put o.dst undef) w') : wpList P ops Q (o :: rest) a w :=
  wpList_store_row hgd 31 x y ho g (arr16 f') hx hy 31 (arr16 f) hg (by rw [arr16_size]; exact hi) (by rw [arr16_size, arr16_size]) (arr16_one _)
    (h _ (hg.setRow f') (below_setRow (Below.refl _ _) (Nat.le_refl _) _) (setRow_size _ _ _))

set_option maxHeartbeats 400000 in
theorem sort_any (a : Option Addr) (cap : Nat) (ns : List Nat) (w : World) (hin : Inp w a ns) (hsm : ∀ j, ns.getD j 0 < 256) (hlen : ns.length ≤ 4096) :
    Calls Ybev.prog 5 #[.slice a ns.length cap] w fun e w' => ∃ g, e = .returned (.slice (some ⟨g, 0, none⟩) (st ns 15) (st ns 15)) ∧ w.heap.size ≤ g ∧ Row w' g (ord ns ns.length) ∧ Below w.heap.size w w' := by
  obtain ⟨i0, hi, hz0, hz1, hz2⟩ := info_parts info3
  have hi31 : (Ybev.prog.info? 31).map (·.size) = some 16 := by kernel_rfl
  go_enter Ybev.func5, Ybev.ntmps5
  go_wp2_with (first | (go_at_call 9; refine (count_any a cap ns _ hin hsm hlen).mono ?_; rintro e w1 ⟨rfl, hb1⟩) | (refine wpList_store_blk rfl (.tmp 3) (.tmp 11) rfl w1.heap.size (fun _ => 0) _ rfl rfl (Blk.fresh w1) hi31 ?_; intro w2 hC hb2 hs2))
  have hG : w.heap.size ≤ w1.heap.size := hb1.size
  have hz2' : w2.heap.size = w1.heap.size + 1 := by rw [hs2, World.size_alloc]
  have hbel0 : Below w.heap.size w w2 := (hb1.alloc hb1.size _).trans (hb2.mono hb1.size)
  have hP0 : ∀ o, o = Obj.cells #[.int .i64 0, .int .i64 0, .int .i64 0, .int .i64 0, .int .i64 0, .int .i64 0, .int .i64 0, .int .i64 0, .int .i64 0, .int .i64 0, .int .i64 0, .int .i64 0, .int .i64 0, .int .i64 0, .int .i64 0, .int .i64 0] 31 → Blk (w2.alloc o) (w1.heap.size + 1) (plc1 ns 0) := by
    intro o ho
    rw [ho, ← hz2']
    exact (Blk.fresh w2).ext (fun x _ => by unfold plc1; rw [if_neg (by omega)])
  go_loopw [5, 6] (fun t l wr => ∃ m : Nat, m ≤ 15 ∧ l = .int .i64 ((m : Int) + 1) ∧ t = .int .i64 ((st ns m : Nat) : Int) ∧ Blk wr w1.heap.size (fun l => cnt ns l ns.length) ∧ Blk wr (w1.heap.size + 1) (plc1 ns m) ∧ Below w.heap.size w wr) (fun _ l _ => 17 - (intOf l).toNat)
  case atStart => exact ⟨0, by omega, rfl, rfl, hC.alloc _, hP0 _ rfl, hbel0.alloc (by omega) _⟩
  case round =>
    clear hC hP0 hbel0 hb1 hb2 hs2 hz2'
    obtain ⟨m, hm, rfl, rfl, hC, hP, hbel⟩ := hrel
    by_cases hm15 : m < 15
    · have c1 := hP.cell (l := m + 1) (by omega)
      have f1 := hP.free (m + 1)
      have c2 := hC.cell (l := m + 1) (by omega)
      have b1 := cnt_le ns (m + 1) ns.length
      have b2 := st_le ns m
      have b3 : m * ns.length ≤ 15 * 4096 := Nat.mul_le_mul (by omega) hlen
      have HS : Hid (st ns (m + 1) = st ns m + cnt ns (m + 1) ns.length) := st_succ ns m
      go_wp2
      go_roundw
      case rel => exact ⟨m + 1, by omega, by go_num, by rw [HS.out]; go_num, hC.other (by simp) _, plc1_step hP, hbel.setCell (by show w.heap.size ≤ w1.heap.size + 1; omega) _⟩
      case measure => simp [intOf]; omega
    · have hP' : Blk wr (w1.heap.size + 1) (plc ns 0) := by
        obtain rfl : m = 15 := by omega
        exact plc1_done hP
      have b2 : st ns m ≤ 61440 := by
        have := st_le ns m
        have : m * ns.length ≤ 15 * 4096 := Nat.mul_le_mul hm hlen
        omega
      have HM : Hid (m = 15) := by show m = 15; omega
      clear hP
      go_wp2_with (first | (at_make; refine wpList_make_full _ rfl _ _ 23 rfl w.heap.size 3 i0 (.int .i64 0) 1 Ybev.underlying23 hi hz0 hz1 _ _ _ _ (st ns m) rfl rfl rfl rfl (by rw [hz2]; omega) (by unfold maxLen; omega) hbel.size ?_; intro w3 hown hgrow))
      obtain ⟨wo, rfl⟩ : ∃ wo : World, wo = wr := ⟨_, rfl⟩
      have hgl : w1.heap.size + 1 < wo.heap.size := hP'.lt
      have hR0 : Row w3 wo.heap.size (ord ns 0) := by rw [ord_zero, ← HM.out]; exact Row.made hown
      have hP3 : Blk w3 (w1.heap.size + 1) (plc ns 0) := (hgrow.block _ hgl (by simp)).trans hP'
      have hb3 : Below w.heap.size w w3 := hbel.grown hgrow hbel.size (fun k hk => by cases hk)
      have hwo := hbel.size
      clear hP' hC hbel hown hgrow
      go_loopw [28] (fun i wr => ∃ k : Nat, k ≤ ns.length ∧ i = .int .i64 (k : Int) ∧ Blk wr (w1.heap.size + 1) (plc ns k) ∧ Row wr wo.heap.size (ord ns k) ∧ Below w.heap.size w wr) (fun i _ => ns.length - (intOf i).toNat)
      case atStart => exact ⟨0, by omega, rfl, hP3, hR0, hb3⟩
      case round =>
        clear hP3 hR0 hb3
        obtain ⟨k, hk, rfl, hP, hR, hbel⟩ := hrel
        by_cases hlt : k < ns.length
        · obtain ⟨b, off, rfl, hb, hc⟩ := hin (by omega)
          have hcell := (hbel.cell (p := ⟨b, off + k, none⟩) hb).trans (hc k hlt)
          have hn := hsm k
          clear hc hin hsm
          generalize hE : ns.getD k 0 = n at *
          have HE : Hid (ns.getD k 0 = n) := hE
          clear hE
          by_cases hn0 : 1 ≤ n
          · by_cases hn15 : n ≤ 15
            · have c1 := hP.cell (l := n) (by omega)
              have f1 := hP.free n
              generalize hp : plc ns k n = p at c1
              have HP : Hid (plc ns k n = p) := hp
              have hpl : p < st ns m := by rw [HM.out]; exact (plc_lt hlt HE.out hn0 hn15 hp).1
              obtain ⟨v2, c2⟩ : ∃ v2, wr.cell? ⟨wo.heap.size, p, none⟩ = some (.int .i64 v2) := ⟨_, hR.cell (j := p) (by rw [ord_length ns hk, ← HM.out]; omega)⟩
              have f2 := hR.free p
              have hp64 : p < 65536 := by omega
              clear hp
              go_wp2
              have hR' : Row (wr.setCell ⟨wo.heap.size, p, none⟩ (.int .i64 ((k : Nat) : Int))) wo.heap.size (ord ns (k + 1)) := ord_put (n := n) hR (plc_lt hlt HE.out hn0 hn15 HP.out).2
              have hP' : Blk (wr.setCell ⟨wo.heap.size, p, none⟩ (.int .i64 ((k : Nat) : Int))) (w1.heap.size + 1) (plc ns k) := hP.other (by show w1.heap.size + 1 ≠ wo.heap.size; omega) _
              go_roundw
              case rel => exact ⟨k + 1, by omega, by go_num, plc_hit hP' HE.out hn0 HP.out, hR'.other (by show wo.heap.size ≠ w1.heap.size + 1; omega) _, (hbel.setCell (by show w.heap.size ≤ wo.heap.size; omega) _).setCell (by show w.heap.size ≤ w1.heap.size + 1; omega) _⟩
              case measure => simp [intOf]; omega
            · go_wp2
              go_roundw
              case rel => exact ⟨k + 1, by omega, by go_num, plc_miss hP HE.out (by omega), by rw [ord_miss (by have := HE.out; omega)]; exact hR, hbel⟩
              case measure => simp [intOf]; omega
          · go_wp2
            go_roundw
            case rel => exact ⟨k + 1, by omega, by go_num, plc_miss hP HE.out (by omega), by rw [ord_miss (by have := HE.out; omega)]; exact hR, hbel⟩
            case measure => simp [intOf]; omega
        · obtain rfl : k = ns.length := by omega
          go_wp2
          go_ret
          obtain rfl : m = 15 := HM.out
          exact ⟨_, rfl, by omega, hR, hbel⟩
end Go.Proofs.Ymwhbe.Srt
