/-
  WHAT THE WALKS OF SortSymbols SAY OF MEMORY: a table of 16 counters in a block of its own ('Blk'), a row of indices in a block of its own ('Row'), and the lengths that came in ('Inp').
-/
import Derived.WalkKit
import Derived.Laws.CopyOwn
import Derived.Test.YmwhbeSortPlain
namespace Go.Proofs.Ymwhbe.Srt
open Go.RowKit

/-! ### A table of 16 counters -/
def arr16 (f : Nat → Nat) : Array Value := ((List.range 16).map fun l => Value.int .i64 ((f l : Nat) : Int)).toArray

theorem arr16_size (f : Nat → Nat) : (arr16 f).size = 16 := by simp [arr16]
theorem arr16_get (f : Nat → Nat) {l : Nat} (h : l < 16) : (arr16 f)[l]? = some (.int .i64 ((f l : Nat) : Int)) := by simp [arr16, h]
theorem arr16_ext {f g : Nat → Nat} (h : ∀ x, x < 16 → f x = g x) : arr16 f = arr16 g := by
  unfold arr16
  congr 1
  apply List.map_congr_left
  intro x hx
  rw [h x (by simpa using hx)]
theorem arr16_set (f : Nat → Nat) (l v : Nat) : (arr16 f).setIfInBounds l (.int .i64 ((v : Nat) : Int)) = arr16 (fun x => if x = l then v else f x) := by
  apply Array.ext_getElem?
  intro i
  by_cases hi : i < 16
  · rw [Array.getElem?_setIfInBounds, arr16_size, arr16_get _ hi, arr16_get _ hi]
    by_cases e : l = i
    · subst e; simp [hi]
    · have e' : ¬ i = l := fun x => e x.symm
      simp [e, e']
  · rw [Array.getElem?_eq_none (by simp [arr16_size]; omega), Array.getElem?_eq_none (by simp [arr16_size]; omega)]
theorem arr16_one (f : Nat → Nat) : (arr16 f).all (·.oneCell') = true := by
  rw [Array.all_eq_true_iff_forall_mem]
  intro v hv
  simp only [arr16, List.mem_toArray, List.mem_map] at hv
  obtain ⟨_, _, rfl⟩ := hv
  rfl
theorem arr16_zero : (#[.int .i64 0, .int .i64 0, .int .i64 0, .int .i64 0, .int .i64 0, .int .i64 0, .int .i64 0, .int .i64 0, .int .i64 0, .int .i64 0, .int .i64 0, .int .i64 0, .int .i64 0, .int .i64 0, .int .i64 0, .int .i64 0] : Array Value) = arr16 (fun _ => 0) := rfl

def Blk (w : World) (g : Nat) (f : Nat → Nat) : Prop := w.heap[g]? = some (.cells (arr16 f) 31 (0, 0))

theorem Blk.lt {w : World} {g : Nat} {f : Nat → Nat} (h : Blk w g f) : g < w.heap.size := (Array.getElem?_eq_some_iff.1 h).1
theorem Blk.cell {w : World} {g : Nat} {f : Nat → Nat} (h : Blk w g f) {l : Nat} (hl : l < 16) : w.cell? ⟨g, l, none⟩ = some (.int .i64 ((f l : Nat) : Int)) :=
  (cell_of_row w g l _ 31 (0, 0) h).trans (arr16_get f hl)
theorem Blk.free {w : World} {g : Nat} {f : Nat → Nat} (h : Blk w g f) (l : Nat) : w.frozen? ⟨g, l, none⟩ = false := frozen_of_row w g l _ 31 h
theorem Blk.ext {w : World} {g : Nat} {f f' : Nat → Nat} (h : Blk w g f) (e : ∀ x, x < 16 → f x = f' x) : Blk w g f' := by
  unfold Blk at *; rw [← arr16_ext e]; exact h
theorem Blk.store {w : World} {g : Nat} {f : Nat → Nat} (h : Blk w g f) (l v : Nat) : Blk (w.setCell ⟨g, l, none⟩ (.int .i64 ((v : Nat) : Int))) g (fun x => if x = l then v else f x) := by
  unfold Blk at *
  rw [heap_setCell_same w g l _ 31 _ h, arr16_set]
theorem Blk.other {w : World} {g : Nat} {f : Nat → Nat} (h : Blk w g f) {a : Addr} (ha : g ≠ a.block) (u : Value) : Blk (w.setCell a u) g f := by
  unfold Blk at *
  rw [heap_setCell_other w a g u ha]; exact h
theorem Blk.below {w w' : World} {g B : Nat} {f : Nat → Nat} (h : Blk w g f) (hb : Below B w w') (hg : g < B) : Blk w' g f := (hb.block g hg).trans h
theorem Blk.alloc {w : World} {g : Nat} {f : Nat → Nat} (h : Blk w g f) (o : Obj) : Blk (w.alloc o) g f := (Below.heap_alloc w o g h.lt).trans h
theorem Blk.drew {w : World} {g : Nat} {f : Nat → Nat} (h : Blk w g f) : Blk w.drew g f := h
theorem Blk.fresh (w : World) : Blk (w.alloc (.cells #[.int .i64 0, .int .i64 0, .int .i64 0, .int .i64 0, .int .i64 0, .int .i64 0, .int .i64 0, .int .i64 0, .int .i64 0, .int .i64 0, .int .i64 0, .int .i64 0, .int .i64 0, .int .i64 0, .int .i64 0, .int .i64 0] 31)) w.heap.size (fun _ => 0) :=
  heap_alloc_new w _

/-- A whole table into a block, at the list of a region's operations. -/
theorem wpList_store_row {P : Program} {ops : Array Oper} {rest : List Oper} {o : Oper} {a : Act} {w : World} {Q : Exit → Act → World → Prop} (hgd : o.guard = none) (ty : TypeId) (x y : Operand) (ho : o.op = .store ty x y)
    (g : Nat) (cells : Array Value) (hx : a.eval x = .pointer (some ⟨g, 0, none⟩)) (hy : a.eval y = .agg cells)
    (t : TypeId) (old : Array Value) (hg : w.heap[g]? = some (.cells old t (0, 0))) (hi : (P.info? ty).map (·.size) = some cells.size)
    (hold : old.size = cells.size) (h1 : cells.all (·.oneCell') = true)
    (h : wpList P ops Q rest (a.put o.dst undef) (w.setRow g cells)) : wpList P ops Q (o :: rest) a w :=
  wpList_plain hgd fun _ hK => wp_store_row ty x y ho g cells hx hy t old hg hi hold h1 (hK _ _ h)

theorem Blk.setRow {w : World} {g : Nat} {f : Nat → Nat} (h : Blk w g f) (f' : Nat → Nat) : Blk (w.setRow g (arr16 f')) g f' := setRow_heap w g _ _ 31 (0, 0) h

/-! ### A row of indices -/
def Row (w : World) (g : Nat) (xs : List Nat) : Prop := w.heap[g]? = some (.cells (xs.map fun i => Value.int .i64 ((i : Nat) : Int)).toArray 3 (0, 0))

theorem Row.lt {w : World} {g : Nat} {xs : List Nat} (h : Row w g xs) : g < w.heap.size := (Array.getElem?_eq_some_iff.1 h).1
theorem Row.cell {w : World} {g : Nat} {xs : List Nat} (h : Row w g xs) {j : Nat} (hj : j < xs.length) : w.cell? ⟨g, j, none⟩ = some (.int .i64 ((xs.getD j 0 : Nat) : Int)) := by
  rw [cell_of_row w g j _ 3 (0, 0) h]
  simp [hj]
theorem Row.free {w : World} {g : Nat} {xs : List Nat} (h : Row w g xs) (j : Nat) : w.frozen? ⟨g, j, none⟩ = false := frozen_of_row w g j _ 3 h
theorem Row.store {w : World} {g : Nat} {xs : List Nat} (h : Row w g xs) (j v : Nat) : Row (w.setCell ⟨g, j, none⟩ (.int .i64 ((v : Nat) : Int))) g (xs.set j v) := by
  unfold Row at *
  rw [heap_setCell_same w g j _ 3 _ h, List.map_set]
  simp
theorem Row.other {w : World} {g : Nat} {xs : List Nat} (h : Row w g xs) {a : Addr} (ha : g ≠ a.block) (u : Value) : Row (w.setCell a u) g xs := by
  unfold Row at *
  rw [heap_setCell_other w a g u ha]; exact h
theorem Row.below {w w' : World} {g B : Nat} {xs : List Nat} (h : Row w g xs) (hb : Below B w w') (hg : g < B) : Row w' g xs := (hb.block g hg).trans h
theorem Row.drew {w : World} {g : Nat} {xs : List Nat} (h : Row w g xs) : Row w.drew g xs := h
/-- 'make([]int, n)'. -/
theorem Row.made {w : World} {base g n : Nat} (h : w.ownsRow base 3 1 (.slice (some ⟨g, 0, none⟩) n n) n (madeCells (Value.int .i64 0).cells (n * 1)).toList) : Row w g (List.replicate n 0) := by
  rcases h.2 with ⟨h', _⟩ | ⟨g', cap', cur, h', _, hg, _, _, hcs, htake⟩
  · simp at h'
  · simp only [Value.slice.injEq, Option.some.injEq, Addr.mk.injEq, and_true, true_and] at h'
    obtain ⟨rfl, rfl⟩ := h'
    unfold Row
    rw [hg]
    have e : cur.toList = List.replicate n (Value.int .i64 0) := by
      rw [List.take_of_length_le (by simp [hcs])] at htake
      rw [htake]
      show (madeCells #[Value.int .i64 0] (n * 1)).toList = _
      rw [toList_madeCells_one, Nat.mul_one]
    have e2 : cur = (List.replicate n (Value.int .i64 0)).toArray := by rw [← e]
    rw [e2]
    simp

/-! ### The lengths that came in -/
/-- A slice of bytes that was there before: 'ns' are its elements. -/
def Inp (w : World) (a : Option Addr) (ns : List Nat) : Prop :=
  0 < ns.length → ∃ b off, a = some ⟨b, off, none⟩ ∧ b < w.heap.size ∧ ∀ j, j < ns.length → w.cell? ⟨b, off + j, none⟩ = some (.int .u8 ((ns.getD j 0 : Nat) : Int))

theorem Inp.below {w w' : World} {a : Option Addr} {ns : List Nat} {B : Nat} (h : Inp w a ns) (hb : Below B w w') (hB : w.heap.size ≤ B) : Inp w' a ns := fun h0 => by
  obtain ⟨b, off, e, hlt, hc⟩ := h h0
  exact ⟨b, off, e, by have := hb.size; omega, fun j hj => (hb.cell (p := ⟨b, off + j, none⟩) (by show b < B; omega)).trans (hc j hj)⟩

end Go.Proofs.Ymwhbe.Srt
