/-
  THE PROOF OF 'Rows.LawS930022QAAWholeSaid' ('example.com/own/huff.LawS930022QAAWhole'): the shell of the seat, its walk filled by 'law_none', 'law_some', 'law_long' (YmwhbeSortLaw.lean).
-/
import Derived.Test.YmwhbeRows
import Derived.WalkKit
import Derived.ProofKit
import Derived.OpenShut
import Derived.ShutString
import Derived.ChangeOld
import Derived.Below
import Derived.Test.YmwhbeSortLaw
namespace Go.Proofs.Ymwhbe.lawS930022QAAWhole
open Go.ChangeShapes Go.WideShapes Go.ChangeAt Go.RowKit
open Go.ChangeMaps (open_string shut_string)
set_option linter.unusedVariables false

theorem own : ownKnob Ybev.prog.godebug = none := by kernel_rfl
theorem laidOut : laidOutB Ybev.prog = true := by kernel_rfl

/-- WHAT THE WALK IS TOLD OF A SLICE OF INTEGERS THAT CAME IN: it is nil; or it leads to a row of 'cap' cells, the numbers 'zs' (the first 'len' are its elements, the rest its spare room), each fitting its kind. -/
def IsRow (k : IntKind) (w : World) (a : Option Addr) (len cap : Nat) (zs : List Int) : Prop :=
  (a = none ∧ len = 0 ∧ cap = 0 ∧ zs = []) ∨
  ∃ x, a = some x ∧ len ≤ cap ∧ cap ≤ maxLen ∧ zs.length = cap ∧ (∀ i, i < zs.length → w.cell? (x.add i) = some (.int k (zs.getD i 0))) ∧ ∀ n ∈ zs, (Lit.int k n).wf = true

/-- The elements of such a slice, as natural numbers. -/
theorem inp_of_row {w : World} {x : Addr} {len cap : Nat} {zs : List Int} (hle : len ≤ cap) (hzl : zs.length = cap) (hcell : ∀ i, i < zs.length → w.cell? (x.add i) = some (.int .u8 (zs.getD i 0)))
    (hwf : ∀ n ∈ zs, (Lit.int .u8 n).wf = true) : ∃ ns : List Nat, ns.length = len ∧ Srt.Inp w (some x) ns ∧ ∀ j, ns.getD j 0 < 256 := by
  have hb : ∀ j, 0 ≤ zs.getD j 0 ∧ zs.getD j 0 ≤ 255 := by
    intro j
    by_cases hj : j < zs.length
    · have hm : zs.getD j 0 ∈ zs := by
        rw [List.getD_eq_getElem?_getD, List.getElem?_eq_getElem hj]
        exact List.getElem_mem hj
      exact bounds_u8 (hwf _ hm)
    · rw [List.getD_eq_getElem?_getD, List.getElem?_eq_none (by omega)]
      simp
  have hlen : ((zs.take len).map Int.toNat).length = len := by simp; omega
  have hget : ∀ j, j < len → ((zs.take len).map Int.toNat).getD j 0 = (zs.getD j 0).toNat := by
    intro j hj
    have hj' : j < zs.length := by omega
    simp [List.getD_eq_getElem?_getD, hj, hj']
  refine ⟨(zs.take len).map Int.toNat, hlen, ?_, ?_⟩
  · intro h0
    rw [hlen] at h0
    obtain ⟨b, off, rfl, hc⟩ := ints_at hcell (by omega)
    refine ⟨b, off, rfl, World.block_lt_of_cell? w _ (hc 0 (by omega)), fun j hj => ?_⟩
    rw [hlen] at hj
    rw [hc j (by omega), hget j hj, Int.toNat_of_nonneg (hb j).1]
  · intro j
    by_cases hj : j < len
    · rw [hget j hj]; have := hb j; omega
    · rw [List.getD_eq_getElem?_getD, List.getElem?_eq_none (by omega)]
      simp

/-! ### STEP 1: THE WALK: the Go text returns true, AND WRITES NOTHING THAT WAS THERE: 'Below w.heap.size w w'' (Derived/Below.lean: '.refl', '.alloc', '.drew', '.setCell' at a new block, '.trans'). Open each 'IsRow' by 'rcases' AHEAD of 'go_enter'; part every test ahead of the walk. -/
theorem walk (a0 : Option Addr) (len0 cap0 : Nat) (z0 : List Int) (w : World) (w0 : IsRow .u8 w a0 len0 cap0 z0) :
    Calls Ybev.prog 3 #[.slice a0 len0 cap0] w fun e w' => e = .returned (.bool true) ∧ Below w.heap.size w w' := by
  rcases w0 with ⟨rfl, rfl, rfl, rfl⟩ | ⟨x, rfl, hle, hcm, hzl, hcell, hwf⟩
  · exact Srt.law_none (Srt.lst [] 15 0) rfl (by rw [Srt.lst_length]; have := Srt.st_le [] 15; simp only [List.length_nil] at this; omega) w
  · by_cases hl : len0 ≤ 4096
    · obtain ⟨ns, hns, hin, hsm⟩ := inp_of_row hle hzl hcell hwf
      subst hns
      exact Srt.law_some x cap0 ns (Srt.lst ns 15 0) rfl (by have := Srt.st_le ns 15; rw [Srt.lst_length]; omega) w hin hsm hl
    · exact Srt.law_long (some x) len0 cap0 (by unfold maxLen at hcm; omega) (by omega) w

/-! ### THE ROW's STEP: WRITTEN OUT: LEAVE IT -/
set_option maxRecDepth 100000 in
theorem lifted (os : Os) (started : os.Started) (H : Type) (enc : TypeId × Value → H) :
    ReturnsInHanded {} Ybev.checked os 3 .any (Rows.lawS930022QAAWholeSpec.pre6 enc Ybev.prog Ybev.f3 Rows.lawS930022QAAWholeRow.domain false) (Rows.lawS930022QAAWholeSpec.post enc Ybev.prog Ybev.f3 false true false false) := by
  refine returnsInHanded_of_change (C := Ybev.checked) own started (by kernel_rfl) Ybev.func3
    (ChangeSpec.witness6 (enc := enc) (C := Ybev.checked) false ⟨#[], #[.slice none 0 0], []⟩ 8 (by kernel_rfl) (by kernel_rfl) (by kernel_rfl) (by kernel_rfl)) ?_
  intro W base args ds gs before hval0 hW hcnd _
  have hval : ∀ (j : Nat) t v, Ybev.f3.params[j]? = some t → args[j]? = some v → Value.okWide Ybev.prog W .any base t v := hval0
  have hW' := hW
  obtain ⟨p, q, hA0, hV, rfl, hfz, hnd⟩ := hW
  have hA : DataW.TrodAll enc Ybev.prog W 0 (fun _ => true) true Ybev.f3.params.toList args.toList ds p := hA0
  rw [Ybev.params3] at hA hval
  obtain ⟨v0, vs0, d0, ds0, p0, q0, hargs, rfl, rfl, h0, r0⟩ := trodAll_cons hA
  obtain ⟨rfl, rfl, rfl⟩ := trodAll_nil r0
  obtain rfl : args = #[v0] := by cases args; simp_all
  obtain ⟨rfl, rfl⟩ := trodVars_none hV
  obtain ⟨a0, len0, cap0, rfl⟩ := okWide_slice Ybev.underlying22 (hval 0 22 v0 rfl rfl)
  have k0 := h0
  have lt0 : ∀ x ∈ p0, x.block < W.heap.size := by obtain ⟨m, hm⟩ := k0; exact DataW.trod_lt m _ _ _ hm
  obtain ⟨z0, w0⟩ : ∃ zs, IsRow .u8 W a0 len0 cap0 zs := by
    obtain ⟨fuel, hf⟩ := h0
    rcases open_ints Ybev.underlying22 Ybev.underlying5 (by kernel_rfl) hf with ⟨hcs, _⟩ | ⟨x, l, c, zs, hcs, _, hl, hm, hz, _, hcell, hwz⟩
    · simp [Value.cells] at hcs
      obtain ⟨rfl, rfl, rfl⟩ := hcs
      exact ⟨[], .inl ⟨rfl, rfl, rfl, rfl⟩⟩
    · simp [Value.cells] at hcs
      obtain ⟨rfl, rfl, rfl⟩ := hcs
      exact ⟨zs, .inr ⟨_, rfl, hl, hm, by simpa using hz, hcell, hwz⟩⟩
  clear hA0 hval0
  refine (walk a0 len0 cap0 z0 W w0).mono fun e W' ⟨he, bel⟩ => ?_
  subst he
  exact ⟨_, rfl, _, _, _, [], _, [], hW', trodAll_mk1 (shut_bool Ybev.underlying4 _), (trodAll_cons_mk (Below.trod laidOut (by kernel_rfl) (of_decide_eq_true (by kernel_rfl)) k0 bel lt0) trodAll_mk0), rfl, bel.frame _, fun h => by cases h⟩

theorem over : Rows.lawS930022QAAWholeRow.holds Ybev.pinned (OpenSpec.ofChange Rows.lawS930022QAAWholeSpec) :=
  OpenClaim.holds_of_wide 3 Ybev.f3 rfl rfl rfl rfl rfl rfl rfl ⟨rfl, rfl, rfl, rfl, rfl⟩ rfl rfl rfl rfl rfl (by kernel_rfl) Ybev.func3 (by kernel_rfl)
    (of_decide_eq_true (by kernel_rfl)) (by unfold Func.isWrapper; first | (rw [if_pos (by decide +kernel)]; kernel_rfl) | (rw [if_neg (by decide +kernel)]; exact ⟨rfl, rfl⟩))
    (fun os started H enc _ => lifted os started H enc)

/-- ████ THE STATEMENT ████ -/
theorem proved : Rows.LawS930022QAAWholeSaid := over
end Go.Proofs.Ymwhbe.lawS930022QAAWhole
