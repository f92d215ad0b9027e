/-
  PLAIN LAWS ON THE BITS OF TWO CODES (no Go in sight but the model's own 'bits'): what one round of the bitwise comparison learns, and what all 32 rounds together say of the shifted word.
-/
import Derived.Laws.BitsAllLaws
namespace Go.Proofs.Ymwhbe

/-- The low k bits of 'c shifted down by d' are those of p. -/
def Agree (c p : Int) (d k : Nat) : Prop := ∀ m, m < k → (c.toNat >>> d).testBit m = p.toNat.testBit m

theorem Agree.zero (c p : Int) (d : Nat) : Agree c p d 0 := fun m hm => absurd hm (Nat.not_lt_zero m)

theorem Agree.succ {c p : Int} {d k : Nat} (A : Agree c p d k) (h : (c.toNat >>> d).testBit k = p.toNat.testBit k) : Agree c p d (k + 1) := fun m hm => by
  by_cases e : m = k
  · subst e; exact h
  · exact A m (by omega)

/-- One bit of a word, as Go reads it. -/
theorem bit_at (x : Int) (k : Nat) (h0 : 0 ≤ x) (h1 : x < 4294967296) : bits .and .u32 (x / 2 ^ k) 1 = (((x.toNat.testBit k).toNat : Nat) : Int) := by
  obtain ⟨n, rfl⟩ := Int.eq_ofNat_of_zero_le h0
  have e : ((n : Int) / 2 ^ k) = ((n / 2 ^ k : Nat) : Int) := by simp
  have hle : n / 2 ^ k ≤ n := Nat.div_le_self _ _
  have h2 := u32_and_nat (n / 2 ^ k) 1 (by omega) (by omega)
  rw [e]
  have h2' : bits BinOp.and IntKind.u32 ((n / 2 ^ k : Nat) : Int) 1 = ((n / 2 ^ k &&& 1 : Nat) : Int) := h2
  rw [h2', nat_mask1, Int.toNat_natCast, Nat.toNat_testBit]

theorem toNat_inj {a b : Bool} (h : (((a.toNat : Nat) : Int) != ((b.toNat : Nat) : Int)) = false) : a = b := by
  cases a <;> cases b <;> simp_all

theorem toNat_ne {a b : Bool} (h : (((a.toNat : Nat) : Int) != ((b.toNat : Nat) : Int)) = true) : a ≠ b := by
  cases a <;> cases b <;> simp_all

/-- What the shift by at most 32 gives, as a number. -/
theorem shifted (c p : Int) (d : Nat) (hc0 : 0 ≤ c) (hc1 : c < 4294967296) (hp0 : 0 ≤ p) : (c / 2 ^ min d 32 == p) = (c.toNat >>> d == p.toNat) := by
  obtain ⟨n, rfl⟩ := Int.eq_ofNat_of_zero_le hc0
  obtain ⟨m, rfl⟩ := Int.eq_ofNat_of_zero_le hp0
  have e : ((n : Int) / 2 ^ min d 32) = ((n / 2 ^ min d 32 : Nat) : Int) := by simp
  have e2 : n / 2 ^ min d 32 = n >>> d := by
    rw [Nat.shiftRight_eq_div_pow]
    by_cases h : d ≤ 32
    · rw [Nat.min_eq_left h]
    · rw [Nat.min_eq_right (by omega), Nat.div_eq_of_lt (by omega), Nat.div_eq_of_lt]
      have : 2 ^ 32 ≤ 2 ^ d := Nat.pow_le_pow_right (by omega) (by omega)
      omega
  rw [e, e2, Int.toNat_natCast, Int.toNat_natCast, Bool.eq_iff_iff, beq_iff_eq, beq_iff_eq]
  omega

/-- All 32 bits agree: the words are one. -/
theorem all_same (c p : Int) (d : Nat) (hc0 : 0 ≤ c) (hc1 : c < 4294967296) (hp0 : 0 ≤ p) (hp1 : p < 4294967296) (A : Agree c p d 32) : (c / 2 ^ min d 32 == p) = true := by
  rw [shifted c p d hc0 hc1 hp0, beq_iff_eq]
  apply Nat.eq_of_testBit_eq
  intro i
  by_cases hi : i < 32
  · exact A i hi
  · have h32 : 2 ^ 32 ≤ 2 ^ i := Nat.pow_le_pow_right (by omega) (by omega)
    have hs : c.toNat >>> d ≤ c.toNat := by rw [Nat.shiftRight_eq_div_pow]; exact Nat.div_le_self _ _
    rw [Nat.testBit_lt_two_pow (by omega), Nat.testBit_lt_two_pow (by omega)]

/-- One bit parts: the words part. -/
theorem one_parts (c p : Int) (d k : Nat) (hc0 : 0 ≤ c) (hc1 : c < 4294967296) (hp0 : 0 ≤ p) (h : (c.toNat >>> d).testBit k ≠ p.toNat.testBit k) : (c / 2 ^ min d 32 == p) = false := by
  rw [shifted c p d hc0 hc1 hp0, beq_eq_false_iff_ne]
  intro e
  exact h (by rw [e])

theorem bit_in (c cl pl : Int) (k : Nat) (h : pl ≤ cl) (hc0 : 0 ≤ c) (hc1 : c < 4294967296) :
    bits .and .u32 (c / 2 ^ ((k : Int) + (cl - pl)).toNat) 1 = ((((c.toNat >>> (cl - pl).toNat).testBit k).toNat : Nat) : Int) := by
  rw [bit_at c _ hc0 hc1, Nat.testBit_shiftRight, show ((k : Int) + (cl - pl)).toNat = (cl - pl).toNat + k from by omega]

theorem bit_out (c cl pl : Int) (k : Nat) (hc1 : c < 4294967296) (hd : 32 ≤ (k : Int) + (cl - pl)) : (c.toNat >>> (cl - pl).toNat).testBit k = false := by
  rw [Nat.testBit_shiftRight]
  apply Nat.testBit_lt_two_pow
  have : 2 ^ 32 ≤ 2 ^ ((cl - pl).toNat + k) := Nat.pow_le_pow_right (by omega) (by omega)
  omega

/-! ### The four ways of a round, in the walk's own spelling -/
theorem step_in {c cl p pl : Int} {k : Nat} (h : pl ≤ cl) (hc0 : 0 ≤ c) (hc1 : c < 4294967296) (hp0 : 0 ≤ p) (hp1 : p < 4294967296) (A : Agree c p (cl - pl).toNat k)
    (ht : (bits BinOp.and IntKind.u32 (c / 2 ^ ((k : Int) + (cl - pl)).toNat) 1 != bits BinOp.and IntKind.u32 (p / 2 ^ k) 1) = false) : Agree c p (cl - pl).toNat (k + 1) := by
  rw [bit_in c cl pl k h hc0 hc1, bit_at p k hp0 hp1] at ht
  exact A.succ (toNat_inj ht)

theorem miss_in {c cl p pl : Int} {k : Nat} (h : pl ≤ cl) (hc0 : 0 ≤ c) (hc1 : c < 4294967296) (hp0 : 0 ≤ p) (hp1 : p < 4294967296)
    (ht : (bits BinOp.and IntKind.u32 (c / 2 ^ ((k : Int) + (cl - pl)).toNat) 1 != bits BinOp.and IntKind.u32 (p / 2 ^ k) 1) = true) : (c / 2 ^ min (cl - pl).toNat 32 == p) = false := by
  rw [bit_in c cl pl k h hc0 hc1, bit_at p k hp0 hp1] at ht
  exact one_parts c p _ k hc0 hc1 hp0 (toNat_ne ht)

theorem step_out {c cl p pl : Int} {k : Nat} (hd : 32 ≤ (k : Int) + (cl - pl)) (hc1 : c < 4294967296) (hp0 : 0 ≤ p) (hp1 : p < 4294967296) (A : Agree c p (cl - pl).toNat k)
    (ht : ((0 : Int) != bits BinOp.and IntKind.u32 (p / 2 ^ k) 1) = false) : Agree c p (cl - pl).toNat (k + 1) := by
  rw [bit_at p k hp0 hp1] at ht
  refine A.succ ?_
  rw [bit_out c cl pl k hc1 hd]
  exact toNat_inj (a := false) ht

theorem miss_out {c cl p pl : Int} {k : Nat} (hd : 32 ≤ (k : Int) + (cl - pl)) (hc0 : 0 ≤ c) (hc1 : c < 4294967296) (hp0 : 0 ≤ p) (hp1 : p < 4294967296)
    (ht : ((0 : Int) != bits BinOp.and IntKind.u32 (p / 2 ^ k) 1) = true) : (c / 2 ^ min (cl - pl).toNat 32 == p) = false := by
  rw [bit_at p k hp0 hp1] at ht
  refine one_parts c p _ k hc0 hc1 hp0 ?_
  rw [bit_out c cl pl k hc1 hd]
  exact toNat_ne (a := false) ht

end Go.Proofs.Ymwhbe
