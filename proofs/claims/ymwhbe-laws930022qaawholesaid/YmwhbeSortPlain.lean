/-
  THE PLAIN MATHEMATICS OF SORTING SYMBOLS BY LENGTH (no Go in sight): lists of natural numbers alone.
  'ns': the lengths · 'idx ns l k': the symbols below k whose length is l, in order · 'cat F L': F 1 ++ .. ++ F L · 'st ns L': how many symbols have a length in 1 .. L · 'ord ns k': what the slice 'order' holds when k symbols have been placed.
-/
namespace Go.Proofs.Ymwhbe.Srt

def idx (ns : List Nat) (l : Nat) : Nat → List Nat
  | 0 => []
  | k + 1 => if ns.getD k 0 = l then idx ns l k ++ [k] else idx ns l k

def cat (F : Nat → List Nat) : Nat → List Nat
  | 0 => []
  | n + 1 => cat F n ++ F (n + 1)

def st (ns : List Nat) (L : Nat) : Nat := (cat (fun t => idx ns t ns.length) L).length

def cnt (ns : List Nat) (l k : Nat) : Nat := (idx ns l k).length

def seg (ns : List Nat) (k t : Nat) : List Nat := idx ns t k ++ List.replicate (cnt ns t ns.length - cnt ns t k) 0

def ord (ns : List Nat) (k : Nat) : List Nat := cat (seg ns k) 15

/-- All symbols, as the model lists them when m lengths are done and i symbols of the next have been looked at. -/
def lst (ns : List Nat) (m i : Nat) : List Nat := cat (fun t => idx ns t ns.length) m ++ idx ns (m + 1) i

theorem idx_hit {ns : List Nat} {l k : Nat} (h : ns.getD k 0 = l) : idx ns l (k + 1) = idx ns l k ++ [k] := by rw [idx, if_pos h]
theorem idx_miss {ns : List Nat} {l k : Nat} (h : ¬ ns.getD k 0 = l) : idx ns l (k + 1) = idx ns l k := by rw [idx, if_neg h]

theorem cnt_zero (ns : List Nat) (l : Nat) : cnt ns l 0 = 0 := rfl
theorem cnt_hit {ns : List Nat} {l k : Nat} (h : ns.getD k 0 = l) : cnt ns l (k + 1) = cnt ns l k + 1 := by simp [cnt, idx_hit h]
theorem cnt_miss {ns : List Nat} {l k : Nat} (h : ¬ ns.getD k 0 = l) : cnt ns l (k + 1) = cnt ns l k := by simp [cnt, idx_miss h]

theorem cnt_step (ns : List Nat) (l k : Nat) : cnt ns l k ≤ cnt ns l (k + 1) ∧ cnt ns l (k + 1) ≤ cnt ns l k + 1 := by
  by_cases h : ns.getD k 0 = l
  · rw [cnt_hit h]; omega
  · rw [cnt_miss h]; omega

theorem cnt_le (ns : List Nat) (l k : Nat) : cnt ns l k ≤ k := by
  induction k with
  | zero => simp [cnt_zero]
  | succ k ih => have := cnt_step ns l k; omega

theorem cnt_mono (ns : List Nat) (l : Nat) {k m : Nat} (h : k ≤ m) : cnt ns l k ≤ cnt ns l m := by
  induction m with
  | zero => have : k = 0 := by omega
            subst this; exact Nat.le_refl _
  | succ m ih =>
    by_cases e : k = m + 1
    · subst e; exact Nat.le_refl _
    · have := ih (by omega); have := cnt_step ns l m; omega

theorem cat_succ (F : Nat → List Nat) (n : Nat) : cat F (n + 1) = cat F n ++ F (n + 1) := rfl

theorem cat_congr {F G : Nat → List Nat} : ∀ (L : Nat), (∀ t, 1 ≤ t → t ≤ L → F t = G t) → cat F L = cat G L
  | 0, _ => rfl
  | L + 1, h => by rw [cat_succ, cat_succ, cat_congr L (fun t a b => h t a (by omega)), h (L + 1) (by omega) (by omega)]

theorem cat_length_congr {F G : Nat → List Nat} : ∀ (L : Nat), (∀ t, 1 ≤ t → t ≤ L → (F t).length = (G t).length) → (cat F L).length = (cat G L).length
  | 0, _ => rfl
  | L + 1, h => by rw [cat_succ, cat_succ, List.length_append, List.length_append, cat_length_congr L (fun t a b => h t a (by omega)), h (L + 1) (by omega) (by omega)]

theorem cat_length_mono (F : Nat → List Nat) {l L : Nat} (h : l ≤ L) : (cat F l).length ≤ (cat F L).length := by
  induction L with
  | zero => have : l = 0 := by omega
            subst this; exact Nat.le_refl _
  | succ L ih =>
    by_cases e : l = L + 1
    · subst e; exact Nat.le_refl _
    · have := ih (by omega)
      rw [cat_succ, List.length_append]; omega

theorem cat_length_le (F : Nat → List Nat) (c : Nat) : ∀ (L : Nat), (∀ t, 1 ≤ t → t ≤ L → (F t).length ≤ c) → (cat F L).length ≤ L * c
  | 0, _ => by simp [cat]
  | L + 1, h => by
    rw [cat_succ, List.length_append, Nat.add_mul, Nat.one_mul]
    have := cat_length_le F c L (fun t a b => h t a (by omega))
    have := h (L + 1) (by omega) (by omega)
    omega

/-- One place of one part is set: one place of the whole. -/
theorem cat_set {F G : Nat → List Nat} (l m x : Nat) : ∀ (L : Nat), l + 1 ≤ L → (∀ t, t ≠ l + 1 → F t = G t) → G (l + 1) = (F (l + 1)).set m x → m < (F (l + 1)).length →
    cat G L = (cat F L).set ((cat F l).length + m) x
  | 0, h, _, _, _ => by omega
  | L + 1, h, hne, hl, hm => by
    by_cases e : l = L
    · subst e
      rw [cat_succ, cat_succ, hl, ← cat_congr l (fun t _ b => hne t (by omega)), List.set_append_right _ _ (by omega)]
      congr 2
      omega
    · have hlen : (cat F l).length + m < (cat F L).length := by
        have h1 := cat_length_mono F (show l + 1 ≤ L by omega)
        rw [cat_succ, List.length_append] at h1
        omega
      rw [cat_succ, cat_succ, cat_set l m x L (by omega) hne hl hm, List.set_append_left _ _ hlen, hne (L + 1) (by omega)]

/-! ### How many -/
theorem st_zero (ns : List Nat) : st ns 0 = 0 := rfl
theorem st_succ (ns : List Nat) (m : Nat) : st ns (m + 1) = st ns m + cnt ns (m + 1) ns.length := by simp [st, cat_succ, cnt]
theorem st_le (ns : List Nat) (L : Nat) : st ns L ≤ L * ns.length := cat_length_le _ _ L (fun t _ _ => cnt_le ns t _)
theorem st_mono (ns : List Nat) {l L : Nat} (h : l ≤ L) : st ns l ≤ st ns L := cat_length_mono _ h

theorem seg_length (ns : List Nat) (t : Nat) {k : Nat} (h : k ≤ ns.length) : (seg ns k t).length = cnt ns t ns.length := by
  have := cnt_mono ns t h
  rw [seg, List.length_append, List.length_replicate]
  show cnt ns t k + _ = _
  omega

theorem cat_seg_length (ns : List Nat) {k : Nat} (h : k ≤ ns.length) (L : Nat) : (cat (seg ns k) L).length = st ns L :=
  cat_length_congr L (fun t _ _ => seg_length ns t h)

theorem ord_length (ns : List Nat) {k : Nat} (h : k ≤ ns.length) : (ord ns k).length = st ns 15 := cat_seg_length ns h 15

theorem cat_zeros (ns : List Nat) : ∀ L, cat (seg ns 0) L = List.replicate (st ns L) 0
  | 0 => rfl
  | L + 1 => by
    rw [cat_succ, cat_zeros ns L, st_succ, ← List.replicate_append_replicate]
    rfl

theorem ord_zero (ns : List Nat) : ord ns 0 = List.replicate (st ns 15) 0 := cat_zeros ns 15

theorem ord_done (ns : List Nat) : ord ns ns.length = lst ns 15 0 := by
  rw [lst, ord]
  have : idx ns (15 + 1) 0 = [] := rfl
  rw [this, List.append_nil]
  exact cat_congr 15 (fun t _ _ => by simp [seg])

/-! ### One symbol placed -/
theorem seg_other {ns : List Nat} {t k : Nat} (h : ¬ ns.getD k 0 = t) : seg ns k t = seg ns (k + 1) t := by
  rw [seg, seg, idx_miss h, cnt_miss h]

theorem seg_same {ns : List Nat} {t k : Nat} (hk : k < ns.length) (h : ns.getD k 0 = t) : seg ns (k + 1) t = (seg ns k t).set (cnt ns t k) k ∧ cnt ns t k < (seg ns k t).length := by
  have h1 : cnt ns t (k + 1) ≤ cnt ns t ns.length := cnt_mono ns t (by omega)
  rw [cnt_hit h] at h1
  refine ⟨?_, by rw [seg_length ns t (by omega)]; omega⟩
  rw [seg, seg, idx_hit h, cnt_hit h, List.set_append_right _ _ (by show (idx ns t k).length ≤ cnt ns t k; exact Nat.le_refl _)]
  have e : cnt ns t k - (idx ns t k).length = 0 := Nat.sub_self _
  rw [e]
  obtain ⟨d, hd⟩ : ∃ d, cnt ns t ns.length - cnt ns t k = d + 1 := ⟨cnt ns t ns.length - cnt ns t k - 1, by omega⟩
  rw [hd, show cnt ns t ns.length - (cnt ns t k + 1) = d from by omega, List.replicate_succ, List.set_cons_zero, List.append_assoc]
  rfl

theorem ord_hit {ns : List Nat} {l k : Nat} (hk : k < ns.length) (h : ns.getD k 0 = l + 1) (hl : l + 1 ≤ 15) :
    ord ns (k + 1) = (ord ns k).set (st ns l + cnt ns (l + 1) k) k ∧ st ns l + cnt ns (l + 1) k < st ns 15 := by
  have hs := seg_same hk h
  have hc := cat_set (F := seg ns k) (G := seg ns (k + 1)) l (cnt ns (l + 1) k) k 15 hl (fun t ht => seg_other (fun e => ht (by omega))) hs.1 hs.2
  rw [cat_seg_length ns (by omega)] at hc
  refine ⟨hc, ?_⟩
  have h1 := st_mono ns hl
  rw [st_succ] at h1
  have h2 := hs.2
  rw [seg_length ns _ (by omega)] at h2
  omega

theorem ord_miss {ns : List Nat} {k : Nat} (h : ns.getD k 0 = 0 ∨ 15 < ns.getD k 0) : ord ns (k + 1) = ord ns k :=
  cat_congr 15 (fun t a b => (seg_other (by omega)).symm)

/-! ### The model's list -/
theorem lst_hit {ns : List Nat} {m i : Nat} (h : ns.getD i 0 = m + 1) : lst ns m (i + 1) = lst ns m i ++ [i] := by rw [lst, lst, idx_hit h, List.append_assoc]
theorem lst_miss {ns : List Nat} {m i : Nat} (h : ¬ ns.getD i 0 = m + 1) : lst ns m (i + 1) = lst ns m i := by rw [lst, lst, idx_miss h]
theorem lst_next (ns : List Nat) (m : Nat) : lst ns m ns.length = lst ns (m + 1) 0 := by
  rw [lst, lst, cat_succ]
  exact (List.append_nil _).symm
theorem lst_zero (ns : List Nat) : lst ns 0 0 = [] := rfl
theorem lst_le (ns : List Nat) {m i : Nat} (hm : m ≤ 15) (hi : i ≤ ns.length) : (lst ns m i).length ≤ 16 * ns.length := by
  have h1 := st_le ns m
  have h2 := cnt_le ns (m + 1) i
  have h3 : m * ns.length ≤ 15 * ns.length := Nat.mul_le_mul_right _ hm
  rw [lst, List.length_append]
  show st ns m + cnt ns (m + 1) i ≤ _
  omega
theorem lst_length (ns : List Nat) : (lst ns 15 0).length = st ns 15 := by
  rw [← ord_done, ord_length ns (Nat.le_refl _)]

end Go.Proofs.Ymwhbe.Srt
