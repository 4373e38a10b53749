/- Contracts, part QE. -/
import Derived.Lib.Bytealg
import Derived.Test.YtomlkmnklonbpaaAmLeaf2
set_option linter.unusedVariables false
set_option linter.unusedSimpArgs false
namespace Go.Proofs.Ytomlkmnklonbpaa.Q
open Go Go.Proofs.Ytomlkmnklonbpaa.AM
/-! lines -/
/-- The place where a line begins and where it ends, k lines on; a line began at f. -/
def go : List UInt8 → Nat → Nat → Nat → Option (Nat × Nat)
  | [], p, f, k => if k = 0 then some (f, p) else none
  | c :: r, p, f, k => if c = 10 then (if k = 0 then some (f, p) else go r (p + 1) (p + 1) (k - 1)) else go r (p + 1) f k
abbrev idx (l : List UInt8) : Int := Lib.indexByte l 10
theorem idx_cons (c : UInt8) (r : List UInt8) : idx (c :: r) = if c = 10 then 0 else if idx r = -1 then -1 else idx r + 1 := by
  simp only [idx, Lib.indexByte]
  by_cases h : c = 10 <;> simp [h]
theorem idx_ge (l : List UInt8) : -1 ≤ idx l := Lib.indexByte_ge l 10
theorem idx_lt : ∀ l : List UInt8, idx l < l.length
  | [] => by simp [idx, Lib.indexByte]
  | c :: r => by
    have := idx_lt r
    rw [idx_cons]
    simp only [List.length_cons]
    split
    · omega
    · split <;> omega
theorem idx_at : ∀ (l : List UInt8), 0 ≤ idx l → l[(idx l).toNat]? = some 10
  | [], h => by simp [idx, Lib.indexByte] at h
  | c :: r, h => by
    rw [idx_cons] at h ⊢
    by_cases hc : c = 10
    · simp [hc]
    · rw [if_neg hc] at h ⊢
      by_cases hr : idx r = -1
      · rw [if_pos hr] at h; omega
      · have hg := idx_ge r
        rw [if_neg hr]
        have e : (idx r + 1).toNat = (idx r).toNat + 1 := by omega
        rw [e, List.getElem?_cons_succ]
        exact idx_at r (by omega)
theorem go_none : ∀ (l : List UInt8) (p f k : Nat), idx l = -1 → go l p f k = if k = 0 then some (f, p + l.length) else none
  | [], p, f, k, _ => by simp [go]
  | c :: r, p, f, k, h => by
    rw [idx_cons] at h
    have hg := idx_ge r
    by_cases hc : c = 10
    · rw [if_pos hc] at h; omega
    · rw [if_neg hc] at h
      by_cases hr : idx r = -1
      · simp only [go]
        rw [if_neg hc, go_none r _ _ _ hr, List.length_cons, show p + 1 + r.length = p + (r.length + 1) by omega]
      · rw [if_neg hr] at h; omega
theorem go_some : ∀ (l : List UInt8) (p f k : Nat), 0 ≤ idx l → go l p f k = if k = 0 then some (f, p + (idx l).toNat) else go (l.drop ((idx l).toNat + 1)) (p + (idx l).toNat + 1) (p + (idx l).toNat + 1) (k - 1)
  | [], p, f, k, h => by simp [idx, Lib.indexByte] at h
  | c :: r, p, f, k, h => by
    have hi := idx_cons c r
    have hg := idx_ge r
    by_cases hc : c = 10
    · rw [if_pos hc] at hi
      rw [hi]
      simp [go, hc]
    · rw [if_neg hc] at hi
      by_cases hr : idx r = -1
      · rw [if_pos hr] at hi; omega
      · rw [if_neg hr] at hi
        simp only [go]
        rw [if_neg hc, go_some r _ _ _ (by omega), hi]
        have e : (idx r + 1).toNat = (idx r).toNat + 1 := by omega
        rw [e]
        simp only [List.drop_succ_cons]
        rw [show p + 1 + (idx r).toNat = p + ((idx r).toNat + 1) by omega]
/-- A line that is found begins and ends in the text. -/
theorem go_le : ∀ (l : List UInt8) (p f k F T : Nat), f ≤ p → go l p f k = some (F, T) → f ≤ F ∧ F ≤ T ∧ p ≤ T ∧ T ≤ p + l.length
  | [], p, f, k, F, T, hf, h => by
    simp only [go] at h
    split at h
    · cases h; simp; omega
    · cases h
  | c :: r, p, f, k, F, T, hf, h => by
    simp only [go] at h
    simp only [List.length_cons]
    split at h
    · split at h
      · cases h; omega
      · have := go_le r _ _ _ _ _ (Nat.le_refl _) h; omega
    · have := go_le r _ _ _ _ _ (by omega) h; omega
/-- Where a line begins, it is the first one. -/
theorem go_at (l : List UInt8) : ∀ (k p F T : Nat), go l p p k = some (F, T) → go (l.drop (F - p)) F F 0 = some (F, T) := by
  intro k
  induction k generalizing l with
  | zero =>
    intro p F T h
    have e : F = p := by
      by_cases hi : idx l = -1
      · rw [go_none _ _ _ _ hi] at h; simp at h; exact h.1.symm
      · rw [go_some _ _ _ _ (by have := idx_ge l; omega)] at h; simp at h; exact h.1.symm
    subst e
    simpa using h
  | succ k ih =>
    intro p F T h
    by_cases hi : idx l = -1
    · rw [go_none _ _ _ _ hi] at h; simp at h
    · have hg : 0 ≤ idx l := by have := idx_ge l; omega
      rw [go_some _ _ _ _ hg] at h
      simp only [Nat.succ_ne_zero, if_false, Nat.add_sub_cancel] at h
      have h1 := go_le _ _ _ _ _ _ (Nat.le_refl _) h
      have := ih _ _ _ _ h
      rw [List.drop_drop] at this
      rw [show (idx l).toNat + 1 + (F - (p + (idx l).toNat + 1)) = F - p by omega] at this
      exact this
theorem count_none : ∀ l : List UInt8, idx l = -1 → l.count 10 = 0
  | [], _ => rfl
  | c :: r, h => by
    rw [idx_cons] at h
    have hg := idx_ge r
    by_cases hc : c = 10
    · rw [if_pos hc] at h; omega
    · rw [if_neg hc] at h
      by_cases hr : idx r = -1
      · rw [List.count_cons, count_none r hr]; simp [hc]
      · rw [if_neg hr] at h; omega
theorem count_some : ∀ l : List UInt8, 0 ≤ idx l → l.count 10 = (l.drop ((idx l).toNat + 1)).count 10 + 1
  | [], h => by simp [idx, Lib.indexByte] at h
  | c :: r, h => by
    have hi := idx_cons c r
    have hg := idx_ge r
    by_cases hc : c = 10
    · rw [if_pos hc] at hi
      rw [hi, List.count_cons]; simp [hc]
    · rw [if_neg hc] at hi
      by_cases hr : idx r = -1
      · rw [if_pos hr] at hi; omega
      · rw [if_neg hr] at hi
        rw [hi, List.count_cons, count_some r (by omega)]
        have e : (idx r + 1).toNat = (idx r).toNat + 1 := by omega
        rw [e]; simp [hc]
/-- There are as many lines as told. -/
theorem go_isSome (l : List UInt8) : ∀ (k p f : Nat), (go l p f k).isSome = true ↔ k ≤ l.count 10 := by
  intro k
  induction k generalizing l with
  | zero =>
    intro p f
    by_cases hi : idx l = -1
    · rw [go_none _ _ _ _ hi]; simp
    · rw [go_some _ _ _ _ (by have := idx_ge l; omega)]; simp
  | succ k ih =>
    intro p f
    by_cases hi : idx l = -1
    · rw [go_none _ _ _ _ hi, count_none l hi]; simp
    · have hg : 0 ≤ idx l := by have := idx_ge l; omega
      rw [go_some _ _ _ _ hg, count_some l hg]
      simp only [Nat.succ_ne_zero, if_false, Nat.add_sub_cancel]
      rw [ih]; omega
/-- Line upon line. -/
theorem go_next (l : List UInt8) : ∀ (k p f F T : Nat), go l p f k = some (F, T) → k < l.count 10 → l[T - p]? = some 10 ∧ p ≤ T ∧ ∃ T', go l p f (k + 1) = some (T + 1, T') := by
  intro k
  induction k generalizing l with
  | zero =>
    intro p f F T h hk
    by_cases hi : idx l = -1
    · rw [count_none l hi] at hk; omega
    · have hg : 0 ≤ idx l := by have := idx_ge l; omega
      rw [go_some _ _ _ _ hg] at h
      simp only [if_true, Option.some.injEq, Prod.mk.injEq] at h
      obtain ⟨rfl, rfl⟩ := h
      refine ⟨by rw [show p + (idx l).toNat - p = (idx l).toNat by omega]; exact idx_at l hg, by omega, ?_⟩
      rw [go_some _ _ _ _ hg]
      simp only [Nat.zero_add, Nat.one_ne_zero, if_false, Nat.sub_self]
      have hs := (go_isSome (l.drop ((idx l).toNat + 1)) 0 (p + (idx l).toNat + 1) (p + (idx l).toNat + 1)).2 (Nat.zero_le _)
      obtain ⟨⟨F', T'⟩, h1⟩ := Option.isSome_iff_exists.1 hs
      have : F' = p + (idx l).toNat + 1 := by
        by_cases hi2 : idx (l.drop ((idx l).toNat + 1)) = -1
        · rw [go_none _ _ _ _ hi2] at h1; simp at h1; exact h1.1.symm
        · rw [go_some _ _ _ _ (by have := idx_ge (l.drop ((idx l).toNat + 1)); omega)] at h1; simp at h1; exact h1.1.symm
      subst this
      exact ⟨T', h1⟩
  | succ k ih =>
    intro p f F T h hk
    by_cases hi : idx l = -1
    · rw [count_none l hi] at hk; omega
    · have hg : 0 ≤ idx l := by have := idx_ge l; omega
      rw [go_some _ _ _ _ hg] at h
      simp only [Nat.succ_ne_zero, if_false, Nat.add_sub_cancel] at h
      obtain ⟨h1, h2, T', h3⟩ := ih _ _ _ _ _ h (by rw [count_some l hg] at hk; omega)
      refine ⟨?_, by omega, T', ?_⟩
      · rw [List.getElem?_drop] at h1
        rw [← h1]; congr 1; omega
      · rw [go_some _ _ _ _ hg]
        simp only [Nat.succ_ne_zero, if_false, Nat.add_sub_cancel]
        exact h3
/-- The last line ends with the text. -/
theorem go_last (l : List UInt8) : ∀ (p f F T : Nat), go l p f (l.count 10) = some (F, T) → T = p + l.length := by
  intro p f F T h
  generalize hk : l.count 10 = k at h
  induction k generalizing l p f with
  | zero =>
    by_cases hi : idx l = -1
    · rw [go_none _ _ _ _ hi] at h; simp at h; exact h.2.symm
    · rw [count_some l (by have := idx_ge l; omega)] at hk; omega
  | succ k ih =>
    by_cases hi : idx l = -1
    · rw [count_none l hi] at hk; omega
    · have hg : 0 ≤ idx l := by have := idx_ge l; omega
      have hlt := idx_lt l
      rw [go_some _ _ _ _ hg] at h
      simp only [Nat.succ_ne_zero, if_false, Nat.add_sub_cancel] at h
      have := ih _ _ _ (by rw [count_some l hg] at hk; omega) h
      simp at this; omega
/-! where the line of a place begins -/
def stt : List UInt8 → Nat → Nat → Nat → Nat
  | _, 0, _, f => f
  | [], _ + 1, _, f => f
  | c :: r, a + 1, p, f => if c = 10 then stt r a (p + 1) (p + 1) else stt r a (p + 1) f
theorem stt_succ : ∀ (l : List UInt8) (a p f : Nat), a < l.length → stt l (a + 1) p f = if l.getD a 0 = 10 then p + a + 1 else stt l a p f
  | [], a, p, f, h => by simp at h
  | c :: r, 0, p, f, h => by
    simp only [stt, List.getD_cons_zero]
  | c :: r, a + 1, p, f, h => by
    simp only [List.getD_cons_succ]
    have := stt_succ r a (p + 1)
    simp only [List.length_cons] at h
    show (if c = 10 then stt r (a + 1) (p + 1) (p + 1) else stt r (a + 1) (p + 1) f) = if r.getD a 0 = 10 then p + (a + 1) + 1 else if c = 10 then stt r a (p + 1) (p + 1) else stt r a (p + 1) f
    rw [this _ (by omega), this _ (by omega)]
    by_cases h1 : r.getD a 0 = 10
    · simp only [h1, if_true, ite_self]; omega
    · simp only [h1, if_false]
theorem stt_go : ∀ (l : List UInt8) (a p f : Nat), f ≤ p → a ≤ l.length → ∃ T, go l p f ((l.take a).count 10) = some (stt l a p f, T) ∧ p + a ≤ T
  | l, 0, p, f, hf, h => by
    have hs := (go_isSome l 0 p f).2 (Nat.zero_le _)
    obtain ⟨⟨F', T'⟩, h1⟩ := Option.isSome_iff_exists.1 hs
    have hle := go_le _ _ _ _ _ _ hf h1
    have : F' = f := by
      by_cases hi2 : idx l = -1
      · rw [go_none _ _ _ _ hi2] at h1; simp at h1; exact h1.1.symm
      · rw [go_some _ _ _ _ (by have := idx_ge l; omega)] at h1; simp at h1; exact h1.1.symm
    subst this
    exact ⟨T', by simpa [stt] using h1, by omega⟩
  | [], a + 1, p, f, hf, h => by simp at h
  | c :: r, a + 1, p, f, hf, h => by
    simp only [List.take_succ_cons, List.count_cons, stt, go]
    simp only [List.length_cons] at h
    by_cases hc : c = 10
    · simp only [hc, if_true, beq_self_eq_true, Nat.succ_ne_zero, if_false, Nat.add_sub_cancel]
      obtain ⟨T, h1, h2⟩ := stt_go r a (p + 1) (p + 1) (Nat.le_refl _) (by omega)
      exact ⟨T, h1, by omega⟩
    · have hb : (c == 10) = false := by simpa using hc
      simp only [hc, hb, if_false, Bool.false_eq_true, Nat.add_zero]
      obtain ⟨T, h1, h2⟩ := stt_go r a (p + 1) f (by omega) (by omega)
      exact ⟨T, h1, by omega⟩
theorem take_count (l : List UInt8) (a : Nat) (h : a < l.length) : (l.take (a + 1)).count 10 = (l.take a).count 10 + if l.getD a 0 = 10 then 1 else 0 := by
  rw [List.take_succ_eq_append_getElem h, List.count_append]
  simp only [List.getD_eq_getElem?_getD, List.getElem?_eq_getElem h, Option.getD_some, List.count_singleton]
  by_cases hc : l[a] = 10 <;> simp [hc]
theorem stt_le (l : List UInt8) : ∀ a, a ≤ l.length → stt l a 0 0 ≤ a ∧ (l.take (stt l a 0 0)).count 10 = (l.take a).count 10 := by
  intro a
  induction a with
  | zero => intro _; cases l <;> simp [stt]
  | succ a ih =>
    intro h
    obtain ⟨h1, h2⟩ := ih (by omega)
    rw [stt_succ _ _ _ _ (by omega), take_count _ _ (by omega)]
    by_cases hc : l.getD a 0 = 10
    · simp only [hc, if_true, Nat.zero_add]
      refine ⟨by omega, ?_⟩
      rw [take_count _ _ (by omega)]; simp only [hc, if_true]
    · simp only [hc, if_false]
      exact ⟨by omega, by rw [h2]; omega⟩
/-- The last end of a line ahead of a place. -/
def lastK (l : List UInt8) : Nat → Int
  | 0 => -1
  | k + 1 => if l.getD k 0 = 10 then (k : Int) else lastK l k
theorem lastK_stt (l : List UInt8) : ∀ a, a ≤ l.length → lastK l a + 1 = stt l a 0 0 := by
  intro a
  induction a with
  | zero => intro _; cases l <;> simp [stt, lastK]
  | succ a ih =>
    intro h
    rw [stt_succ _ _ _ _ (by omega)]
    simp only [lastK]
    split
    · omega
    · exact ih (by omega)
end Go.Proofs.Ytomlkmnklonbpaa.Q
