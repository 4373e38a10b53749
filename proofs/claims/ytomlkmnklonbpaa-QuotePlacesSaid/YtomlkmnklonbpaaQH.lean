/- Contracts, part QH. -/
import Derived.Test.YtomlkmnklonbpaaQE
import Derived.Lib.Bytealg
set_option linter.unusedVariables false
set_option linter.unusedSimpArgs false
namespace Go.Proofs.Ytomlkmnklonbpaa.Q
open Go Go.Proofs.Ytomlkmnklonbpaa.AM
/-! characters -/
def bN (l : List UInt8) (k : Nat) : Nat := (l.getD k 0).toNat
abbrev tl (l : List UInt8) (k : Nat) : Prop := 128 ≤ bN l k ∧ bN l k < 192
/-- How long the first character is. -/
def wd (l : List UInt8) : Nat :=
  if 194 ≤ bN l 0 ∧ bN l 0 ≤ 223 ∧ tl l 1 then 2
  else if 224 ≤ bN l 0 ∧ bN l 0 ≤ 239 ∧ tl l 1 ∧ tl l 2 ∧ (bN l 0 ≠ 224 ∨ 160 ≤ bN l 1) ∧ (bN l 0 ≠ 237 ∨ bN l 1 < 160) then 3
  else if 240 ≤ bN l 0 ∧ bN l 0 ≤ 244 ∧ tl l 1 ∧ tl l 2 ∧ tl l 3 ∧ (bN l 0 ≠ 240 ∨ 144 ≤ bN l 1) ∧ (bN l 0 ≠ 244 ∨ bN l 1 < 144) then 4
  else 1
theorem bN_lt (l : List UInt8) (k : Nat) : bN l k < 256 := (l.getD k 0).toNat_lt
theorem tl_len {l : List UInt8} {k : Nat} (h : tl l k) : k < l.length := by
  rcases Nat.lt_or_ge k l.length with h' | h'
  · exact h'
  · have : bN l k = 0 := by simp [bN, List.getD_eq_getElem?_getD, List.getElem?_eq_none h']
    have := h.1; omega
theorem wd_pos (l : List UInt8) : 1 ≤ wd l ∧ wd l ≤ 4 := by
  unfold wd; split
  · omega
  · split
    · omega
    · split <;> omega
theorem wd_le {l : List UInt8} (h : 0 < l.length) : wd l ≤ l.length := by
  unfold wd
  split
  · rename_i h; have := tl_len h.2.2; omega
  · split
    · rename_i h; have := tl_len h.2.2.2.1; omega
    · split
      · rename_i h; have := tl_len h.2.2.2.2.1; omega
      · omega
theorem val3 (r : Nat) : Utf8.valid (r : Int) = decide (r < 55296 ∨ (57344 ≤ r ∧ r ≤ 1114111)) := by
  unfold Utf8.valid
  rw [Bool.eq_iff_iff]
  simp only [Bool.or_eq_true, Bool.and_eq_true, decide_eq_true_eq]
  omega
theorem dec_core (a0 b0 a1 a2 a3 b1 b2 b3 : Nat) (q0 : a0 = b0) (z0 : b0 < 256) (q1 : 128 ≤ b1 ∧ b1 < 192 → a1 = b1) (q2 : 128 ≤ b2 ∧ b2 < 192 → a2 = b2) (q3 : 128 ≤ b3 ∧ b3 < 192 → a3 = b3) :
    (if a0 < 128 then (a0, 1)
      else if (a0 / 32 == 6 && decide (128 ≤ b1 ∧ b1 < 192)) = true then (if a0 % 32 * 64 + a1 % 64 ≥ 128 then (a0 % 32 * 64 + a1 % 64, 2) else (Utf8.runeError, 1))
      else if (a0 / 16 == 14 && decide (128 ≤ b1 ∧ b1 < 192) && decide (128 ≤ b2 ∧ b2 < 192)) = true then
        (if (decide (a0 % 16 * 4096 + a1 % 64 * 64 + a2 % 64 ≥ 2048) && Utf8.valid ↑(a0 % 16 * 4096 + a1 % 64 * 64 + a2 % 64)) = true then (a0 % 16 * 4096 + a1 % 64 * 64 + a2 % 64, 3) else (Utf8.runeError, 1))
      else if (a0 / 8 == 30 && decide (128 ≤ b1 ∧ b1 < 192) && decide (128 ≤ b2 ∧ b2 < 192) && decide (128 ≤ b3 ∧ b3 < 192)) = true then
        (if (decide (a0 % 8 * 262144 + a1 % 64 * 4096 + a2 % 64 * 64 + a3 % 64 ≥ 65536) && Utf8.valid ↑(a0 % 8 * 262144 + a1 % 64 * 4096 + a2 % 64 * 64 + a3 % 64)) = true then (a0 % 8 * 262144 + a1 % 64 * 4096 + a2 % 64 * 64 + a3 % 64, 4) else (Utf8.runeError, 1))
      else (Utf8.runeError, 1)).2 =
    (if 194 ≤ b0 ∧ b0 ≤ 223 ∧ (128 ≤ b1 ∧ b1 < 192) then 2
      else if 224 ≤ b0 ∧ b0 ≤ 239 ∧ (128 ≤ b1 ∧ b1 < 192) ∧ (128 ≤ b2 ∧ b2 < 192) ∧ (b0 ≠ 224 ∨ 160 ≤ b1) ∧ (b0 ≠ 237 ∨ b1 < 160) then 3
      else if 240 ≤ b0 ∧ b0 ≤ 244 ∧ (128 ≤ b1 ∧ b1 < 192) ∧ (128 ≤ b2 ∧ b2 < 192) ∧ (128 ≤ b3 ∧ b3 < 192) ∧ (b0 ≠ 240 ∨ 144 ≤ b1) ∧ (b0 ≠ 244 ∨ b1 < 144) then 4
      else 1) := by
  subst q0
  simp only [val3, Bool.and_eq_true, beq_iff_eq, decide_eq_true_eq]
  by_cases h1 : 128 ≤ b1 ∧ b1 < 192
  · have e1 := q1 h1; subst e1
    by_cases h2 : 128 ≤ b2 ∧ b2 < 192
    · have e2 := q2 h2; subst e2
      by_cases h3 : 128 ≤ b3 ∧ b3 < 192
      · have e3 := q3 h3; subst e3
        simp only [h1, h2, h3, and_true, true_and]
        (repeat' split) <;> first | rfl | (exfalso; omega)
      · simp only [h1, h2, h3, and_true, true_and, and_false, false_and]
        (repeat' split) <;> first | rfl | (exfalso; omega)
    · simp only [h1, h2, and_true, true_and, and_false, false_and]
      (repeat' split) <;> first | rfl | (exfalso; omega)
  · simp only [h1, and_false, false_and]
    (repeat' split) <;> first | rfl | (exfalso; omega)
/-- The model's decoding is as long. -/
theorem dec_wd (s : ByteArray) (i : Nat) (hi : i < s.size) : (Utf8.decode s i).2 = wd (s.data.toList.drop i) := by
  have hb : ∀ k, i + k < s.size → (s.get! (i + k)).toNat = bN (s.data.toList.drop i) k := by
    intro k hk
    unfold bN
    rw [List.getD_eq_getElem?_getD, List.getElem?_drop]
    have hl : i + k < s.data.toList.length := by rw [size_len]; exact hk
    rw [List.getElem?_eq_getElem hl, Option.getD_some]
    congr 1
    show s.data[i + k]! = _
    rw [getElem!_pos s.data (i + k) (by simpa using hk)]
    simp
  have hn : ∀ k, ¬ i + k < s.size → bN (s.data.toList.drop i) k = 0 := by
    intro k hk
    simp [bN, List.getD_eq_getElem?_getD, List.getElem?_drop, List.getElem?_eq_none (show s.data.toList.length ≤ i + k by rw [size_len]; omega)]
  have hc : ∀ k, (decide (i + k < s.size) && (s.get! (i + k)).toNat / 64 == 2) = decide (tl (s.data.toList.drop i) k) := by
    intro k
    by_cases h : i + k < s.size
    · rw [hb k h]
      have := bN_lt (s.data.toList.drop i) k
      by_cases h2 : bN (s.data.toList.drop i) k / 64 = 2
      · have : tl (s.data.toList.drop i) k := by constructor <;> omega
        simp [h, h2, this]
      · have : ¬ tl (s.data.toList.drop i) k := fun q => h2 (by have := q.1; have := q.2; omega)
        simp [h, h2, this]
    · have : ¬ tl (s.data.toList.drop i) k := fun q => by have := q.1; rw [hn k h] at this; omega
      simp [h, this]
  simp only [Utf8.decode, hc]
  have hl : (s.data.toList.drop i).length = s.size - i := by simp
  have q0 := hb 0 (by omega)
  have q1 : tl (s.data.toList.drop i) 1 → (s.get! (i + 1)).toNat = bN (s.data.toList.drop i) 1 := fun h => hb 1 (by have := tl_len h; omega)
  have q2 : tl (s.data.toList.drop i) 2 → (s.get! (i + 2)).toNat = bN (s.data.toList.drop i) 2 := fun h => hb 2 (by have := tl_len h; omega)
  have q3 : tl (s.data.toList.drop i) 3 → (s.get! (i + 3)).toNat = bN (s.data.toList.drop i) 3 := fun h => hb 3 (by have := tl_len h; omega)
  have z0 := bN_lt (s.data.toList.drop i) 0
  exact dec_core _ _ _ _ _ _ _ _ q0 z0 q1 q2 q3
/-- The ends of the characters. -/
def ends : Nat → List UInt8 → Nat → List Nat
  | 0, _, _ => []
  | n + 1, l, p => if l.length = 0 then [] else (p + wd l) :: ends n (l.drop (wd l)) (p + wd l)
/-- Where characters begin, and the end. -/
def pts (l : List UInt8) : List Nat := 0 :: ends l.length l 0
theorem ends_more : ∀ (n m : Nat) (l : List UInt8) (p : Nat), l.length ≤ n → l.length ≤ m → ends n l p = ends m l p
  | 0, 0, l, p, _, _ => rfl
  | 0, m + 1, l, p, h, _ => by simp only [ends]; rw [if_pos (by omega)]
  | n + 1, 0, l, p, _, h => by simp only [ends]; rw [if_pos (by omega)]
  | n + 1, m + 1, l, p, h1, h2 => by
    simp only [ends]
    split
    · rfl
    · have := wd_pos l
      rw [ends_more n m _ _ (by simp; omega) (by simp; omega)]
theorem ends_mem : ∀ (n : Nat) (l : List UInt8) (p : Nat), ∀ x ∈ ends n l p, p < x ∧ x ≤ p + l.length
  | 0, l, p, x, h => by simp [ends] at h
  | n + 1, l, p, x, h => by
    simp only [ends] at h
    split at h
    · simp at h
    · have h1 := wd_pos l
      have h2 := wd_le (l := l) (by omega)
      rcases List.mem_cons.1 h with rfl | h
      · omega
      · have := ends_mem n _ _ x h
        simp at this; omega
theorem ends_sorted : ∀ (n : Nat) (l : List UInt8) (p : Nat), (ends n l p).Pairwise (· < ·)
  | 0, l, p => by simp [ends]
  | n + 1, l, p => by
    simp only [ends]
    split
    · exact .nil
    · exact .cons (fun x hx => (ends_mem n _ _ x hx).1) (ends_sorted n _ _)
/-- Characters are short. -/
theorem ends_gap : ∀ (n : Nat) (l : List UInt8) (p a : Nat), l.length ≤ n → p ≤ a → a ≤ p + l.length → ∃ x ∈ p :: ends n l p, x ≤ a ∧ a ≤ x + 3
  | 0, l, p, a, hn, h1, h2 => ⟨p, List.mem_cons_self .., h1, by omega⟩
  | n + 1, l, p, a, hn, h1, h2 => by
    simp only [ends]
    split
    · exact ⟨p, List.mem_cons_self .., h1, by omega⟩
    · have w := wd_pos l
      by_cases h : a < p + wd l
      · exact ⟨p, List.mem_cons_self .., h1, by omega⟩
      · have w2 := wd_le (l := l) (by omega)
        obtain ⟨x, hx, h3, h4⟩ := ends_gap n (l.drop (wd l)) (p + wd l) a (by simp; omega) (by omega) (by simp; omega)
        exact ⟨x, List.mem_cons_of_mem _ hx, h3, h4⟩
theorem ends_last : ∀ (n : Nat) (l : List UInt8) (p : Nat), l.length ≤ n → (p :: ends n l p).getLast (by simp) = p + l.length
  | 0, l, p, h => by
    have : l.length = 0 := by omega
    simp [ends, this]
  | n + 1, l, p, h => by
    simp only [ends]
    split
    · rename_i h; simp [h]
    · have w := wd_pos l
      have w2 := wd_le (l := l) (by omega)
      have := ends_last n (l.drop (wd l)) (p + wd l) (by simp; omega)
      rw [List.getLast_cons (by simp), this]
      simp; omega
end Go.Proofs.Ytomlkmnklonbpaa.Q
