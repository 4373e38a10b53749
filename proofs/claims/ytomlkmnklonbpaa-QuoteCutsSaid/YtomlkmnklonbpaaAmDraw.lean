/- The abstract machine, part Draw. -/
import Derived.Test.YtomlkmnklonbpaaAmCode
import Derived.Orders
import Derived.Deep.Quiet
set_option linter.unusedVariables false
set_option linter.unusedSimpArgs false
namespace Go.Proofs.Ytomlkmnklonbpaa.AM
open Go

/-! ### regions that draw their order: all but the last operation quiet, the last one behind all -/
section
variable {P : Program} {ops : Array Oper} {md : Region.Mode} {C : World → Prop}

def tailFrom (md : Region.Mode) (ops : Array Oper) (n : Nat) : Nat → Nat → Array Bool → Bool
  | 0, _, listed => Region.ready md ops listed == [n]
  | f + 1, k, listed => (Region.ready md ops listed).contains k && Region.free md ops listed k && tailFrom md ops n f (k + 1) (listed.setIfInBounds k true)
def waitsAll (md : Region.Mode) (ops : Array Oper) (n : Nat) : Bool :=
  match ops[n]? with
  | some o => (List.range n).all fun i => o.after.any fun e => Region.binds md e && e.on == i
  | none => false
def tailB (md : Region.Mode) (ops : Array Oper) : Bool :=
  Region.noSelect ops && waitsAll md ops (ops.size - 1) && decide (0 < ops.size) && tailFrom md ops (ops.size - 1) (ops.size - 1) 0 (Array.replicate ops.size false)

theorem waitsAll_spec {n : Nat} (h : waitsAll md ops n = true) : ∃ o, ops[n]? = some o ∧ ∀ i, i < n → ∃ e ∈ o.after, Region.binds md e = true ∧ e.on = i := by
  unfold waitsAll at h
  split at h
  · rename_i o ho
    refine ⟨o, ho, fun i hi => ?_⟩
    have h1 := List.all_eq_true.1 h i (List.mem_range.2 hi)
    obtain ⟨e, he, hb⟩ := Array.any_eq_true'.1 h1
    simp only [Bool.and_eq_true, beq_iff_eq] at hb
    exact ⟨e, he, hb.1, hb.2⟩
  · cases h

def AnyT (P : Program) (md : Region.Mode) (ops : Array Oper) (C : World → Prop) (n : Nat) (Z : Act → Prop) : Nat → Array Bool → Act → Prop
  | 0, listed, a => Region.ready md ops listed = [n] ∧ Z a
  | f + 1, listed, a => Region.ready md ops listed ≠ [] ∧ ∀ i ∈ Region.ready md ops listed, i ≠ n ∧ qOp P ops C i (AnyT P md ops C n Z f (listed.setIfInBounds i true)) a

theorem ready_waits {n i : Nat} (hw : waitsAll md ops n = true) {listed : Array Bool} (hn : n ∈ Region.ready md ops listed) (hi : i < n) : listed.getD i false = true := by
  obtain ⟨o, ho, hall⟩ := waitsAll_spec hw
  obtain ⟨_, o', ho', h⟩ := mem_ready.1 hn
  rw [ho] at ho'
  obtain rfl := Option.some.inj ho'
  obtain ⟨e, he, hb, rfl⟩ := hall i hi
  exact h e he hb

theorem getD_listed {listed : Array Bool} {i : Nat} (h : listed.getD i false = true) : listed.getD i true = true := by
  rcases Nat.lt_or_ge i listed.size with h' | h'
  · simp [h'] at h ⊢; exact h
  · simp [Array.getElem?_eq_none h'] at h

theorem any_of_T {n : Nat} {Z : Act → Prop} {Q' : Exit → Act → World → Prop} (hn : n + 1 = ops.size) (hw : waitsAll md ops n = true)
    (hZ : ∀ a w, C w → Z a → wpOp P ops Q' n (fun a' w' => Q' .normal a' w') a w) : ∀ (f : Nat) (listed : Array Bool) (a : Act) (w : World), listed.size = ops.size → C w → AnyT P md ops C n Z f listed a → wpAny P md ops Q' (f + 1) listed a w
  | 0, listed, a, w, hs, hC, h => by
    refine ⟨fun h0 => (by rw [h.1] at h0; cases h0), fun i hi => ?_⟩
    have hnr : n ∈ Region.ready md ops listed := by rw [h.1]; exact List.mem_cons_self
    have e : i = n := by rw [h.1] at hi; simpa using hi
    subst e
    refine wpOp_mono (fun a' w' hq => ?_) (hZ a w hC h.2)
    refine ⟨?_, hq⟩
    apply List.eq_nil_iff_forall_not_mem.2
    intro j hj
    obtain ⟨hun, o, ho, _⟩ := mem_ready.1 hj
    have hlt : j < ops.size := (Array.getElem?_eq_some_iff.1 ho).1
    by_cases hji : i = j
    · subst hji
      simp [show i < listed.size by omega] at hun
    · rw [Go.getD_set_ne true hji] at hun
      have := getD_listed (ready_waits hw hnr (show j < i by omega))
      rw [this] at hun
      cases hun
  | f + 1, listed, a, w, hs, hC, h => ⟨fun h0 => absurd h0 h.1, fun i hi => wpOp_of_qOp hC (fun a' w' hC' => any_of_T hn hw hZ f _ a' w' (by simp [hs]) hC') (h.2 i hi).2⟩

theorem AnyT_first {n i : Nat} {Z : Act → Prop} {oi : Oper} {v : Value} (hw : waitsAll md ops n = true) (hin : i < n) (hi : ops[i]? = some oi) (hsel : ∀ (j : Nat) (o : Oper) cs b, ops[j]? = some o → o.op ≠ .select cs b) :
    ∀ (f : Nat) (listed : Array Bool) (a : Act),
      (∀ j oj, ops[j]? = some oj → j ≠ i → listed.getD j true = false → (∀ e ∈ oj.after, Region.binds md e = true → e.on ≠ i) → oi.apart ops oj = true) →
      i ∈ Region.ready md ops listed → YieldsIn P ops C oi v a →
      AnyT P md ops C n Z f (listed.setIfInBounds i true) (a.put oi.dst v) → AnyT P md ops C n Z (f + 1) listed a := by
  intro f
  have notn : ∀ {listed : Array Bool}, i ∈ Region.ready md ops listed → n ∉ Region.ready md ops listed := by
    intro listed hr hn
    have h1 := getD_listed (ready_waits hw hn hin)
    rw [(mem_ready.1 hr).1] at h1
    cases h1
  induction f with
  | zero =>
    intro listed a _ hr hy H
    refine ⟨List.ne_nil_of_mem hr, fun j hj => ?_⟩
    by_cases hji : j = i
    · subst hji; exact ⟨by omega, hy.qOp hi H⟩
    · have := ready_mono hj hji
      rw [H.1] at this
      have e : j = n := by simpa using this
      subst e
      exact absurd hj (notn hr)
  | succ f ih =>
    intro listed a hfree hr hy H
    refine ⟨List.ne_nil_of_mem hr, fun j hj => ?_⟩
    by_cases hji : j = i
    · subst hji; exact ⟨by omega, hy.qOp hi H⟩
    · refine ⟨fun e => notn hr (e ▸ hj), ?_⟩
      have h1 := (H.2 j (ready_mono hj hji)).2
      obtain ⟨hjun, oj, hoj, hall⟩ := mem_ready.1 hj
      have hnot : ∀ e ∈ oj.after, Region.binds md e = true → e.on ≠ i := fun e he hb heq => by
        have h1 := getD_listed (hall e he hb)
        rw [heq, (mem_ready.1 hr).1] at h1
        cases h1
      have h2 := qOp_put hoj (hfree j oj hoj hji hjun hnot) (fun cs b => hsel i oi cs b hi) (fun cs b => hsel j oj cs b hoj) hy h1
      refine qOp_mono (fun a' h3 => ih (listed.setIfInBounds j true) a' (fun k ok hk hki hun hno => ?_) (ready_mono hr (Ne.symm hji)) h3.1 ?_) h2
      · refine hfree k ok hk hki ?_ hno
        by_cases hjk : j = k
        · subst hjk; exact hjun
        · rw [Go.getD_set_ne true hjk] at hun; exact hun
      · rw [Array.setIfInBounds_comm _ _ hji]
        exact h3.2

theorem AnyT_lex {n : Nat} {Z : Act → Prop} (hs : Region.noSelect ops = true) (hw : waitsAll md ops n = true) : ∀ (l : List Oper) (k : Nat) (listed : Array Bool) (a : Act), (∀ j, j < l.length → l[j]? = ops[k + j]?) → k + l.length = n →
    tailFrom md ops n l.length k listed = true → wpQuiet P ops C Z l a → AnyT P md ops C n Z l.length listed a
  | [], k, listed, a, _, _, hB, h => ⟨by simpa [tailFrom] using hB, h⟩
  | o :: l, k, listed, a, hl, hk, hB, h => by
    have h0 : ops[k]? = some o := by simpa using (hl 0 (by simp)).symm
    simp only [List.length_cons, tailFrom, Bool.and_eq_true] at hB
    obtain ⟨⟨hr, hf⟩, hB'⟩ := hB
    have hst : qOp P ops C k (wpQuiet P ops C Z l) a := by unfold qOp; simp only [h0]; exact h
    obtain ⟨v, hy, hK⟩ := yieldsIn_of_qOp h0 hst
    simp only [List.length_cons] at hk
    exact AnyT_first hw (by omega) h0 (Region.noSelect_spec hs) l.length listed a (Region.free_spec h0 hf) (by simpa using hr) hy
      (AnyT_lex hs hw l (k + 1) _ _ (fun j hj => by have := hl (j + 1) (by simp; omega); simpa [Nat.add_assoc, Nat.add_comm 1 j] using this) (by omega) hB' hK)

theorem wp_region_tail {id : Nat} {Q : Exit → Act → World → Prop} {a : Act} {w : World} (hm : P.follows .mixedOrders = true) (hB : tailB .any ops = true) (hC : C { w with drawn := w.drawn + 1 })
    (h : wpQuiet P ops C (fun a' => ∀ w', C w' → wpOp P ops Q (ops.size - 1) (fun a'' w'' => Q .normal a'' w'') a' w') (ops.toList.take (ops.size - 1)) a) : (Code.region id ops true).wp P Q a w := by
  simp only [tailB, Bool.and_eq_true, decide_eq_true_eq] at hB
  obtain ⟨⟨⟨hs, hw⟩, hpos⟩, hf⟩ := hB
  have hl : (ops.toList.take (ops.size - 1)).length = ops.size - 1 := by simp
  refine wp_region_any hm ?_
  have h2 := AnyT_lex (C := C) (md := .any) hs hw (ops.toList.take (ops.size - 1)) 0 (Array.replicate ops.size false) a (fun j hj => by
    rw [hl] at hj
    rw [List.getElem?_take_of_lt hj]
    simp) (by rw [hl]; omega) (by rw [hl]; exact hf) h
  have h3 := any_of_T (Q' := Q) (n := ops.size - 1) (by omega) hw (fun a w hc hz => hz w hc) _ _ _ _ (by simp) hC h2
  rw [hl, show ops.size - 1 + 1 = ops.size by omega] at h3
  exact h3
end
end Go.Proofs.Ytomlkmnklonbpaa.AM
