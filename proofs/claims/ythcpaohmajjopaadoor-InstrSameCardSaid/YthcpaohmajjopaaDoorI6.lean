/- Contracts, part I6. -/
import Derived.Test.YthcpaohmajjopaaDoorI2
import Derived.Test.YthcpaohmajjopaaDoorAmLaid
set_option linter.unusedVariables false
set_option linter.unusedSimpArgs false
namespace Go.Proofs.YthcpaohmajjopaaDoor.I
open Go Go.Proofs.YthcpaohmajjopaaDoor.AM

theorem wf64 {n : Int} (h : (Lit.int .i64 n).wf = true) : -9223372036854775808 ≤ n ∧ n ≤ 9223372036854775807 := by
  simp only [Lit.wf, IntKind.min, IntKind.max, Bool.and_eq_true] at h; simp [IntKind.bits, IntKind.signed] at h; omega
theorem wfu64 {n : Int} (h : (Lit.int .u64 n).wf = true) : 0 ≤ n ∧ n ≤ 18446744073709551615 := by
  simp only [Lit.wf, IntKind.min, IntKind.max, Bool.and_eq_true] at h; simp [IntKind.bits, IntKind.signed] at h; omega
structure Ins.ok (x : Ins) : Prop where
  op : -9223372036854775808 ≤ x.op ∧ x.op ≤ 9223372036854775807
  a : -9223372036854775808 ≤ x.a ∧ x.a ≤ 9223372036854775807
  b : -9223372036854775808 ≤ x.b ∧ x.b ≤ 9223372036854775807
  n : -9223372036854775808 ≤ x.n ∧ x.n ≤ 9223372036854775807
  t : x.t.size ≤ 140737488351232
  s0 : 0 ≤ x.s0 ∧ x.s0 ≤ 18446744073709551615
  s1 : 0 ≤ x.s1 ∧ x.s1 ≤ 18446744073709551615
  s2 : 0 ≤ x.s2 ∧ x.s2 ≤ 18446744073709551615
  s3 : 0 ≤ x.s3 ∧ x.s3 ≤ 18446744073709551615
theorem ins_of {l : List L} (h : WT Tryd.prog 52 l) : ∃ x : Ins, l = x.c ∧ x.ok := by
  obtain ⟨lss, rfl, m0⟩ := h.inv_struct Tryd.underlying52
  obtain ⟨e0, es0, rfl, m1, n1⟩ := All2.cons_inv m0
  obtain ⟨e1, es1, rfl, m2, n2⟩ := All2.cons_inv n1
  obtain ⟨e2, es2, rfl, m3, n3⟩ := All2.cons_inv n2
  obtain ⟨e3, es3, rfl, m4, n4⟩ := All2.cons_inv n3
  obtain ⟨e4, es4, rfl, m5, n5⟩ := All2.cons_inv n4
  obtain ⟨e5, es5, rfl, m6, n6⟩ := All2.cons_inv n5
  obtain rfl := All2.nil_inv n6
  obtain ⟨op, rfl, w1⟩ := m1.inv_int Tryd.underlying3
  obtain ⟨a, rfl, w2⟩ := m2.inv_int Tryd.underlying3
  obtain ⟨b, rfl, w3⟩ := m3.inv_int Tryd.underlying3
  obtain ⟨n, rfl, w4⟩ := m4.inv_int Tryd.underlying3
  obtain ⟨t, rfl, w5⟩ := m5.inv_str Tryd.underlying9
  obtain ⟨ss, rfl, hn, hs⟩ := m6.inv_array Tryd.underlying50
  match ss, hn, hs with
  | [z0, z1, z2, z3], _, hs =>
    obtain ⟨s0, rfl, q0⟩ := (hs 0 z0 rfl).inv_int Tryd.underlying48
    obtain ⟨s1, rfl, q1⟩ := (hs 1 z1 rfl).inv_int Tryd.underlying48
    obtain ⟨s2, rfl, q2⟩ := (hs 2 z2 rfl).inv_int Tryd.underlying48
    obtain ⟨s3, rfl, q3⟩ := (hs 3 z3 rfl).inv_int Tryd.underlying48
    exact ⟨⟨op, a, b, n, t, s0, s1, s2, s3⟩, rfl, ⟨wf64 w1, wf64 w2, wf64 w3, wf64 w4, w5, wfu64 q0, wfu64 q1, wfu64 q2, wfu64 q3⟩⟩
theorem code_list : ∀ (xs : List (List L)), (∀ x ∈ xs, ∃ y : Ins, x = y.c ∧ y.ok) → ∃ code : List Ins, xs = code.map Ins.c ∧ ∀ y ∈ code, y.ok
  | [], _ => ⟨[], rfl, fun y h => by simp at h⟩
  | x :: xs, h => by
    obtain ⟨y, rfl, h1⟩ := h x (by simp)
    obtain ⟨c, rfl, h2⟩ := code_list xs (fun z hz => h z (by simp [hz]))
    refine ⟨y :: c, rfl, fun z hz => ?_⟩
    simp only [List.mem_cons] at hz
    rcases hz with rfl | hz
    · exact h1
    · exact h2 z hz
theorem code_of {ls : List L} (h : WT Tryd.prog 22 ls) : ∃ (code : List Ins) (sp : List (List L)), ls = [.lst .ro 9 (code.map Ins.c) sp] ∧ (∀ x ∈ code, x.ok) ∧ code.length ≤ 140737488351232 := by
  obtain ⟨xs, sp, rfl, hb, hm, hx⟩ := h.inv_lst Tryd.underlying22
  obtain ⟨code, rfl, hc⟩ := code_list xs (fun x h => by
    obtain ⟨i, hi⟩ := List.getElem?_of_mem h
    exact ins_of (hx i x (by
      rw [List.getElem?_append_left]
      · exact hi
      · exact (List.getElem?_eq_some_iff.1 hi).1)))
  have h9 : Tryd.prog.cellsOf 52 = 9 := by kernel_rfl
  have hbb : Tryd.prog.bytesOf 52 = 80 := by kernel_rfl
  rw [hbb] at hb
  refine ⟨code, sp, by rw [h9], hc, ?_⟩
  simp only [List.length_map] at hb
  omega
def cxU : Cx := ⟨fun g => if g = 1 then some usesL else none⟩
theorem cxU_1 : cxU.G 1 = some usesL := rfl
theorem uses_glob {w : World} {fuel : Nat} {cs : Array Value} {ps : List MemPlace} {d : DataW Unit} (hv : w.var? Tryd.prog "harrow/instr.uses" = some cs)
    (h : DataW.trod (fun _ => ()) Tryd.prog w 0 (fun _ => true) false fuel 95 cs.toList = some (d, ps)) (hd : d = .agg (usesN.map fun n => .lit (.int .i64 n))) : GlobOK w 1 usesL := by
  subst hd
  exact glob_ints (by kernel_rfl) hv (table_ints Tryd.underlying95 Tryd.underlying3 (by kernel_rfl) (by kernel_rfl) h) (by decide)
end Go.Proofs.YthcpaohmajjopaaDoor.I
