/- Contracts, part S7. -/
import Derived.Test.YtdoefdmaecaacaaDoorS3
import Derived.Test.YtdoefdmaecaacaaDoorS6
import Derived.Test.YtdoefdmaecaacaaDoorAmLaid
set_option linter.unusedVariables false
set_option linter.unusedSimpArgs false
namespace Go.Proofs.YtdoefdmaecaacaaDoor.S
open Go Go.Proofs.YtdoefdmaecaacaaDoor.AM
variable {X : Cx}
abbrev nd (op : Int) (t : ByteArray) : Nd := ⟨op, 0, t, 0, 0, 0, 0⟩
def ex1 : List Nd := [nd 4 ⟨#[97]⟩, nd 4 ⟨#[98]⟩, nd 7 ⟨#[]⟩, nd 9 ⟨#[]⟩]
def ex2 : List Nd := [nd 4 ⟨#[97]⟩, nd 9 ⟨#[]⟩, nd 13 ⟨#[]⟩]
def ex3 : List Nd := [nd 4 ⟨#[97]⟩, nd 6 ⟨#[115]⟩, nd 7 ⟨#[]⟩, nd 1 ⟨#[]⟩, nd 8 ⟨#[]⟩]
def exg : List Ru := [⟨⟨#[115]⟩, ex3, []⟩]
theorem nd_wf (op : Int) (t : ByteArray) (ho : -9223372036854775808 ≤ op ∧ op ≤ 9223372036854775807) (ht : t.size ≤ 140737488351232) : (nd op t).wf := by
  constructor <;> simp <;> omega
theorem ex1_t (T : Txt X) (ha : T.lit ⟨#[97]⟩ = ⟨#[39, 97, 39]⟩) (hb : T.lit ⟨#[98]⟩ = ⟨#[39, 98, 39]⟩) : putsW (toksP T ex1) w0 = ⟨.tptr 0 0 46, [40, 39, 97, 39, 32, 39, 98, 39, 41, 42], false⟩ := by
  have e : toksP T ex1 = [⟨#[]⟩, ⟨#[40]⟩, T.lit ⟨#[97]⟩, ⟨#[32]⟩, T.lit ⟨#[98]⟩, ⟨#[41]⟩, ⟨#[42]⟩] := rfl
  rw [e, ha, hb]; rfl
theorem ex2_t (T : Txt X) (ha : T.lit ⟨#[97]⟩ = ⟨#[39, 97, 39]⟩) : putsW (toksP T ex2) w0 = ⟨.tptr 0 0 46, [33, 39, 97, 39, 42], false⟩ := by
  have e : toksP T ex2 = [⟨#[33]⟩, ⟨#[]⟩, T.lit ⟨#[97]⟩, ⟨#[42]⟩, ⟨#[]⟩] := rfl
  rw [e, ha]; rfl
theorem exg_t (T : Txt X) (ha : T.lit ⟨#[97]⟩ = ⟨#[39, 97, 39]⟩) : showG T exg = (⟨#[115, 32, 60, 45, 32, 39, 97, 39, 32, 115, 32, 47, 32, 37, 101, 10]⟩, 0) := by
  have hr : rightF exg = 0 := by decide +kernel
  have e : gT T exg = [⟨#[115]⟩ ++ ⟨#[32, 60, 45, 32]⟩, T.lit ⟨#[97]⟩, ⟨#[32]⟩, ⟨#[115]⟩, ⟨#[32, 47, 32]⟩, ⟨#[37, 101]⟩, ⟨#[10]⟩] := rfl
  have e2 : putsW (gT T exg) w0 = ⟨.tptr 0 0 46, [115, 32, 60, 45, 32, 39, 97, 39, 32, 115, 32, 47, 32, 37, 101, 10], false⟩ := by rw [e, ha]; rfl
  unfold showG
  rw [if_neg (fun h => h hr), e2]; rfl
theorem r9 (T : Txt X) (ha : T.lit ⟨#[97]⟩ = ⟨#[39, 97, 39]⟩) (hb : T.lit ⟨#[98]⟩ = ⟨#[39, 98, 39]⟩) : R X Tryd.prog 9 [] [] (.lf (.bool true)) [] := by
  have e1 := ex1_t T ha hb
  have e2 := ex2_t T ha
  have e3 := exg_t T ha
  have c1 : (chk ex1).2 = 0 := by decide +kernel
  have c2 : (chk ex2).2 = 0 := by decide +kernel
  have w1 : ∀ x ∈ ex1, x.wf := by
    intro x hx
    simp only [ex1, List.mem_cons, List.not_mem_nil, or_false] at hx
    rcases hx with rfl | rfl | rfl | rfl <;> exact nd_wf _ _ (by omega) (by decide)
  have w2 : ∀ x ∈ ex2, x.wf := by
    intro x hx
    simp only [ex2, List.mem_cons, List.not_mem_nil, or_false] at hx
    rcases hx with rfl | rfl | rfl <;> exact nd_wf _ _ (by omega) (by decide)
  have w3 : ∀ r ∈ exg, ∀ x ∈ r.bd, x.wf := by
    intro r hr x hx
    simp only [exg, List.mem_cons, List.not_mem_nil, or_false] at hr
    subst hr
    simp only [ex3, List.mem_cons, List.not_mem_nil, or_false] at hx
    rcases hx with rfl | rfl | rfl | rfl | rfl <;> exact nd_wf _ _ (by omega) (by decide)
  have h1 := r21 T ex1 [] w1 c1 (by rw [e1]) (by rw [e1]; decide)
  have h2 := r21 T ex2 [] w2 c2 (by rw [e2]) (by rw [e2]; decide)
  have h3 := r6 T exg [] w3
  rw [e1] at h1
  rw [e2] at h2
  rw [e3] at h3
  simp only [ex1, ex2, exg, ex3, List.map_cons, List.map_nil, Nd.c, Ru.c] at h1 h2 h3
  refine R_i [] [] c9_ok rfl (by simp) ?_
  simp -implicitDefEqProofs (maxSteps := 2000000) only [c9, ↓reduceIte, S0, o_al, o_st, v_st_p, v_stCK, o_bd, v_agK, v_bd_n, v_bd_c, o_bs, v_bsK, v_lit_n, v_lit_c, St.init, enum, Nat.reduceEqDiff, Nat.reduceAdd, reduceCtorEq, PV.leaves, List.all_cons, List.all_nil, PV.cells, cellL, datL, fillL, Nat.reduceMul, Nat.reduceBEq, Nat.reduceLeDiff, Nat.zero_le, Nat.le_refl, List.take_zero, List.drop_zero, List.take_succ_cons, List.drop_succ_cons, List.drop_nil, List.take_nil, kp_s, kc_i, kc_s, rl_s, kp_p, kc_p, rl_l, st_b, plT, ne_eq, not_false_eq_true, lit_n, lit_c, List.reduceReplicate, List.set_cons_zero, List.set_cons_succ, Nat.reduceLT, Nat.lt_add_one]
  refine wcall_down h1 rfl ?_
  simp -implicitDefEqProofs (maxSteps := 2000000) only [c9, ↓reduceIte, S0, o_ext, v_ext0, v_ext1, o_bd, v_agK, v_bd_n, v_bd_c, o_bs, v_bsK, v_lit_n, v_lit_c, Nat.reduceEqDiff, Nat.reduceAdd, reduceCtorEq, St.clr, outV, ownsV, owns1, ownL, List.any_cons, List.any_nil, Bool.or_self, PV.leaves, List.all_cons, List.all_nil, PV.cells, cellL, datL, fillL, Nat.reduceMul, Nat.reduceLeDiff, Nat.le_refl, List.take_zero, List.drop_zero, List.take_succ_cons, List.drop_succ_cons, List.take_nil, kp_s, ro_i, ro_s, rl_s, kp_p, ro_p, ro_lo, rl_l, m_1l, dw_lo, plT, ne_eq, not_false_eq_true, lit_n, lit_c, List.reduceReplicate, List.set_cons_zero, List.set_cons_succ, Nat.reduceLT, Nat.lt_add_one]
  refine wcall_down h2 rfl ?_
  simp -implicitDefEqProofs (maxSteps := 2000000) only [c9, ↓reduceIte, S0, o_ext, v_ext0, v_ext1, o_bd, v_agK, v_bd_n, v_bd_c, o_bs, v_bsK, v_lit_n, v_lit_c, Nat.reduceEqDiff, Nat.reduceAdd, reduceCtorEq, St.clr, outV, ownsV, owns1, ownL, List.any_cons, List.any_nil, Bool.or_self, PV.leaves, List.all_cons, List.all_nil, PV.cells, cellL, datL, fillL, Nat.reduceMul, Nat.reduceLeDiff, Nat.le_refl, List.take_zero, List.drop_zero, List.take_succ_cons, List.drop_succ_cons, List.drop_nil, List.take_nil, kp_s, ro_i, ro_s, rl_s, kp_p, kp_lro, ro_p, ro_lo, rl_l, m_1l, dw_lo, plT, ne_eq, not_false_eq_true, lit_n, lit_c, List.reduceReplicate, List.set_cons_zero, List.set_cons_succ, Nat.reduceLT, Nat.lt_add_one]
  refine wcall_down h3 rfl ?_
  simp -implicitDefEqProofs (maxSteps := 2000000) only [c9, ↓reduceIte, S0, v_seql, o_ext, v_ext0, v_ext1, Nat.reduceEqDiff, cond_false, St.clr, outV, ownsV, owns1, ownL, List.any_cons, List.any_nil, Bool.or_self, ro_i, ro_s, ro_p, ro_lro, ro_lo, m_1l, dw_lo]
end Go.Proofs.YtdoefdmaecaacaaDoor.S
set_option linter.unusedVariables false
set_option linter.unusedSimpArgs false
namespace Go.Proofs.YtdoefdmaecaacaaDoor.S
open Go Go.Proofs.YtdoefdmaecaacaaDoor.AM
variable {X : Cx}
def Ru.lent (r : Ru) : Ru := ⟨r.nm, r.bd, [mkN]⟩
theorem lent_c (g : List Ru) : (g.map Ru.lent).map Ru.c = g.map Ru.lc := by rw [List.map_map]; rfl
theorem goR_lent (n : Nat) : ∀ (g : List Ru) (all : Int), goR n (g.map Ru.lent) all = goR n g all
  | [], _ => rfl
  | r :: g, all => by
    simp only [List.map_cons, goR, Ru.lent]
    rw [goR_lent n g]
theorem rightF_lent (g : List Ru) : rightF (g.map Ru.lent) = rightF g := by
  unfold rightF
  rw [List.length_map, goR_lent]
theorem gT_lent (T : Txt X) (g : List Ru) : gT T (g.map Ru.lent) = gT T g := by
  unfold gT
  rw [List.flatMap_map]
  rfl
theorem showG_lent (T : Txt X) (g : List Ru) : showG T (g.map Ru.lent) = showG T g := by
  unfold showG
  rw [rightF_lent, gT_lent]
theorem r3 (T : Txt X) (ha : T.lit ⟨#[97]⟩ = ⟨#[39, 97, 39]⟩) (hb : T.lit ⟨#[98]⟩ = ⟨#[39, 98, 39]⟩) (g : List Ru) (sp : List (List L)) (hwf : ∀ r ∈ g, ∀ x ∈ r.bd, x.wf) (hg : g.length ≤ 3518437208780) (hbd : ∀ r ∈ g, r.bd.length ≤ 2199023255488) :
    R X Tryd.prog 3 [.ag [.lst .ro 2 (g.map Ru.c) sp]] [] (.lf (.bool true)) [] := by
  have h5 := r5 (X := X) g sp hg hbd
  have h6 := r6 T (g.map Ru.lent) [mkR] (fun r hr => by
    obtain ⟨s, hs, rfl⟩ := List.mem_map.1 hr
    exact hwf s hs)
  rw [lent_c, showG_lent] at h6
  have h7 := r7 T g sp hwf
  rw [ref_show T g hwf] at h7
  have h8 := r8 (X := X) g sp hg hbd
  have h9 := r9 T ha hb
  generalize showG T g = q at *
  obtain ⟨s, e⟩ := q
  refine R_i [] [] c3_ok rfl (by simp) ?_
  simp -implicitDefEqProofs (maxSteps := 2000000) only [c3, ↓reduceIte, S0, o_bx, St.init, enum, Nat.reduceEqDiff, PV.leaves, Nat.zero_le, Nat.le_refl, List.drop_zero, List.take_succ_cons, List.take_nil, kc_l, rl_l, v_bx_a]
  refine wcall_down h5 rfl ?_
  simp -implicitDefEqProofs (maxSteps := 2000000) only [c3, ↓reduceIte, S0, o_al, o_st, v_st_p, v_stCK, Nat.reduceEqDiff, Nat.reduceAdd, St.clr, outV, ownsV, owns1, ownL, List.any_cons, List.any_nil, Bool.or_false, PV.leaves, List.all_cons, List.all_nil, PV.cells, cellL, fillL, Nat.reduceMul, Nat.reduceBEq, Nat.zero_le, Nat.le_refl, List.take_zero, List.drop_zero, List.take_succ_cons, List.drop_succ_cons, List.drop_nil, List.take_nil, kc_p, kc_l, rl_l, st_b, plT, or_false]
  refine wcall_down h6 rfl ?_
  simp -implicitDefEqProofs (maxSteps := 2000000) only [c3, ↓reduceIte, S0, o_ext, v_ext0, v_ext1, Nat.reduceEqDiff, St.clr, outV, ownsV, owns1, ownL, List.any_cons, List.any_nil, Bool.or_self, PV.leaves, Nat.le_refl, List.drop_zero, List.take_succ_cons, List.take_nil, ro_p, ro_lro, ro_lo, rl_l, m_1l, dw_lo]
  refine wcall_down h7 rfl ?_
  simp -implicitDefEqProofs (maxSteps := 2000000) only [c3, ↓reduceIte, S0, q_call, q_ld, v_seql, o_ext, v_ext0, v_ext1, Nat.reduceEqDiff, cond_false, St.clr, outV, ownsV, owns1, ownL, List.any_cons, List.any_nil, Bool.or_self, PV.leaves, Nat.le_refl, List.drop_zero, List.take_succ_cons, List.take_nil, rl_l, m_1l]
  refine wcall_s h8 rfl rfl ?_
  simp -implicitDefEqProofs (maxSteps := 2000000) only [c3, ↓reduceIte, S0, q_call, Nat.reduceEqDiff, cond_false, St.clr, outV, ownsV, owns1, ownL, PV.leaves, ol_b]
  refine wcall_s h9 rfl rfl ?_
  simp -implicitDefEqProofs (maxSteps := 2000000) only [c3, ↓reduceIte, S0, Nat.reduceEqDiff, St.clr, outV, ownsV, owns1, ownL, ol_b]
end Go.Proofs.YtdoefdmaecaacaaDoor.S
set_option linter.unusedVariables false
set_option linter.unusedSimpArgs false
namespace Go.Proofs.YtdoefdmaecaacaaDoor.S
open Go Go.Proofs.YtdoefdmaecaacaaDoor.AM Go.Proofs
def cxS : Cx := ⟨fun g => if g = 2 then some SL.deBL else none⟩
theorem cxS_2 : cxS.G 2 = some SL.deBL := rfl
theorem deB_glob {w : World} {fuel : Nat} {cs : Array Value} {ps : List MemPlace} {d : DataW Unit} (hv : w.var? Tryd.prog "math/bits.deBruijn64tab" = some cs)
    (h : DataW.trod (fun _ => ()) Tryd.prog w 0 (fun _ => true) false fuel 146 cs.toList = some (d, ps)) (hd : d = .agg (Lib.deBruijn64tab.map fun n => .lit (.int .u8 (n : Nat)))) : GlobOK w 2 SL.deBL := by
  have e : SL.deBL = (Lib.deBruijn64tab.map fun n => ((n : Nat) : Int)).map (L.int .u8) := by rw [List.map_map]; rfl
  have e2 : d = .agg ((Lib.deBruijn64tab.map fun n => ((n : Nat) : Int)).map fun n => .lit (.int .u8 n)) := by rw [hd, List.map_map]; rfl
  subst e2
  rw [e]
  exact glob_ints (by kernel_rfl) hv (table_ints Tryd.underlying146 Tryd.underlying5 (by kernel_rfl) (by kernel_rfl) h) (by decide)
theorem wfu64 {n : Int} (h : (Lit.int .u64 n).wf = true) : 0 ≤ n ∧ n ≤ 18446744073709551615 := by
  simp only [Lit.wf, IntKind.min, IntKind.max, Bool.and_eq_true] at h; simp [IntKind.bits, IntKind.signed] at h; omega
theorem nd_of {l : List L} (h : WT Tryd.prog 58 l) : ∃ x : Nd, l = x.c ∧ x.wf := by
  obtain ⟨lss, rfl, m0⟩ := h.inv_struct Tryd.underlying58
  obtain ⟨e0, es0, rfl, m1, n1⟩ := All2.cons_inv m0
  obtain ⟨e1, es1, rfl, m2, n2⟩ := All2.cons_inv n1
  obtain ⟨e2, es2, rfl, m3, n3⟩ := All2.cons_inv n2
  obtain ⟨e3, es3, rfl, m4, n4⟩ := All2.cons_inv n3
  obtain rfl := All2.nil_inv n4
  obtain ⟨op, rfl, w1⟩ := m1.inv_int Tryd.underlying3
  obtain ⟨n, rfl, w2⟩ := m2.inv_int Tryd.underlying3
  obtain ⟨t, rfl, w3⟩ := m3.inv_str Tryd.underlying9
  obtain ⟨ss, rfl, hn, hs⟩ := m4.inv_array Tryd.underlying56
  match ss, hn, hs with
  | [z0, z1, z2, z3], _, hs =>
    obtain ⟨s0, rfl, q0⟩ := (hs 0 z0 rfl).inv_int Tryd.underlying54
    obtain ⟨s1, rfl, q1⟩ := (hs 1 z1 rfl).inv_int Tryd.underlying54
    obtain ⟨s2, rfl, q2⟩ := (hs 2 z2 rfl).inv_int Tryd.underlying54
    obtain ⟨s3, rfl, q3⟩ := (hs 3 z3 rfl).inv_int Tryd.underlying54
    exact ⟨⟨op, n, t, s0, s1, s2, s3⟩, rfl, ⟨wfu64 q0, wfu64 q1, wfu64 q2, wfu64 q3⟩⟩
theorem list_of {α : Type} {c : α → List L} {ok : α → Prop} : ∀ (xs : List (List L)), (∀ x ∈ xs, ∃ y : α, x = c y ∧ ok y) → ∃ g : List α, xs = g.map c ∧ ∀ y ∈ g, ok y
  | [], _ => ⟨[], rfl, fun y h => by simp at h⟩
  | x :: xs, h => by
    obtain ⟨y, rfl, h1⟩ := h x (by simp)
    obtain ⟨g, rfl, h2⟩ := list_of xs (fun z hz => h z (by simp [hz]))
    refine ⟨y :: g, rfl, fun z hz => ?_⟩
    simp only [List.mem_cons] at hz
    rcases hz with rfl | hz
    · exact h1
    · exact h2 z hz
theorem elems_of {P : Program} {e : TypeId} {xs sp : List (List L)} (hx : ∀ (i : Nat) (x : List L), (xs ++ sp)[i]? = some x → WT P e x) : ∀ x ∈ xs, WT P e x := by
  intro x h
  obtain ⟨i, hi⟩ := List.getElem?_of_mem h
  exact hx i x (by rw [List.getElem?_append_left (List.getElem?_eq_some_iff.1 hi).1]; exact hi)
theorem pat_of {ls : List L} (h : WT Tryd.prog 33 ls) : ∃ (p : List Nd) (sp : List (List L)), ls = [.lst .ro 7 (p.map Nd.c) sp] ∧ (∀ x ∈ p, x.wf) ∧ p.length ≤ 2199023255488 := by
  obtain ⟨xs, sp, rfl, hb, hm, hx⟩ := h.inv_lst Tryd.underlying33
  obtain ⟨p, rfl, hc⟩ := list_of (c := Nd.c) (ok := Nd.wf) xs (fun x h => nd_of (elems_of hx x h))
  have h9 : Tryd.prog.cellsOf 58 = 7 := by kernel_rfl
  have hbb : Tryd.prog.bytesOf 58 = 64 := by kernel_rfl
  rw [hbb] at hb
  refine ⟨p, sp, by rw [h9], hc, ?_⟩
  simp only [List.length_map] at hb
  omega
structure Ru.wf (r : Ru) : Prop where
  n : ∀ x ∈ r.bd, x.wf
  l : r.bd.length ≤ 2199023255488
theorem ru_of {l : List L} (h : WT Tryd.prog 37 l) : ∃ r : Ru, l = r.c ∧ r.wf := by
  obtain ⟨lss, rfl, m0⟩ := h.inv_struct Tryd.underlying37
  obtain ⟨e0, es0, rfl, m1, n1⟩ := All2.cons_inv m0
  obtain ⟨e1, es1, rfl, m2, n2⟩ := All2.cons_inv n1
  obtain rfl := All2.nil_inv n2
  obtain ⟨nm, rfl, w1⟩ := m1.inv_str Tryd.underlying9
  obtain ⟨p, sp, rfl, hw, hl⟩ := pat_of m2
  exact ⟨⟨nm, p, sp⟩, rfl, ⟨hw, hl⟩⟩
theorem gram_of {ls : List L} (h : WT Tryd.prog 24 ls) : ∃ (g : List Ru) (sp : List (List L)), ls = [.lst .ro 2 (g.map Ru.c) sp] ∧ (∀ r ∈ g, r.wf) ∧ g.length ≤ 3518437208780 := by
  obtain ⟨lss, rfl, m0⟩ := h.inv_struct Tryd.underlying24
  obtain ⟨e0, es0, rfl, m1, n1⟩ := All2.cons_inv m0
  obtain rfl := All2.nil_inv n1
  obtain ⟨xs, sp, rfl, hb, hm, hx⟩ := m1.inv_lst Tryd.underlying22
  obtain ⟨g, rfl, hc⟩ := list_of (c := Ru.c) (ok := Ru.wf) xs (fun x h => ru_of (elems_of hx x h))
  have h9 : Tryd.prog.cellsOf 37 = 2 := by kernel_rfl
  have hbb : Tryd.prog.bytesOf 37 = 40 := by kernel_rfl
  rw [hbb] at hb
  refine ⟨g, sp, by rw [h9]; rfl, hc, ?_⟩
  simp only [List.length_map] at hb
  omega
theorem r3S (g : List Ru) (sp : List (List L)) (hw : ∀ r ∈ g, r.wf) (hg : g.length ≤ 3518437208780) : R cxS Tryd.prog 3 [.ag [.lst .ro 2 (g.map Ru.c) sp]] [] (.lf (.bool true)) [] :=
  r3 (SL.txt cxS_2) (by decide +kernel) (by decide +kernel) g sp (fun r h => (hw r h).n) hg (fun r h => (hw r h).l)
end Go.Proofs.YtdoefdmaecaacaaDoor.S
