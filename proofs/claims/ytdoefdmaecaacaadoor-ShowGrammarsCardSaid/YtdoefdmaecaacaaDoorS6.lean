/- Contracts, part S6. -/
import Derived.Test.YtdoefdmaecaacaaDoorS4
import Derived.Test.YtdoefdmaecaacaaDoorS1
import Derived.Test.YtdoefdmaecaacaaDoorS5
set_option linter.unusedVariables false
set_option linter.unusedSimpArgs false
namespace Go.Proofs.YtdoefdmaecaacaaDoor.S
open Go Go.Proofs.YtdoefdmaecaacaaDoor.AM
variable {X : Cx}
theorem r69 (s : ByteArray) (i : Nat) : R X Tryd.prog 69 [.lf (.str s), .lf (.int .i64 i)] [] (.lf (.int .i64 (if i < s.size then byteAt s (i : Int) else -1))) [] := by
  have h0 : (0 : Int) ≤ i := by omega
  have b0 := byteAt_0 s i
  have b1 := byteAt_1 s i
  refine R_i [] [] c69_ok rfl (by simp) ?_
  by_cases h : i < s.size
  · have h' : (i : Int) < s.size := by omega
    have wb : IntKind.i64.wrap (byteAt s (i : Int)) = byteAt s (i : Int) := w64 (by omega) (by omega)
    rw [if_pos h]
    simp -implicitDefEqProofs (maxSteps := 2000000) only [c69, h', h0, decide_true, wb, ↓reduceIte, S0, q_lns, v_geq, o_cvi, v_cvi, o_ixs, v_ixs, o_lns, v_lns, St.init, enum, Nat.reduceEqDiff, reduceCtorEq, cond_false]
  · have h' : ¬ (i : Int) < s.size := by omega
    rw [if_neg h]
    simp -implicitDefEqProofs (maxSteps := 2000000) only [c69, h', h0, decide_true, decide_false, ↓reduceIte, S0, q_lns, v_geq, o_lns, v_lns, St.init, enum, Nat.reduceEqDiff, reduceCtorEq, cond_false, Int.reduceNeg]
theorem r51 (y : Int) : R X Tryd.prog 51 [.lf (.int .i64 y)] [] (.lf (.bool (decide (headP y)))) [] := by
  refine R_i [] [] c51_ok rfl (by simp) ?_
  unfold headP
  simp -implicitDefEqProofs (maxSteps := 2000000) only [c51, ↓reduceIte, S0, s_grd_no, q_pk, v_leq, v_geq, St.init, enum, Nat.reduceEqDiff, reduceCtorEq, cond_false, Bool.not_true, Bool.not_false, Bool.true_eq_false, decide_eq_false_iff_not, ite_not]
  (repeat' split) <;> first | exact (decide_eq_true (by omega)).symm | exact (decide_eq_false (by omega)).symm | exact decide_eq_decide.2 (by omega)
theorem r70 (y : Int) : R X Tryd.prog 70 [.lf (.int .i64 y)] [] (.lf (.bool (decide (48 ≤ y ∧ y ≤ 57)))) [] := by
  refine R_i [] [] c70_ok rfl (by simp) ?_
  simp -implicitDefEqProofs (maxSteps := 2000000) only [c70, ↓reduceIte, S0, v_leq, v_geq, St.init, enum, Nat.reduceEqDiff, reduceCtorEq, cond_false, Bool.not_true]
  (repeat' split) <;> first | exact (decide_eq_true (by omega)).symm | exact (decide_eq_false (by omega)).symm | exact decide_eq_decide.2 (by omega)
def runF (s : ByteArray) : Nat → Nat → Nat
  | 0, i => i
  | n + 1, i => if wordP (byteAt s (i : Int)) then runF s n (i + 1) else i
theorem runF_le (s : ByteArray) : ∀ (n i : Nat), runF s n i ≤ n + i
  | 0, i => by simp [runF]
  | n + 1, i => by
    unfold runF
    split
    · have := runF_le s n (i + 1); omega
    · omega
theorem runF_all (s : ByteArray) : ∀ (n i : Nat), runF s n i = n + i ↔ ∀ j, i ≤ j → j < n + i → wordP (byteAt s (j : Int))
  | 0, i => by simp only [runF, Nat.zero_add, true_iff]; intro j h1 h2; omega
  | n + 1, i => by
    unfold runF
    split
    · rename_i h
      have ih := runF_all s n (i + 1)
      rw [show n + 1 + i = n + (i + 1) by omega, ih]
      constructor
      · intro k j h1 h2
        rcases Nat.lt_or_ge i j with h3 | h3
        · exact k j (by omega) h2
        · rw [show j = i by omega]; exact h
      · intro k j h1 h2; exact k j (by omega) h2
    · rename_i h
      constructor
      · intro k; omega
      · intro k; exact absurd (k i (Nat.le_refl _) (by omega)) h
theorem r52 (s : ByteArray) (hs : s.size ≤ 1000) : R X Tryd.prog 52 [.lf (.str s), .lf (.int .i64 0)] [] (.lf (.int .i64 (runF s s.size 0))) [] := by
  refine R_i [] [] c52_ok rfl (by simp) ?_
  generalize hE : ((runF s s.size 0 : Nat) : Int) = E
  have key : ∀ (n i : Nat), n + i = s.size → ((runF s n i : Nat) : Int) = E → LoopAt X Tryd.prog c52_3 [0, 1] (blkK 0 (seqK X Tryd.prog c52_6 (retS [] [] 0 [RV.t 4] (PV.lf (L.int IntKind.i64 E)) [])))
      { m := 0, tm := [(0, PV.lf (L.str s)), (1, PV.lf (L.int IntKind.i64 i))], ce := [] } := by
    intro n
    induction n with
    | zero =>
      intro i hn hq
      have h69 := r69 (X := X) s i
      rw [if_neg (by omega)] at h69
      simp only [runF] at hq
      subst hq
      intro Z hZ; apply hZ
      have d1 : decide (headP (-1)) = false := by decide
      have d2 : decide ((48 : Int) ≤ -1 ∧ (-1 : Int) ≤ 57) = false := by decide
      simp -implicitDefEqProofs (maxSteps := 2000000) only [c52, ↓reduceIte, S0, Nat.reduceEqDiff, reduceCtorEq, PV.leaves, rl_s]
      refine wcall_s h69 rfl rfl ?_
      simp -implicitDefEqProofs (maxSteps := 2000000) only [c52, ↓reduceIte, S0, St.clr, outV, ownsV, owns1, ownL, PV.leaves, Int.reduceNeg]
      refine wcall_s (r51 (-1)) rfl rfl ?_
      rw [d1]
      simp -implicitDefEqProofs (maxSteps := 2000000) only [c52, ↓reduceIte, S0, q_call, Nat.reduceEqDiff, reduceCtorEq, cond_false, St.clr, outV, ownsV, owns1, ownL, PV.leaves, rl_s, ol_b, Int.reduceNeg]
      refine wcall_s h69 rfl rfl ?_
      simp -implicitDefEqProofs (maxSteps := 2000000) only [c52, ↓reduceIte, S0, q_call, Nat.reduceEqDiff, cond_false, St.clr, outV, ownsV, owns1, ownL, PV.leaves, Int.reduceNeg]
      refine wcall_s (r70 (-1)) rfl rfl ?_
      rw [d2]
      simp -implicitDefEqProofs (maxSteps := 2000000) only [c52, ↓reduceIte, S0, s_exit, s_seqK_e, s_blkK_e, s_loopK_e, Nat.reduceEqDiff, reduceCtorEq, St.clr, outV, ownsV, owns1, ownL, ol_b, Int.reduceNeg]
    | succ n ih =>
      intro i hn hq
      have h69 := r69 (X := X) s i
      rw [if_pos (by omega)] at h69
      have wi : IntKind.i64.wrap ((i : Int) + 1) = ((i + 1 : Nat) : Int) := by rw [w64 (by omega) (by omega)]; omega
      unfold runF at hq
      intro Z hZ; apply hZ
      generalize byteAt s (i : Int) = y at *
      have d1 := r51 (X := X) y
      have d2 := r70 (X := X) y
      have ih1 := ih (i + 1) (by omega)
      simp -implicitDefEqProofs (maxSteps := 2000000) only [c52, ↓reduceIte, S0, Nat.reduceEqDiff, reduceCtorEq, PV.leaves, rl_s]
      refine wcall_s h69 rfl rfl ?_
      simp -implicitDefEqProofs (maxSteps := 2000000) only [c52, ↓reduceIte, S0, St.clr, outV, ownsV, owns1, ownL, PV.leaves]
      refine wcall_s d1 rfl rfl ?_
      by_cases hh : headP y
      · rw [if_pos (.inl hh)] at hq
        rw [decide_eq_true hh]
        simp -implicitDefEqProofs (maxSteps := 2000000) only [c52, wi, ↓reduceIte, S0, Nat.reduceEqDiff, reduceCtorEq, Bool.not_false, Bool.true_eq_false, St.clr, outV, ownsV, owns1, ownL, ol_b, pO_s, List.range_zero]
        exact ih1 hq Z hZ
      · rw [decide_eq_false hh]
        simp -implicitDefEqProofs (maxSteps := 2000000) only [c52, ↓reduceIte, S0, q_call, Nat.reduceEqDiff, reduceCtorEq, cond_false, St.clr, outV, ownsV, owns1, ownL, PV.leaves, rl_s, ol_b]
        refine wcall_s h69 rfl rfl ?_
        simp -implicitDefEqProofs (maxSteps := 2000000) only [c52, ↓reduceIte, S0, q_call, Nat.reduceEqDiff, cond_false, St.clr, outV, ownsV, owns1, ownL, PV.leaves]
        refine wcall_s d2 rfl rfl ?_
        by_cases hd : 48 ≤ y ∧ y ≤ 57
        · rw [if_pos (.inr hd)] at hq
          rw [decide_eq_true hd]
          simp -implicitDefEqProofs (maxSteps := 2000000) only [c52, wi, ↓reduceIte, S0, Nat.reduceEqDiff, reduceCtorEq, St.clr, outV, ownsV, owns1, ownL, ol_b, pO_s, List.range_zero]
          exact ih1 hq Z hZ
        · rw [if_neg (fun k => k.elim hh hd)] at hq
          subst hq
          rw [decide_eq_false hd]
          simp -implicitDefEqProofs (maxSteps := 2000000) only [c52, ↓reduceIte, S0, s_exit, s_seqK_e, s_blkK_e, s_loopK_e, Nat.reduceEqDiff, reduceCtorEq, St.clr, outV, ownsV, owns1, ownL, ol_b]
  have k0 := key s.size 0 rfl hE
  simp -implicitDefEqProofs (maxSteps := 2000000) only [c52, ↓reduceIte, S0, s_loop, St.init, enum, Nat.reduceEqDiff, reduceCtorEq, pO_s, List.range_zero]
  exact k0
theorem r35 (s : ByteArray) : R X Tryd.prog 35 [.lf (.str s)] [] (.lf (.bool (decide (nameP s)))) [] := by
  have h52 := fun h => r52 (X := X) s h
  have b0 := byteAt_0 s 0
  have b1 := byteAt_1 s 0
  have h51 := r51 (X := X) (byteAt s 0)
  have hr := runF_all s s.size 0
  have hle := runF_le s s.size 0
  have wb : IntKind.i64.wrap (byteAt s (0 : Int)) = byteAt s (0 : Int) := w64 (by have : (0 : Int) ≤ byteAt s 0 := b0; omega) (by have : byteAt s 0 ≤ 255 := b1; omega)
  refine R_i [] [] c35_ok rfl (by simp) ?_
  generalize hE : decide (nameP s) = r
  have no : ¬ nameP s → false = r := fun h => by rw [← hE, decide_eq_false h]
  simp -implicitDefEqProofs (maxSteps := 2000000) only [c35, wb, ↓reduceIte, S0, q_call, q_cvi, q_ixs, q_lns, v_seql, o_cvi, v_cvi, o_ixs, v_ixs, o_lns, v_lns, St.init, enum, Nat.reduceEqDiff, reduceCtorEq, cond_false, Bool.not_false, Bool.true_eq_false, decide_eq_false_iff_not, PV.leaves, ite_not]
  with_reducible refine ite_pr (fun h => ?_) (fun h => ?_)
  · exact no (fun q => absurd q.1 (by rw [h]; decide))
  have hz : 1 ≤ s.size := by
    rcases Nat.eq_zero_or_pos s.size with h0 | h0
    · refine absurd ?_ h
      have : s.data = #[] := Array.eq_empty_of_size_eq_zero h0
      cases s; simp_all
    · exact h0
  with_reducible refine ite_pr (fun h2 => ?_) (fun h2 => ?_)
  · exact no (fun q => by have := q.2.1; omega)
  refine ⟨⟨by omega, by omega⟩, wcall_s h51 rfl rfl ?_⟩
  by_cases hh : headP (byteAt s 0)
  · rw [decide_eq_true hh]
    simp -implicitDefEqProofs (maxSteps := 2000000) only [c35, ↓reduceIte, S0, q_un, o_un, v_not, Nat.reduceEqDiff, reduceCtorEq, cond_false, Bool.not_true, St.clr, outV, ownsV, owns1, ownL, PV.leaves, rl_s, ol_b]
    refine wcall_s (h52 (by omega)) rfl rfl ?_
    simp -implicitDefEqProofs (maxSteps := 2000000) only [c35, ↓reduceIte, S0, o_lns, v_lns, Nat.reduceEqDiff, reduceCtorEq, St.clr, outV, ownsV, owns1, ownL]
    by_cases ha : runF s s.size 0 = s.size
    · rw [ha]
      have : nameP s := ⟨hz, by omega, hh, fun j hj => (hr.1 (by omega)) j (by omega) (by omega)⟩
      rw [← hE, decide_eq_true this]; simp
    · have : ¬ nameP s := fun q => ha (by have := hr.2 (fun j _ hj => q.2.2.2 j (by omega)); omega)
      rw [← hE, decide_eq_false this, decide_eq_false (by omega)]
  · rw [decide_eq_false hh]
    simp -implicitDefEqProofs (maxSteps := 2000000) only [c35, ↓reduceIte, S0, q_un, o_un, v_not, Nat.reduceEqDiff, reduceCtorEq, cond_false, Bool.not_false, St.clr, outV, ownsV, owns1, ownL, ol_b]
    exact no (fun q => hh q.2.2.1)
end Go.Proofs.YtdoefdmaecaacaaDoor.S
set_option linter.unusedVariables false
set_option linter.unusedSimpArgs false
namespace Go.Proofs.YtdoefdmaecaacaaDoor.S
open Go Go.Proofs.YtdoefdmaecaacaaDoor.AM
variable {X : Cx}
theorem r18 (g : List Ru) (sp : List (List L)) : R X Tryd.prog 18 [.ag [.lst .ro 2 (g.map Ru.c) sp]] [] (.lf (.int .i64 (rightF g))) [] := by
  have hml : (g.map Ru.c).length = g.length := List.length_map _
  refine R_i [] [] c18_ok rfl (by simp) ?_
  generalize hE : rightF g = E
  unfold rightF at hE
  simp -implicitDefEqProofs (maxSteps := 2000000) only [c18, hml, ↓reduceIte, S0, s_loop, o_bx, St.init, enum, Nat.reduceEqDiff, Nat.zero_le, kc_l, pO_p, List.range_zero, v_bx_a]
  intro _
  by_cases h0 : g.length = 0
  · have h0' : (g.length : Int) = 0 := by omega
    rw [if_pos h0] at hE
    subst hE
    simp -implicitDefEqProofs (maxSteps := 2000000) only [c18, h0', ↓reduceIte]
  have h0' : ¬ (g.length : Int) = 0 := by omega
  rw [if_neg h0] at hE
  by_cases h2 : 200 < g.length
  · have h2' : (200 : Int) < g.length := by omega
    rw [if_pos h2] at hE
    subst hE
    simp -implicitDefEqProofs (maxSteps := 2000000) only [c18, h0', h2', hml, ↓reduceIte, implies_true]
  have h2' : ¬ (200 : Int) < g.length := by omega
  rw [if_neg h2] at hE
  simp -implicitDefEqProofs (maxSteps := 2000000) only [c18, h0', h2', hml, ↓reduceIte]
  intro _
  have key : ∀ (q d : List Ru) (all : Int), d ++ q = g → 0 ≤ all → all ≤ 2048 → goR g.length q all = E →
      LoopAt X Tryd.prog c18_24 [1, 3, 4] (blkK 0 (seqK X Tryd.prog c18_28 (retS [] [] 0 [RV.t 2] (PV.lf (L.int IntKind.i64 E)) [])))
        { m := 0, tm := [(1, .lf (.ptr 1 0)), (3, .lf (.int .i64 all)), (4, .lf (.int .i64 d.length))], ce := [(1, [.lst .ro 2 (g.map Ru.c) sp])] } := by
    intro q
    induction q with
    | nil =>
      intro d all hd _ _ hq
      simp only [List.append_nil] at hd
      have hlt : ¬ (d.length : Int) < g.length := by rw [hd]; omega
      simp only [goR] at hq
      subst hq
      intro Z hZ; apply hZ
      simp -implicitDefEqProofs (maxSteps := 2000000) only [c18, hlt, decide_false, hml, ↓reduceIte, S0, s_exit, s_seqK_e, s_blkK_e, s_loopK_e, Nat.reduceEqDiff, implies_true]
    | cons x q ih =>
      intro d all hd ha0 ha1 hq
      have hdl : d.length < g.length := by rw [← hd]; simp
      have hlt : (d.length : Int) < g.length := by omega
      have h35 := r35 (X := X) x.nm
      have h36 := r36 (X := X) x.bd x.sp
      have hlen := fun h => chk_len (p := x.bd) h
      have hihn := fun a h1 h2 h3 => ih (d ++ [x]) a (by simp [← hd]) h1 h2 h3
      obtain ⟨nm, bd, bsp⟩ := x
      have hx : (g.map Ru.c).getD ((d.length : Nat) : Int).toNat [] = [.str nm, .lst .ro 7 (bd.map Nd.c) bsp] := by
        rw [Int.toNat_natCast, List.getD_eq_getElem?_getD, List.getElem?_map, ← hd]; simp
      have hbl : (bd.map Nd.c).length = bd.length := List.length_map _
      have wd : IntKind.i64.wrap ((d.length : Int) + 1) = ((d.length + 1 : Nat) : Int) := by rw [w64 (by omega) (by omega)]; omega
      simp only [goR] at hq
      simp only at h35 h36 hlen
      intro Z hZ; apply hZ
      simp -implicitDefEqProofs (maxSteps := 2000000) only [c18, hlt, decide_true, hx, v_ld_e, hml, ↓reduceIte, S0, o_al, o_st, v_st_p, v_stCK, Nat.reduceEqDiff, Nat.reduceAdd, PV.leaves, List.all_cons, List.all_nil, PV.cells, cellL, fillL, Nat.reduceBEq, Nat.zero_le, Nat.le_refl, List.take_zero, List.drop_zero, List.take_succ_cons, List.drop_succ_cons, List.drop_nil, List.take_nil, kc_b, kc_i, kc_s, rl_s, kc_p, kc_l, st_b, kc_er]
      intro _
      refine ⟨⟨by omega, by omega⟩, by omega, wcall_s h35 rfl rfl ?_⟩
      by_cases hn : nameP nm
      · rw [decide_eq_true hn]
        rw [if_neg (fun h => h.1 hn)] at hq
        simp -implicitDefEqProofs (maxSteps := 2000000) only [c18, ↓reduceIte, S0, s_grd_no, o_un, v_not, Nat.reduceEqDiff, Bool.not_true, St.clr, outV, ownsV, owns1, ownL, PV.leaves, ol_b, rl_l]
        refine wcall_s h36 rfl rfl ?_
        simp -implicitDefEqProofs (maxSteps := 2000000) only [c18, hbl, ↓reduceIte, S0, s_loopK_r, v_neq, o_ext, v_ext0, v_ext1, Nat.reduceEqDiff, St.clr, outV, ownsV, owns1, ownL, List.any_cons, List.any_nil, Bool.or_self, m_1l, pO_p, List.range_zero, ne_eq, ite_not]
        with_reducible refine ite_pr (fun hc => ?_) (fun hc => ?_)
        · rw [if_neg (fun h => h hc)] at hq
          have hl := hlen hc
          have wa : IntKind.i64.wrap (all + (bd.length : Int)) = all + bd.length := w64 (by omega) (by omega)
          intro _
          rw [wa]
          by_cases hb : 2048 < all + (bd.length : Int)
          · rw [if_pos hb] at hq
            rw [if_pos hb]
            exact hq
          · rw [if_neg hb] at hq
            rw [if_neg hb, wd]
            have hz := hihn _ (by omega) (by omega) hq Z hZ
            simp only [List.length_append, List.length_cons, List.length_nil, Nat.zero_add] at hz
            exact hz
        · rw [if_pos hc] at hq
          exact hq
      · rw [decide_eq_false hn]
        by_cases h1 : nm = ⟨#[]⟩
        · by_cases hg1 : 1 < g.length
          · have hg1' : (1 : Int) < g.length := by omega
            rw [if_pos ⟨hn, .inr hg1⟩] at hq
            simp -implicitDefEqProofs (maxSteps := 2000000) only [c18, h1, hml, hg1', ↓reduceIte, S0, s_loopK_r, q_pk, q_fa, q_ld, q_len, v_sneq, o_un, v_not, Nat.reduceEqDiff, cond_false, Bool.not_false, decide_eq_false_iff_not, St.clr, outV, ownsV, owns1, ownL, ol_b, ne_eq, Decidable.not_not]
            intro _
            exact hq
          · have hg1' : ¬ (1 : Int) < g.length := by omega
            rw [if_neg (fun h => h.2.elim (fun k => k h1) hg1)] at hq
            simp -implicitDefEqProofs (maxSteps := 2000000) only [c18, h1, hml, hg1', ↓reduceIte, S0, q_pk, q_fa, q_ld, q_len, v_sneq, o_un, v_not, Nat.reduceEqDiff, cond_false, Bool.not_false, decide_eq_false_iff_not, St.clr, outV, ownsV, owns1, ownL, PV.leaves, ol_b, rl_l, ne_eq, Decidable.not_not]
            intro _
            refine wcall_s h36 rfl rfl ?_
            simp -implicitDefEqProofs (maxSteps := 2000000) only [c18, hbl, ↓reduceIte, S0, s_loopK_r, v_neq, o_ext, v_ext0, v_ext1, Nat.reduceEqDiff, St.clr, outV, ownsV, owns1, ownL, List.any_cons, List.any_nil, Bool.or_self, m_1l, pO_p, List.range_zero, ne_eq, ite_not]
            with_reducible refine ite_pr (fun hc => ?_) (fun hc => ?_)
            · rw [if_neg (fun h => h hc)] at hq
              have hl := hlen hc
              have wa : IntKind.i64.wrap (all + (bd.length : Int)) = all + bd.length := w64 (by omega) (by omega)
              intro _
              rw [wa]
              by_cases hb : 2048 < all + (bd.length : Int)
              · rw [if_pos hb] at hq
                rw [if_pos hb]
                exact hq
              · rw [if_neg hb] at hq
                rw [if_neg hb, wd]
                have hz := hihn _ (by omega) (by omega) hq Z hZ
                simp only [List.length_append, List.length_cons, List.length_nil, Nat.zero_add] at hz
                exact hz
            · rw [if_pos hc] at hq
              exact hq
        · rw [if_pos ⟨hn, .inl h1⟩] at hq
          simp -implicitDefEqProofs (maxSteps := 2000000) only [c18, h1, hml, ↓reduceIte, S0, s_loopK_r, q_pk, q_fa, q_ld, q_len, v_sneq, o_un, v_not, Nat.reduceEqDiff, cond_false, Bool.not_false, Bool.true_eq_false, decide_eq_false_iff_not, St.clr, outV, ownsV, owns1, ownL, PV.leaves, ol_b, rl_l, ne_eq, not_false_eq_true, ite_not]
          exact hq
  exact key g [] 0 rfl (by decide) (by decide) hE
end Go.Proofs.YtdoefdmaecaacaaDoor.S
set_option linter.unusedVariables false
set_option linter.unusedSimpArgs false
namespace Go.Proofs.YtdoefdmaecaacaaDoor.S
open Go Go.Proofs.YtdoefdmaecaacaaDoor.AM
variable {X : Cx}
theorem flat_tub (l : List UInt8) (b : Bool) : Flat (.tp [.lf (.lst (.own 0 5) 1 (ub l) []), .lf (.bool b)]) := by
  intro v hv
  simp only [List.mem_cons, List.mem_nil_iff, or_false] at hv
  rcases hv with rfl | rfl
  · refine ⟨fun x hx c hc => ?_, rfl⟩
    obtain ⟨a, _, rfl⟩ := List.mem_map.1 hx
    simp only [List.mem_cons, List.mem_nil_iff, or_false] at hc
    subst hc; rfl
  · rfl
def toksQ (T : Txt X) (p : List Nd) : List ByteArray :=
  match treeP p with
  | some t => toksR T t
  | none => []
def nameT (nm : ByteArray) (y : List UInt8) : List UInt8 := if nm = ⟨#[]⟩ then y else y ++ (nm ++ ⟨#[32, 60, 45, 32]⟩).data.toList
def goQ (T : Txt X) : List Ru → List UInt8 → ByteArray × Int
  | [], y => (⟨y.toArray⟩, 0)
  | r :: rs, y => if (putsT (toksQ T r.bd) (nameT r.nm y, false)).2 = true ∨ 65536 < (putsT (toksQ T r.bd) (nameT r.nm y, false)).1.length + 1 then (⟨#[]⟩, 2) else goQ T rs ((putsT (toksQ T r.bd) (nameT r.nm y, false)).1 ++ [10])
def refG (T : Txt X) (g : List Ru) : ByteArray × Int := if ¬ rightF g = 0 then (⟨#[]⟩, rightF g) else goQ T g []
set_option maxHeartbeats 1000000 in
theorem r7 (T : Txt X) (g : List Ru) (sp : List (List L)) (hwf : ∀ r ∈ g, ∀ x ∈ r.bd, x.wf) : R X Tryd.prog 7 [.ag [.lst .ro 2 (g.map Ru.c) sp]] [] (.tp [.lf (.str (refG T g).1), .lf (.int .i64 (refG T g).2)]) [] := by
  have hml : (g.map Ru.c).length = g.length := List.length_map _
  have h18 := r18 (X := X) g sp
  refine R_i [] [] c7_ok rfl (by simp) ?_
  by_cases hr : rightF g = 0
  · obtain ⟨hg2, hg1, hrs⟩ := right_ok hr
    rw [hr] at h18
    unfold refG
    rw [if_neg (fun h => h hr)]
    generalize hE : goQ T g [] = E
    have key : ∀ (q d : List Ru) (y : List UInt8), d ++ q = g → y.length ≤ 65536 → (d = [] ∨ 0 < y.length) → goQ T q y = E →
        LoopAt X Tryd.prog c7_17 [1, 5, 6] (blkK 0 (seqK X Tryd.prog c7_21 (retS [] [] 0 [RV.t 2, RV.t 3] (PV.tp [PV.lf (L.str E.1), PV.lf (L.int IntKind.i64 E.2)]) [])))
          { m := 0, tm := [(1, .lf (.ptr 1 0)), (5, .lf (.lst (.own 640 5) 1 (ub y) [])), (6, .lf (.int .i64 d.length))], ce := [(1, [.lst .ro 2 (g.map Ru.c) sp])] } := by
      intro q
      induction q with
      | nil =>
        intro d y hd hy hpos hq
        simp only [List.append_nil] at hd
        have hlt : ¬ (d.length : Int) < g.length := by rw [hd]; omega
        have hy0 : 0 < y.length := by
          rcases hpos with h | h
          · rw [← hd, h] at hg1; simp at hg1
          · exact h
        simp only [goQ] at hq
        subst hq
        intro Z hZ; apply hZ
        simp -implicitDefEqProofs (maxSteps := 2000000) only [c7, hlt, decide_false, hml, ↓reduceIte, S0, s_exit, s_seqK_e, s_blkK_e, s_loopK_e, o_cbs, Nat.reduceEqDiff, t_c, t_1l, t_s, one_2, implies_true, v_cbs_ub]
      | cons x q ih =>
        intro d y hd hy hpos hq
        have hdl : d.length < g.length := by rw [← hd]; simp
        have hlt : (d.length : Int) < g.length := by omega
        obtain ⟨hnm, hck⟩ := hrs x (by rw [← hd]; simp)
        have hwx := hwf x (by rw [← hd]; simp)
        obtain ⟨t, ht, -, -, -, -⟩ := at_tree hwx hck
        have hny : (nameT x.nm y).length ≤ 70000 := by
          unfold nameT; split
          · omega
          · have e4 : ByteArray.size ⟨#[32, 60, 45, 32]⟩ = 4 := rfl
            have e5 : (x.nm ++ ⟨#[32, 60, 45, 32]⟩).data.toList.length = x.nm.size + 4 := by rw [Array.length_toList]; show (x.nm ++ ⟨#[32, 60, 45, 32]⟩).size = _; rw [ByteArray.size_append, e4]
            rw [List.length_append, e5]; omega
        have hQ : toksQ T x.bd = toksR T t := by simp only [toksQ, treeP, ht]
        have h19 := r19 T hwx hck ht x.sp (nameT x.nm y) hny
        have okq := putsT_ok (toksR T t) (q := (nameT x.nm y, false)) hny
        simp only [goQ, hQ] at hq
        have ihn := fun y' => ih (d ++ [x]) y' (by simp [← hd])
        generalize putsT (toksR T t) (nameT x.nm y, false) = z at *
        obtain ⟨nm, bd, bsp⟩ := x
        have hx : (g.map Ru.c).getD ((d.length : Nat) : Int).toNat [] = [.str nm, .lst .ro 7 (bd.map Nd.c) bsp] := by
          rw [Int.toNat_natCast, List.getD_eq_getElem?_getD, List.getElem?_map, ← hd]; simp
        have wd : IntKind.i64.wrap ((d.length : Int) + 1) = ((d.length + 1 : Nat) : Int) := by rw [w64 (by omega) (by omega)]; omega
        simp only at hnm hck hwx h19 hny hq
        have e4 : ByteArray.size ⟨#[32, 60, 45, 32]⟩ = 4 := rfl
        intro Z hZ; apply hZ
        by_cases hn : nm = ⟨#[]⟩
        · have hnt : nameT nm y = y := by unfold nameT; rw [if_pos hn]
          rw [hnt] at h19
          simp -implicitDefEqProofs (maxSteps := 2000000) only [c7, hlt, decide_true, hx, v_ld_e, hml, hn, ↓reduceIte, S0, v_sadd, v_sneq, v_fa_e, o_aps, v_aps_o, Nat.reduceEqDiff, Nat.reduceAdd, PV.leaves, Nat.reduceMul, Nat.reduceBEq, kp_b, kp_s, kp_u, kp_p, kp_lro, kp_lo, rl_l, plT, ne_eq, ite_not, kp_er, rk_er, ub_len, ba_size]
          have hbl : (ub z.1).length = z.1.length := List.length_map _
          intro _
          refine ⟨⟨by omega, by omega⟩, by omega, ⟨by omega, by omega⟩, by omega, ?_⟩
          refine wcall_m [] 0 rfl rfl h19 rfl rfl (flat_tub _ _) ?_
          simp -implicitDefEqProofs (maxSteps := 2000000) only [c7, wd, ↓reduceIte, S0, s_loopK_r, q_len, o_un, v_not, o_ext, v_ext0, v_ext1, o_bs, v_bsK, v_lit_n, v_lit_c, o_app, v_app_o, Nat.reduceEqDiff, Nat.reduceAdd, reduceCtorEq, cond_false, Bool.not_true, Bool.not_false, Bool.true_eq_false, t_c, t_1l, t_s, one_2, St.clr, outV, ownsV, owns1, ownL, List.any_cons, List.any_nil, Bool.or_false, Bool.or_self, List.all_cons, List.all_nil, PV.cells, datL, Nat.reduceMul, Nat.reduceBEq, Nat.reduceLeDiff, kp_b, ol_b, kp_p, kp_lro, kp_lo, m_1l, pO_p, List.range_zero, plT, lit_n, lit_c, List.reduceReplicate, List.set_cons_zero, List.length_append, Nat.lt_add_one, or_false, Bool.not_eq_eq_eq_not, kp_er, kps_er, rk_er, ub_len, kp_lk, rk_lk, lp_b, lp_i, lp_p, lp_lr, lp_lo]
          refine ⟨by omega, ?_⟩
          obtain ⟨zy, zg⟩ := z
          simp only at hq okq ihn ⊢
          cases zg with
          | true =>
            rw [if_pos (.inl rfl)] at hq
            subst hq
            simp
          | false =>
            simp only [Bool.false_eq_true, false_or] at hq
            rw [if_pos rfl]
            intro _
            by_cases h65 : 65536 < zy.length + 1
            · rw [if_pos h65] at hq
              rw [if_pos (by omega)]
              subst hq
              exact ⟨rfl, rfl⟩
            · rw [if_neg h65] at hq
              rw [if_neg (by omega)]
              have hz := ihn (zy ++ [10]) (by simp; omega) (.inr (by simp)) hq Z hZ
              simp only [List.length_append, List.length_cons, List.length_nil, Nat.zero_add, ub, List.map_append, List.map_cons, List.map_nil] at hz
              exact hz
        · have hnt : nameT nm y = y ++ (nm ++ ⟨#[32, 60, 45, 32]⟩).data.toList := by unfold nameT; rw [if_neg hn]
          rw [hnt] at h19
          have hub : ub y ++ bytesL (nm ++ ⟨#[32, 60, 45, 32]⟩) = ub (y ++ (nm ++ ⟨#[32, 60, 45, 32]⟩).data.toList) := by rw [bytesL_ub, ub_app]
          simp -implicitDefEqProofs (maxSteps := 2000000) only [c7, hlt, decide_true, hx, v_ld_e, hml, hn, hub, ↓reduceIte, S0, v_sadd, v_sneq, v_fa_e, o_aps, v_aps_o, Nat.reduceEqDiff, Nat.reduceAdd, PV.leaves, Nat.reduceMul, Nat.reduceBEq, kp_b, kp_s, kp_u, kp_p, kp_lro, kp_lo, rl_l, plT, ne_eq, not_false_eq_true, kp_er, rk_er, ub_len, ba_size]
          intro _
          refine ⟨⟨by omega, by omega⟩, by omega, ⟨by omega, by omega⟩, by omega, by omega, by rw [ByteArray.size_append, e4]; omega, ⟨by omega, by omega⟩, by omega, ?_⟩
          refine wcall_m [] 0 rfl rfl h19 rfl rfl (flat_tub _ _) ?_
          simp -implicitDefEqProofs (maxSteps := 2000000) only [c7, wd, ↓reduceIte, S0, s_loopK_r, q_len, o_un, v_not, o_ext, v_ext0, v_ext1, o_bs, v_bsK, v_lit_n, v_lit_c, o_app, v_app_o, Nat.reduceEqDiff, Nat.reduceAdd, reduceCtorEq, cond_false, Bool.not_true, Bool.not_false, Bool.true_eq_false, t_c, t_1l, t_s, one_2, St.clr, outV, ownsV, owns1, ownL, List.any_cons, List.any_nil, Bool.or_false, Bool.or_self, List.all_cons, List.all_nil, PV.cells, datL, Nat.reduceMul, Nat.reduceBEq, Nat.reduceLeDiff, kp_b, ol_b, kp_p, kp_lro, kp_lo, m_1l, pO_p, List.range_zero, plT, lit_n, lit_c, List.reduceReplicate, List.set_cons_zero, List.length_append, Nat.lt_add_one, or_false, Bool.not_eq_eq_eq_not, kp_er, kps_er, rk_er, ub_len, kp_lk, rk_lk, lp_b, lp_i, lp_p, lp_lr, lp_lo]
          refine ⟨by omega, ?_⟩
          obtain ⟨zy, zg⟩ := z
          simp only at hq okq ihn ⊢
          cases zg with
          | true =>
            rw [if_pos (.inl rfl)] at hq
            subst hq
            simp
          | false =>
            simp only [Bool.false_eq_true, false_or] at hq
            rw [if_pos rfl]
            intro _
            by_cases h65 : 65536 < zy.length + 1
            · rw [if_pos h65] at hq
              rw [if_pos (by omega)]
              subst hq
              exact ⟨rfl, rfl⟩
            · rw [if_neg h65] at hq
              rw [if_neg (by omega)]
              have hz := ihn (zy ++ [10]) (by simp; omega) (.inr (by simp)) hq Z hZ
              simp only [List.length_append, List.length_cons, List.length_nil, Nat.zero_add, ub, List.map_append, List.map_cons, List.map_nil] at hz
              exact hz
    simp -implicitDefEqProofs (maxSteps := 2000000) only [c7, ↓reduceIte, S0, o_bx, St.init, enum, Nat.reduceEqDiff, PV.leaves, Nat.zero_le, Nat.le_refl, List.drop_zero, List.take_succ_cons, List.take_nil, kc_l, rl_l, v_bx_a]
    refine wcall_s h18 rfl rfl ?_
    simp -implicitDefEqProofs (maxSteps := 2000000) only [c7, hml, ↓reduceIte, S0, s_loop, v_neq, Nat.reduceEqDiff, t_c, t_1l, t_s, one_2, St.clr, outV, ownsV, owns1, ownL, Nat.reduceMul, kp_b, kp_p, kp_lro, e_asg_n, pO_p, List.range_zero, plT, ne_eq, ite_not]
    intro Z hZ
    have k0 := key g [] [] rfl (by simp) (.inl rfl) hE
    exact k0 Z hZ
  · unfold refG
    rw [if_pos hr]
    simp -implicitDefEqProofs (maxSteps := 2000000) only [c7, ↓reduceIte, S0, o_bx, St.init, enum, Nat.reduceEqDiff, PV.leaves, Nat.zero_le, Nat.le_refl, List.drop_zero, List.take_succ_cons, List.take_nil, kc_l, rl_l, v_bx_a]
    refine wcall_s h18 rfl rfl ?_
    simp -implicitDefEqProofs (maxSteps := 2000000) only [c7, hr, ↓reduceIte, S0, v_neq, Nat.reduceEqDiff, t_c, t_1l, t_s, one_2, St.clr, outV, ownsV, owns1, ownL, ne_eq, not_false_eq_true]
end Go.Proofs.YtdoefdmaecaacaaDoor.S
set_option linter.unusedVariables false
set_option linter.unusedSimpArgs false
namespace Go.Proofs.YtdoefdmaecaacaaDoor.S
open Go Go.Proofs.YtdoefdmaecaacaaDoor.AM
variable {X : Cx}
def W.pr (w : W) : TS := (w.y, w.g)
theorem pr_put (s : ByteArray) (w : W) : (putW s w).pr = putT s w.pr := by
  unfold putW putT W.pr
  simp only
  split <;> rfl
theorem pr_puts : ∀ (l : List ByteArray) (w : W), (putsW l w).pr = putsT l w.pr
  | [], _ => rfl
  | s :: r, w => by simp only [putsW, putsT]; rw [pr_puts r, pr_put]
theorem putT_e {q : TS} (h : q.1.length ≤ 65536) : putT ⟨#[]⟩ q = q := by
  obtain ⟨y, g⟩ := q
  have e : ByteArray.size ⟨#[]⟩ = 0 := rfl
  simp only at h
  unfold putT
  cases g
  · simp [e, h]
  · simp
theorem putT_l {s : ByteArray} {q : TS} (h : q.1.length ≤ 65536) : (putT s q).1.length ≤ 65536 := by
  unfold putT
  split
  · exact h
  · rename_i h1
    simp only [not_or, Nat.not_lt] at h1
    have e : s.data.size = s.size := rfl
    simp only [List.length_append, Array.length_toList]
    omega
theorem putsT_l : ∀ (l : List ByteArray) {q : TS}, q.1.length ≤ 65536 → (putsT l q).1.length ≤ 65536
  | [], _, h => h
  | s :: r, q, h => putsT_l r (putT_l h)
theorem putsT_b : ∀ (l : List ByteArray) {q : TS}, 65536 < q.1.length → (putsT l q).1 = q.1
  | [], _, _ => rfl
  | s :: r, q, h => by
    have e : (putT s q).1 = q.1 := by unfold putT; rw [if_pos (.inr (by omega))]
    simp only [putsT]
    rw [putsT_b r (by rw [e]; exact h), e]
theorem putsT_round {a b : List ByteArray} (h : ∀ q : TS, q.1.length ≤ 65536 → putsT a q = putsT b q) (x k : Int) {q : TS} (hq : q.1.length ≤ 65536) : putsT (round x k a) q = putsT (round x k b) q := by
  unfold round
  split
  · rw [putsT_app, putsT_app, putsT_app, putsT_app, h _ (putsT_l _ hq)]
  · exact h q hq
theorem toks_R (T : Txt X) : ∀ (t : Tr), t.ok → ∀ q : TS, q.1.length ≤ 65536 → putsT (toks T t) q = putsT (toksR T t) q
  | .l0 x, _, q, _ => rfl
  | .l1 x a, hk, q, hq => by
    cases hk with
    | l1 hx ha hc =>
      have ih := toks_R T a hc
      have e1 : putsT [(aro T x).1] q = putsT (preR T x) q := by
        unfold preR
        split
        · rfl
        · rename_i h
          simp only [not_or] at h
          have : (aro T x).1 = ⟨#[]⟩ := by unfold aro; rw [if_neg h.1, if_neg h.2.1, if_neg h.2.2.1, if_neg h.2.2.2.1, if_neg h.2.2.2.2.1, if_neg h.2.2.2.2.2]
          rw [this]; exact putT_e hq
      have e2 : ∀ q : TS, q.1.length ≤ 65536 → putsT [(aro T x).2.2] q = putsT (postR T x) q := by
        intro q hq
        unfold postR
        split
        · rename_i h
          have : (aro T x).2.2 = ⟨#[]⟩ := by
            unfold aro
            rcases h with h | h <;> rw [h] <;> rfl
          rw [this]; exact putT_e hq
        · rfl
      simp only [toks, toksR]
      rw [putsT_app, putsT_app, putsT_app, putsT_app, e1, putsT_round ih _ _ (putsT_l _ hq), e2 _ (putsT_l _ (putsT_l _ hq))]
  | .l2 x a b, hk, q, hq => by
    cases hk with
    | l2 hx ha hc hd =>
      simp only [toks, toksR]
      rw [putsT_app, putsT_app, putsT_app, putsT_app, putsT_round (toks_R T a hc) _ _ hq, putsT_round (toks_R T b hd) _ _ (putsT_l _ (putsT_l _ hq))]
theorem goQ_eq (T : Txt X) : ∀ (g : List Ru) (w : W), (∀ r ∈ g, (∀ x ∈ r.bd, x.wf) ∧ (chk r.bd).2 = 0) → w.g = false → w.y.length ≤ 65536 →
    goQ T g w.y = if (putsW (gT T g) w).g = true then (⟨#[]⟩, 2) else (⟨(putsW (gT T g) w).y.toArray⟩, 0)
  | [], w, _, hg, _ => by
    show (_ : ByteArray × Int) = if w.g = true then _ else _
    rw [if_neg (by rw [hg]; decide)]; rfl
  | r :: rs, w, hr, hg, hy => by
    obtain ⟨hwf, hck⟩ := hr r (by simp)
    obtain ⟨t, ht, hok, -⟩ := chk_tree hwf hck
    have hP : toksP T r.bd = toks T t := by simp only [toksP, treeP, ht]
    have hQ : toksQ T r.bd = toksR T t := by simp only [toksQ, treeP, ht]
    have rest : ∀ w1 : W, w1.g = false → w1.y.length ≤ 65536 →
        (if (putsT (toksR T t) (w1.y, false)).2 = true ∨ 65536 < (putsT (toksR T t) (w1.y, false)).1.length + 1 then ((⟨#[]⟩, 2) : ByteArray × Int) else goQ T rs ((putsT (toksR T t) (w1.y, false)).1 ++ [10])) =
          if (putsW (gT T rs) (putsW [⟨#[10]⟩] (putsW (toks T t) w1))).g = true then (⟨#[]⟩, 2) else (⟨(putsW (gT T rs) (putsW [⟨#[10]⟩] (putsW (toks T t) w1))).y.toArray⟩, 0) := by
      intro w1 hg1 hy1
      have hp : (putsW (toks T t) w1).pr = putsT (toksR T t) (w1.y, false) := by
        rw [pr_puts, ← hg1]; exact toks_R T t hok w1.pr hy1
      have hl : (putsW (toks T t) w1).y.length ≤ 65536 := by
        have := putsT_l (toksR T t) (q := (w1.y, false)) hy1
        rw [← hp] at this; exact this
      rw [← hp]
      generalize putsW (toks T t) w1 = w2 at *
      show (if w2.g = true ∨ 65536 < w2.y.length + 1 then ((⟨#[]⟩, 2) : ByteArray × Int) else goQ T rs (w2.y ++ [10])) = _
      have e1 : ByteArray.size ⟨#[10]⟩ = 1 := rfl
      by_cases hc : w2.g = true ∨ 65536 < w2.y.length + 1
      · rw [if_pos hc]
        have hgt : (putsW [⟨#[10]⟩] w2).g = true := by
          show (putW ⟨#[10]⟩ w2).g = true
          unfold putW; rw [if_pos (by rw [e1]; exact hc)]
        rw [if_pos (by rw [putsW_g _ _ hgt]; exact hgt)]
      · rw [if_neg hc]
        have e2 : putsW [⟨#[10]⟩] w2 = ⟨.tptr 0 0 46, w2.y ++ [10], false⟩ := by
          show putW ⟨#[10]⟩ w2 = _
          unfold putW; rw [if_neg (by rw [e1]; exact hc)]
        rw [e2]
        exact goQ_eq T rs ⟨.tptr 0 0 46, w2.y ++ [10], false⟩ (fun r h => hr r (by simp [h])) rfl (by simp only [not_or, Nat.not_lt] at hc; simp; omega)
    have eg : gT T (r :: rs) = (if r.nm = ⟨#[]⟩ then [] else [r.nm ++ ⟨#[32, 60, 45, 32]⟩]) ++ (toks T t ++ ([⟨#[10]⟩] ++ gT T rs)) := by
      simp only [gT, List.flatMap_cons, ruT, hP, List.append_assoc]
    rw [eg, putsW_app, putsW_app, putsW_app]
    simp only [goQ, hQ]
    by_cases hn : r.nm = ⟨#[]⟩
    · have e1 : nameT r.nm w.y = w.y := by unfold nameT; rw [if_pos hn]
      rw [e1, if_pos hn]
      exact rest w hg hy
    · have e1 : nameT r.nm w.y = w.y ++ (r.nm ++ ⟨#[32, 60, 45, 32]⟩).data.toList := by unfold nameT; rw [if_neg hn]
      rw [e1, if_neg hn]
      generalize r.nm ++ ⟨#[32, 60, 45, 32]⟩ = s at *
      have e2 : putsW [s] w = putW s w := rfl
      rw [e2]
      by_cases hc : 65536 < w.y.length + s.size
      · have hgt : (putW s w).g = true := by unfold putW; rw [if_pos (.inr hc)]
        have hlen : 65536 < (w.y ++ s.data.toList).length := by
          have e : s.data.size = s.size := rfl
          simp only [List.length_append, Array.length_toList]; omega
        rw [putsW_g _ _ hgt, putsW_g _ _ hgt, putsW_g _ _ hgt, if_pos hgt, if_pos (.inr (by rw [putsT_b (q := (w.y ++ s.data.toList, false)) _ hlen]; show 65536 < (w.y ++ s.data.toList).length + 1; omega))]
      · have e3 : putW s w = ⟨.tptr 0 0 46, w.y ++ s.data.toList, false⟩ := by unfold putW; rw [if_neg (by rw [hg]; simp; omega)]
        rw [e3]
        refine rest ⟨.tptr 0 0 46, w.y ++ s.data.toList, false⟩ rfl ?_
        have e : s.data.size = s.size := rfl
        simp only [List.length_append, Array.length_toList]; omega
theorem ref_show (T : Txt X) (g : List Ru) (hwf : ∀ r ∈ g, ∀ x ∈ r.bd, x.wf) : refG T g = showG T g := by
  unfold refG showG
  by_cases hr : rightF g = 0
  · rw [if_neg (fun h => h hr), if_neg (fun h => h hr)]
    obtain ⟨_, _, hrs⟩ := right_ok hr
    exact goQ_eq T g w0 (fun r h => ⟨hwf r h, (hrs r h).2⟩) rfl (by decide)
  · rw [if_pos hr, if_pos hr]
end Go.Proofs.YtdoefdmaecaacaaDoor.S
set_option linter.unusedVariables false
set_option linter.unusedSimpArgs false
namespace Go.Proofs.YtdoefdmaecaacaaDoor.S
open Go Go.Proofs.YtdoefdmaecaacaaDoor.AM
variable {X : Cx}
abbrev mkN : List L := [.int .i64 (-77), .int .i64 0, .str ⟨#[]⟩, .int .u64 0, .int .u64 0, .int .u64 0, .int .u64 0]
theorem r12 (p : List Nd) (sp : List (List L)) (hp : p.length ≤ 2199023255488) : R X Tryd.prog 12 [.lf (.lst .ro 7 (p.map Nd.c) sp)] [] (.lf (.lst (.own 0 58) 7 (p.map Nd.c) [mkN])) [] := by
  have hml : (p.map Nd.c).length = p.length := List.length_map _
  refine R_i [(0, 256)] [] c12_ok rfl (by simp) ?_
  simp -implicitDefEqProofs (maxSteps := 2000000) only [c12, hml, ↓reduceIte, S0, o_bd, v_agK, v_bd_n, v_bd_c, o_bs, v_bsK, v_lit_n, v_lit_c, o_app, v_app_o, o_sll, v_sll_b, St.init, enum, Option.map_some, Option.map_none, Nat.reduceEqDiff, Nat.reduceAdd, reduceCtorEq, Bool.or_false, Bool.false_or, List.all_cons, List.all_nil, PV.cells, cellL, datL, fillL, Nat.reduceMul, Nat.reduceBEq, Nat.reduceLeDiff, Nat.zero_le, List.take_zero, List.drop_zero, List.drop_succ_cons, kp_s, rl_s, kp_lro, kp_lo, e_asg_n, plT, ne_eq, not_false_eq_true, Int.reduceNeg, lit_n, lit_c, List.reduceReplicate, List.set_cons_zero, List.length_append, Nat.lt_add_one, true_or, or_false, false_or, kp_lk, rk_lk, lp_i, lp_s, lp_lr, lp_lo, lp_lk]
  refine ⟨by omega, by omega, fun _ => ⟨⟨by omega, by omega⟩, ?_, ?_⟩⟩
  · rw [Int.toNat_natCast, ← hml, List.take_left']; rfl
  · rw [Int.toNat_natCast, ← hml, List.drop_left']; rfl
theorem r39 (p : List Nd) (sp sq : List (List L)) (hp : p.length ≤ 2199023255488) : R X Tryd.prog 39 [.lf (.lst .ro 7 (p.map Nd.c) sp), .lf (.lst .ro 7 (p.map Nd.c) sq)] [] (.lf (.bool true)) [] := by
  have hml : (p.map Nd.c).length = p.length := List.length_map _
  refine R_i [] [] c39_ok rfl (by simp) ?_
  have key : ∀ (q d : List Nd), d ++ q = p → LoopAt X Tryd.prog c39_10 [0, 1, 5] (blkK 0 (seqK X Tryd.prog c39_14 (retS [] [] 0 [RV.t 4] (PV.lf (L.bool true)) [])))
        { m := 0, tm := [(0, .lf (.lst .ro 7 (p.map Nd.c) sp)), (1, .lf (.lst .ro 7 (p.map Nd.c) sq)), (5, .lf (.int .i64 d.length))], ce := [] } := by
    intro q
    induction q with
    | nil =>
      intro d hd
      simp only [List.append_nil] at hd
      subst hd
      have hlt : ¬ (d.length : Int) < d.length := by omega
      intro Z hZ; apply hZ
      simp -implicitDefEqProofs (maxSteps := 2000000) only [c39, hlt, decide_false, hml, ↓reduceIte, S0, s_exit, s_seqK_e, s_blkK_e, s_loopK_e, Nat.reduceEqDiff, reduceCtorEq, implies_true]
    | cons x q ih =>
      intro d hd
      have hdl : d.length < p.length := by rw [← hd]; simp
      have hlt : (d.length : Int) < p.length := by omega
      have hih := ih (d ++ [x]) (by simp [← hd])
      obtain ⟨op, n, tx, s0, s1, s2, s3⟩ := x
      have hx : (p.map Nd.c).getD ((d.length : Nat) : Int).toNat [] = [.int .i64 op, .int .i64 n, .str tx, .int .u64 s0, .int .u64 s1, .int .u64 s2, .int .u64 s3] := by
        rw [Int.toNat_natCast, List.getD_eq_getElem?_getD, List.getElem?_map, ← hd]; simp
      have wd : IntKind.i64.wrap ((d.length : Int) + 1) = ((d.length + 1 : Nat) : Int) := by rw [w64 (by omega) (by omega)]; omega
      intro Z hZ; apply hZ
      simp -implicitDefEqProofs (maxSteps := 2000000) only [c39, hlt, decide_true, hx, v_ld_e, hml, wd, ↓reduceIte, S0, s_ops2, s_wopsqK, s_qnil, s_qcons, q_beq, q_ia, q_ld, o_beq, Nat.reduceEqDiff, Nat.reduceAdd, reduceCtorEq, Bool.not_true, Nat.le_refl, List.drop_zero, List.take_succ_cons, List.take_nil, List.range_zero, v_beqK, v_andO, v_beqA, q_i, q_s, q_1, q_c, kd_i, kd_s]
      intro _
      refine ⟨⟨by omega, by omega⟩, by omega, ⟨by omega, by omega⟩, by omega, ?_⟩
      have hz := hih Z hZ
      simp only [List.length_append, List.length_cons, List.length_nil, Nat.zero_add] at hz
      exact hz
  simp -implicitDefEqProofs (maxSteps := 2000000) only [c39, hml, ↓reduceIte, S0, s_loop, v_neq, St.init, enum, Nat.reduceEqDiff, reduceCtorEq, List.range_zero, ne_eq, ite_not]
  intro _ _
  exact key p [] rfl
theorem r20 (p : List Nd) (sq : List (List L)) (hp : p.length ≤ 2199023255488) : R X Tryd.prog 20 [.lf (.lst .ro 7 (p.map Nd.c) [mkN]), .lf (.lst .ro 7 (p.map Nd.c) sq)] [] (.lf (.bool true)) [] := by
  have hml : (p.map Nd.c).length = p.length := List.length_map _
  have h39 := r39 (X := X) p [mkN] sq hp
  have w1 : IntKind.i64.wrap ((p.length : Int) + 1) = ((p.length + 1 : Nat) : Int) := by rw [w64 (by omega) (by omega)]; omega
  have hx : (p.map Nd.c ++ [mkN]).getD ((p.length : Nat) : Int).toNat [] = mkN := by
    rw [Int.toNat_natCast, List.getD_eq_getElem?_getD, ← hml, List.getElem?_append_right (Nat.le_refl _)]; simp
  have htk : List.take ((p.length + 1 : Nat) : Int).toNat (p.map Nd.c ++ [mkN]) = p.map Nd.c ++ [mkN] := by
    rw [Int.toNat_natCast, List.take_of_length_le]; simp
  refine R_i [] [] c20_ok rfl (by simp) ?_
  simp -implicitDefEqProofs (maxSteps := 2000000) only [c20, ↓reduceIte, S0, St.init, enum, Nat.reduceEqDiff, reduceCtorEq, PV.leaves, rl_l, Int.reduceNeg]
  refine wcall_s h39 rfl rfl ?_
  simp -implicitDefEqProofs (maxSteps := 2000000) only [c20, hml, w1, htk, hx, v_ld_e, ↓reduceIte, S0, q_beq, q_ia, q_ld, q_bd, q_len, q_sll, o_beq, o_bd, v_agK, v_bd_n, v_bd_c, o_sll, v_sll_b, Option.map_some, Option.map_none, Nat.reduceEqDiff, Nat.reduceAdd, reduceCtorEq, cond_false, St.clr, outV, ownsV, owns1, ownL, List.all_cons, List.all_nil, PV.cells, cellL, fillL, Nat.reduceLeDiff, Nat.le_refl, List.take_zero, List.drop_zero, List.take_succ_cons, List.drop_succ_cons, List.take_nil, ol_b, ne_eq, not_false_eq_true, Int.reduceNeg, List.length_append, v_beqK, v_andO, v_beqA, q_i, q_s, q_1, q_c, kd_i, kd_s]
  intro _
  exact ⟨⟨by omega, by omega⟩, fun _ => ⟨⟨by omega, by omega⟩, by omega⟩⟩
end Go.Proofs.YtdoefdmaecaacaaDoor.S
set_option linter.unusedVariables false
set_option linter.unusedSimpArgs false
namespace Go.Proofs.YtdoefdmaecaacaaDoor.S
open Go Go.Proofs.YtdoefdmaecaacaaDoor.AM
variable {X : Cx}
abbrev Ru.lc (r : Ru) : List L := [.str r.nm, .lst .ro 7 (r.bd.map Nd.c) [mkN]]
abbrev mkR : List L := [.str ⟨#[115, 112, 97, 114, 101, 32, 114, 111, 111, 109]⟩, .lst .ro 7 [] []]
theorem r8 (g : List Ru) (sp : List (List L)) (hg : g.length ≤ 3518437208780) (hb : ∀ r ∈ g, r.bd.length ≤ 2199023255488) : R X Tryd.prog 8 [.ag [.lst .ro 2 (g.map Ru.lc) [mkR]], .ag [.lst .ro 2 (g.map Ru.c) sp]] [] (.lf (.bool true)) [] := by
  have hml : (g.map Ru.c).length = g.length := List.length_map _
  have hll : (g.map Ru.lc).length = g.length := List.length_map _
  have w1 : IntKind.i64.wrap ((g.length : Int) + 1) = ((g.length + 1 : Nat) : Int) := by rw [w64 (by omega) (by omega)]; omega
  have hx0 : (g.map Ru.lc ++ [mkR]).getD ((g.length : Nat) : Int).toNat [] = mkR := by
    rw [Int.toNat_natCast, List.getD_eq_getElem?_getD, ← hll, List.getElem?_append_right (Nat.le_refl _)]; simp
  have htk : List.take ((g.length + 1 : Nat) : Int).toNat (g.map Ru.lc ++ [mkR]) = g.map Ru.lc ++ [mkR] := by
    rw [Int.toNat_natCast, List.take_of_length_le]; simp
  refine R_i [] [] c8_ok rfl (by simp) ?_
  have key : ∀ (q d : List Ru), d ++ q = g → LoopAt X Tryd.prog c8_10 [2, 3, 5, 6] (blkK 0 (seqK X Tryd.prog c8_14 (retS [] [] 0 [RV.t 4] (PV.lf (L.bool true)) [])))
        { m := 0, tm := [(2, .lf (.ptr 2 0)), (3, .lf (.ptr 3 0)), (5, .lf (.int .i64 g.length)), (6, .lf (.int .i64 d.length))], ce := [(2, [.lst .ro 2 (g.map Ru.lc) [mkR]]), (3, [.lst .ro 2 (g.map Ru.c) sp])] } := by
    intro q
    induction q with
    | nil =>
      intro d hd
      simp only [List.append_nil] at hd
      have hlt : ¬ (d.length : Int) < g.length := by rw [hd]; omega
      intro Z hZ; apply hZ
      simp -implicitDefEqProofs (maxSteps := 2000000) only [c8, hlt, decide_false, hml, ↓reduceIte, S0, s_exit, s_seqK_e, s_blkK_e, s_loopK_e, Nat.reduceEqDiff]
    | cons x q ih =>
      intro d hd
      have hdl : d.length < g.length := by rw [← hd]; simp
      have hlt : (d.length : Int) < g.length := by omega
      have hih := ih (d ++ [x]) (by simp [← hd])
      have h20 := r20 (X := X) x.bd x.sp (hb x (by rw [← hd]; simp))
      obtain ⟨nm, bd, bsp⟩ := x
      have hx : (g.map Ru.c).getD ((d.length : Nat) : Int).toNat [] = [.str nm, .lst .ro 7 (bd.map Nd.c) bsp] := by
        rw [Int.toNat_natCast, List.getD_eq_getElem?_getD, List.getElem?_map, ← hd]; simp
      have hx2 : (g.map Ru.lc).getD ((d.length : Nat) : Int).toNat [] = [.str nm, .lst .ro 7 (bd.map Nd.c) [mkN]] := by
        rw [Int.toNat_natCast, List.getD_eq_getElem?_getD, List.getElem?_map, ← hd]; simp
      have wd : IntKind.i64.wrap ((d.length : Int) + 1) = ((d.length + 1 : Nat) : Int) := by rw [w64 (by omega) (by omega)]; omega
      intro Z hZ; apply hZ
      have hz := hih Z hZ
      simp only [List.length_append, List.length_cons, List.length_nil, Nat.zero_add] at hz
      simp -implicitDefEqProofs (maxSteps := 2000000) only [c8, hlt, decide_true, hx, hx2, v_ld_e, hml, hll, wd, ↓reduceIte, S0, s_wopsqK, s_qnil, s_qcons, s_qguard, q_call, q_fa, q_ia, q_ld, v_sneq, v_fa_e, Nat.reduceEqDiff, cond_true, cond_false, decide_eq_false_iff_not, PV.leaves, rl_l, ne_eq, Decidable.not_not, s_reg]
      refine ⟨⟨by omega, by omega⟩, by omega, ⟨by omega, by omega⟩, by omega, ⟨by omega, by omega⟩, by omega, ⟨by omega, by omega⟩, by omega, ?_⟩
      refine wcall_s h20 rfl rfl ?_
      simp -implicitDefEqProofs (maxSteps := 2000000) only [c8, wd, ↓reduceIte, S0, q_un, o_un, v_not, Nat.reduceEqDiff, cond_false, Bool.not_true, St.clr, outV, ownsV, owns1, ownL, ol_b, pO_p, List.range_zero]
      exact hz
  simp -implicitDefEqProofs (maxSteps := 2000000) only [c8, hml, hll, w1, htk, hx0, v_ld_e, ↓reduceIte, S0, s_loop, q_fa, q_ia, q_ld, q_sll, v_neq, v_sneq, o_bx, v_fa_e, o_sll, v_sll_b, St.init, enum, Option.map_some, Option.map_none, Nat.reduceEqDiff, reduceCtorEq, cond_false, decide_eq_false_iff_not, Nat.reduceBEq, Nat.zero_le, kc_p, kc_l, pO_p, List.range_zero, ne_eq, List.length_append, ite_not, Decidable.not_not, v_bx_a]
  intro _ _
  refine ⟨⟨by omega, by omega⟩, ⟨by omega, by omega⟩, by omega, ?_⟩
  exact key g [] rfl
end Go.Proofs.YtdoefdmaecaacaaDoor.S
set_option linter.unusedVariables false
set_option linter.unusedSimpArgs false
namespace Go.Proofs.YtdoefdmaecaacaaDoor.S
open Go Go.Proofs.YtdoefdmaecaacaaDoor.AM
variable {X : Cx}
set_option maxHeartbeats 2000000 in
theorem r5 (g : List Ru) (sp : List (List L)) (hg : g.length ≤ 3518437208780) (hb : ∀ r ∈ g, r.bd.length ≤ 2199023255488) : R X Tryd.prog 5 [.ag [.lst .ro 2 (g.map Ru.c) sp]] [] (.ag [.lst (.own 0 37) 2 (g.map Ru.lc) [mkR]]) [] := by
  have hml : (g.map Ru.c).length = g.length := List.length_map _
  refine R_i [(0, 4096)] [] c5_ok rfl (by simp) ?_
  have key : ∀ (q d : List Ru), d ++ q = g → LoopAt X Tryd.prog c5_4 [1, 2, 3, 4] (blkK 0 (seqK X Tryd.prog c5_8 (retS [(0, 4096)] [] 0 [RV.c 2 1 true] (.ag [.lst (.own 0 37) 2 (g.map Ru.lc) [mkR]]) [])))
        { m := 0, tm := [(1, .lf (.ptr 1 0)), (2, .lf (.ptr 2 0)), (3, .lf (.lst (.own 384 37) 2 (d.map Ru.lc) [])), (4, .lf (.int .i64 d.length))], ce := [(1, [.lst .ro 2 (g.map Ru.c) sp]), (2, [.lst (.own 257 37) 2 [] []])] } := by
    intro q
    induction q with
    | nil =>
      intro d hd
      simp only [List.append_nil] at hd
      subst hd
      have hlt : ¬ (d.length : Int) < d.length := by omega
      intro Z hZ; apply hZ
      simp -implicitDefEqProofs (maxSteps := 2000000) only [c5, hlt, decide_false, hml, ↓reduceIte, S0, s_exit, s_seqK_e, s_blkK_e, s_loopK_e, o_st, v_st_p, v_stCK, o_bd, v_agK, v_bd_n, v_bd_c, o_bs, v_bsK, v_lit_n, v_lit_c, o_app, v_app_o, o_sll, v_sll_b, Option.map_some, Option.map_none, Nat.reduceEqDiff, Nat.reduceAdd, reduceCtorEq, t_ag, r_c, r_cell, r_part_t, Bool.or_false, Bool.false_or, List.all_cons, List.all_nil, PV.cells, cellL, datL, fillL, Nat.reduceMul, Nat.reduceBEq, Nat.reduceLeDiff, Nat.le_refl, List.take_zero, List.drop_zero, List.take_succ_cons, List.drop_succ_cons, List.drop_nil, List.take_nil, kp_b, kp_s, rl_s, kp_p, kp_lro, kp_lnl, kp_lo, rl_l, st_b, dw_ln, plT, ne_eq, not_false_eq_true, lit_n, lit_c, List.reduceReplicate, List.set_cons_zero, List.length_append, Nat.lt_add_one, true_or, or_false, false_or, kp_lk, lp_b, lp_i, lp_s, lp_p, lp_lr, lp_ln, lp_lo, v_len_n]
      have hll : (d.map Ru.lc).length = d.length := List.length_map _
      intro _
      refine ⟨by omega, ⟨by omega, by omega⟩, ?_, ?_⟩
      · rw [Int.toNat_natCast, List.take_left']; rfl
      · rw [Int.toNat_natCast, List.drop_left']; rfl
    | cons x q ih =>
      intro d hd
      have hdl : d.length < g.length := by rw [← hd]; simp
      have hlt : (d.length : Int) < g.length := by omega
      have hih := ih (d ++ [x]) (by simp [← hd])
      have h12 := r12 (X := X) x.bd x.sp (hb x (by rw [← hd]; simp))
      obtain ⟨nm, bd, bsp⟩ := x
      have hx : (g.map Ru.c).getD ((d.length : Nat) : Int).toNat [] = [.str nm, .lst .ro 7 (bd.map Nd.c) bsp] := by
        rw [Int.toNat_natCast, List.getD_eq_getElem?_getD, List.getElem?_map, ← hd]; simp
      have wd : IntKind.i64.wrap ((d.length : Int) + 1) = ((d.length + 1 : Nat) : Int) := by rw [w64 (by omega) (by omega)]; omega
      intro Z hZ; apply hZ
      have hll : (d.map Ru.lc).length = d.length := List.length_map _
      have hz := hih Z hZ
      simp only [List.length_append, List.length_cons, List.length_nil, Nat.zero_add, List.map_append, List.map_cons, List.map_nil] at hz
      simp -implicitDefEqProofs (maxSteps := 2000000) only [c5, hlt, decide_true, hx, v_ld_e, hml, wd, ↓reduceIte, S0, v_fa_e, Nat.reduceEqDiff, PV.leaves, rl_l, s_gdt, t_one, t_pot, t_alt]
      intro _
      repeat' (with_reducible refine And.intro ?_ ?_)
      all_goals first
        | omega
        | skip
      all_goals
        refine wcall_down h12 rfl ?_
        simp -implicitDefEqProofs (maxSteps := 2000000) only [c5, hx, v_ld_e, hml, wd, List.contains_cons, List.contains_nil, Nat.reduceBEq, Bool.or_self, Bool.false_or, Bool.or_false, ↓reduceIte, S0, v_fa_e, o_bd, v_agK, v_bd_n, v_bd_c, o_bs, v_bsK, v_lit_n, v_lit_c, o_app, v_app_o, Nat.reduceEqDiff, Nat.reduceAdd, reduceCtorEq, St.clr, outV, ownsV, owns1, ownL, Bool.or_false, Bool.or_self, List.all_cons, List.all_nil, PV.cells, cellL, datL, fillL, Nat.reduceMul, Nat.reduceBEq, Nat.reduceLeDiff, Nat.le_refl, List.take_zero, List.drop_zero, List.take_succ_cons, List.drop_succ_cons, List.drop_nil, kp_b, kp_s, ro_b, ro_i, ro_s, rl_s, kp_p, kp_lro, ro_p, ro_lro, kp_lo, kps_lo, ro_lo, rl_l, pO_p, dw_lo, List.range_zero, plT, ne_eq, not_false_eq_true, lit_n, lit_c, List.reduceReplicate, List.set_cons_zero, Nat.lt_add_one, or_false, kp_er, kps_er, rk_er, ro_er, t_nil, t_one, t_pot, kp_lk, rk_lk, lp_b, lp_i, lp_s, lp_p, lp_lr, lp_lo, lp_er]
      all_goals (repeat' (with_reducible refine And.intro ?_ ?_))
      all_goals first
        | omega
        | exact hz
  simp -implicitDefEqProofs (maxSteps := 2000000) only [c5, ↓reduceIte, S0, s_loop, o_al, o_bx, St.init, enum, Nat.reduceEqDiff, Nat.reduceMul, Nat.reduceBEq, Nat.zero_le, kp_p, kp_lro, kc_p, kc_l, kp_lo, e_asg_n, pO_p, List.range_zero, plT, v_bx_a]
  exact key g [] rfl
end Go.Proofs.YtdoefdmaecaacaaDoor.S
set_option linter.unusedVariables false
set_option linter.unusedSimpArgs false
namespace Go.Proofs.YtdoefdmaecaacaaDoor.S
open Go Go.Proofs.YtdoefdmaecaacaaDoor.AM
variable {X : Cx}
theorem W.b_toC {w : W} (h : w.ok) : (w.c.map (AM.fromC 16)).map (AM.toC 16) = w.c := by
  obtain ⟨x, y, g⟩ := w
  rcases h.x with h | h <;> (simp only at h; subst h; rfl)
theorem r21 (T : Txt X) (p : List Nd) (sp : List (List L)) (hwf : ∀ x ∈ p, x.wf) (hc : (chk p).2 = 0) (hg : (putsW (toksP T p) w0).g = false) (hy : 0 < (putsW (toksP T p) w0).y.length) :
    R X Tryd.prog 21 [.lf (.lst .ro 7 (p.map Nd.c) sp)] [] (.tp [.lf (.str ⟨(putsW (toksP T p) w0).y.toArray⟩), .lf (.int .i64 0)]) [] := by
  obtain ⟨t, hb, hto, hts, hpl⟩ := chk_tree hwf hc
  have htk : toksP T p = toks T t := by simp only [toksP, treeP, hb]
  rw [htk] at hg hy ⊢
  have h22 := r22 (X := X) p sp
  rw [hc] at h22
  have h16 := r16 (X := X) p sp (by omega) t [] hb
  have hpat := R_nlc nl_w0 (pat_ok T t.size t (Nat.le_refl _) (by omega) hto w0 w0_ok)
  have ok1 := putsW_ok (toks T t) w0_ok
  generalize putsW (toks T t) w0 = w at *
  have h17 := r17 (X := X) w ok1 hg hy
  rw [← W.b_toC ok1] at h17
  refine R_i [] [] c21_ok rfl (by simp) ?_
  simp -implicitDefEqProofs (maxSteps := 2000000) only [c21, ↓reduceIte, S0, St.init, enum, reduceCtorEq, PV.leaves, rl_l]
  refine wcall_s h22 rfl rfl ?_
  simp -implicitDefEqProofs (maxSteps := 2000000) only [c21, ↓reduceIte, S0, v_neq, o_ext, v_ext0, v_ext1, o_bd, v_agK, v_bd_n, Nat.reduceEqDiff, reduceCtorEq, t_c, t_1l, t_s, one_2, St.clr, outV, ownsV, owns1, ownL, List.any_cons, List.any_nil, Bool.or_self, PV.leaves, Nat.zero_le, kc_b, kc_i, kc_np, kc_l, rl_l, m_1l, ne_eq, ite_not, e_asg_t, o_bxt, v_bxt]
  refine wcall_down h16 rfl ?_
  simp -implicitDefEqProofs (maxSteps := 2000000) only [c21, ↓reduceIte, S0, Nat.reduceEqDiff, St.clr, outV, ownsV, owns1, ownL, PV.leaves, ta_t, pc_t, o_callp, v_callp, ol_rp, ta_rp, dw_rp0]
  refine pcall_i hpat rfl rfl ?_
  simp -implicitDefEqProofs (maxSteps := 2000000) only [c21, ↓reduceIte, S0, Nat.reduceEqDiff, reduceCtorEq, outV, ownsV, List.any_nil, PV.leaves, ta_t, kl_np, kl_ln, pc_t, o_callp, v_callp, kl_rp]
  refine pcall_i h17 rfl rfl ?_
  simp -implicitDefEqProofs (maxSteps := 2000000) only [c21, ↓reduceIte, S0, o_ext, v_ext0, v_ext1, Nat.reduceEqDiff, t_c, t_1l, t_s, one_2, outV, ownsV, owns1, ownL, List.any_cons, List.any_nil, Bool.or_self, m_1l, fc_u]
end Go.Proofs.YtdoefdmaecaacaaDoor.S
