/- Contracts, part IX4. -/
import Derived.Test.YthcpaohmajjopaaDoorIX3
import Derived.Test.YthcpaohmajjopaaDoorIX1
set_option linter.unusedVariables false
set_option linter.unusedSimpArgs false
namespace Go.Proofs.YthcpaohmajjopaaDoor.I
open Go Go.Proofs.YthcpaohmajjopaaDoor.AM
variable {X : Cx}
abbrev srcL (b : ByteArray) (at' : Nat) (sh : Bool) : List L := [.str b, .int .i64 at', .bool sh]
theorem r30a (b : ByteArray) (p : Nat) (sh : Bool) (hp : p < b.size) (hb : b.size ≤ 140737488351232) : R X Tryd.prog 30 [.lf (.ptr 0 0)] [srcL b p sh] (.lf (.int .i64 (byteAt b (p : Int)))) [srcL b (p + 1) sh] := by
  have w1 : IntKind.i64.wrap ((p : Int) + 1) = ((p + 1 : Nat) : Int) := by rw [w64 (by omega) (by omega)]; omega
  have w2 : IntKind.i64.wrap (((p + 1 : Nat) : Int) - 1) = (p : Int) := by rw [w64 (by omega) (by omega)]; omega
  have w3 : IntKind.i64.wrap (byteAt b (p : Int)) = byteAt b (p : Int) := w64 (by have := byteAt_0 b p; omega) (by have := byteAt_1 b p; omega)
  refine R_i [] [] c30_ok rfl (by simp) ?_
  simp -implicitDefEqProofs (maxSteps := 2000000) only [c30, w1, w2, w3, ↓reduceIte, s_skip, s_ret, s_ops0, s_ops1, s_ops2, s_seq, s_cond, s_opsK, s_seqK_n, s_seqK_r, s_cnd, s_nil, s_cons, s_wopsK, s_wopsTK, s_wopsqK, s_putK, s_qnil, s_qcons, s_tone, s_tcons, q_mv, q_bin, q_cvi, q_ixs, q_fa, q_ld, q_nc, q_lns, o_mv, o_as, o_bin, v_add, v_sub, v_geq, o_cvi, v_cvi, v_part_f, v_atK, o_ixs, v_ixs, o_fa, v_fa_p, o_ld, v_ld_p, v_ldC, o_st, v_st_p, v_stCK, o_nc, v_nc_p, o_lns, v_lns, e_t, e_k, e_put, e_get, e_res, e_keep_n, e_keep_c, e_keep1_s, e_asg_i, St.init, enum, List.length_nil, List.length_cons, Option.getD_some, Nat.reduceEqDiff, Nat.reduceAdd, reduceCtorEq, true_and, and_true, decide_eq_true_eq, s_ret_r, s_retX, s_cells_n, t_lf, t_ln, t_lc, t_b, t_i, t_s, r_n, r_t, r_cons, one_1, List.append_nil, List.cons_append, List.nil_append, List.all_cons, List.all_nil, Bool.and_true, Bool.true_and, Bool.and_self, PV.cells, cellL, fillL, Nat.reduceLeDiff, Nat.le_refl, List.take_zero, List.drop_zero, List.take_succ_cons, List.drop_succ_cons, List.drop_nil, List.getElem?_cons_zero, List.getElem?_cons_succ, st_b1, st_i1, d_n, d_c, Nat.lt_add_one, Nat.zero_add, Nat.add_zero, s_cells_c, t_some]
  with_reducible refine ite_pr (fun h => ?_) (fun h => ?_)
  · omega
  exact ⟨by omega, by omega⟩
theorem r30b (b : ByteArray) (p : Nat) (sh : Bool) (hp : b.size ≤ p) : R X Tryd.prog 30 [.lf (.ptr 0 0)] [srcL b p sh] (.lf (.int .i64 0)) [srcL b p true] := by
  refine R_i [] [] c30_ok rfl (by simp) ?_
  simp -implicitDefEqProofs (maxSteps := 2000000) only [c30, ↓reduceIte, s_skip, s_ret, s_ops0, s_ops1, s_ops2, s_seq, s_cond, s_opsK, s_seqK_n, s_seqK_r, s_cnd, s_nil, s_cons, s_wopsK, s_wopsTK, s_wopsqK, s_putK, s_qnil, s_qcons, s_tone, s_tcons, q_mv, q_bin, q_cvi, q_ixs, q_fa, q_ld, q_nc, q_lns, o_mv, o_as, o_bin, v_add, v_sub, v_geq, o_cvi, v_cvi, v_part_f, v_atK, o_ixs, v_ixs, o_fa, v_fa_p, o_ld, v_ld_p, v_ldC, o_st, v_st_p, v_stCK, o_nc, v_nc_p, o_lns, v_lns, e_t, e_k, e_put, e_get, e_res, e_keep_n, e_keep_c, e_keep1_s, e_asg_i, St.init, enum, List.length_nil, List.length_cons, Option.getD_some, Nat.reduceEqDiff, Nat.reduceAdd, reduceCtorEq, true_and, and_true, decide_eq_true_eq, s_ret_r, s_retX, s_cells_n, t_lf, t_ln, t_lc, t_b, t_i, t_s, r_n, r_t, r_cons, one_1, List.append_nil, List.cons_append, List.nil_append, List.all_cons, List.all_nil, Bool.and_true, Bool.true_and, Bool.and_self, PV.cells, cellL, fillL, Nat.reduceLeDiff, Nat.le_refl, List.take_zero, List.drop_zero, List.take_succ_cons, List.drop_succ_cons, List.drop_nil, List.getElem?_cons_zero, List.getElem?_cons_succ, st_b1, st_i1, d_n, d_c, Nat.lt_add_one, Nat.zero_add, Nat.add_zero, s_cells_c, t_some]
  with_reducible refine ite_pr (fun h => ?_) (fun h => ?_)
  · trivial
  · omega
theorem r51a (b : ByteArray) (p n : Nat) (sh : Bool) (hp : p + n ≤ b.size) (hb : b.size ≤ 140737488351232) : R X Tryd.prog 51 [.lf (.ptr 0 0), .lf (.int .i64 n)] [srcL b p sh] (.lf (.str (b.extract p (p + n)))) [srcL b (p + n) sh] := by
  have w1 : IntKind.i64.wrap ((p : Int) + (n : Int)) = ((p + n : Nat) : Int) := by rw [w64 (by omega) (by omega)]; omega
  have w2 : IntKind.i64.wrap (((p + n : Nat) : Int) - (n : Int)) = (p : Int) := by rw [w64 (by omega) (by omega)]; omega
  have w3 : IntKind.i64.wrap ((b.size : Int) - (p : Int)) = (b.size : Int) - (p : Int) := w64 (by omega) (by omega)
  refine R_i [] [] c51_ok rfl (by simp) ?_
  simp -implicitDefEqProofs (maxSteps := 2000000) only [c51, w1, w2, w3, ↓reduceIte, s_skip, s_ret, s_ops0, s_ops1, s_ops2, s_seq, s_cond, s_opsK, s_seqK_n, s_seqK_r, s_cnd, s_nil, s_cons, s_wopsK, s_wopsTK, s_wopsqK, s_putK, s_qnil, s_qcons, s_tone, s_tcons, q_mv, q_bin, q_fa, q_ld, q_nc, q_lns, q_sls, o_mv, o_as, o_bin, v_add, v_sub, v_gtr, v_part_f, v_atK, o_fa, v_fa_p, o_ld, v_ld_p, v_ldC, o_st, v_st_p, v_stCK, o_nc, v_nc_p, o_lns, v_lns, o_sls, v_sls_d, e_t, e_k, e_put, e_get, e_res, e_keep_n, e_keep_c, e_keep1_s, e_asg_s, St.init, enum, List.length_nil, List.length_cons, Option.getD_some, Option.map_some, Nat.reduceEqDiff, Nat.reduceAdd, reduceCtorEq, true_and, and_true, decide_eq_true_eq, s_ret_r, s_retX, s_cells_n, t_lf, t_ln, t_lc, t_b, t_i, t_s, r_n, r_t, r_cons, one_1, List.append_nil, List.cons_append, List.nil_append, List.all_cons, List.all_nil, Bool.and_true, Bool.true_and, Bool.and_self, PV.cells, cellL, fillL, Nat.reduceLeDiff, Nat.le_refl, List.take_zero, List.drop_zero, List.take_succ_cons, List.drop_succ_cons, List.drop_nil, List.getElem?_cons_zero, List.getElem?_cons_succ, st_b1, st_i1, d_n, d_c, Nat.lt_add_one, Nat.zero_add, Nat.add_zero, s_cells_c, t_some]
  with_reducible refine ite_pr (fun h => ?_) (fun h => ?_)
  · omega
  exact ⟨⟨by omega, by omega, by omega⟩, rfl⟩
theorem r51b (b : ByteArray) (p n : Nat) (sh : Bool) (hp : b.size < p + n) (h2 : p ≤ b.size) (hn : n ≤ 140737488351232) (hb : b.size ≤ 140737488351232) : R X Tryd.prog 51 [.lf (.ptr 0 0), .lf (.int .i64 n)] [srcL b p sh] (.lf (.str ⟨#[]⟩)) [srcL b p true] := by
  have w3 : IntKind.i64.wrap ((b.size : Int) - (p : Int)) = (b.size : Int) - (p : Int) := w64 (by omega) (by omega)
  refine R_i [] [] c51_ok rfl (by simp) ?_
  simp -implicitDefEqProofs (maxSteps := 2000000) only [c51, w3, ↓reduceIte, s_skip, s_ret, s_ops0, s_ops1, s_ops2, s_seq, s_cond, s_opsK, s_seqK_n, s_seqK_r, s_cnd, s_nil, s_cons, s_wopsK, s_wopsTK, s_wopsqK, s_putK, s_qnil, s_qcons, s_tone, s_tcons, q_mv, q_bin, q_fa, q_ld, q_nc, q_lns, q_sls, o_mv, o_as, o_bin, v_add, v_sub, v_gtr, v_part_f, v_atK, o_fa, v_fa_p, o_ld, v_ld_p, v_ldC, o_st, v_st_p, v_stCK, o_nc, v_nc_p, o_lns, v_lns, o_sls, v_sls_d, e_t, e_k, e_put, e_get, e_res, e_keep_n, e_keep_c, e_keep1_s, e_asg_s, St.init, enum, List.length_nil, List.length_cons, Option.getD_some, Option.map_some, Nat.reduceEqDiff, Nat.reduceAdd, reduceCtorEq, true_and, and_true, decide_eq_true_eq, s_ret_r, s_retX, s_cells_n, t_lf, t_ln, t_lc, t_b, t_i, t_s, r_n, r_t, r_cons, one_1, List.append_nil, List.cons_append, List.nil_append, List.all_cons, List.all_nil, Bool.and_true, Bool.true_and, Bool.and_self, PV.cells, cellL, fillL, Nat.reduceLeDiff, Nat.le_refl, List.take_zero, List.drop_zero, List.take_succ_cons, List.drop_succ_cons, List.drop_nil, List.getElem?_cons_zero, List.getElem?_cons_succ, st_b1, st_i1, d_n, d_c, Nat.lt_add_one, Nat.zero_add, Nat.add_zero, s_cells_c, t_some]
  with_reducible refine ite_pr (fun h => ?_) (fun h => ?_)
  · trivial
  · omega
end Go.Proofs.YthcpaohmajjopaaDoor.I
set_option linter.unusedVariables false
set_option linter.unusedSimpArgs false
namespace Go.Proofs.YthcpaohmajjopaaDoor.I
open Go Go.Proofs.YthcpaohmajjopaaDoor.AM
variable {X : Cx}
/-- what `checked` answers -/
def chkAns (code : List Ins) (pl : List Int) : List Ins × Int × Int :=
  let r := chk capX code
  if r.2 = 0 then (code, 0, 0) else if r.2 = 2 ∨ r.2 = 3 then ([], 0, r.2) else ([], pl.getD r.1.toNat 0, r.2)
theorem chkGo_range (c : Ins → Bool) (len : Nat) : ∀ (q : List Ins) (i : Nat) (p : Int × Int), chkGo c len i q = some p → (i : Int) ≤ p.1 ∧ p.1 < (i : Int) + q.length
  | [], i, p, h => by simp [chkGo] at h
  | x :: q, i, p, h => by
    simp only [chkGo] at h
    split at h
    · have := chkGo_range c len q (i + 1) p h
      simp only [List.length_cons]
      omega
    · obtain rfl := Option.some.inj h
      simp only [List.length_cons]
      omega
theorem chk_range (c : Ins → Bool) (code : List Ins) (h0 : (chk c code).2 ≠ 0) (h2 : (chk c code).2 ≠ 2) (h3 : (chk c code).2 ≠ 3) : 0 ≤ (chk c code).1 ∧ (chk c code).1 < code.length := by
  unfold chk at *
  split at h2
  · simp at h2
  · rename_i hn
    rw [if_neg hn] at *
    split at h3
    · simp at h3
    · rename_i hz
      rw [if_neg hz] at *
      cases hg : chkGo c code.length 0 code with
      | none =>
        rw [hg] at h0
        simp only [Option.getD_none, chkEnd] at h0 ⊢
        split
        · simp only; omega
        · rename_i hh; rw [if_neg hh] at h0; simp at h0
      | some p =>
        have := chkGo_range c code.length code 0 p hg
        simp only [Option.getD_some]
        omega
end Go.Proofs.YthcpaohmajjopaaDoor.I
set_option linter.unusedVariables false
set_option linter.unusedSimpArgs false
namespace Go.Proofs.YthcpaohmajjopaaDoor.I
open Go Go.Proofs.YthcpaohmajjopaaDoor.AM
variable {X : Cx}
def twoF (b : ByteArray) (p : Nat) : Int := if 32768 ≤ byteAt b (p : Int) * 256 + byteAt b ((p : Int) + 1) then byteAt b (p : Int) * 256 + byteAt b ((p : Int) + 1) - 65536 else byteAt b (p : Int) * 256 + byteAt b ((p : Int) + 1)
def orB (s : Int) (k : Nat) : Int := bits .or .u64 s (IntKind.u64.wrap (1 * 2 ^ min ((k : Int).tmod 64).toNat IntKind.u64.bits))
def withAt (q : Nat) (s : Int) (k : Nat) : Int := if k / 64 = q then orB s k else s
end Go.Proofs.YthcpaohmajjopaaDoor.I
set_option linter.unusedVariables false
set_option linter.unusedSimpArgs false
namespace Go.Proofs.YthcpaohmajjopaaDoor.I
open Go Go.Proofs.YthcpaohmajjopaaDoor.AM
variable {X : Cx}
/-! reading: a byte more, or 0 and the mark that some were missing -/
def nxV (b : ByteArray) (p : Nat) : Int := if p < b.size then byteAt b (p : Int) else 0
def nxP (b : ByteArray) (p : Nat) : Nat := if p < b.size then p + 1 else p
def nxS (b : ByteArray) (p : Nat) (sh : Bool) : Bool := if p < b.size then sh else true
theorem r30 (b : ByteArray) (p : Nat) (sh : Bool) (hb : b.size ≤ 140737488351232) : R X Tryd.prog 30 [.lf (.ptr 0 0)] [srcL b p sh] (.lf (.int .i64 (nxV b p))) [srcL b (nxP b p) (nxS b p sh)] := by
  unfold nxV nxP nxS
  by_cases h : p < b.size
  · simp only [if_pos h]; exact r30a b p sh h hb
  · simp only [if_neg h]; exact r30b b p sh (by omega)
theorem nxP_le {b : ByteArray} {p : Nat} (h : p ≤ b.size) : nxP b p ≤ b.size := by unfold nxP; split <;> omega
theorem nxV_0 (b : ByteArray) (p : Nat) : 0 ≤ nxV b p := by unfold nxV; split; exact byteAt_0 b p; omega
theorem nxV_1 (b : ByteArray) (p : Nat) : nxV b p ≤ 255 := by unfold nxV; split; exact byteAt_1 b p; omega
def txT (b : ByteArray) (p n : Nat) : ByteArray := if p + n ≤ b.size then b.extract p (p + n) else ⟨#[]⟩
def txP (b : ByteArray) (p n : Nat) : Nat := if p + n ≤ b.size then p + n else p
def txS (b : ByteArray) (p n : Nat) (sh : Bool) : Bool := if p + n ≤ b.size then sh else true
theorem r51 (b : ByteArray) (p n : Nat) (sh : Bool) (hp : p ≤ b.size) (hn : n ≤ 140737488351232) (hb : b.size ≤ 140737488351232) : R X Tryd.prog 51 [.lf (.ptr 0 0), .lf (.int .i64 n)] [srcL b p sh] (.lf (.str (txT b p n))) [srcL b (txP b p n) (txS b p n sh)] := by
  unfold txT txP txS
  by_cases h : p + n ≤ b.size
  · simp only [if_pos h]; exact r51a b p n sh h hb
  · simp only [if_neg h]; exact r51b b p n sh (by omega) hp hn hb
theorem txP_le {b : ByteArray} {p n : Nat} (h : p ≤ b.size) : txP b p n ≤ b.size := by unfold txP; split <;> omega
theorem r51' (b : ByteArray) (q p : Nat) (sh : Bool) (hp : p ≤ b.size) (hb : b.size ≤ 140737488351232) : R X Tryd.prog 51 [.lf (.ptr 0 0), .lf (.int .i64 (nxV b q))] [srcL b p sh] (.lf (.str (txT b p (nxV b q).toNat))) [srcL b (txP b p (nxV b q).toNat) (txS b p (nxV b q).toNat sh)] := by
  have := r51 (X := X) b p (nxV b q).toNat sh hp (by have := nxV_1 b q; omega) hb
  rwa [Int.toNat_of_nonneg (nxV_0 b q)] at this
def ai16 (h l : Int) : Int := IntKind.i64.wrap (IntKind.i16.wrap (bits .or .i64 (IntKind.i64.wrap (h * 2 ^ min (Int.toNat 8) IntKind.i64.bits)) l))
def gA (f : Bool) (b : ByteArray) (p : Nat) (sh : Bool) : Int × Nat × Bool := if f then (ai16 (nxV b p) (nxV b (nxP b p)), nxP b (nxP b p), nxS b (nxP b p) (nxS b p sh)) else (0, p, sh)
def gB (f : Bool) (b : ByteArray) (p : Nat) (sh : Bool) : Int × Nat × Bool := if f then (nxV b p, nxP b p, nxS b p sh) else (0, p, sh)
def gT (f : Bool) (b : ByteArray) (p : Nat) (sh : Bool) : ByteArray × Nat × Bool := if f then (txT b (nxP b p) (nxV b p).toNat, txP b (nxP b p) (nxV b p).toNat, txS b (nxP b p) (nxV b p).toNat (nxS b p sh)) else (⟨#[]⟩, p, sh)
def setV (s v : Int) (k : Nat) : Int := bits .or .u64 s (IntKind.u64.wrap (IntKind.u64.wrap v * 2 ^ min (IntKind.i64.wrap (((k : Int).tmod 8) * 8)).toNat IntKind.u64.bits))
def setAt (q : Nat) (s v : Int) (k : Nat) : Int := if k / 8 = q then setV s v k else s
def gS (b : ByteArray) : Nat → Nat → Nat → Bool → Int → Int → Int → Int → (Int × Int × Int × Int) × Nat × Bool
  | 0, _, p, sh, s0, s1, s2, s3 => ((s0, s1, s2, s3), p, sh)
  | m + 1, k, p, sh, s0, s1, s2, s3 => gS b m (k + 1) (nxP b p) (nxS b p sh) (setAt 0 s0 (nxV b p) k) (setAt 1 s1 (nxV b p) k) (setAt 2 s2 (nxV b p) k) (setAt 3 s3 (nxV b p) k)
def gSet (f : Bool) (b : ByteArray) (p : Nat) (sh : Bool) : (Int × Int × Int × Int) × Nat × Bool := if f then gS b 32 0 p sh 0 0 0 0 else ((0, 0, 0, 0), p, sh)
def insR (fa fb fn ft fs : Bool) (op : Int) (b : ByteArray) (p : Nat) (sh : Bool) : Ins × Nat × Bool :=
  let A := gA fa b p sh
  let B := gB fb b A.2.1 A.2.2
  let N := gB fn b B.2.1 B.2.2
  let T := gT ft b N.2.1 N.2.2
  let S := gSet fs b T.2.1 T.2.2
  (⟨op, A.1, B.1, N.1, T.1, S.1.1, S.1.2.1, S.1.2.2.1, S.1.2.2.2⟩, S.2.1, S.2.2)
theorem r32 (hX : X.G 1 = some usesL) (b : ByteArray) (p : Nat) (sh : Bool) (hb : b.size ≤ 140737488351232) (hp : p ≤ b.size) (k : Nat) (hk : k < 21) (r : Ins × Nat × Bool)
    (hr : insR (hasB k 1) (hasB k 2) (hasB k 4) (hasB k 8) (hasB k 16) k b p sh = r) : R X Tryd.prog 32 [.lf (.ptr 0 0), .lf (.int .i64 k)] [srcL b p sh] (.ag r.1.c) [srcL b r.2.1 r.2.2] := by
  have h1 := r50 hX k hk 1
  have h2 := r50 hX k hk 2
  have h4 := r50 hX k hk 4
  have h8 := r50 hX k hk 8
  have h16 := r50 hX k hk 16
  have key : ∀ (m j : Nat) (p : Nat) (sh : Bool) (op a b' n : Int) (t : ByteArray) (s0 s1 s2 s3 : Int), j + m = 32 → (⟨op, a, b', n, t, (gS b m j p sh s0 s1 s2 s3).1.1, (gS b m j p sh s0 s1 s2 s3).1.2.1, (gS b m j p sh s0 s1 s2 s3).1.2.2.1, (gS b m j p sh s0 s1 s2 s3).1.2.2.2⟩, (gS b m j p sh s0 s1 s2 s3).2) = r →
      LoopAt X Tryd.prog c32_14 [0, 4, 5, 41] (blkK 0 (seqK X Tryd.prog c32_20 (retS [] [] 1 [RV.c 4 9 true] (PV.ag r.1.c) [srcL b r.2.1 r.2.2])))
        { m := 1, tm := [(0, PV.lf (L.ptr 0 0)), (4, PV.lf (L.ptr 4 0)), (5, PV.lf (L.ptr 5 0)), (41, PV.lf (L.int IntKind.i64 (j : Int)))],
          ce := [(0, [L.str b, L.int IntKind.i64 (p : Int), L.bool sh]), (0, [L.str b, L.int IntKind.i64 (p : Int), L.bool sh]), (4, [L.int .i64 0, L.int .i64 0, L.int .i64 0, L.int .i64 0, L.str ⟨#[]⟩, L.int .u64 0, L.int .u64 0, L.int .u64 0, L.int .u64 0]), (5, [L.int .i64 op, L.int .i64 a, L.int .i64 b', L.int .i64 n, L.str t, L.int .u64 s0, L.int .u64 s1, L.int .u64 s2, L.int .u64 s3])] } := by
    intro m
    induction m with
    | zero =>
      intro j p sh op a b' n t s0 s1 s2 s3 hj hr
      obtain rfl : j = 32 := by omega
      subst hr
      intro Z hZ; apply hZ
      have hnl : ¬ ((32 : Nat) : Int) < 32 := by omega
      simp -implicitDefEqProofs (maxSteps := 2000000) only [c32, Ins.c, gS, hnl, ↓reduceIte, s_exit, s_ret, s_ops0, s_seq, s_cond, s_opsK, s_seqK_n, s_seqK_e, s_blkK_e, s_loopK_e, s_cnd, s_nil, s_cons, s_wopsK, s_putK, o_bin, v_lss, v_part_t, o_ld, v_ld_p, v_ldC, o_st, v_st_p, v_stCK, e_t, e_k, e_put, e_get, e_res, e_keep_n, e_keep_c, e_keep1_s, List.length_nil, List.length_cons, Option.getD_some, Nat.reduceEqDiff, Nat.reduceAdd, reduceCtorEq, and_true, decide_eq_true_eq, s_ret_r, s_retX, s_cells_n, t_ag, t_ln, t_lc, t_b, t_i, t_s, r_n, r_c, r_cons, r_cell, r_part_t, one_1, List.append_nil, List.nil_append, List.all_cons, List.all_nil, Bool.and_true, Bool.and_self, PV.cells, cellL, fillL, Nat.le_refl, List.take_zero, List.drop_zero, List.take_succ_cons, List.drop_succ_cons, List.drop_nil, List.take_nil, Option.bind_some, st_b, d_n, d_c, Nat.lt_add_one, Nat.zero_add, s_cells_c, t_some]
    | succ m ih =>
      intro j p sh op a b' n t s0 s1 s2 s3 hj hr
      intro Z hZ; apply hZ
      have hw : IntKind.i64.wrap ((j : Int) + 1) = ((j + 1 : Nat) : Int) := by rw [w64 (by omega) (by omega)]; omega
      have hlt : (j : Int) < 32 := by omega
      have hq : ∃ q : Nat, q < 4 ∧ IntKind.i64.wrap ((j : Int).tdiv 8) = (q : Int) ∧ j / 8 = q := ⟨j / 8, by omega, by rw [w64] <;> simp [Int.tdiv_eq_ediv_of_nonneg] <;> omega, rfl⟩
      obtain ⟨q, hq4, e1, e2⟩ := hq
      have h30 := r30 (X := X) b p sh hb
      simp only [gS, setAt, e2] at hr
      rcases (show q = 0 ∨ q = 1 ∨ q = 2 ∨ q = 3 by omega) with rfl | rfl | rfl | rfl
      all_goals
        simp -implicitDefEqProofs (maxSteps := 2000000) only [c32, hlt, hw, e1, Int.toNat_natCast, Nat.reduceMul, Nat.reduceAdd, Nat.mul_one, List.getElem?_cons_zero, List.getElem?_cons_succ, ↓reduceIte, s_skip, s_ops0, s_seq, s_cond, s_block, s_opsK, s_seqK_n, s_cnd, s_nil, s_cons, s_wopsK, s_putK, o_mv, o_as, o_bin, v_mul, v_quo, v_rem, v_lss, v_part_f, v_atK, o_fa, v_fa_p, o_iaa, v_iaa_p, o_ld, v_ld_p, v_ldC, e_t, e_k, e_put, e_get, e_res, e_keep_n, e_keep_c, e_keep1_s, e_asg_i, Option.getD_some, Nat.reduceEqDiff, Nat.reduceAdd, reduceCtorEq, true_and, decide_eq_true_eq, List.map_cons, List.map_nil, PV.leaves, List.flatMap_cons, List.flatMap_nil, List.append_nil, List.all_cons, List.all_nil, Bool.true_and, Bool.and_self, List.getElem?_cons_zero, List.getElem?_cons_succ, Option.bind_some, m_lf, m_n, m_c, d_n, d_c, dw_n, dw_p, ne_eq, Nat.zero_add, Nat.add_zero, ta_p, kl_b, kl_i, kl_s, kl_p, pc_p, o_callp, v_callp, s_drw, s_drwc, s_drwK, s_drwM, s_kn, s_kc, s_kK, s_drwE, ct_st, cA_0, dD_s, dG_s, dK_i, dK_p, nP_p]
        refine ⟨by decide, ⟨by decide, by decide⟩, by decide, ?_⟩
        refine pcall_i h30 rfl rfl ?_
        simp -implicitDefEqProofs (maxSteps := 2000000) only [c32, hlt, hw, e1, Int.toNat_natCast, Nat.reduceMul, Nat.reduceAdd, Nat.mul_one, List.getElem?_cons_zero, List.getElem?_cons_succ, ↓reduceIte, s_ops0, s_opsK, s_seqK_n, s_blkK_n, s_loopK_n, s_nil, s_cons, s_wopsK, s_putK, o_mv, o_bin, v_add, v_or, v_shl, o_cvi, v_cvi, o_iaa, v_iaa_p, o_st, v_st_p, v_stCK, e_t, e_k, e_put, e_get, e_res, e_keep_n, e_keep_c, e_keep1_s, List.length_nil, List.length_cons, Option.getD_some, Nat.reduceEqDiff, Nat.reduceAdd, reduceCtorEq, true_and, Bool.false_eq_true, outV, ownsV, owns1, ownL, List.map_cons, List.map_nil, List.append_nil, List.cons_append, List.nil_append, List.all_cons, List.all_nil, Bool.true_and, Bool.and_self, PV.cells, cellL, fillL, Nat.reduceLeDiff, Nat.le_refl, List.take_zero, List.drop_zero, List.take_succ_cons, List.drop_succ_cons, List.drop_nil, ol_i, m_lf, m_n, m_c, e_head, e_headK, kC_n, kC_c, pO_n, pO_p, pO_i, st_i1, d_n, d_c, Nat.zero_add, Nat.add_zero, fc_b, fc_i, fc_s, kl_b, kl_i, kl_s, kl_p, kf_s, cp_st, s_drwL, dD_s, dG_s, dK_i, rg_1]
        refine ⟨by rw [w64 (by have := Int.tmod_nonneg (b := 8) (show (0 : Int) ≤ (j : Int) by omega); omega) (by have := Int.tmod_lt_of_pos (j : Int) (show (0 : Int) < 8 by omega); omega)]; have := Int.tmod_nonneg (b := 8) (show (0 : Int) ≤ (j : Int) by omega); omega, ⟨by decide, by decide⟩, ?_⟩
        exact ih (j + 1) _ _ op a b' n t _ _ _ _ (by omega) hr Z hZ
  refine R_i [] [] c32_ok rfl (by simp) ?_
  obtain ⟨f, hf, g1, g2, g4, g8, g16⟩ := pat hk
  rw [g1, g2, g4, g8, g16] at hr
  rw [g1] at h1
  rw [g2] at h2
  rw [g4] at h4
  rw [g8] at h8
  rw [g16] at h16
  clear g1 g2 g4 g8 g16
  simp only [List.mem_cons, List.mem_nil_iff, or_false] at hf
  have a1 : ∀ p, IntKind.i64.wrap (nxV b p) = nxV b p := fun p => w64 (by have := nxV_0 b p; omega) (by have := nxV_1 b p; omega)
  rcases hf with rfl | rfl | rfl | rfl | rfl | rfl | rfl | rfl
  all_goals
    simp -implicitDefEqProofs (maxSteps := 2000000) only [c32, ↓reduceIte, s_ops0, s_seq, s_opsK, s_seqK_n, s_nil, s_cons, s_wopsK, o_mv, o_al, o_st, v_st_p, v_stCK, o_bd, v_agK, v_bd_n, v_bd_c, o_call, e_t, e_k, e_put, e_get, e_res, e_keep_n, e_keep_c, e_keep1_s, St.init, enum, List.length_nil, List.length_cons, Option.getD_some, Nat.reduceEqDiff, Nat.reduceAdd, reduceCtorEq, true_and, Bool.false_eq_true, List.map_cons, List.map_nil, PV.leaves, List.flatMap_cons, List.flatMap_nil, List.append_nil, List.cons_append, List.nil_append, List.all_cons, List.all_nil, Bool.true_and, Bool.and_self, PV.cells, cellL, fillL, Nat.reduceBEq, Nat.reduceLeDiff, Nat.le_refl, List.take_zero, List.drop_zero, List.drop_succ_cons, List.drop_nil, kc_b, kc_i, kc_s, rl_i, kc_p, m_lf, m_ag, m_n, m_c, m_all, st_b, d_n, d_c, ne_eq, not_false_eq_true, Nat.zero_add]
    refine wcall_s h1 rfl rfl ?_
    simp -implicitDefEqProofs (maxSteps := 2000000) only [c32, ↓reduceIte, s_skip, s_ops0, s_seq, s_cond, s_opsK, s_seqK_n, s_cnd, s_nil, s_cons, s_wopsK, o_mv, o_call, e_t, e_k, e_put, e_get, e_res, e_keep_n, e_keep_c, e_keep1_s, Option.getD_some, Nat.reduceEqDiff, reduceCtorEq, Bool.false_eq_true, St.clr, outV, ownsV, owns1, ownL, List.map_cons, List.map_nil, PV.leaves, List.flatMap_cons, List.flatMap_nil, List.append_nil, List.cons_append, List.nil_append, List.getElem?_cons_zero, Option.bind_some, rl_i, ol_b, m_lf, dw_n, dw_p, ta_p, pc_p, o_callp, v_callp]
    try (refine pcall_i (r30 (X := X) b _ _ hb) rfl rfl ?_; simp -implicitDefEqProofs (maxSteps := 2000000) only [c32, ↓reduceIte, s_ops0, s_opsK, s_seqK_n, s_nil, s_cons, s_wopsK, s_putK, o_mv, o_as, o_bin, v_shl, e_t, e_k, e_put, e_get, e_res, e_keep_n, e_keep_c, e_keep1_s, e_asg_i, Option.getD_some, Nat.reduceEqDiff, reduceCtorEq, Bool.false_eq_true, outV, ownsV, owns1, ownL, List.map_cons, List.map_nil, PV.leaves, List.flatMap_cons, List.flatMap_nil, List.append_nil, List.getElem?_cons_zero, Option.bind_some, ol_i, m_lf, m_n, m_c, d_n, d_c, dw_n, dw_p, ta_p, fc_b, fc_i, fc_s, kl_b, kl_i, kl_s, kl_p, kf_s, cp_st, pc_p, o_callp, v_callp]; refine ⟨by decide, ?_⟩; refine pcall_i (r30 (X := X) b _ _ hb) rfl rfl ?_; simp -implicitDefEqProofs (maxSteps := 2000000) only [c32, ↓reduceIte, s_ops0, s_seq, s_opsK, s_seqK_n, s_nil, s_cons, s_wopsK, s_putK, o_mv, o_bin, v_or, o_cvi, v_cvi, o_fa, v_fa_p, o_st, v_st_p, v_stCK, o_call, e_t, e_k, e_put, e_get, e_res, e_keep_n, e_keep_c, e_keep1_s, List.length_nil, List.length_cons, Option.getD_some, Nat.reduceEqDiff, Nat.reduceAdd, reduceCtorEq, true_and, Bool.false_eq_true, outV, ownsV, owns1, ownL, List.map_cons, List.map_nil, PV.leaves, List.flatMap_cons, List.flatMap_nil, List.append_nil, List.cons_append, List.nil_append, List.all_cons, List.all_nil, Bool.true_and, Bool.and_self, PV.cells, cellL, fillL, Nat.reduceLeDiff, List.take_zero, List.drop_zero, List.take_succ_cons, List.drop_succ_cons, rl_i, ol_i, m_lf, m_n, m_c, st_i1, d_n, d_c, Nat.zero_add, fc_b, fc_i, fc_s, kl_b, kl_i, kl_s, kl_p, kf_s, cp_st])
    refine wcall_s h2 rfl rfl ?_
    simp -implicitDefEqProofs (maxSteps := 2000000) only [c32, ↓reduceIte, s_skip, s_ops0, s_seq, s_cond, s_opsK, s_seqK_n, s_cnd, s_nil, s_cons, s_wopsK, o_mv, o_call, e_t, e_k, e_put, e_get, e_res, e_keep_n, e_keep_c, e_keep1_s, Option.getD_some, Nat.reduceEqDiff, reduceCtorEq, Bool.false_eq_true, St.clr, outV, ownsV, owns1, ownL, List.map_cons, List.map_nil, PV.leaves, List.flatMap_cons, List.flatMap_nil, List.append_nil, List.cons_append, List.nil_append, List.getElem?_cons_zero, Option.bind_some, rl_i, ol_b, m_lf, dw_n, dw_p, ta_p, pc_p, o_callp, v_callp]
    try (refine pcall_i (r30 (X := X) b _ _ hb) rfl rfl ?_; simp -implicitDefEqProofs (maxSteps := 2000000) only [c32, ↓reduceIte, s_ops0, s_seq, s_opsK, s_seqK_n, s_nil, s_cons, s_wopsK, s_putK, o_mv, o_fa, v_fa_p, o_st, v_st_p, v_stCK, o_call, e_t, e_k, e_put, e_get, e_res, e_keep_n, e_keep_c, e_keep1_s, List.length_nil, List.length_cons, Option.getD_some, Nat.reduceEqDiff, Nat.reduceAdd, reduceCtorEq, true_and, Bool.false_eq_true, outV, ownsV, owns1, ownL, List.map_cons, List.map_nil, PV.leaves, List.flatMap_cons, List.flatMap_nil, List.append_nil, List.cons_append, List.nil_append, List.all_cons, List.all_nil, Bool.true_and, Bool.and_self, PV.cells, cellL, fillL, Nat.reduceLeDiff, List.take_zero, List.drop_zero, List.take_succ_cons, List.drop_succ_cons, rl_i, ol_i, m_lf, m_n, m_c, st_i1, d_n, d_c, Nat.zero_add, fc_b, fc_i, fc_s, kl_b, kl_i, kl_s, kl_p, kf_s, cp_st])
    refine wcall_s h4 rfl rfl ?_
    simp -implicitDefEqProofs (maxSteps := 2000000) only [c32, ↓reduceIte, s_skip, s_ops0, s_seq, s_cond, s_opsK, s_seqK_n, s_cnd, s_nil, s_cons, s_wopsK, o_mv, o_call, e_t, e_k, e_put, e_get, e_res, e_keep_n, e_keep_c, e_keep1_s, Option.getD_some, Nat.reduceEqDiff, reduceCtorEq, Bool.false_eq_true, St.clr, outV, ownsV, owns1, ownL, List.map_cons, List.map_nil, PV.leaves, List.flatMap_cons, List.flatMap_nil, List.append_nil, List.cons_append, List.nil_append, List.getElem?_cons_zero, Option.bind_some, rl_i, ol_b, m_lf, dw_n, dw_p, ta_p, pc_p, o_callp, v_callp]
    try (refine pcall_i (r30 (X := X) b _ _ hb) rfl rfl ?_; simp -implicitDefEqProofs (maxSteps := 2000000) only [c32, ↓reduceIte, s_ops0, s_seq, s_opsK, s_seqK_n, s_nil, s_cons, s_wopsK, s_putK, o_mv, o_fa, v_fa_p, o_st, v_st_p, v_stCK, o_call, e_t, e_k, e_put, e_get, e_res, e_keep_n, e_keep_c, e_keep1_s, List.length_nil, List.length_cons, Option.getD_some, Nat.reduceEqDiff, Nat.reduceAdd, reduceCtorEq, true_and, Bool.false_eq_true, outV, ownsV, owns1, ownL, List.map_cons, List.map_nil, PV.leaves, List.flatMap_cons, List.flatMap_nil, List.append_nil, List.cons_append, List.nil_append, List.all_cons, List.all_nil, Bool.true_and, Bool.and_self, PV.cells, cellL, fillL, Nat.reduceLeDiff, List.take_zero, List.drop_zero, List.take_succ_cons, List.drop_succ_cons, rl_i, ol_i, m_lf, m_n, m_c, st_i1, d_n, d_c, Nat.zero_add, fc_b, fc_i, fc_s, kl_b, kl_i, kl_s, kl_p, kf_s, cp_st])
    refine wcall_s h8 rfl rfl ?_
    simp -implicitDefEqProofs (maxSteps := 2000000) only [c32, ↓reduceIte, s_skip, s_ops0, s_seq, s_cond, s_opsK, s_seqK_n, s_cnd, s_nil, s_cons, s_wopsK, o_mv, o_call, e_t, e_k, e_put, e_get, e_res, e_keep_n, e_keep_c, e_keep1_s, Option.getD_some, Nat.reduceEqDiff, reduceCtorEq, Bool.false_eq_true, St.clr, outV, ownsV, owns1, ownL, List.map_cons, List.map_nil, PV.leaves, List.flatMap_cons, List.flatMap_nil, List.append_nil, List.cons_append, List.nil_append, List.getElem?_cons_zero, Option.bind_some, rl_i, ol_b, m_lf, dw_n, dw_p, ta_p, pc_p, o_callp, v_callp]
    try (refine pcall_i (r30 (X := X) b _ _ hb) rfl rfl ?_; simp -implicitDefEqProofs (maxSteps := 2000000) only [c32, ↓reduceIte, s_cons, s_wopsK, e_t, e_put, e_get, Option.getD_some, Nat.reduceEqDiff, reduceCtorEq, Bool.false_eq_true, outV, ownsV, owns1, ownL, List.map_cons, List.map_nil, PV.leaves, List.flatMap_cons, List.flatMap_nil, List.append_nil, List.cons_append, List.nil_append, List.getElem?_cons_zero, Option.bind_some, ol_i, m_lf, m_n, m_c, d_n, d_c, dw_n, dw_i, dw_p, ta_i, ta_p, fc_b, fc_i, fc_s, kl_b, kl_i, kl_s, kl_p, kf_s, cp_st, pc_p, o_callp, v_callp]; refine pcall_i (r51' (X := X) b _ _ _ (by first | exact nxP_le hp | exact nxP_le (nxP_le hp) | exact nxP_le (nxP_le (nxP_le hp)) | exact nxP_le (nxP_le (nxP_le (nxP_le hp))) | exact nxP_le (nxP_le (nxP_le (nxP_le (nxP_le hp))))) hb) rfl rfl ?_; simp -implicitDefEqProofs (maxSteps := 2000000) only [c32, ↓reduceIte, s_ops0, s_seq, s_opsK, s_seqK_n, s_nil, s_cons, s_wopsK, s_putK, o_mv, o_fa, v_fa_p, o_st, v_st_p, v_stCK, o_call, e_t, e_k, e_put, e_get, e_res, e_keep_n, e_keep_c, e_keep1_s, List.length_nil, List.length_cons, Option.getD_some, Nat.reduceEqDiff, Nat.reduceAdd, reduceCtorEq, true_and, Bool.false_eq_true, outV, ownsV, owns1, ownL, List.map_cons, List.map_nil, PV.leaves, List.flatMap_cons, List.flatMap_nil, List.append_nil, List.cons_append, List.nil_append, List.all_cons, List.all_nil, Bool.true_and, Bool.and_self, PV.cells, cellL, fillL, Nat.reduceLeDiff, List.take_zero, List.drop_zero, List.take_succ_cons, List.drop_succ_cons, rl_i, ol_s, m_lf, m_n, m_c, st_s1, d_n, d_c, Nat.zero_add, fc_b, fc_i, fc_s, kl_b, kl_i, kl_s, kl_p, kf_s, cp_st])
    refine wcall_s h16 rfl rfl ?_
    simp -implicitDefEqProofs (maxSteps := 2000000) only [c32, ↓reduceIte, s_skip, s_ret, s_ops0, s_seq, s_cond, s_block, s_loop, s_opsK, s_seqK_n, s_cnd, s_nil, s_cons, s_wopsK, s_putK, o_mv, v_part_t, o_ld, v_ld_p, v_ldC, o_st, v_st_p, v_stCK, e_t, e_k, e_put, e_get, e_res, e_keep_n, e_keep_c, e_keep1_s, List.length_nil, List.length_cons, Option.getD_some, Nat.reduceEqDiff, Nat.reduceAdd, reduceCtorEq, true_and, and_true, Bool.false_eq_true, s_ret_r, s_retX, s_cells_n, t_ag, t_ln, t_lc, t_b, t_i, t_s, r_n, r_c, r_cons, r_cell, r_part_t, one_1, St.clr, outV, ownsV, owns1, ownL, List.append_nil, List.cons_append, List.nil_append, List.all_cons, List.all_nil, Bool.and_true, Bool.true_and, Bool.and_self, PV.cells, cellL, fillL, Nat.le_refl, List.take_zero, List.drop_zero, List.take_succ_cons, List.drop_succ_cons, List.drop_nil, List.take_nil, Option.bind_some, ol_b, m_lf, e_head, e_headK, kC_n, kC_c, pO_n, pO_p, pO_i, st_b, d_n, d_c, Nat.lt_add_one, Nat.zero_add, s_cells_c, t_some, rg_1]
    simp only [insR, gA, gB, gT, gSet, if_true, Bool.false_eq_true, if_false] at hr
    first
      | exact key 32 0 _ _ _ _ _ _ _ _ _ _ _ rfl hr
      | (subst hr; simp -implicitDefEqProofs (maxSteps := 2000000) only [Ins.c, ai16, and_self, ↓reduceIte, t_ln, t_lc, t_i, t_s, Bool.and_self]; done)
      | (subst hr; simp -implicitDefEqProofs (maxSteps := 2000000) only [Ins.c, ai16, and_self, ↓reduceIte, s_skip, s_exit, s_ret, s_ops0, s_ops1, s_ops2, s_seq, s_cond, s_block, s_loop, s_opsK, s_seqK_n, s_seqK_e, s_seqK_r, s_blkK_n, s_blkK_e, s_blkK_r, s_loopK_n, s_loopK_e, s_loopK_r, s_cnd, s_nil, s_cons, s_guard, s_wopsK, s_wopsTK, s_wopsqK, s_putK, s_grd, s_grd_no, s_qnil, s_qcons, s_qguard, s_tone, s_tcons, s_tguard, q_as, q_call, q_mv, q_pk, q_bin, q_beq, q_bqb, q_un, q_cvi, q_cvs, q_ext, q_fld, q_ixs, q_fa, q_ia, q_iaa, q_ld, q_nc, q_bd, q_len, q_lns, q_sls, q_sll, q_mi, o_mv, o_as, o_pk, v_pk, o_bin, v_add, v_sub, v_mul, v_quo, v_rem, v_and, v_or, v_xor, v_andNot, v_shl, v_shr, v_eql, v_neq, v_lss, v_leq, v_gtr, v_geq, v_sadd, v_seql, v_sneq, v_slss, v_sleq, v_sgtr, v_sgeq, o_beq, o_bqb, v_bqb, o_un, v_not, v_neg, v_cmp, o_cvi, v_cvi, o_cvs, v_cvs, o_cbs, v_cbs8, v_cbs0, o_ext, v_ext0, v_ext1, v_ext2, v_ext3, o_fld, v_fld, v_part_t, v_part_f, v_atK, o_ixs, v_ixs, o_al, o_bx, o_fa, v_fa_p, v_fa_e, o_ia, v_ia, o_iaa, v_iaa_p, v_iaa_e, o_ld, v_ld_p, v_ldC, v_ld_m, o_st, v_st_p, v_stCK, v_st_e, o_nc, v_nc_p, v_nc_e, o_bd, v_agK, v_bd_n, v_bd_c, o_bs, v_bsK, v_lit_n, v_lit_c, o_ms, o_len, v_len, o_lns, v_lns, o_app, v_app_n, v_app_o, o_aps, v_aps_n, v_aps_o, o_sls, v_sls_a, v_sls_b, v_sls_c, v_sls_d, o_sll, v_sll_a, v_sll_b, v_sll_c, v_sll_d, o_call, o_mi, v_mi, e_t, e_k, e_put, e_put_n, e_get, e_get_n, e_res, e_keep_n, e_keep_c, e_keep1_s, e_keep1_n, e_asg_b, e_asg_i, e_asg_s, e_asg_a, e_asg_r, St.init, enum, List.length_nil, List.length_cons, Option.getD_some, Option.getD_none, Option.map_some, Option.map_none, Nat.reduceEqDiff, Nat.reduceAdd, reduceCtorEq, true_and, and_true, cond_true, cond_false, Bool.not_true, Bool.not_false, if_true, if_false, Bool.true_eq_false, Bool.false_eq_true, Bool.not_eq_true, Bool.not_eq_false, decide_eq_true_eq, decide_eq_false_iff_not , s_ret_r, s_ret_n, s_retX, s_cells_n, t_tp, t_lf, t_ag, t_n, t_c, t_1l, t_1a, t_ln, t_lc, t_b, t_i, t_s, t_np, t_ni, t_if, t_u, t_l, t_oo, t_no, t_nn, t_nr, t_rr, t_or, t_vr, r_n, r_t, r_c, r_cons, r_cell, r_part_t, r_part_f, one_1, one_2 , St.clr, outV, ownsV, owns1, ownL, List.map_cons, List.map_nil, List.any_cons, List.any_nil, Bool.or_false, Bool.false_or, Bool.or_self, PV.leaves, List.flatMap_cons, List.flatMap_nil, List.append_nil, List.cons_append, List.nil_append, List.all_cons, List.all_nil, Bool.and_true, Bool.true_and, Bool.and_self, PV.cells, cellL, datL, placeOf, fillL, Nat.reduceMul, Nat.reduceBEq, Nat.reduceLeDiff, Nat.zero_le, Nat.le_refl, BEq.rfl, List.take_zero, List.drop_zero, List.take_succ_cons, List.drop_succ_cons, List.drop_nil, List.take_nil, List.getElem?_cons_zero, List.getElem?_cons_succ, Nat.reduceSub, Option.bind_some, Option.map_some , kp_b, kp_i, kp_s, kp_np, kp_ni, kp_f, kp_u, kp_no, kps_b, kps_i, kps_s, kps_np, kps_ni, kps_f, kps_u, kps_no, kc_b, kc_i, kc_s, kc_np, kc_ni, kc_f, kc_u, kc_no, ro_b, ro_i, ro_s, ro_np, ro_ni, ro_f, ro_u, ro_no, rk_b, rk_i, rk_s, rk_np, rk_ni, rk_f, rk_u, rk_no, wr_b, wr_i, wr_s, wr_np, wr_ni, wr_f, wr_u, wr_no, rl_b, rl_i, rl_s, rl_np, rl_ni, rl_f, rl_u, rl_no, ol_b, ol_i, ol_s, ol_np, ol_ni, ol_f, ol_u, ol_no, kp_p, kp_lro, kp_lnl, kps_p, kps_lro, kps_lnl, ro_p, ro_lro, ro_lnl, rk_p, rk_lro, rk_lnl, wr_p, wr_lro, wr_lnl, kc_p, kc_l, kp_lo, kp_lv, kps_lo, kps_lv, ro_lo, ro_lv, rk_lo, rk_lv, wr_lo, wr_lv, rl_l, rl_p, ol_lo, ol_lr, ol_ln, m_lf, m_ag, m_tp, m_1l, m_1a, m_n, m_c, m_all, e_asg_n, e_asg_o, e_asg_v, e_asg_p, e_asg_f, e_asg_ni, e_asg_np, e_head, e_headK, kC_n, kC_c, pO_n, pO_p, pO_b, pO_i, pO_s, pO_np, pO_ni, pO_f, pO_u, pO_no, pO_l, pO_e, pO_a, pO_t, st_b, st_b1, st_i1, st_s1, st_np1, st_ni1, st_f1, st_p, st_lr, st_ln, st_lv, st_lo, d_n, d_c, dw_n, dw_b, dw_i, dw_s, dw_np, dw_ni, dw_f, dw_u, dw_no, dw_p, dw_lr, dw_ln, dw_lo, dw_lv, List.range_zero, plT, plC, nO_b, nO_i, nO_s, nO_np, nO_ni, nO_f, nO_p, nO_a, nO_t, nO_lr, nO_ln, nO_lv, ne_eq, not_false_eq_true, Int.reduceNeg, List.map_append, u8s_eq, i64s_eq, strs_eq, bools_eq, u8s_len, i64s_len, strs_len, bools_len, u8s_snoc, i64s_snoc, strs_snoc, bools_snoc, u8s_app, i64s_app, strs_app, v_ld_u8, v_ld_i64, v_ld_str, v_ld_bool, lit_n, lit_c, List.reduceReplicate, List.set_cons_zero, List.set_cons_succ, List.length_append, List.length_replicate, List.length_set, Nat.reduceLT, Nat.lt_add_one, Nat.zero_lt_one, Nat.zero_add, Nat.add_zero, true_or, or_true, or_false, false_or, eq_self, implies_true, forall_const, v_beqK, v_andO, v_beqA, q_i, q_s, q_b, q_n, q_1, q_c, kd_i, kd_s, kd_b, ite_not, Decidable.not_not, Bool.and_eq_true, Bool.or_eq_true, Bool.not_eq_eq_eq_not , kp_t, kp_it, kp_g, kp_fn, kp_er, kp_en, kp_eo, kp_ev, kps_t, kps_it, kps_g, kps_fn, kps_er, kps_en, kps_eo, kps_ev, kc_t, kc_it, kc_g, kc_fn, kc_er, kc_en, kc_eo, kc_ev, rk_t, rk_g, rk_fn, rk_er, rk_en, ro_t, ro_it, ro_g, ro_fn, ro_er, ro_en, ro_eo, ro_ev, rl_t, rl_it, rl_g, rl_fn, rl_er, rl_en, rl_eo, rl_ev, ol_p, ol_t, ol_g, ol_fn, ol_it, ol_er, ol_en, ol_eo, ol_ev, wr_t, wr_g, wr_fn, wr_it, wr_er, wr_en, wr_ev, ip_b, ip_i, ip_s, ip_np, ip_ni, ip_f, ip_u, ip_no, ip_p, ip_lr, ip_ln, ip_lo, ip_lv, ip_t, ip_g, ip_fn, ip_it, ta_b, ta_i, ta_s, ta_np, ta_ni, ta_f, ta_u, ta_no, ta_p, ta_lr, ta_ln, ta_lo, ta_lv, ta_t, ta_it, ta_g, ta_fn, ta_er, ta_en, ta_eo, ta_ev, tc_b, tc_i, tc_s, tc_np, tc_ni, tc_f, tc_u, tc_no, tc_p, tc_lr, tc_ln, tc_lo, tc_lv, tc_t, tc_it, tc_g, tc_fn, tc_er, tc_en, tc_eo, tc_ev, fc_b, fc_i, fc_s, fc_np, fc_ni, fc_f, fc_u, fc_no, fc_p, fc_lr, fc_ln, fc_lo, fc_lv, fc_t, fc_it, fc_g, fc_fn, fc_er, fc_en, fc_eo, fc_ev, kl_b, kl_i, kl_s, kl_np, kl_ni, kl_f, kl_u, kl_no, kl_p, kl_lr, kl_ln, kl_lo, kl_lv, kl_t, kl_it, kl_g, kl_fn, kl_er, kl_en, kl_eo, kl_ev, rc_b, rc_i, rc_s, rc_np, rc_ni, rc_f, rc_u, rc_no, rc_p, rc_lr, rc_ln, rc_lo, rc_lv, rc_t, rc_it, rc_g, rc_fn, rc_er, rc_en, rc_eo, rc_ev, kf_n, kf_s, cp_st, pl_nn, pO_tt, pO_it, pO_g, pO_fn, e_asg_t, st_t1, nO_t0, dw_t0, e_asg_it, st_it1, nO_it0, dw_it0, e_asg_g, st_g1, nO_g0, dw_g0, e_asg_fn, st_fn1, nO_fn0, dw_fn0, e_asg_p0, st_p1, nO_p0, dw_p0, pc_p, pc_t, o_alt, o_bad, o_rng, v_rng, o_nxt, v_nxt, o_peq, v_peq_nn, v_peq_tn, v_peq_pn, v_peq_tt, o_p2u, v_p2u, v_p2uK, o_u2p, v_u2p, v_u2pK, o_ex, v_exK, v_ex0, v_ex1, v_ex2, o_usd, v_usd, ub_len, ub_app, ub_snoc, ub_str, strOfNums_ub, v_cbs_ub, o_ust, v_ust, o_mm, v_mm, o_mkf, v_mkf, v_lf_n, v_lf_c, o_cald, wcald_i, s_bad, s_reg, q_peq, q_p2u, q_u2p, q_ex, q_usd, q_mm, v_fa_t, v_fa_g, v_iaa_g, v_ld_t, v_ld_g, v_st_t, v_nc_t, v_nc_g, v_nc_f, t_p, t_tr, t_g, t_f, s_cells_c, t_some, o_callp, v_callp, isC, cplc, Nat.reduceMod, Nat.reduceDiv, one_0, ba_size, rk_it, v_bx_l, v_bx_a, s_drw, s_drwc, s_drwK, s_drwM, s_kn, s_kc, s_kK, s_drwE, s_drwL, ct_st, cA_0, cA_1, dD_s, dG_s, dK_b, dK_i, dK_s, dK_np, dK_ni, dK_p, nP_b, nP_i, nP_s, nP_np, nP_p, nP_t, rg_1, kp_sl, kps_sl, kc_sl, rk_sl, ro_sl, rl_sl, ol_sl, wr_sl, ip_sl, ta_sl, tc_sl, fc_sl, kl_sl, rc_sl, uw_b, uw_i, uw_s, uw_np, uw_ni, uw_f, uw_u, uw_no, uw_p, uw_lr, uw_ln, uw_lo, uw_lv, uw_t, uw_it, uw_g, uw_fn, uw_sl, uw_er, uw_en, uw_eo, uw_ev, e_asg_sl, st_sl1, nO_sl0, dw_sl0, pc_sl, pO_sl, nP_sl, v_ia_s, v_len_s, lv_rep, List.map_replicate]; exact ⟨rfl, rfl⟩)
end Go.Proofs.YthcpaohmajjopaaDoor.I
set_option linter.unusedVariables false
set_option linter.unusedSimpArgs false
namespace Go.Proofs.YthcpaohmajjopaaDoor.I
open Go Go.Proofs.YthcpaohmajjopaaDoor.AM
variable {X : Cx}
def insK (b : ByteArray) (p : Nat) : Ins × Nat × Bool :=
  insR (hasB (byteAt b p).toNat 1) (hasB (byteAt b p).toNat 2) (hasB (byteAt b p).toNat 4) (hasB (byteAt b p).toNat 8) (hasB (byteAt b p).toNat 16) (byteAt b p).toNat b (p + 1) false
def rd (b : ByteArray) : Nat → Nat → List Ins → List Int → List Ins × Int × Int
  | 0, p, code, pl => if p < b.size then ([], p, 164) else chkAns code pl
  | m + 1, p, code, pl => if b.size ≤ p then ([], b.size, 164) else if byteAt b p < 1 ∨ 20 < byteAt b p then ([], p, 164) else
    if (insK b p).2.2 = true then ([], b.size, 164) else rd b m (insK b p).2.1 (code ++ [(insK b p).1]) (pl ++ [(p : Int)])
theorem gS_le (b : ByteArray) : ∀ (m k p : Nat) (sh : Bool) (s0 s1 s2 s3 : Int), p ≤ b.size → (gS b m k p sh s0 s1 s2 s3).2.1 ≤ b.size
  | 0, _, _, _, _, _, _, _, h => h
  | m + 1, k, p, sh, s0, s1, s2, s3, h => gS_le b m _ _ _ _ _ _ _ (nxP_le h)
theorem insR_le {fa fb fn ft fs : Bool} {op : Int} {b : ByteArray} {p : Nat} {sh : Bool} (h : p ≤ b.size) : (insR fa fb fn ft fs op b p sh).2.1 ≤ b.size := by
  have hA : (gA fa b p sh).2.1 ≤ b.size := by unfold gA; split; exact nxP_le (nxP_le h); exact h
  have hB : ∀ f p sh, p ≤ b.size → (gB f b p sh).2.1 ≤ b.size := fun f p sh h => by unfold gB; split; exact nxP_le h; exact h
  have hT : ∀ f p sh, p ≤ b.size → (gT f b p sh).2.1 ≤ b.size := fun f p sh h => by unfold gT; split; exact txP_le (nxP_le h); exact h
  have hS : ∀ f p sh, p ≤ b.size → (gSet f b p sh).2.1 ≤ b.size := fun f p sh h => by unfold gSet; split; exact gS_le b _ _ _ _ _ _ _ _ h; exact h
  exact hS _ _ _ (hT _ _ _ (hB _ _ _ (hB _ _ _ hA)))
def cntR (b : ByteArray) : Int := bits .or .i64 (IntKind.i64.wrap (nxV b 0 * 2 ^ min (Int.toNat 8) IntKind.i64.bits)) (nxV b (nxP b 0))
def readA (b : ByteArray) : List Ins × Int × Int :=
  if 1048576 < b.size then ([], 0, 2) else if b.size < 2 then ([], b.size, 164) else rd b (cntR b).toNat 2 [] []
end Go.Proofs.YthcpaohmajjopaaDoor.I
