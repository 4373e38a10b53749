/- Contracts, part M5. -/
import Derived.Test.YtkmhoholblbbfaaDoorM4
import Derived.Test.YtkmhoholblbbfaaDoorM2
import Derived.Test.YtkmhoholblbbfaaDoorM1
import Derived.Test.YtkmhoholblbbfaaDoorAmLaid
set_option linter.unusedVariables false
set_option linter.unusedSimpArgs false
namespace Go.Proofs.YtkmhoholblbbfaaDoor.M
open Go Go.Proofs.YtkmhoholblbbfaaDoor.AM
variable {X : Cx}
abbrev capX (x : Ins) : Bool := capB x.b x.n x.t
theorem capOK (code : List Ins) : CapOK X capX code := fun x _ _ h1 h2 => r30 x.b x.n x.t h1 h2
theorem r8x (hX : X.G 0 = some usesL) (code : List Ins) (sp : List (List L)) :
    R X Tryd.prog 8 [.lf (.lst .ro 9 (code.map Ins.c) sp)] [] (.tp [.lf (.int .i64 (chk capX code).1), .lf (.int .i64 (chk capX code).2)]) [] := r8 hX capX code (capOK code) sp
def Nt.same (x y : Nt) : Bool := decide (x.op = y.op) && (decide (x.kind = y.kind) && (decide (x.at' = y.at') && (decide (x.len = y.len) && (decide (x.n = y.n) && (decide (x.t = y.t) && true)))))
theorem Nt.same_eq {x y : Nt} : (x.same y = true) ↔ x = y := by
  cases x; cases y
  simp [Nt.same]
theorem eq_nt (x y : Nt) : eqLs x.c y.c = some (x.same y) := by
  simp [eqLs, eqL, Nt.same]
def sameN : List Nt → List Nt → Bool
  | [], [] => true
  | x :: a, y :: b => x.same y && sameN a b
  | _, _ => false
theorem sameN_eq : ∀ {a b : List Nt}, sameN a b = true ↔ a = b
  | [], [] => by simp [sameN]
  | [], _ :: _ => by simp [sameN]
  | _ :: _, [] => by simp [sameN]
  | x :: a, y :: b => by simp [sameN, Nt.same_eq, sameN_eq]
theorem sameN_len : ∀ {a b : List Nt}, a.length ≠ b.length → sameN a b = false
  | [], [], h => by simp at h
  | [], _ :: _, _ => rfl
  | _ :: _, [], _ => rfl
  | x :: a, y :: b, h => by simp [sameN, sameN_len (a := a) (b := b) (by simpa using h)]
theorem drop_step {α : Type} {l q : List α} {x : α} {i : Nat} (h : l.drop i = x :: q) : i < l.length ∧ l[i]? = some x ∧ l.drop (i + 1) = q := by
  refine ⟨?_, ?_, ?_⟩
  · have := congrArg List.length h
    simp at this; omega
  · have := congrArg (fun l => l[0]?) h
    simpa using this
  · rw [← List.drop_drop, h]; rfl
theorem get_n {l : List Nt} {i : Nat} {x : Nt} (h : l[i]? = some x) : (l.map Nt.c).getD (i : Int).toNat [] = x.c := by
  rw [Int.toNat_natCast, List.getD_eq_getElem?_getD, List.getElem?_map, h]; rfl
theorem wp6 {x : Nt} {K : PV → Prop} : wpart x.c 0 6 true K = K (.ag x.c) := by
  simp [wpart]
theorem r10 (a b : List Nt) (sp sp' : List (List L)) : R X Tryd.prog 10 [.lf (.lst .ro 6 (a.map Nt.c) sp), .lf (.lst .ro 6 (b.map Nt.c) sp')] [] (.lf (.bool (sameN a b))) [] := by
  refine R_i [] [] c10_ok rfl (by simp) ?_
  generalize hr : sameN a b = r
  have hl : (a.map Nt.c).length = a.length := List.length_map _
  have hl' : (b.map Nt.c).length = b.length := List.length_map _
  have key : ∀ (q q' : List Nt) (i : Nat), a.length ≤ 9223372036854775807 → a.length = b.length → a.drop i = q → b.drop i = q' → sameN q q' = r → LoopAt X Tryd.prog c10_10 [0, 1, 5] (blkK 0 (seqK X Tryd.prog c10_14 (retS [] [] 0 [RV.t 4] (PV.lf (L.bool r)) [])))
      { m := 0, tm := [(0, PV.lf (L.lst Tag.ro 6 (List.map Nt.c a) sp)), (1, PV.lf (L.lst Tag.ro 6 (List.map Nt.c b) sp')), (5, PV.lf (L.int IntKind.i64 i))], ce := [] } := by
    intro q
    induction q with
    | nil =>
      intro q' i h0 hll hq hq' hr Z hZ
      apply hZ
      have hi : a.length ≤ i := by simpa using hq
      obtain rfl : q' = [] := by rw [← hq']; simp; omega
      simp -implicitDefEqProofs (maxSteps := 2000000) only [c10, hl, ↓reduceIte, s_skip, s_exit, s_ret, s_ops0, s_ops2, s_seq, s_cond, s_block, s_opsK, s_seqK_n, s_seqK_e, s_blkK_e, s_loopK_e, s_cnd, s_nil, s_cons, s_wopsK, s_wopsqK, s_putK, s_qcons, q_mv, q_ia, q_ld, o_mv, o_as, o_bin, v_lss, o_ia, v_ia, o_ld, o_len, v_len, e_t, e_k, e_put, e_get, e_res, e_keep_n, e_keep_c, e_keep1_s, e_asg_b, Option.getD_some, Nat.reduceEqDiff, reduceCtorEq, true_and, and_true, decide_eq_true_eq, s_ret_r, s_retX, s_cells_n, t_lf, t_b, r_n, r_t, r_cons, one_1, Bool.and_true, Bool.true_and]
      refine fun _ => ?_
      with_reducible refine ite_pr (fun _ => ?_) (fun _ => ?_)
      · omega
      · simpa [sameN] using hr
    | cons x q ih =>
      intro q' i h0 hll hq hq' hr Z hZ
      apply hZ
      obtain ⟨hi, hx, hq⟩ := drop_step hq
      obtain ⟨y, q', rfl⟩ : ∃ y p, q' = y :: p := by
        cases q' with
        | nil => simp at hq'; omega
        | cons y p => exact ⟨y, p, rfl⟩
      obtain ⟨hi', hy, hq'⟩ := drop_step hq'
      have g1 := get_n hx
      have g2 := get_n hy
      have he := eq_nt x y
      have hb := fun neg ks K => v_beq (neg := neg) (ks := ks) (K := K) he
      have kx : x.c.map kindL = [2, 2, 2, 2, 2, 3] := rfl
      have ky : y.c.map kindL = [2, 2, 2, 2, 2, 3] := rfl
      have wp := fun (z : Nt) (K : PV → Prop) => wp6 (x := z) (K := K)
      have w3 : IntKind.i64.wrap ((i : Int) + 1) = ((i + 1 : Nat) : Int) := by rw [w64 (by omega) (by omega)]; omega
      simp only [sameN] at hr
      simp -implicitDefEqProofs (maxSteps := 2000000) only [c10, hl, hl', g1, g2, v_ld_e, wp, hb, kx, ky, w3, ↓reduceIte, s_skip, s_exit, s_ret, s_ops0, s_ops2, s_seq, s_cond, s_block, s_opsK, s_seqK_n, s_seqK_e, s_seqK_r, s_blkK_n, s_blkK_e, s_blkK_r, s_loopK_n, s_loopK_e, s_loopK_r, s_cnd, s_nil, s_cons, s_wopsK, s_wopsqK, s_putK, s_qnil, s_qcons, q_mv, q_beq, q_ia, q_ld, o_mv, o_as, o_bin, v_add, v_lss, o_beq, o_ia, v_ia, o_ld, o_len, v_len, e_t, e_k, e_put, e_get, e_res, e_keep_n, e_keep_c, e_keep1_s, e_asg_b, e_asg_i, Option.getD_some, Nat.reduceEqDiff, reduceCtorEq, true_and, and_true, Bool.not_true, decide_eq_true_eq, s_ret_r, s_retX, s_cells_n, t_lf, t_b, r_n, r_t, r_cons, one_1, List.append_nil, Bool.and_true, Bool.true_and, e_head, e_headK, kC_n, pO_n, pO_i, pO_l, List.range_zero, Bool.not_eq_eq_eq_not]
      refine fun _ => ?_
      with_reducible refine ite_pr (fun _ => ?_) (fun _ => ?_)
      · refine ⟨⟨by omega, by omega⟩, by omega, ⟨by omega, by omega⟩, by omega, ?_⟩
        with_reducible refine ite_pr (fun hs => ?_) (fun hs => ?_)
        · rw [hs, Bool.false_and] at hr
          exact hr
        · refine ih q' (i + 1) h0 hll hq hq' ?_ Z hZ
          simpa [hs] using hr
      · omega
  simp -implicitDefEqProofs (maxSteps := 2000000) only [c10, hl, hl', ↓reduceIte, s_skip, s_ret, s_ops0, s_seq, s_cond, s_block, s_loop, s_opsK, s_seqK_n, s_seqK_r, s_cnd, s_nil, s_cons, s_wopsK, s_putK, o_mv, o_as, o_bin, v_neq, o_len, v_len, e_t, e_k, e_put, e_get, e_res, e_keep_n, e_keep_c, e_keep1_s, e_asg_b, e_asg_i, St.init, enum, List.length_nil, Option.getD_some, Nat.reduceEqDiff, reduceCtorEq, true_and, and_true, decide_eq_true_eq, s_ret_r, s_retX, s_cells_n, t_lf, t_b, r_n, r_t, r_cons, one_1, List.append_nil, Bool.and_true, Bool.true_and, e_head, e_headK, kC_n, pO_n, pO_i, pO_l, List.range_zero, ne_eq, Nat.zero_add, ite_not]
  refine fun h1 h2 => ?_
  with_reducible refine ite_pr (fun h => ?_) (fun h => ?_)
  · exact key a b 0 h1 (by omega) rfl rfl hr
  · rw [sameN_len (by omega)] at hr
    exact hr
/-- an answer of Run -/
structure Rn where
  kind : Int
  e : Int
  lg : List Nt
  steps : Int
  rs : Int
  rn : Int
abbrev Rn.c (r : Rn) (t : Tag) (sq : List (List L)) : List L := [.int .i64 r.kind, .int .i64 r.e, .lst t 6 (r.lg.map Nt.c) sq, .int .i64 r.steps, .int .i64 r.rs, .int .i64 r.rn]
def sameR (a b : Rn) : Bool := decide (a.kind = b.kind) && decide (a.e = b.e) && decide (a.steps = b.steps) && decide (a.rs = b.rs) && decide (a.rn = b.rn) && sameN a.lg b.lg
theorem r7 (a b : Rn) (sq sq' : List (List L)) : R X Tryd.prog 7 [.ag (a.c .ro sq), .ag (b.c .ro sq')] [] (.lf (.bool (sameR a b))) [] := by
  have h10 := r10 (X := X) a.lg b.lg sq sq'
  refine R_i [] [] c7_ok rfl (by simp) ?_
  generalize hr : sameR a b = r
  unfold sameR at hr
  simp -implicitDefEqProofs (maxSteps := 2000000) only [c7, ↓reduceIte, s_ret, s_ops0, s_seq, s_opsK, s_seqK_n, s_nil, s_cons, s_guard, s_wopsK, s_putK, s_grd, q_call, q_bin, q_fa, q_ld, o_mv, o_as, o_pk, v_pk, o_bin, v_eql, v_part_f, v_atK, o_bx, o_fa, v_fa_p, o_ld, v_ld_p, v_ldC, o_call, e_t, e_k, e_put, e_get, e_res, e_keep_n, e_keep_c, e_keep1_s, e_asg_b, St.init, enum, List.length_nil, Option.getD_some, Nat.reduceEqDiff, reduceCtorEq, true_and, and_true, cond_false, Bool.not_true, Bool.false_eq_true, decide_eq_true_eq, s_ret_r, s_retX, s_cells_n, t_lf, t_b, r_n, r_t, r_cons, one_1, List.map_cons, List.map_nil, PV.leaves, List.flatMap_cons, List.flatMap_nil, List.append_nil, List.cons_append, List.nil_append, Bool.and_true, Bool.true_and, Nat.reduceBEq, Nat.zero_le, List.getElem?_cons_zero, List.getElem?_cons_succ, kc_i, kc_p, kc_l, rl_l, m_lf, m_ag, m_n, m_c, m_all, d_n, d_c, Nat.zero_add, Nat.add_zero, v_bx_a]
  with_reducible refine ite_pr (fun h1 => ?_) (fun h1 => (by rw [← hr]; simp [h1]))
  with_reducible refine ite_pr (fun h2 => ?_) (fun h2 => (by rw [← hr]; simp [h2]))
  with_reducible refine ite_pr (fun h3 => ?_) (fun h3 => (by rw [← hr]; simp [h3]))
  with_reducible refine ite_pr (fun h4 => ?_) (fun h4 => (by rw [← hr]; simp [h4]))
  with_reducible refine ite_pr (fun h5 => ?_) (fun h5 => (by rw [← hr]; simp [h5]))
  refine wcall_s h10 rfl rfl ?_
  simp -implicitDefEqProofs (maxSteps := 2000000) only [c7, ↓reduceIte, s_ret, s_opsK, s_seqK_n, s_nil, s_cons, s_wopsK, s_putK, o_as, o_pk, v_pk, e_t, e_k, e_put, e_get, e_res, e_keep_n, e_keep_c, e_keep1_s, e_asg_b, Option.getD_some, Nat.reduceEqDiff, true_and, and_true, Bool.false_eq_true, s_ret_r, s_retX, s_cells_n, t_lf, t_b, r_n, r_t, r_cons, one_1, St.clr, outV, ownsV, owns1, ownL, Bool.and_true, Bool.true_and, ol_b, m_lf]
  rw [← hr]
  simp [h1, h2, h3, h4, h5]
theorem r5 (a b c : Int) : R X Tryd.prog 5 [.ag [.int .i64 a, .int .i64 b, .int .i64 c]] [] (.ag [.int .i64 a, .int .i64 b, .int .i64 (if 5000 < c ∧ c ≤ 1073741824 then 5000 else c)]) [] := by
  refine R_i [] [] c5_ok rfl (by simp) ?_
  generalize hr : (if 5000 < c ∧ c ≤ 1073741824 then (5000 : Int) else c) = r
  simp -implicitDefEqProofs (maxSteps := 2000000) only [c5, ↓reduceIte, s_skip, s_ret, s_ops0, s_seq, s_cond, s_opsK, s_seqK_n, s_cnd, s_nil, s_cons, s_guard, s_wopsK, s_putK, s_grd, q_bin, q_fa, q_ld, o_mv, o_pk, v_pk, o_bin, v_leq, v_gtr, v_part_t, v_part_f, v_atK, o_al, o_bx, o_fa, v_fa_p, o_ld, v_ld_p, v_ldC, o_st, v_st_p, v_stCK, e_t, e_k, e_put, e_get, e_res, e_keep_n, e_keep_c, e_keep1_s, St.init, enum, List.length_nil, List.length_cons, Option.getD_some, Nat.reduceEqDiff, Nat.reduceAdd, true_and, and_true, cond_false, Bool.not_true, Bool.false_eq_true, decide_eq_true_eq, s_ret_r, s_retX, s_cells_n, t_ag, t_ln, t_lc, t_i, r_n, r_c, r_cons, r_cell, r_part_t, one_1, List.map_cons, List.map_nil, List.append_nil, List.cons_append, List.nil_append, List.all_cons, List.all_nil, Bool.and_true, Bool.true_and, Bool.and_self, PV.cells, cellL, fillL, Nat.reduceBEq, Nat.zero_le, Nat.le_refl, List.take_zero, List.drop_zero, List.take_succ_cons, List.drop_succ_cons, List.drop_nil, List.take_nil, List.getElem?_cons_zero, List.getElem?_cons_succ, Option.bind_some, kc_i, kc_p, m_lf, m_ag, m_n, m_c, m_all, st_b, st_i1, d_n, d_c, Nat.zero_add, v_bx_a]
  with_reducible refine ite_pr (fun h1 => ?_) (fun h1 => (by rw [← hr, if_neg (by omega)]))
  with_reducible refine ite_pr (fun h2 => ?_) (fun h2 => (by rw [← hr, if_neg (by omega)]))
  rw [← hr, if_pos (by omega)]
end Go.Proofs.YtkmhoholblbbfaaDoor.M
set_option linter.unusedVariables false
set_option linter.unusedSimpArgs false
namespace Go.Proofs.YtkmhoholblbbfaaDoor.M
open Go Go.Proofs.YtkmhoholblbbfaaDoor.AM
variable {X : Cx}
structure CodeOK (code : List Ins) : Prop where
  pos : 0 < code.length
  len : code.length ≤ 8192
  op : ∀ (i : Nat) (x : Ins), code[i]? = some x → 1 ≤ x.op ∧ x.op ≤ 20
  tg : ∀ (i : Nat) (x : Ins), code[i]? = some x → hasB x.op.toNat 32 = true → -(i : Int) ≤ x.a ∧ x.a < code.length - i
  on : ∀ (i : Nat) (x : Ins), code[i]? = some x → hasB x.op.toNat 64 = true → i + 1 < code.length
theorem chkGo_ok (capF : Ins → Bool) (len : Nat) : ∀ (q : List Ins) (i : Nat), chkGo capF len i q = none → ∀ (j : Nat) (x : Ins), q[j]? = some x → errAt capF len (i + j) x = 0
  | [], i, _, j, x, hx => by simp at hx
  | y :: q, i, h, j, x, hx => by
    simp only [chkGo] at h
    split at h
    · rename_i he
      cases j with
      | zero => simp at hx; subst hx; exact he
      | succ j =>
        have := chkGo_ok capF len q (i + 1) h j x (by simpa using hx)
        rwa [show i + 1 + j = i + (j + 1) by omega] at this
    · cases h
theorem chkGo_ne (capF : Ins → Bool) (len : Nat) : ∀ (q : List Ins) (i : Nat) (p : Int × Int), chkGo capF len i q = some p → p.2 ≠ 0
  | [], i, p, h => by simp [chkGo] at h
  | y :: q, i, p, h => by
    simp only [chkGo] at h
    split at h
    · exact chkGo_ne capF len q _ p h
    · rename_i he
      obtain rfl := Option.some.inj h
      exact he
theorem chk_ok {code : List Ins} (h : (chk capX code).2 = 0) : CodeOK code := by
  unfold chk at h
  split at h
  · cases h
  rename_i h1
  split at h
  · cases h
  rename_i h2
  have hpos : 0 < code.length := by omega
  cases hg : chkGo capX code.length 0 code with
  | some p =>
    rw [hg] at h
    exact absurd h (chkGo_ne _ _ _ _ _ hg)
  | none =>
    rw [hg] at h
    simp only [Option.getD_none, chkEnd] at h
    have hall := chkGo_ok _ _ _ _ hg
    have hlast : ¬ hasB (lastOp code).toNat 64 = true := by
      intro hh; rw [if_pos hh] at h; cases h
    refine ⟨hpos, by omega, fun i x hx => ?_, fun i x hx h32 => ?_, fun i x hx h64 => ?_⟩
    · have := hall i x hx
      unfold errAt at this
      split at this
      · cases this
      · omega
    · have := hall i x hx
      rw [Nat.zero_add] at this
      unfold errAt at this
      split at this
      · cases this
      · split at this
        · cases this
        · split at this
          · cases this
          · rename_i hh
            by_cases h3 : x.a < -(i : Int) ∨ (code.length : Int) - i ≤ x.a
            · exact absurd ⟨h32, h3⟩ hh
            · omega
    · have hi := (List.getElem?_eq_some_iff.1 hx).1
      obtain ⟨y, hy, hlo, _⟩ := last_get hpos
      by_cases e : i = code.length - 1
      · subst e
        rw [hx] at hy
        cases hy
        rw [hlo] at hlast
        exact absurd h64 hlast
      · omega
/-- what stays true while a run goes on, but for the place in the code -/
structure IS (n : Int) (k : MC) (m : MS) : Prop where
  l0 : k.l0 ≤ 1048576
  l1 : k.l1 ≤ 1048576
  s : k.s.size ≤ 65536
  a0 : 0 ≤ m.at'
  a1 : m.at' ≤ k.s.size
  en : ∀ e ∈ m.st, (0 ≤ e.pc ∧ e.pc < n) ∧ 0 ≤ e.at' ∧ e.at' ≤ k.s.size
  st : m.st.length ≤ 1048576
  ok : okS m.st.reverse m.lg.length
  bad : m.bad = 0
theorem IS.pc {n : Int} {k : MC} {m : MS} (h : IS n k m) (p : Int) : IS n k { m with pc := p } := ⟨h.l0, h.l1, h.s, h.a0, h.a1, h.en, h.st, h.ok, h.bad⟩
theorem push_is {n : Int} {k : MC} {m : MS} {e : Ent} (h : IS n k m) (he : (0 ≤ e.pc ∧ e.pc < n) ∧ 0 ≤ e.at' ∧ e.at' ≤ k.s.size) (hn : e.ret = false → e.no = m.lg.length) (hb : (pushM k e m).bad = 0) : IS n k (pushM k e m) ∧ (pushM k e m).pc = m.pc := by
  unfold pushM at hb ⊢
  split
  · rename_i h1
    rw [if_pos h1] at hb
    simp at hb
  · rename_i h1
    refine ⟨⟨h.l0, h.l1, h.s, h.a0, h.a1, fun x hx => ?_, ?_, ?_, h.bad⟩, rfl⟩
    · simp only [List.mem_append, List.mem_singleton] at hx
      rcases hx with hx | rfl
      · exact h.en x hx
      · exact he
    · have := h.l0
      simp
      omega
    · simp only [List.reverse_append, List.reverse_cons, List.reverse_nil, List.nil_append, List.singleton_append, okS]
      split
      · exact h.ok
      · rename_i h2
        have h3 := hn (by simpa using h2)
        rw [h3]
        exact ⟨by omega, Int.le_refl _, by rw [Int.toNat_natCast]; exact h.ok⟩
theorem pop_is {n : Int} {k : MC} {m : MS} {ret : Bool} (h : IS n k m) (hb : (popM ret m).2.bad = 0) :
    IS n k (popM ret m).2 ∧ ((0 ≤ (popM ret m).1.pc ∧ (popM ret m).1.pc < n) ∧ 0 ≤ (popM ret m).1.at' ∧ (popM ret m).1.at' ≤ k.s.size) ∧ (popM ret m).2.pc = m.pc ∧ (popM ret m).2.lg = m.lg ∧ (ret = false → 0 ≤ (popM ret m).1.no ∧ (popM ret m).1.no ≤ m.lg.length ∧ okS (popM ret m).2.st.reverse (popM ret m).1.no.toNat) := by
  have hok := h.ok
  have hen := h.en
  have hst := h.st
  revert hb
  unfold popM
  rcases List.eq_nil_or_concat m.st with he | ⟨st', e, he⟩
  · rw [he]; simp
  · rw [he] at hok hen hst ⊢
    simp only [List.concat_eq_append, List.getLast?_concat, List.reverse_append, List.reverse_cons, List.reverse_nil, List.nil_append, List.singleton_append, okS, List.dropLast_concat] at hok hen hst ⊢
    split
    · rename_i hr
      intro _
      have hm : m.st.length = st'.length + 1 := by rw [he]; simp
      have hl := h.st
      refine ⟨⟨h.l0, h.l1, h.s, h.a0, h.a1, fun x hx => hen x (List.mem_append_left _ hx), by simp only; omega, ?_, h.bad⟩, hen e (by simp), rfl, rfl, fun hf => ?_⟩
      · simp only
        split at hok
        · exact hok
        · exact okS_mono _ _ _ hok.2.2 (by omega)
      · rw [hf] at hr
        rw [if_neg (by rw [hr]; decide)] at hok
        exact hok
    · intro hb
      simp at hb
theorem note_is {n : Int} {k : MC} {m : MS} {x : Nt} (h : IS n k m) (hb : (noteM k x m).bad = 0) : IS n k (noteM k x m) ∧ (noteM k x m).pc = W (m.pc + 1) := by
  unfold noteM at hb ⊢
  split
  · rename_i h1
    rw [if_pos h1] at hb
    simp at hb
  · refine ⟨⟨h.l0, h.l1, h.s, h.a0, h.a1, h.en, h.st, ?_, h.bad⟩, rfl⟩
    simp only [List.length_append, List.length_cons, List.length_nil]
    exact okS_mono _ _ _ h.ok (by omega)
theorem failR_is {n : Int} {k : MC} : ∀ (r : List Ent) (m : MS), IS n k m → (∀ e ∈ r, (0 ≤ e.pc ∧ e.pc < n) ∧ 0 ≤ e.at' ∧ e.at' ≤ k.s.size) → r.length ≤ 1048576 → okS r m.lg.length → (0 ≤ m.pc ∧ m.pc < n) → IS n k (failR r m) ∧ (0 ≤ (failR r m).pc ∧ (failR r m).pc < n)
  | [], m, h, _, _, _, hp => ⟨⟨h.l0, h.l1, h.s, h.a0, h.a1, fun e he => by simp [failR] at he, by simp [failR], trivial, h.bad⟩, hp⟩
  | e :: r, m, h, hen, hl, hok, hp => by
    simp only [failR]
    simp only [okS] at hok
    have he := hen e (List.mem_cons_self ..)
    simp only [List.length_cons] at hl
    split
    · rename_i h1
      rw [if_pos h1] at hok
      exact failR_is r m h (fun x hx => hen x (List.mem_cons_of_mem _ hx)) (by omega) hok hp
    · rename_i h1
      rw [if_neg h1] at hok
      refine ⟨⟨h.l0, h.l1, h.s, he.2.1, he.2.2, fun x hx => hen x (List.mem_cons_of_mem _ (by simpa using hx)), by simp only [List.length_reverse]; omega, ?_, h.bad⟩, he.1⟩
      simp only [List.reverse_reverse, List.length_take]
      exact okS_mono _ _ _ hok.2.2 (by omega)
theorem fail_is {n : Int} {k : MC} {m : MS} (h : IS n k m) (hp : 0 ≤ m.pc ∧ m.pc < n) : IS n k (failM m) ∧ (0 ≤ (failM m).pc ∧ (failM m).pc < n) :=
  failR_is _ m h (fun e he => h.en e (by simpa using he)) (by have := h.st; simpa using this) h.ok hp
end Go.Proofs.YtkmhoholblbbfaaDoor.M
set_option linter.unusedVariables false
set_option linter.unusedSimpArgs false
namespace Go.Proofs.YtkmhoholblbbfaaDoor.M
open Go Go.Proofs.YtkmhoholblbbfaaDoor.AM
variable {X : Cx}
theorem span_bd (k : MC) (G : Int → Bool) : ∀ (n : Nat) (a : Int), 0 ≤ a → a ≤ k.s.size → 0 ≤ spanN k G n a ∧ spanN k G n a ≤ k.s.size
  | 0, a, h0, h1 => ⟨h0, h1⟩
  | n + 1, a, h0, h1 => by
    simp only [spanN]
    split
    · rename_i h
      simp only [Bool.and_eq_true, decide_eq_true_eq] at h
      exact span_bd k G n (a + 1) (by omega) (by omega)
    · exact ⟨h0, h1⟩
theorem pop_len1 {ret : Bool} {m : MS} (h : (popM ret m).2.bad = 0) : (popM ret m).2.st.length + 1 = m.st.length := by
  revert h
  unfold popM
  rcases List.eq_nil_or_concat m.st with he | ⟨st', e, he⟩
  · rw [he]; simp
  · rw [he]
    simp only [List.concat_eq_append, List.getLast?_concat, List.dropLast_concat]
    split
    · simp
    · intro h; simp at h
theorem step_is {code : List Ins} (hc : CodeOK code) {k : MC} {m : MS} (h : IS code.length k m) (hp : 0 ≤ m.pc ∧ m.pc < code.length) {x : Ins} (hx : code[m.pc.toNat]? = some x) (hb : (stepM k x m).bad = 0) :
    IS code.length k (stepM k x m) ∧ (0 ≤ (stepM k x m).pc ∧ (stepM k x m).pc < code.length) := by
  have hop := hc.op _ x hx
  have htg := hc.tg _ x hx
  have hon := hc.on _ x hx
  have hlen := hc.len
  obtain ⟨j, hj, hj1, hj2⟩ : ∃ j : Nat, x.op.toNat = j ∧ 1 ≤ j ∧ j ≤ 20 := ⟨x.op.toNat, rfl, by omega, by omega⟩
  have hpn : ((m.pc.toNat : Nat) : Int) = m.pc := by omega
  have w1 : m.pc + 1 < code.length → (0 ≤ W (m.pc + 1) ∧ W (m.pc + 1) < code.length) := fun h1 => by
    have : W (m.pc + 1) = m.pc + 1 := w64 (by omega) (by omega)
    omega
  have nx : hasB j 64 = true → (0 ≤ W (m.pc + 1) ∧ W (m.pc + 1) < code.length) := fun h1 => w1 (by have := hon (by rw [hj]; exact h1); omega)
  have wa : hasB j 32 = true → (0 ≤ W (m.pc + x.a) ∧ W (m.pc + x.a) < code.length) := fun h1 => by
    have := htg (by rw [hj]; exact h1)
    have : W (m.pc + x.a) = m.pc + x.a := w64 (by omega) (by omega)
    omega
  have take : ∀ G, hasB j 64 = true → IS code.length k (takeM k G m) ∧ (0 ≤ (takeM k G m).pc ∧ (takeM k G m).pc < code.length) := fun G h1 => by
    unfold takeM
    split
    · rename_i h2
      simp only [seesB, Bool.and_eq_true, decide_eq_true_eq] at h2
      have a0 := h.a0
      have ss := h.s
      have wq : W (m.at' + 1) = m.at' + 1 := w64 (by omega) (by omega)
      exact ⟨⟨h.l0, h.l1, h.s, by simp only; omega, by simp only; omega, h.en, h.st, h.ok, h.bad⟩, nx h1⟩
    · exact fail_is h hp
  have test : ∀ G, hasB j 64 = true → hasB j 32 = true → IS code.length k (testM k G x m) ∧ (0 ≤ (testM k G x m).pc ∧ (testM k G x m).pc < code.length) := fun G h1 h2 => by
    unfold testM
    split
    · exact ⟨h.pc _, nx h1⟩
    · exact ⟨h.pc _, wa h2⟩
  have z0 : (0 : Int) ≤ 0 ∧ (0 : Int) ≤ k.s.size := ⟨Int.le_refl _, by omega⟩
  unfold stepM at hb ⊢
  rw [hj] at hb ⊢
  rcases (show j = 1 ∨ j = 2 ∨ j = 3 ∨ j = 4 ∨ j = 5 ∨ j = 6 ∨ j = 7 ∨ j = 8 ∨ j = 9 ∨ j = 10 ∨ j = 11 ∨ j = 12 ∨ j = 13 ∨ j = 14 ∨ j = 15 ∨ j = 16 ∨ j = 17 ∨ j = 18 ∨ j = 19 ∨ j = 20 by omega) with rfl | rfl | rfl | rfl | rfl | rfl | rfl | rfl | rfl | rfl | rfl | rfl | rfl | rfl | rfl | rfl | rfl | rfl | rfl | rfl
  · exact take _ (by decide +kernel)
  · exact take _ (by decide +kernel)
  · exact take _ (by decide +kernel)
  · exact test _ (by decide +kernel) (by decide +kernel)
  · exact test _ (by decide +kernel) (by decide +kernel)
  · exact test _ (by decide +kernel) (by decide +kernel)
  · have hs := span_bd k (setI x) (k.s.size + 1) m.at' h.a0 h.a1
    exact ⟨⟨h.l0, h.l1, h.s, hs.1, hs.2, h.en, h.st, h.ok, h.bad⟩, nx (by decide +kernel)⟩
  · obtain ⟨q1, q2⟩ := push_is (e := ⟨false, W (m.pc + x.a), m.at', m.lg.length⟩) h ⟨wa (by decide +kernel), h.a0, h.a1⟩ (fun _ => rfl) hb
    simp only [choiceM]
    rw [q2]
    exact ⟨q1.pc _, nx (by decide +kernel)⟩
  · obtain ⟨q1, _, q2, _⟩ := pop_is (ret := false) h hb
    simp only [commitM]
    rw [q2]
    exact ⟨q1.pc _, wa (by decide +kernel)⟩
  · have hb' : (popM false m).2.bad = 0 := hb
    obtain ⟨q1, q3, q2, q4, q5⟩ := pop_is (ret := false) h hb'
    obtain ⟨u1, u2, u3⟩ := q5 rfl
    refine ⟨⟨h.l0, h.l1, h.s, q1.a0, q1.a1, fun e he => ?_, ?_, ?_, hb'⟩, ?_⟩
    · simp only [partialM, hb', if_true, List.mem_append, List.mem_singleton] at he
      rcases he with he | rfl
      · exact q1.en e he
      · exact ⟨q3.1, q1.a0, q1.a1⟩
    · simp only [partialM, hb', if_true, List.length_append, List.length_cons, List.length_nil]
      have := pop_len1 hb'
      have := h.st
      omega
    · simp only [partialM, hb', if_true, List.reverse_append, List.reverse_cons, List.reverse_nil, List.nil_append, List.singleton_append, okS, Bool.false_eq_true, if_false]
      exact ⟨by omega, Int.le_refl _, by rw [Int.toNat_natCast]; exact q1.ok⟩
    · simp only [partialM]
      rw [q2]
      exact wa (by decide +kernel)
  · have hb' : (popM false m).2.bad = 0 := hb
    obtain ⟨q1, q3, q2, q4, q5⟩ := pop_is (ret := false) h hb'
    obtain ⟨u1, u2, u3⟩ := q5 rfl
    simp only [backM, hb', if_true]
    refine ⟨⟨h.l0, h.l1, h.s, q3.2.1, q3.2.2, q1.en, q1.st, ?_, rfl⟩, ?_⟩
    · simp only [List.length_take, q4]
      exact okS_mono _ _ _ u3 (by omega)
    · rw [q2]
      exact wa (by decide +kernel)
  · simp only [twiceM] at hb ⊢
    split at hb
    · rename_i h1
      rw [if_pos h1]
      obtain ⟨q1, _, q2, _⟩ := pop_is (ret := false) h h1
      exact fail_is q1 (by rw [q2]; exact hp)
    · rename_i h1
      exact absurd hb h1
  · exact fail_is h hp
  · exact ⟨h.pc _, wa (by decide +kernel)⟩
  · obtain ⟨q1, q2⟩ := push_is (e := ⟨true, W (m.pc + 1), 0, 0⟩) h ⟨nx (by decide +kernel), z0⟩ (fun h => by cases h) hb
    simp only [callM]
    rw [q2]
    exact ⟨q1.pc _, wa (by decide +kernel)⟩
  · obtain ⟨q1, q3, _⟩ := pop_is (ret := true) h hb
    exact ⟨q1.pc _, q3.1⟩
  · exact ⟨⟨h.l0, h.l1, h.s, h.a0, h.a1, h.en, h.st, h.ok, h.bad⟩, hp⟩
  · obtain ⟨q1, q2⟩ := note_is h hb
    simp only [openM]
    exact ⟨q1, by rw [q2]; exact nx (by decide +kernel)⟩
  · obtain ⟨q1, q2⟩ := note_is h hb
    simp only [closeM]
    exact ⟨q1, by rw [q2]; exact nx (by decide +kernel)⟩
  · simp only [fullM] at hb ⊢
    split at hb
    · simp at hb
    · rename_i h1
      rw [if_neg h1]
      obtain ⟨q1, q2⟩ := note_is h hb
      exact ⟨q1, by rw [q2]; exact nx (by decide +kernel)⟩
end Go.Proofs.YtkmhoholblbbfaaDoor.M
set_option linter.unusedVariables false
set_option linter.unusedSimpArgs false
namespace Go.Proofs.YtkmhoholblbbfaaDoor.M
open Go Go.Proofs.YtkmhoholblbbfaaDoor.AM
variable {X : Cx}
/-- A nil row serves where an empty own row does. -/
inductive NlS : List L → List L → Prop where
  | nil : NlS [] []
  | same {x : L} {a b : List L} : NlS a b → NlS (x :: a) (x :: b)
  | nl {p e sz : Nat} {a b : List L} : NlS a b → NlS (.lst .nl sz [] [] :: a) (.lst (.own p e) sz [] [] :: b)
theorem NlS.all {E : Env} {w : World} : ∀ {a b : List L} {u : List Value}, NlS a b → All2 (LeafV E w) a u → All2 (LeafV E w) b u
  | _, _, _, .nil, h => h
  | _, _, _, .same h, .cons h1 h2 => .cons h1 (NlS.all h h2)
  | _, _, _, .nl h, .cons h1 h2 => by
    refine .cons ?_ (NlS.all h h2)
    obtain ⟨A, cap, e1, e2⟩ := h1
    obtain ⟨q1, q2, q3, q4⟩ := e2
    exact ⟨A, cap, e1, .inl ⟨q1, q2, rfl, rfl⟩⟩
theorem R_nl {P : Program} {f : Nat} {args : List PV} {cs0 cs cs' : List L} {r : PV} (hn : NlS cs0 cs) (h : R X P f args [cs] r [cs']) : R X P f args [cs0] r [cs'] := by
  intro E w vs hX hI hk ha hC
  refine h E w vs hX hI hk ha (fun c x hx => ?_)
  cases c with
  | succ c => simp at hx
  | zero =>
    simp only [List.getElem?_cons_zero, Option.some.injEq] at hx
    subst hx
    obtain ⟨b, u, T, h1, h2, h3⟩ := hC 0 cs0 rfl
    exact ⟨b, u, T, h1, h2, hn.all h3⟩
/-- the state at the beginning -/
abbrev mst0 (k : MC) (m : MS) : List L := [.lst .ro 9 k.code k.sp, .str k.s, .int .i64 k.l0, .int .i64 k.l1, .int .i64 k.l2, .int .i64 m.pc, .int .i64 m.at', .lst .nl 4 [] [], .lst .nl 6 [] [], .int .i64 m.kind, .int .i64 0, .lst .nl 6 [] [], .int .i64 m.steps, .int .i64 m.rs, .int .i64 m.rn, .int .i64 m.bad]
theorem nls (k : MC) (m : MS) (h1 : m.st = []) (h2 : m.lg = []) : NlS (mst0 k m) (mst k m) := by
  unfold mst
  rw [h1, h2]
  exact .same (.same (.same (.same (.same (.same (.same (.nl (.nl (.same (.same (.nl (.same (.same (.same (.same .nil)))))))))))))))
def ins0 : Ins := ⟨0, 0, 0, 0, ⟨#[]⟩, 0, 0, 0, 0⟩
/-- the run -/
def goRun (code : List Ins) (k : MC) : Nat → MS → MS × Int
  | 0, m => if m.kind = 0 then (m, 212) else (m, 0)
  | n + 1, m => if m.kind = 0 then
      (if (stepM k (code.getD m.pc.toNat ins0) { m with steps := m.steps + 1 }).bad = 0 then goRun code k n (stepM k (code.getD m.pc.toNat ins0) { m with steps := m.steps + 1 })
        else (stepM k (code.getD m.pc.toNat ins0) { m with steps := m.steps + 1 }, (stepM k (code.getD m.pc.toNat ins0) { m with steps := m.steps + 1 }).bad))
      else (m, 0)
def rn0 : Rn := ⟨0, 0, [], 0, 0, 0⟩
def m0 (at_ : Int) : MS := ⟨0, at_, [], [], 0, 0, 0, 0, 0⟩
def runA (code : List Ins) (sp : List (List L)) (s : ByteArray) (at_ l0 l1 l2 : Int) : Rn × Int :=
  if ¬ (chk capX code).2 = 0 then (rn0, (chk capX code).2) else if 65536 < s.size then (rn0, 2) else
  if at_ < 0 ∨ (s.size : Int) < at_ ∨ l0 < 0 ∨ 1048576 < l0 ∨ l1 < 0 ∨ 1048576 < l1 ∨ l2 < 0 ∨ 1073741824 < l2 then (rn0, 1) else
  let p := goRun code ⟨code.map Ins.c, sp, s, l0, l1, l2⟩ l2.toNat (m0 at_)
  if ¬ p.2 = 0 then (rn0, p.2) else (⟨p.1.kind, if p.1.kind = 1 then p.1.at' else 0, if p.1.kind = 1 then p.1.lg else [], p.1.steps, p.1.rs, p.1.rn⟩, 0)
abbrev mstR (k : MC) (m : MS) : List L := [.lst .ro 9 k.code k.sp, .str k.s, .int .i64 k.l0, .int .i64 k.l1, .int .i64 k.l2, .int .i64 m.pc, .int .i64 m.at', .lst (.own 9231 68) 4 (m.st.map Ent.c) [], .lst (.own 9233 63) 6 (m.lg.map Nt.c) [], .int .i64 m.kind, .int .i64 0, .lst (.own 9239 63) 6 [] [], .int .i64 m.steps, .int .i64 m.rs, .int .i64 m.rn, .int .i64 m.bad]
theorem pop_steps (ret : Bool) (m : MS) : (popM ret m).2.steps = m.steps := by
  unfold popM
  split
  · rfl
  · split <;> rfl
theorem push_steps (k : MC) (e : Ent) (m : MS) : (pushM k e m).steps = m.steps := by unfold pushM; split <;> rfl
theorem note_steps (k : MC) (e : Nt) (m : MS) : (noteM k e m).steps = m.steps := by unfold noteM; split <;> rfl
theorem failR_steps : ∀ (r : List Ent) (m : MS), (failR r m).steps = m.steps
  | [], m => rfl
  | e :: r, m => by
    simp only [failR]
    split
    · exact failR_steps r m
    · rfl
theorem step_steps (k : MC) (x : Ins) (m : MS) : (stepM k x m).steps = m.steps := by
  have ft : ∀ m : MS, (failM m).steps = m.steps := fun m => failR_steps _ m
  have tk : ∀ G, (takeM k G m).steps = m.steps := fun G => by
    unfold takeM
    split
    · rfl
    · exact ft m
  have ts : ∀ G, (testM k G x m).steps = m.steps := fun G => by unfold testM; split <;> rfl
  unfold stepM
  split
  · exact tk _
  · exact tk _
  · exact tk _
  · exact ts _
  · exact ts _
  · exact ts _
  · rfl
  · exact push_steps _ _ _
  · exact pop_steps _ _
  · exact pop_steps _ _
  · exact pop_steps _ _
  · unfold twiceM
    split
    · exact (ft _).trans (pop_steps _ _)
    · exact pop_steps _ _
  · exact ft m
  · rfl
  · exact push_steps _ _ _
  · exact pop_steps _ _
  · rfl
  · exact note_steps _ _ _
  · exact note_steps _ _ _
  · unfold fullM
    split
    · rfl
    · exact note_steps _ _ _
theorem pop_lg (ret : Bool) (m : MS) : (popM ret m).2.lg = m.lg := by
  unfold popM
  split
  · rfl
  · split <;> rfl
theorem push_lg (k : MC) (e : Ent) (m : MS) : (pushM k e m).lg = m.lg := by unfold pushM; split <;> rfl
theorem note_lg (k : MC) (e : Nt) (m : MS) (h : m.lg.length ≤ 1048576) (h1 : k.l1 ≤ 1048576) : (noteM k e m).lg.length ≤ 1048576 := by
  unfold noteM
  split
  · exact h
  · simp only [List.length_append, List.length_cons, List.length_nil]; omega
theorem failR_lg : ∀ (r : List Ent) (m : MS), (failR r m).lg.length ≤ m.lg.length
  | [], m => Nat.le_refl _
  | e :: r, m => by
    simp only [failR]
    split
    · exact failR_lg r m
    · simp only [List.length_take]; omega
theorem step_lg (k : MC) (x : Ins) (m : MS) (h : m.lg.length ≤ 1048576) (h1 : k.l1 ≤ 1048576) : (stepM k x m).lg.length ≤ 1048576 := by
  have ft : ∀ m : MS, (failM m).lg.length ≤ m.lg.length := fun m => failR_lg _ m
  have tk : ∀ G, (takeM k G m).lg.length ≤ 1048576 := fun G => by
    unfold takeM
    split
    · exact h
    · exact Nat.le_trans (ft m) h
  have ts : ∀ G, (testM k G x m).lg.length ≤ 1048576 := fun G => by unfold testM; split <;> exact h
  have pl : ∀ ret, (popM ret m).2.lg.length ≤ 1048576 := fun ret => by rw [pop_lg]; exact h
  unfold stepM
  split
  · exact tk _
  · exact tk _
  · exact tk _
  · exact ts _
  · exact ts _
  · exact ts _
  · exact h
  · simp only [choiceM]; rw [push_lg]; exact h
  · exact pl _
  · exact pl _
  · simp only [backM]
    split
    · simp only [List.length_take]; have := pl false; omega
    · exact pl _
  · unfold twiceM
    split
    · exact Nat.le_trans (ft _) (pl _)
    · exact pl _
  · exact Nat.le_trans (ft m) h
  · exact h
  · simp only [callM]; rw [push_lg]; exact h
  · exact pl _
  · exact h
  · exact note_lg _ _ _ h h1
  · exact note_lg _ _ _ h h1
  · unfold fullM
    split
    · exact h
    · exact note_lg _ _ _ h h1
theorem map_getD {l : List L} {j : Nat} {d : L} (h : j < l.length) : (l.map fun v => [v]).getD j [] = [l.getD j d] := by
  rw [List.getD_eq_getElem?_getD, List.getElem?_map, List.getElem?_eq_getElem h, List.getD_eq_getElem?_getD, List.getElem?_eq_getElem h]; rfl
theorem IS.mok {n : Int} {k : MC} {m : MS} (h : IS n k m) : MOK k m := ⟨h.l0, h.l1, h.s, h.a0, h.st, h.ok, h.bad⟩
set_option maxRecDepth 10000 in
theorem r6g (hX : X.G 0 = some usesL) (code : List Ins) (sp : List (List L)) (s : ByteArray) (at_ l0 l1 l2 : Int) (T : Tag) (hT : (runA code sp s at_ l0 l1 l2).2 = 0 → T = .own 0 63) (hT' : T = .own 0 63 ∨ T = .nl) :
    R X Tryd.prog 6 [.lf (.lst .ro 9 (code.map Ins.c) sp), .lf (.str s), .lf (.int .i64 at_), .ag [.int .i64 l0, .int .i64 l1, .int .i64 l2]] [] (.tp [.ag ((runA code sp s at_ l0 l1 l2).1.c T []), .lf (.int .i64 (runA code sp s at_ l0 l1 l2).2)]) [] := by
  have h8 := r8x hX code sp
  refine R_i [(0, 9239)] [] c6_ok rfl (by simp) ?_
  generalize hr : runA code sp s at_ l0 l1 l2 = r at hT ⊢
  unfold runA at hr
  simp -implicitDefEqProofs (maxSteps := 2000000) only [c6, ↓reduceIte, s_ops0, s_seq, s_opsK, s_seqK_n, s_nil, s_cons, s_wopsK, o_mv, o_as, o_al, o_bx, o_call, e_t, e_k, e_put, e_get, e_res, e_keep_n, e_keep_c, e_keep1_s, e_asg_i, St.init, enum, List.length_nil, Option.getD_some, Nat.reduceEqDiff, Nat.reduceAdd, reduceCtorEq, true_and, Bool.false_eq_true, List.map_cons, List.map_nil, PV.leaves, List.flatMap_cons, List.flatMap_nil, List.append_nil, Bool.true_and, Nat.reduceBEq, Nat.zero_le, kc_i, kc_s, kc_p, kc_l, rl_l, m_lf, m_ag, m_n, m_c, m_all, d_n, d_c, Nat.zero_add, v_bx_a]
  refine wcall_s h8 rfl rfl ?_
  simp -implicitDefEqProofs (maxSteps := 2000000) only [c6, ↓reduceIte, s_skip, s_ret, s_ops0, s_seq, s_cond, s_opsK, s_seqK_n, s_seqK_r, s_cnd, s_nil, s_cons, s_guard, s_wopsK, s_putK, s_grd, q_mv, q_bin, q_fa, q_ld, q_lns, o_mv, o_as, o_pk, v_pk, o_bin, v_neq, v_lss, v_gtr, o_ext, v_ext0, v_ext1, v_part_t, v_part_f, v_atK, o_bx, o_fa, v_fa_p, o_ld, v_ld_p, v_ldC, o_st, v_st_p, v_stCK, o_bd, v_agK, v_bd_n, v_bd_c, o_lns, v_lns, o_call, e_t, e_k, e_put, e_get, e_res, e_keep_n, e_keep_c, e_keep1_s, e_asg_i, List.length_nil, List.length_cons, Option.getD_some, Nat.reduceEqDiff, Nat.reduceAdd, reduceCtorEq, true_and, and_true, cond_false, Bool.not_false, Bool.true_eq_false, Bool.false_eq_true, decide_eq_true_eq, decide_eq_false_iff_not, s_ret_r, s_retX, s_cells_n, t_tp, t_n, t_c, t_1l, t_1a, t_ln, t_lc, t_i, t_l, r_n, r_t, r_c, r_cons, r_cell, r_part_t, one_2, St.clr, outV, ownsV, owns1, ownL, List.map_cons, List.map_nil, List.any_cons, List.any_nil, Bool.or_self, PV.leaves, List.flatMap_nil, List.append_nil, List.cons_append, List.nil_append, List.all_cons, List.all_nil, Bool.and_true, Bool.true_and, Bool.and_self, PV.cells, cellL, fillL, Nat.reduceBEq, Nat.reduceLeDiff, Nat.zero_le, Nat.le_refl, List.take_zero, List.drop_zero, List.take_succ_cons, List.drop_succ_cons, List.drop_nil, List.take_nil, List.getElem?_cons_zero, List.getElem?_cons_succ, Option.bind_some, kc_b, kc_i, kc_s, ol_i, kc_p, kc_l, m_lf, m_ag, m_tp, m_1l, m_n, m_c, m_all, e_asg_p, st_b, d_n, d_c, ne_eq, not_false_eq_true, Nat.zero_add, Nat.add_zero, true_or, or_true, ite_not, v_bx_a]
  by_cases h0 : (chk capX code).2 = 0
  · rw [if_pos h0]
    rw [if_neg (by omega)] at hr
    with_reducible refine ite_pr (fun h1 => ?_) (fun h1 => ?_)
    · rw [if_pos (by omega)] at hr
      rw [← hr]; (rcases hT' with rfl | rfl <;> simp [rn0, tagTo])
    rw [if_neg (by omega)] at hr
    have hbad : ∀ {q : Prop}, (at_ < 0 ∨ (s.size : Int) < at_ ∨ l0 < 0 ∨ 1048576 < l0 ∨ l1 < 0 ∨ 1048576 < l1 ∨ l2 < 0 ∨ 1073741824 < l2) → r = (rn0, 1) := fun h => by rw [if_pos h] at hr; exact hr.symm
    with_reducible refine ite_pr (fun h2 => (by rw [hbad (q := True) (by omega)]; (rcases hT' with rfl | rfl <;> simp [rn0, tagTo]))) (fun h2 => ?_)
    with_reducible refine ite_pr (fun h3 => (by rw [hbad (q := True) (by omega)]; (rcases hT' with rfl | rfl <;> simp [rn0, tagTo]))) (fun h3 => ?_)
    with_reducible refine ite_pr (fun h4 => (by rw [hbad (q := True) (by omega)]; (rcases hT' with rfl | rfl <;> simp [rn0, tagTo]))) (fun h4 => ?_)
    with_reducible refine ite_pr (fun h5 => (by rw [hbad (q := True) (by omega)]; (rcases hT' with rfl | rfl <;> simp [rn0, tagTo]))) (fun h5 => ?_)
    with_reducible refine ite_pr (fun h6 => (by rw [hbad (q := True) (by omega)]; (rcases hT' with rfl | rfl <;> simp [rn0, tagTo]))) (fun h6 => ?_)
    with_reducible refine ite_pr (fun h7 => (by rw [hbad (q := True) (by omega)]; (rcases hT' with rfl | rfl <;> simp [rn0, tagTo]))) (fun h7 => ?_)
    with_reducible refine ite_pr (fun h8' => (by rw [hbad (q := True) (by omega)]; (rcases hT' with rfl | rfl <;> simp [rn0, tagTo]))) (fun h8' => ?_)
    with_reducible refine ite_pr (fun h9 => (by rw [hbad (q := True) (by omega)]; (rcases hT' with rfl | rfl <;> simp [rn0, tagTo]))) (fun h9 => ?_)
    rw [if_neg (by omega)] at hr
    have hc := chk_ok h0
    generalize hk : (⟨code.map Ins.c, sp, s, l0, l1, l2⟩ : MC) = k at hr
    have hl : (code.map Ins.c).length = code.length := List.length_map _
    have key : ∀ (n : Nat) (m : MS) (cs : List L), (cs = mst0 k m ∧ m.st = [] ∧ m.lg = [] ∨ cs = mstR k m) → IS code.length k m → (0 ≤ m.pc ∧ m.pc < code.length) → m.steps + n = l2 → 0 ≤ m.steps → m.lg.length ≤ 1048576 → goRun code k n m = goRun code k l2.toNat (m0 at_) →
        LoopAt X Tryd.prog c6_23 [0, 7, 8, 12, 13] (blkK 0 (seqK X Tryd.prog c6_30 (retS [(0, 9239)] [] 0 [RV.c 8 6 true, RV.t 9] (PV.tp [PV.ag (r.1.c T []), PV.lf (L.int IntKind.i64 r.2)]) [])))
          { m := 0, tm := [(0, PV.lf (L.lst Tag.ro 9 (List.map Ins.c code) sp)), (7, PV.lf (L.ptr 7 0)), (8, PV.lf (L.ptr 8 0)), (12, PV.lf (L.ptr 72 0)), (13, PV.lf (L.lst (Tag.own 1664 52) 1 (tab2.map fun v => [v]) []))],
            ce := [(7, [L.int IntKind.i64 l0, L.int IntKind.i64 l1, L.int IntKind.i64 l2]), (8, [L.int IntKind.i64 0, L.int IntKind.i64 0, L.lst (Tag.own 1029 63) 6 [] [], L.int IntKind.i64 0, L.int IntKind.i64 0, L.int IntKind.i64 0]), (72, cs)] } := by
      intro n
      induction n with
      | zero =>
        intro m cs hcs his hp hst hs0 hlgb hg
        have hge : l2 ≤ m.steps := by omega
        simp only [goRun] at hg
        rcases hcs with ⟨rfl, e1, e2⟩ | rfl
        · subst hk
          intro Z hZ; apply hZ
          simp -implicitDefEqProofs (maxSteps := 2000000) only [c6, hge, decide_true, ↓reduceIte, s_skip, s_exit, s_ret, s_ops0, s_ops2, s_seq, s_cond, s_block, s_opsK, s_seqK_n, s_seqK_e, s_seqK_r, s_blkK_e, s_blkK_r, s_loopK_e, s_loopK_r, s_cnd, s_nil, s_cons, s_wopsK, s_wopsqK, s_putK, s_qnil, s_qcons, q_mv, q_bin, q_fa, q_ld, q_nc, o_mv, o_as, o_bin, v_eql, v_geq, v_part_t, v_part_f, v_atK, o_fa, v_fa_p, o_ld, v_ld_p, v_ldC, o_st, v_st_p, v_stCK, o_nc, v_nc_p, o_bd, v_agK, v_bd_n, o_bs, v_bsK, v_lit_n, o_app, v_app_o, e_t, e_k, e_put, e_get, e_res, e_keep_n, e_keep_c, e_keep1_s, e_asg_i, List.length_nil, List.length_cons, Option.getD_some, Nat.reduceEqDiff, Nat.reduceAdd, reduceCtorEq, true_and, and_true, Bool.false_eq_true, decide_eq_true_eq, s_ret_r, s_retX, s_cells_n, t_tp, t_n, t_c, t_1l, t_1a, t_ln, t_lc, t_i, t_l, r_n, r_t, r_c, r_cons, r_cell, r_part_t, one_2, List.map_cons, List.map_nil, List.append_nil, List.cons_append, List.nil_append, List.all_cons, List.all_nil, Bool.and_true, Bool.true_and, Bool.and_self, PV.cells, cellL, fillL, Nat.reduceMul, Nat.reduceBEq, Nat.reduceLeDiff, Nat.zero_le, Nat.le_refl, BEq.rfl, List.take_zero, List.drop_zero, List.take_succ_cons, List.drop_succ_cons, List.drop_nil, List.take_nil, List.getElem?_cons_zero, List.getElem?_cons_succ, Option.bind_some, kp_i, kp_s, kp_u, rk_i, rk_s, rk_u, kp_p, kp_lro, kp_lnl, rk_p, rk_lro, rk_lnl, kp_lo, rk_lo, m_lf, m_n, m_c, m_all, st_b, st_i1, st_lo, d_n, d_c, dw_n, plT, plC, lit_n, List.reduceReplicate, Nat.zero_add, Nat.add_zero, true_or, or_true]
          with_reducible refine ite_pr (fun hk0 => ?_) (fun hk0 => ?_)
          · rw [if_pos hk0] at hg
            rw [← hg] at hr
            rw [← hr]; (rcases hT' with rfl | rfl <;> simp [rn0, tagTo])
          · rw [if_neg hk0] at hg
            rw [← hg] at hr
            simp only [not_true_eq_false, if_false] at hr
            subst hr
            obtain rfl := hT rfl
            have hlm : (m.lg.map Nt.c).length = m.lg.length := List.length_map _
            with_reducible refine ite_pr (fun hk1 => ?_) (fun hk1 => ?_)
            · first
                | (refine ⟨by rw [hlm]; omega, ?_⟩; simp [hk1, tagTo, AM.get]; done)
                | (simp [hk1, e2, tagTo, AM.get]; done)
                | (simp [hk1, e2, tagTo, AM.get]; omega)
            · simp [hk1, tagTo, AM.get]
        · subst hk
          intro Z hZ; apply hZ
          simp -implicitDefEqProofs (maxSteps := 2000000) only [c6, hge, decide_true, ↓reduceIte, s_skip, s_exit, s_ret, s_ops0, s_ops2, s_seq, s_cond, s_block, s_opsK, s_seqK_n, s_seqK_e, s_seqK_r, s_blkK_e, s_blkK_r, s_loopK_e, s_loopK_r, s_cnd, s_nil, s_cons, s_wopsK, s_wopsqK, s_putK, s_qnil, s_qcons, q_mv, q_bin, q_fa, q_ld, q_nc, o_mv, o_as, o_bin, v_eql, v_geq, v_part_t, v_part_f, v_atK, o_fa, v_fa_p, o_ld, v_ld_p, v_ldC, o_st, v_st_p, v_stCK, o_nc, v_nc_p, o_bd, v_agK, v_bd_n, o_bs, v_bsK, v_lit_n, o_app, v_app_o, e_t, e_k, e_put, e_get, e_res, e_keep_n, e_keep_c, e_keep1_s, e_asg_i, List.length_nil, List.length_cons, Option.getD_some, Nat.reduceEqDiff, Nat.reduceAdd, reduceCtorEq, true_and, and_true, Bool.false_eq_true, decide_eq_true_eq, s_ret_r, s_retX, s_cells_n, t_tp, t_n, t_c, t_1l, t_1a, t_ln, t_lc, t_i, t_l, r_n, r_t, r_c, r_cons, r_cell, r_part_t, one_2, List.map_cons, List.map_nil, List.append_nil, List.cons_append, List.nil_append, List.all_cons, List.all_nil, Bool.and_true, Bool.true_and, Bool.and_self, PV.cells, cellL, fillL, Nat.reduceMul, Nat.reduceBEq, Nat.reduceLeDiff, Nat.zero_le, Nat.le_refl, BEq.rfl, List.take_zero, List.drop_zero, List.take_succ_cons, List.drop_succ_cons, List.drop_nil, List.take_nil, List.getElem?_cons_zero, List.getElem?_cons_succ, Option.bind_some, kp_i, kp_s, kp_u, rk_i, rk_s, rk_u, kp_p, kp_lro, rk_p, rk_lro, kp_lo, rk_lo, m_lf, m_n, m_c, m_all, st_b, st_i1, st_lo, d_n, d_c, dw_n, plT, plC, lit_n, List.reduceReplicate, Nat.zero_add, Nat.add_zero, true_or, or_true]
          with_reducible refine ite_pr (fun hk0 => ?_) (fun hk0 => ?_)
          · rw [if_pos hk0] at hg
            rw [← hg] at hr
            rw [← hr]; (rcases hT' with rfl | rfl <;> simp [rn0, tagTo])
          · rw [if_neg hk0] at hg
            rw [← hg] at hr
            simp only [not_true_eq_false, if_false] at hr
            subst hr
            obtain rfl := hT rfl
            have hlm : (m.lg.map Nt.c).length = m.lg.length := List.length_map _
            with_reducible refine ite_pr (fun hk1 => ?_) (fun hk1 => ?_)
            · first
                | (refine ⟨by rw [hlm]; omega, ?_⟩; simp [hk1, tagTo, AM.get]; done)
                | (simp [hk1, e2, tagTo, AM.get]; done)
                | (simp [hk1, e2, tagTo, AM.get]; omega)
            · simp [hk1, tagTo, AM.get]
      | succ n ih =>
        intro m cs hcs his hp hst hs0 hlgb hg
        have hlen := hc.len
        have hxi : m.pc.toNat < code.length := by omega
        have hx : code[m.pc.toNat]? = some code[m.pc.toNat] := List.getElem?_eq_getElem hxi
        generalize code[m.pc.toNat] = x at hx
        have hop := hc.op _ x hx
        have hxd : code.getD m.pc.toNat ins0 = x := by rw [List.getD_eq_getElem?_getD, hx]; rfl
        have hget : (code.map Ins.c).getD m.pc.toNat [] = [.int .i64 x.op, .int .i64 x.a, .int .i64 x.b, .int .i64 x.n, .str x.t, .int .u64 x.s0, .int .u64 x.s1, .int .u64 x.s2, .int .u64 x.s3] := by rw [List.getD_eq_getElem?_getD, List.getElem?_map, hx]; rfl
        have his' : IS code.length k { m with steps := m.steps + 1 } := ⟨his.l0, his.l1, his.s, his.a0, his.a1, his.en, his.st, his.ok, his.bad⟩
        obtain ⟨f, cp, hv, hf, hpu, hR⟩ := disp (X := X) k { m with steps := m.steps + 1 } x x.op.toNat (by omega) (by omega) (by omega) his'.mok
        have hjl : x.op.toNat < 21 := by omega
        have htab : ([[L.nilf], [tk 14], [tk 16], [tk 18], [ts 14], [ts 16], [ts 18], [spn], [fnc 31], [fnc 33], [fnc 35], [fnc 36], [fnc 37], [fnc 38], [fnc 39], [fnc 40], [fnc 41], [fnc 42], [fnc 43], [fnc 45], [fnc 46]] : List (List L)).getD x.op.toNat [] = [.fn f [] cp] := by
          have := map_getD (l := tab2) (j := x.op.toNat) (d := .nilf) hjl
          rw [hv] at this
          exact this
        simp only [goRun] at hg
        rw [hxd] at hg
        have w1 : IntKind.i64.wrap (m.steps + 1) = m.steps + 1 := w64 (by omega) (by omega)
        have hlt : ¬ l2 ≤ m.steps := by omega
        rcases hcs with ⟨rfl, e1, e2⟩ | rfl
        · subst hk
          simp only [Ins.c] at hR
          intro Z hZ; apply hZ
          simp -implicitDefEqProofs (maxSteps := 2000000) only [c6, hlt, w1, hget, hl, v_ld_e, decide_false, htab, hpu, ↓reduceIte, s_skip, s_exit, s_ret, s_ops0, s_ops2, s_seq, s_cond, s_block, s_opsK, s_seqK_n, s_seqK_e, s_blkK_e, s_loopK_e, s_cnd, s_nil, s_cons, s_wopsK, s_wopsqK, s_putK, s_qnil, s_qcons, q_mv, q_bin, q_fa, q_ia, q_ld, q_nc, o_mv, o_as, o_bin, v_add, v_eql, v_geq, v_part_t, v_part_f, v_atK, o_al, o_fa, v_fa_p, o_ia, v_ia, o_ld, v_ld_p, v_ldC, o_st, v_st_p, v_stCK, o_nc, v_nc_p, o_bs, v_bsK, v_lit_n, o_app, v_app_o, e_t, e_k, e_put, e_get, e_res, e_keep_n, e_keep_c, e_keep1_s, e_asg_i, List.length_nil, List.length_cons, Option.getD_some, Nat.reduceEqDiff, Nat.reduceAdd, reduceCtorEq, true_and, and_true, Bool.false_eq_true, decide_eq_true_eq, s_ret_r, s_retX, s_cells_n, t_tp, t_n, t_c, t_1l, t_1a, t_ln, t_lc, t_i, t_l, r_n, r_t, r_c, r_cons, r_cell, r_part_t, one_2, List.map_cons, List.map_nil, PV.leaves, List.flatMap_cons, List.flatMap_nil, List.append_nil, List.cons_append, List.nil_append, List.all_cons, List.all_nil, Bool.and_true, Bool.true_and, Bool.and_self, PV.cells, cellL, fillL, Nat.reduceMul, Nat.reduceBEq, Nat.reduceLeDiff, Nat.zero_le, Nat.le_refl, BEq.rfl, List.take_zero, List.drop_zero, List.take_succ_cons, List.drop_succ_cons, List.drop_nil, List.take_nil, List.getElem?_cons_zero, List.getElem?_cons_succ, Option.bind_some, kp_i, kp_s, kp_u, kc_i, kc_s, rk_i, rk_s, rk_u, rl_i, rl_s, kp_p, kp_lro, kp_lnl, rk_p, rk_lro, rk_lnl, kc_p, kc_l, kp_lo, rk_lo, rl_p, m_lf, m_ag, m_n, m_c, m_all, st_b, st_i1, st_lo, d_n, d_c, dw_n, plT, plC, lit_n, List.reduceReplicate, Nat.zero_add, Nat.add_zero, true_or, or_true, kc_er, o_cald, s_reg]
          with_reducible refine ite_pr (fun hk0 => ?_) (fun hk0 => ?_)
          · refine ⟨⟨hp.1, hxi⟩, hxi, ⟨by omega, hjl⟩, hjl, ?_⟩
            refine wcald_p hf hpu 0 rfl rfl (R_nl (nls _ { m with steps := m.steps + 1 } e1 e2) hR) ?_ rfl rfl ?_
            · rfl
            have hsi := fun hb => step_is hc his' hp hx hb
            rw [if_pos hk0] at hg
            have hss : (stepM (⟨code.map Ins.c, sp, s, l0, l1, l2⟩ : MC) x { m with steps := m.steps + 1 }).steps = m.steps + 1 := step_steps _ _ _
            have hml := step_lg (⟨code.map Ins.c, sp, s, l0, l1, l2⟩ : MC) x { m with steps := m.steps + 1 } hlgb his.l1
            generalize stepM _ x _ = m1 at *
            have k72 : [72].contains 72 = true := by decide
            have k7 : [72].contains 7 = false := by decide
            have k8 : [72].contains 8 = false := by decide
            simp -implicitDefEqProofs (maxSteps := 2000000) only [c6, k72, k7, k8, ↓reduceIte, s_skip, s_ret, s_ops0, s_seq, s_cond, s_opsK, s_seqK_n, s_seqK_r, s_blkK_n, s_blkK_r, s_loopK_n, s_loopK_r, s_cnd, s_nil, s_cons, s_wopsK, s_putK, o_mv, o_as, o_bin, v_neq, v_part_f, v_atK, o_fa, v_fa_p, o_ld, v_ld_p, v_ldC, o_st, v_st_p, v_stCK, o_nc, v_nc_p, o_bd, v_agK, v_bd_n, e_t, e_k, e_put, e_get, e_res, e_keep_n, e_keep_c, e_keep1_s, e_asg_i, List.length_nil, List.length_cons, Option.getD_some, Nat.reduceEqDiff, Nat.reduceAdd, reduceCtorEq, true_and, and_true, Bool.false_eq_true, decide_eq_true_eq, s_ret_r, s_retX, s_cells_n, t_tp, t_n, t_c, t_1l, t_1a, t_ln, t_lc, t_i, t_l, r_n, r_t, r_c, r_cons, r_cell, r_part_t, one_2, outV, ownsV, List.map_cons, List.map_nil, List.any_nil, List.append_nil, List.nil_append, List.all_cons, List.all_nil, Bool.and_true, Bool.true_and, Bool.and_self, PV.cells, cellL, fillL, Nat.reduceMul, Nat.reduceBEq, Nat.le_refl, BEq.rfl, List.take_zero, List.drop_zero, List.take_succ_cons, List.drop_succ_cons, List.drop_nil, List.take_nil, List.getElem?_cons_zero, List.getElem?_cons_succ, Option.bind_some, m_lf, m_ag, m_tp, m_n, m_c, e_head, e_headK, kC_n, kC_c, pO_n, pO_p, pO_l, st_b, d_n, d_c, dw_n, dw_i, dw_s, dw_p, List.range_zero, ne_eq, Nat.zero_add, true_or, or_true, ite_not, fc_i, fc_s, fc_lr, fc_lo, kl_i, kl_s, kl_p, kl_lr, kl_ln, kl_lo, kl_fn, kl_eo, kf_s, cp_st, isC, cplc, Nat.reduceMod, Nat.reduceDiv, s_gdr, s_gn, s_gc, s_gK, s_gE, s_r1, s_r2, s_rF, s_rK, g_D, g_O, g_i, g_p, g_ev, p_n, p_c, p_cs, p_1, c_n, c_c, c_cs, cg_st, cg_b, cg_p, cg_l, k_n, k_c, k_p, s_gms, s_gmn, mo_mv, mo_fa, mo_ld, mo_nc]
            with_reducible refine ite_pr (fun hb => ?_) (fun hb => ?_)
            · rw [if_pos hb] at hg
              exact ih m1 _ (.inr rfl) (hsi hb).1 (hsi hb).2 (by rw [hss]; omega) (by rw [hss]; omega) hml hg Z hZ
            · rw [if_neg hb] at hg
              rw [← hg] at hr
              simp only [hb, not_false_eq_true, if_true] at hr
              rw [← hr]
              (rcases hT' with rfl | rfl <;> simp [rn0, tagTo])
          · rw [if_neg hk0] at hg
            rw [← hg] at hr
            simp only [not_true_eq_false, if_false] at hr
            subst hr
            obtain rfl := hT rfl
            have hlm : (m.lg.map Nt.c).length = m.lg.length := List.length_map _
            with_reducible refine ite_pr (fun hk1 => ?_) (fun hk1 => ?_)
            · first
                | (refine ⟨by rw [hlm]; omega, ?_⟩; simp [hk1, tagTo, AM.get]; done)
                | (simp [hk1, e2, tagTo, AM.get]; done)
                | (simp [hk1, e2, tagTo, AM.get]; omega)
            · simp [hk1, tagTo, AM.get]
        · subst hk
          simp only [Ins.c] at hR
          intro Z hZ; apply hZ
          simp -implicitDefEqProofs (maxSteps := 2000000) only [c6, hlt, w1, hget, hl, v_ld_e, decide_false, htab, hpu, ↓reduceIte, s_skip, s_exit, s_ret, s_ops0, s_ops2, s_seq, s_cond, s_block, s_opsK, s_seqK_n, s_seqK_e, s_blkK_e, s_loopK_e, s_cnd, s_nil, s_cons, s_wopsK, s_wopsqK, s_putK, s_qnil, s_qcons, q_mv, q_bin, q_fa, q_ia, q_ld, q_nc, o_mv, o_as, o_bin, v_add, v_eql, v_geq, v_part_t, v_part_f, v_atK, o_al, o_fa, v_fa_p, o_ia, v_ia, o_ld, v_ld_p, v_ldC, o_st, v_st_p, v_stCK, o_nc, v_nc_p, o_bs, v_bsK, v_lit_n, o_app, v_app_o, e_t, e_k, e_put, e_get, e_res, e_keep_n, e_keep_c, e_keep1_s, e_asg_i, List.length_nil, List.length_cons, Option.getD_some, Nat.reduceEqDiff, Nat.reduceAdd, reduceCtorEq, true_and, and_true, Bool.false_eq_true, decide_eq_true_eq, s_ret_r, s_retX, s_cells_n, t_tp, t_n, t_c, t_1l, t_1a, t_ln, t_lc, t_i, t_l, r_n, r_t, r_c, r_cons, r_cell, r_part_t, one_2, List.map_cons, List.map_nil, PV.leaves, List.flatMap_cons, List.flatMap_nil, List.append_nil, List.cons_append, List.nil_append, List.all_cons, List.all_nil, Bool.and_true, Bool.true_and, Bool.and_self, PV.cells, cellL, fillL, Nat.reduceMul, Nat.reduceBEq, Nat.reduceLeDiff, Nat.zero_le, Nat.le_refl, BEq.rfl, List.take_zero, List.drop_zero, List.take_succ_cons, List.drop_succ_cons, List.drop_nil, List.take_nil, List.getElem?_cons_zero, List.getElem?_cons_succ, Option.bind_some, kp_i, kp_s, kp_u, kc_i, kc_s, rk_i, rk_s, rk_u, rl_i, rl_s, kp_p, kp_lro, rk_p, rk_lro, kc_p, kc_l, kp_lo, rk_lo, rl_p, m_lf, m_ag, m_n, m_c, m_all, st_b, st_i1, st_lo, d_n, d_c, dw_n, plT, plC, lit_n, List.reduceReplicate, Nat.zero_add, Nat.add_zero, true_or, or_true, kc_er, o_cald, s_reg]
          with_reducible refine ite_pr (fun hk0 => ?_) (fun hk0 => ?_)
          · refine ⟨⟨hp.1, hxi⟩, hxi, ⟨by omega, hjl⟩, hjl, ?_⟩
            refine wcald_p hf hpu 0 rfl rfl hR ?_ rfl rfl ?_
            · rfl
            have hsi := fun hb => step_is hc his' hp hx hb
            rw [if_pos hk0] at hg
            have hss : (stepM (⟨code.map Ins.c, sp, s, l0, l1, l2⟩ : MC) x { m with steps := m.steps + 1 }).steps = m.steps + 1 := step_steps _ _ _
            have hml := step_lg (⟨code.map Ins.c, sp, s, l0, l1, l2⟩ : MC) x { m with steps := m.steps + 1 } hlgb his.l1
            generalize stepM _ x _ = m1 at *
            have k72 : [72].contains 72 = true := by decide
            have k7 : [72].contains 7 = false := by decide
            have k8 : [72].contains 8 = false := by decide
            simp -implicitDefEqProofs (maxSteps := 2000000) only [c6, k72, k7, k8, ↓reduceIte, s_skip, s_ret, s_ops0, s_seq, s_cond, s_opsK, s_seqK_n, s_seqK_r, s_blkK_n, s_blkK_r, s_loopK_n, s_loopK_r, s_cnd, s_nil, s_cons, s_wopsK, s_putK, o_mv, o_as, o_bin, v_neq, v_part_f, v_atK, o_fa, v_fa_p, o_ld, v_ld_p, v_ldC, o_st, v_st_p, v_stCK, o_nc, v_nc_p, o_bd, v_agK, v_bd_n, e_t, e_k, e_put, e_get, e_res, e_keep_n, e_keep_c, e_keep1_s, e_asg_i, List.length_nil, List.length_cons, Option.getD_some, Nat.reduceEqDiff, Nat.reduceAdd, reduceCtorEq, true_and, and_true, Bool.false_eq_true, decide_eq_true_eq, s_ret_r, s_retX, s_cells_n, t_tp, t_n, t_c, t_1l, t_1a, t_ln, t_lc, t_i, t_l, r_n, r_t, r_c, r_cons, r_cell, r_part_t, one_2, outV, ownsV, List.map_cons, List.map_nil, List.any_nil, List.append_nil, List.nil_append, List.all_cons, List.all_nil, Bool.and_true, Bool.true_and, Bool.and_self, PV.cells, cellL, fillL, Nat.reduceMul, Nat.reduceBEq, Nat.le_refl, BEq.rfl, List.take_zero, List.drop_zero, List.take_succ_cons, List.drop_succ_cons, List.drop_nil, List.take_nil, List.getElem?_cons_zero, List.getElem?_cons_succ, Option.bind_some, m_lf, m_ag, m_tp, m_n, m_c, e_head, e_headK, kC_n, kC_c, pO_n, pO_p, pO_l, st_b, d_n, d_c, dw_n, dw_i, dw_s, dw_p, List.range_zero, ne_eq, Nat.zero_add, true_or, or_true, ite_not, fc_i, fc_s, fc_lr, fc_lo, kl_i, kl_s, kl_p, kl_lr, kl_lo, kl_fn, kl_eo, kf_s, cp_st, isC, cplc, Nat.reduceMod, Nat.reduceDiv, s_gdr, s_gn, s_gc, s_gK, s_gE, s_r1, s_r2, s_rF, s_rK, g_D, g_O, g_i, g_p, g_ev, p_n, p_c, p_cs, p_1, c_n, c_c, c_cs, cg_st, cg_b, cg_p, cg_l, k_n, k_c, k_p, s_gms, s_gmn, mo_mv, mo_fa, mo_ld, mo_nc]
            with_reducible refine ite_pr (fun hb => ?_) (fun hb => ?_)
            · rw [if_pos hb] at hg
              exact ih m1 _ (.inr rfl) (hsi hb).1 (hsi hb).2 (by rw [hss]; omega) (by rw [hss]; omega) hml hg Z hZ
            · rw [if_neg hb] at hg
              rw [← hg] at hr
              simp only [hb, not_false_eq_true, if_true] at hr
              rw [← hr]
              (rcases hT' with rfl | rfl <;> simp [rn0, tagTo])
          · rw [if_neg hk0] at hg
            rw [← hg] at hr
            simp only [not_true_eq_false, if_false] at hr
            subst hr
            obtain rfl := hT rfl
            have hlm : (m.lg.map Nt.c).length = m.lg.length := List.length_map _
            with_reducible refine ite_pr (fun hk1 => ?_) (fun hk1 => ?_)
            · first
                | (refine ⟨by rw [hlm]; omega, ?_⟩; simp [hk1, tagTo, AM.get]; done)
                | (simp [hk1, e2, tagTo, AM.get]; done)
                | (simp [hk1, e2, tagTo, AM.get]; omega)
            · simp [hk1, tagTo, AM.get]
    have kc : [9344, 9346, 9348].contains 1029 = false := by decide
    refine wcall_down r9 rfl ?_
    simp -implicitDefEqProofs (maxSteps := 2000000) only [c6, kc, ↓reduceIte, s_seq, s_block, s_loop, s_opsK, s_seqK_n, s_nil, s_cons, s_wopsK, o_as, e_t, e_put, e_get, e_res, e_keep_n, e_keep_c, e_keep1_s, Option.getD_some, Nat.reduceEqDiff, Nat.reduceAdd, reduceCtorEq, Bool.false_eq_true, St.clr, outV, ownsV, owns1, ownL, List.map_cons, List.map_nil, List.nil_append, Nat.reduceMul, Nat.reduceBEq, BEq.rfl, kps_i, kps_s, rk_i, rk_s, kps_p, kps_lro, kps_lnl, rk_p, rk_lro, rk_lnl, kps_lo, rk_lo, ol_lo, m_lf, m_n, m_c, m_all, e_asg_o, e_head, e_headK, kC_n, kC_c, pO_n, pO_p, pO_l, dw_n, List.range_zero, plT, Nat.add_zero]
    have hpos := hc.pos
    subst hk
    exact key l2.toNat (m0 at_) _ (.inl ⟨rfl, rfl, rfl⟩) ⟨by simp only; omega, by simp only; omega, by simp only; omega, by simp only [m0]; omega, by simp only [m0]; omega, fun e he => by simp [m0] at he, by simp [m0], trivial, rfl⟩ ⟨by simp [m0], by simp only [m0]; omega⟩ (by simp only [m0]; omega) (by simp [m0]) (by simp [m0]) rfl
  · rw [if_neg h0]
    rw [if_pos h0] at hr
    rw [← hr]; (rcases hT' with rfl | rfl <;> simp [rn0, tagTo])
theorem r6 (hX : X.G 0 = some usesL) (code : List Ins) (sp : List (List L)) (s : ByteArray) (at_ l0 l1 l2 : Int) :
    R X Tryd.prog 6 [.lf (.lst .ro 9 (code.map Ins.c) sp), .lf (.str s), .lf (.int .i64 at_), .ag [.int .i64 l0, .int .i64 l1, .int .i64 l2]] [] (.tp [.ag ((runA code sp s at_ l0 l1 l2).1.c (.own 0 63) []), .lf (.int .i64 (runA code sp s at_ l0 l1 l2).2)]) [] :=
  r6g hX code sp s at_ l0 l1 l2 _ (fun _ => rfl) (.inl rfl)
end Go.Proofs.YtkmhoholblbbfaaDoor.M
set_option linter.unusedVariables false
set_option linter.unusedSimpArgs false
namespace Go.Proofs.YtkmhoholblbbfaaDoor.M
open Go Go.Proofs.YtkmhoholblbbfaaDoor.AM
variable {X : Cx}
def one (op a b : Int) : Ins := ⟨op, a, b, 0, ⟨#[]⟩, 0, 0, 0, 0⟩
def wCode : List Ins := [one 15 2 0, one 17 0 0, one 8 3 0, one 2 0 97, one 9 (-2) 0, one 16 0 0]
theorem w1 : ((runA wCode [] ⟨#[97, 97, 98]⟩ 0 2 0 11).2 = 0 ∧ (runA wCode [] ⟨#[97, 97, 98]⟩ 0 2 0 11).1.kind = 1 ∧ (runA wCode [] ⟨#[97, 97, 98]⟩ 0 2 0 11).1.e = 2) ∧ (runA wCode [] ⟨#[97, 97, 98]⟩ 0 2 0 11).1.steps = 11 ∧ (runA wCode [] ⟨#[97, 97, 98]⟩ 0 2 0 11).1.rs = 2 := by decide +kernel
theorem w2 : (runA wCode [] ⟨#[97, 97, 98]⟩ 0 1 0 11).2 = 210 := by decide +kernel
set_option maxRecDepth 10000 in
theorem r4 (hX : X.G 0 = some usesL) : R X Tryd.prog 4 [] [] (.lf (.bool true)) [] := by
  have a1 := r6 hX wCode [] ⟨#[97, 97, 98]⟩ 0 2 0 11
  have a2 := r6 hX wCode [] ⟨#[97, 97, 98]⟩ 0 1 0 11
  have b1 := w1
  have b2 := w2
  generalize runA wCode [] _ 0 2 0 11 = p at *
  generalize runA wCode [] _ 0 1 0 11 = q at *
  simp only [wCode, one, List.map_cons, List.map_nil, Ins.c] at a1 a2
  refine R_i [] [] c4_ok rfl (by simp) ?_
  obtain ⟨⟨c1, c2, c3⟩, c4', c5'⟩ := b1
  simp -implicitDefEqProofs (maxSteps := 2000000) only [c4, ↓reduceIte, s_ops0, s_seq, s_opsK, s_seqK_n, s_nil, s_cons, s_wopsK, o_mv, o_as, o_bd, v_agK, v_bd_n, v_bd_c, o_bs, v_bsK, v_lit_n, v_lit_c, o_call, e_t, e_k, e_put, e_get, e_res, e_keep_n, e_keep_c, e_keep1_s, e_asg_b, St.init, enum, List.length_nil, List.length_cons, Option.getD_some, Nat.reduceEqDiff, Nat.reduceAdd, reduceCtorEq, true_and, Bool.false_eq_true, List.map_cons, List.map_nil, PV.leaves, List.flatMap_cons, List.flatMap_nil, List.append_nil, List.cons_append, List.nil_append, List.all_cons, List.all_nil, Bool.true_and, Bool.and_self, PV.cells, cellL, datL, fillL, Nat.reduceMul, Nat.reduceBEq, Nat.reduceLeDiff, Nat.le_refl, BEq.rfl, List.take_zero, List.drop_zero, List.take_succ_cons, List.drop_succ_cons, List.drop_nil, kp_i, kp_s, rk_i, rk_s, rl_i, rl_s, rk_lo, rl_l, m_lf, m_ag, m_n, m_c, m_all, e_asg_o, dw_n, dw_i, dw_s, plT, ne_eq, not_false_eq_true, Int.reduceNeg, lit_n, lit_c, List.reduceReplicate, List.set_cons_zero, List.set_cons_succ, Nat.reduceLT, Nat.lt_add_one, Nat.zero_add, Nat.add_zero]
  refine wcall_down a1 rfl ?_
  simp -implicitDefEqProofs (maxSteps := 2000000) only [c4, ↓reduceIte, s_ops0, s_seq, s_opsK, s_seqK_n, s_nil, s_cons, s_wopsK, s_putK, o_mv, o_as, o_ext, v_ext0, v_ext1, o_al, o_st, v_st_p, v_stCK, o_bd, v_agK, v_bd_n, v_bd_c, o_call, e_t, e_k, e_put, e_get, e_res, e_keep_n, e_keep_c, e_keep1_s, e_asg_i, List.length_nil, List.length_cons, Option.getD_some, Nat.reduceEqDiff, Nat.reduceAdd, reduceCtorEq, true_and, St.clr, outV, ownsV, owns1, ownL, List.map_cons, List.map_nil, List.any_cons, List.any_nil, Bool.or_false, Bool.false_or, Bool.or_self, PV.leaves, List.flatMap_cons, List.flatMap_nil, List.append_nil, List.cons_append, List.nil_append, List.all_cons, List.all_nil, Bool.true_and, Bool.and_self, PV.cells, cellL, fillL, Nat.reduceMul, Nat.reduceLeDiff, Nat.zero_le, Nat.le_refl, BEq.rfl, List.take_zero, List.drop_zero, List.take_succ_cons, List.drop_succ_cons, List.drop_nil, kps_i, kc_i, ro_i, rl_i, rl_s, ol_i, kps_lro, kc_l, ro_lo, rl_l, ol_lo, m_lf, m_ag, m_tp, m_1l, m_1a, m_n, m_c, m_all, st_b, d_n, d_c, dw_n, dw_i, dw_s, dw_lo, plT, ne_eq, not_false_eq_true, Int.reduceNeg, Nat.zero_add, Nat.add_zero, or_false, false_or]
  refine wcall_down a2 rfl ?_
  simp -implicitDefEqProofs (maxSteps := 2000000) only [c4, c1, c2, c3, c4', c5', b2, ↓reduceIte, s_ret, s_ops0, s_seq, s_opsK, s_seqK_n, s_nil, s_cons, s_guard, s_wopsK, s_putK, s_grd, q_mv, q_bin, q_fa, q_ld, o_mv, o_as, o_pk, v_pk, o_bin, v_eql, o_ext, v_ext0, v_ext1, v_part_f, v_atK, o_al, o_fa, v_fa_p, o_ld, v_ld_p, v_ldC, o_st, v_st_p, v_stCK, e_t, e_k, e_put, e_get, e_res, e_keep_n, e_keep_c, e_keep1_s, e_asg_b, e_asg_i, List.length_nil, List.length_cons, Option.getD_some, Nat.reduceEqDiff, Nat.reduceAdd, and_true, cond_false, Bool.false_eq_true, decide_eq_true_eq, s_ret_r, s_retX, s_cells_n, t_lf, t_b, r_n, r_t, r_cons, one_1, St.clr, outV, ownsV, owns1, ownL, List.map_cons, List.map_nil, List.any_cons, List.any_nil, Bool.or_false, Bool.false_or, Bool.or_self, List.append_nil, List.nil_append, List.all_cons, List.all_nil, Bool.and_true, Bool.and_self, PV.cells, cellL, fillL, Nat.reduceMul, Nat.reduceBEq, Nat.zero_le, Nat.le_refl, List.take_zero, List.drop_succ_cons, List.drop_nil, List.getElem?_cons_zero, List.getElem?_cons_succ, kps_i, kc_i, ol_i, kps_p, kps_lro, kc_p, kc_l, kps_lo, ol_lo, m_lf, m_ag, m_tp, m_1l, m_1a, m_n, m_c, m_all, st_b, d_n, d_c, dw_n, dw_i, dw_s, dw_lr, plT, Int.reduceNeg, Nat.zero_add, Nat.add_zero, or_false, false_or]
  trace_state
  done
end Go.Proofs.YtkmhoholblbbfaaDoor.M
set_option linter.unusedVariables false
set_option linter.unusedSimpArgs false
namespace Go.Proofs.YtkmhoholblbbfaaDoor.M
open Go Go.Proofs.YtkmhoholblbbfaaDoor.AM
variable {X : Cx}
theorem push_same {k k' : MC} {e : Ent} {m : MS} (hb : (pushM k e m).bad = 0) (h0 : (pushM k e m).rs ≤ k'.l0) : pushM k' e m = pushM k e m := by
  unfold pushM at *
  by_cases h : k.l0 ≤ (m.st.length : Int)
  · rw [if_pos h] at hb; simp at hb
  · rw [if_neg h] at h0 ⊢
    simp only at h0
    rw [if_neg (by omega)]
theorem note_same {k k' : MC} {e : Nt} {m : MS} (hb : (noteM k e m).bad = 0) (h0 : (noteM k e m).rn ≤ k'.l1) : noteM k' e m = noteM k e m := by
  unfold noteM at *
  by_cases h : k.l1 ≤ (m.lg.length : Int)
  · rw [if_pos h] at hb; simp at hb
  · rw [if_neg h] at h0 ⊢
    simp only at h0
    rw [if_neg (by omega)]
theorem span_same {k k' : MC} (hs : k'.s = k.s) (G : Int → Bool) : ∀ (n : Nat) (a : Int), spanN k' G n a = spanN k G n a
  | 0, a => rfl
  | n + 1, a => by simp only [spanN, hs, span_same hs G n]
theorem step_same {k k' : MC} (hs : k'.s = k.s) {x : Ins} {m : MS} (hop : 1 ≤ x.op.toNat ∧ x.op.toNat ≤ 20) (hb : (stepM k x m).bad = 0) (h0 : (stepM k x m).rs ≤ k'.l0) (h1 : (stepM k x m).rn ≤ k'.l1) : stepM k' x m = stepM k x m := by
  have sb : ∀ G, seesB k' G m = seesB k G m := fun G => by unfold seesB; rw [hs]
  have tk : ∀ G, takeM k' G m = takeM k G m := fun G => by unfold takeM; rw [sb]
  have ts : ∀ G, testM k' G x m = testM k G x m := fun G => by unfold testM; rw [sb]
  obtain ⟨j, hj⟩ : ∃ j : Nat, x.op.toNat = j := ⟨_, rfl⟩
  unfold stepM at hb h0 h1 ⊢
  rw [hj] at hb h0 h1 hop ⊢
  rcases (show j = 1 ∨ j = 2 ∨ j = 3 ∨ j = 4 ∨ j = 5 ∨ j = 6 ∨ j = 7 ∨ j = 8 ∨ j = 9 ∨ j = 10 ∨ j = 11 ∨ j = 12 ∨ j = 13 ∨ j = 14 ∨ j = 15 ∨ j = 16 ∨ j = 17 ∨ j = 18 ∨ j = 19 ∨ j = 20 by omega) with rfl | rfl | rfl | rfl | rfl | rfl | rfl | rfl | rfl | rfl | rfl | rfl | rfl | rfl | rfl | rfl | rfl | rfl | rfl | rfl
  · exact tk _
  · exact tk _
  · exact tk _
  · exact ts _
  · exact ts _
  · exact ts _
  · show spanM k' (setI x) m = spanM k (setI x) m
    unfold spanM; rw [hs, span_same hs]
  · show choiceM k' x m = choiceM k x m
    unfold choiceM
    rw [push_same (k := k) hb h0]
  · rfl
  · rfl
  · rfl
  · rfl
  · rfl
  · rfl
  · show callM k' x m = callM k x m
    unfold callM
    rw [push_same (k := k) hb h0]
  · rfl
  · rfl
  · exact note_same hb h1
  · exact note_same hb h1
  · replace hb : (fullM k x m).bad = 0 := hb
    replace h1 : (fullM k x m).rn ≤ k'.l1 := h1
    show fullM k' x m = fullM k x m
    unfold fullM at hb h1 ⊢
    split
    · rfl
    · rename_i h2
      rw [if_neg h2] at hb h1
      exact note_same hb h1
end Go.Proofs.YtkmhoholblbbfaaDoor.M
set_option linter.unusedVariables false
set_option linter.unusedSimpArgs false
namespace Go.Proofs.YtkmhoholblbbfaaDoor.M
open Go Go.Proofs.YtkmhoholblbbfaaDoor.AM
variable {X : Cx}
theorem pop_r (ret : Bool) (m : MS) : (popM ret m).2.rs = m.rs ∧ (popM ret m).2.rn = m.rn := by
  unfold popM
  split
  · exact ⟨rfl, rfl⟩
  · split <;> exact ⟨rfl, rfl⟩
theorem push_r (k : MC) (e : Ent) (m : MS) : m.rs ≤ (pushM k e m).rs ∧ (pushM k e m).rn = m.rn := by
  unfold pushM
  split
  · exact ⟨Int.le_refl _, rfl⟩
  · refine ⟨?_, rfl⟩
    simp only
    omega
theorem note_r (k : MC) (e : Nt) (m : MS) : (noteM k e m).rs = m.rs ∧ m.rn ≤ (noteM k e m).rn := by
  unfold noteM
  split
  · exact ⟨rfl, Int.le_refl _⟩
  · refine ⟨rfl, ?_⟩
    simp only
    omega
theorem failR_r : ∀ (r : List Ent) (m : MS), (failR r m).rs = m.rs ∧ (failR r m).rn = m.rn
  | [], m => ⟨rfl, rfl⟩
  | e :: r, m => by
    simp only [failR]
    split
    · exact failR_r r m
    · exact ⟨rfl, rfl⟩
theorem step_r (k : MC) (x : Ins) (m : MS) : m.rs ≤ (stepM k x m).rs ∧ m.rn ≤ (stepM k x m).rn := by
  have ee : ∀ {m1 : MS}, m1.rs = m.rs ∧ m1.rn = m.rn → m.rs ≤ m1.rs ∧ m.rn ≤ m1.rn := fun h => by omega
  have ft : ∀ m : MS, (failM m).rs = m.rs ∧ (failM m).rn = m.rn := fun m => failR_r _ m
  have tk : ∀ G, m.rs ≤ (takeM k G m).rs ∧ m.rn ≤ (takeM k G m).rn := fun G => by
    unfold takeM
    split
    · exact ⟨Int.le_refl _, Int.le_refl _⟩
    · exact ee (ft m)
  have ts : ∀ G, m.rs ≤ (testM k G x m).rs ∧ m.rn ≤ (testM k G x m).rn := fun G => by unfold testM; split <;> exact ⟨Int.le_refl _, Int.le_refl _⟩
  have pu : ∀ e, m.rs ≤ (pushM k e m).rs ∧ m.rn ≤ (pushM k e m).rn := fun e => by have := push_r k e m; omega
  have no : ∀ e, m.rs ≤ (noteM k e m).rs ∧ m.rn ≤ (noteM k e m).rn := fun e => by have := note_r k e m; omega
  unfold stepM
  split
  · exact tk _
  · exact tk _
  · exact tk _
  · exact ts _
  · exact ts _
  · exact ts _
  · exact ⟨Int.le_refl _, Int.le_refl _⟩
  · exact pu _
  · exact ee (pop_r _ _)
  · exact ee (pop_r _ _)
  · exact ee (pop_r _ _)
  · unfold twiceM
    split
    · have := ft (popM false m).2
      have := pop_r false m
      omega
    · exact ee (pop_r _ _)
  · exact ee (ft m)
  · exact ⟨Int.le_refl _, Int.le_refl _⟩
  · exact pu _
  · exact ee (pop_r _ _)
  · exact ⟨Int.le_refl _, Int.le_refl _⟩
  · exact no _
  · exact no _
  · unfold fullM
    split
    · exact ⟨Int.le_refl _, Int.le_refl _⟩
    · exact no _
theorem go_r (code : List Ins) (k : MC) : ∀ (n : Nat) (m : MS), m.rs ≤ (goRun code k n m).1.rs ∧ m.rn ≤ (goRun code k n m).1.rn
  | 0, m => by
    simp only [goRun]
    split <;> exact ⟨Int.le_refl _, Int.le_refl _⟩
  | n + 1, m => by
    simp only [goRun]
    have h1 := step_r k (code.getD m.pc.toNat ins0) { m with steps := m.steps + 1 }
    simp only at h1
    split
    · split
      · have h2 := go_r code k n (stepM k (code.getD m.pc.toNat ins0) { m with steps := m.steps + 1 })
        omega
      · exact h1
    · exact ⟨Int.le_refl _, Int.le_refl _⟩
theorem go_steps (code : List Ins) (k : MC) : ∀ (n : Nat) (m : MS), m.steps ≤ (goRun code k n m).1.steps
  | 0, m => by
    simp only [goRun]
    split <;> exact Int.le_refl _
  | n + 1, m => by
    simp only [goRun]
    have h1 := step_steps k (code.getD m.pc.toNat ins0) { m with steps := m.steps + 1 }
    simp only at h1
    split
    · split
      · have h2 := go_steps code k n (stepM k (code.getD m.pc.toNat ins0) { m with steps := m.steps + 1 })
        omega
      · simp only; omega
    · exact Int.le_refl _
/-- by limits that are enough a run ends just so -/
theorem go_same {code : List Ins} (hc : CodeOK code) {k k' : MC} (hs : k'.s = k.s) : ∀ (n n' : Nat) (m : MS), IS code.length k m → (0 ≤ m.pc ∧ m.pc < code.length) → (goRun code k n m).2 = 0 → (goRun code k n m).1.rs ≤ k'.l0 → (goRun code k n m).1.rn ≤ k'.l1 → (goRun code k n m).1.steps ≤ m.steps + n' → goRun code k' n' m = goRun code k n m
  | 0, n', m, his, hp, h0, _, _, _ => by
    simp only [goRun] at h0 ⊢
    split at h0
    · cases h0
    · rename_i h1
      rw [if_neg h1]
      cases n' with
      | zero => simp only [goRun]; rw [if_neg h1]
      | succ n' => simp only [goRun]; rw [if_neg h1]
  | n + 1, n', m, his, hp, h0, h1, h2, h3 => by
    by_cases hk : m.kind = 0
    · have hxi : m.pc.toNat < code.length := by omega
      have hx : code[m.pc.toNat]? = some (code.getD m.pc.toNat ins0) := by rw [List.getD_eq_getElem?_getD, List.getElem?_eq_getElem hxi]; rfl
      have hop := hc.op _ _ hx
      simp only [goRun] at h0 h1 h2 h3 ⊢
      rw [if_pos hk] at h0 h1 h2 h3 ⊢
      generalize hxe : code.getD m.pc.toNat ins0 = x at *
      have his' : IS code.length k { m with steps := m.steps + 1 } := ⟨his.l0, his.l1, his.s, his.a0, his.a1, his.en, his.st, his.ok, his.bad⟩
      by_cases hb : (stepM k x { m with steps := m.steps + 1 }).bad = 0
      · rw [if_pos hb] at h0 h1 h2 h3 ⊢
        have hr := go_r code k n (stepM k x { m with steps := m.steps + 1 })
        have hss : (stepM k x { m with steps := m.steps + 1 }).steps = m.steps + 1 := step_steps _ _ _
        have hsame := step_same hs (k' := k') (by omega) hb (by omega) (by omega)
        obtain ⟨i1, i2⟩ := step_is hc his' hp hx hb
        have hst := go_steps code k n (stepM k x { m with steps := m.steps + 1 })
        cases n' with
        | zero => omega
        | succ n' =>
          simp only [goRun]
          rw [hxe, if_pos hk, hsame, if_pos hb]
          exact go_same hc hs n n' _ i1 i2 h0 h1 h2 (by rw [hss]; omega)
      · rw [if_neg hb] at h0
        exact absurd h0 hb
    · simp only [goRun] at h0 ⊢
      rw [if_neg hk]
      cases n' with
      | zero => simp only [goRun]; rw [if_neg hk]
      | succ n' => simp only [goRun]; rw [if_neg hk]
end Go.Proofs.YtkmhoholblbbfaaDoor.M
set_option linter.unusedVariables false
set_option linter.unusedSimpArgs false
namespace Go.Proofs.YtkmhoholblbbfaaDoor.M
open Go Go.Proofs.YtkmhoholblbbfaaDoor.AM
variable {X : Cx}
theorem push_less {k k' : MC} {e : Ent} {m : MS} (h0 : m.rs ≤ k'.l0) (h1 : k'.l0 < (pushM k e m).rs) : (pushM k' e m).bad = 210 := by
  unfold pushM at *
  split at h1
  · simp only at h1; omega
  · simp only at h1
    rw [if_pos (by omega)]
theorem note_less {k k' : MC} {e : Nt} {m : MS} (h0 : m.rn ≤ k'.l1) (h1 : k'.l1 < (noteM k e m).rn) : (noteM k' e m).bad = 211 := by
  unfold noteM at *
  split at h1
  · simp only at h1; omega
  · simp only at h1
    rw [if_pos (by omega)]
theorem step_less0 {k k' : MC} {x : Ins} {m : MS} (hop : 1 ≤ x.op.toNat ∧ x.op.toNat ≤ 20) (h0 : m.rs ≤ k'.l0) (h1 : k'.l0 < (stepM k x m).rs) : (stepM k' x m).bad = 210 := by
  have ft : ∀ m : MS, (failM m).rs = m.rs ∧ (failM m).rn = m.rn := fun m => failR_r _ m
  have tk : ∀ G, (takeM k G m).rs = m.rs := fun G => by
    unfold takeM
    split
    · rfl
    · exact (ft m).1
  have ts : ∀ G, (testM k G x m).rs = m.rs := fun G => by unfold testM; split <;> rfl
  have tw : (twiceM m).rs = m.rs := by
    unfold twiceM
    split
    · exact (ft _).1.trans (pop_r _ _).1
    · exact (pop_r _ _).1
  have fu : (fullM k x m).rs = m.rs := by
    unfold fullM
    split
    · rfl
    · exact (note_r _ _ _).1
  obtain ⟨j, hj⟩ : ∃ j : Nat, x.op.toNat = j := ⟨_, rfl⟩
  unfold stepM at h1 ⊢
  rw [hj] at h1 hop ⊢
  have no : ∀ {z : Int}, k'.l0 < z → z = m.rs → False := fun a b => by omega
  rcases (show j = 1 ∨ j = 2 ∨ j = 3 ∨ j = 4 ∨ j = 5 ∨ j = 6 ∨ j = 7 ∨ j = 8 ∨ j = 9 ∨ j = 10 ∨ j = 11 ∨ j = 12 ∨ j = 13 ∨ j = 14 ∨ j = 15 ∨ j = 16 ∨ j = 17 ∨ j = 18 ∨ j = 19 ∨ j = 20 by omega) with rfl | rfl | rfl | rfl | rfl | rfl | rfl | rfl | rfl | rfl | rfl | rfl | rfl | rfl | rfl | rfl | rfl | rfl | rfl | rfl
  · exact (no h1 (tk _)).elim
  · exact (no h1 (tk _)).elim
  · exact (no h1 (tk _)).elim
  · exact (no h1 (ts _)).elim
  · exact (no h1 (ts _)).elim
  · exact (no h1 (ts _)).elim
  · exact (no h1 rfl).elim
  · exact push_less (k := k) h0 h1
  · exact (no h1 (pop_r _ _).1).elim
  · exact (no h1 (pop_r _ _).1).elim
  · exact (no h1 (pop_r _ _).1).elim
  · exact (no h1 tw).elim
  · exact (no h1 (ft m).1).elim
  · exact (no h1 rfl).elim
  · exact push_less (k := k) h0 h1
  · exact (no h1 (pop_r _ _).1).elim
  · exact (no h1 rfl).elim
  · exact (no h1 (note_r _ _ _).1).elim
  · exact (no h1 (note_r _ _ _).1).elim
  · exact (no h1 fu).elim
theorem step_less1 {k k' : MC} {x : Ins} {m : MS} (hop : 1 ≤ x.op.toNat ∧ x.op.toNat ≤ 20) (h0 : m.rn ≤ k'.l1) (h1 : k'.l1 < (stepM k x m).rn) : (stepM k' x m).bad = 211 := by
  have ft : ∀ m : MS, (failM m).rs = m.rs ∧ (failM m).rn = m.rn := fun m => failR_r _ m
  have tk : ∀ G, (takeM k G m).rn = m.rn := fun G => by
    unfold takeM
    split
    · rfl
    · exact (ft m).2
  have ts : ∀ G, (testM k G x m).rn = m.rn := fun G => by unfold testM; split <;> rfl
  have tw : (twiceM m).rn = m.rn := by
    unfold twiceM
    split
    · exact (ft _).2.trans (pop_r _ _).2
    · exact (pop_r _ _).2
  obtain ⟨j, hj⟩ : ∃ j : Nat, x.op.toNat = j := ⟨_, rfl⟩
  unfold stepM at h1 ⊢
  rw [hj] at h1 hop ⊢
  have no : ∀ {z : Int}, k'.l1 < z → z = m.rn → False := fun a b => by omega
  rcases (show j = 1 ∨ j = 2 ∨ j = 3 ∨ j = 4 ∨ j = 5 ∨ j = 6 ∨ j = 7 ∨ j = 8 ∨ j = 9 ∨ j = 10 ∨ j = 11 ∨ j = 12 ∨ j = 13 ∨ j = 14 ∨ j = 15 ∨ j = 16 ∨ j = 17 ∨ j = 18 ∨ j = 19 ∨ j = 20 by omega) with rfl | rfl | rfl | rfl | rfl | rfl | rfl | rfl | rfl | rfl | rfl | rfl | rfl | rfl | rfl | rfl | rfl | rfl | rfl | rfl
  · exact (no h1 (tk _)).elim
  · exact (no h1 (tk _)).elim
  · exact (no h1 (tk _)).elim
  · exact (no h1 (ts _)).elim
  · exact (no h1 (ts _)).elim
  · exact (no h1 (ts _)).elim
  · exact (no h1 rfl).elim
  · exact (no h1 (push_r _ _ _).2).elim
  · exact (no h1 (pop_r _ _).2).elim
  · exact (no h1 (pop_r _ _).2).elim
  · exact (no h1 (pop_r _ _).2).elim
  · exact (no h1 tw).elim
  · exact (no h1 (ft m).2).elim
  · exact (no h1 rfl).elim
  · exact (no h1 (push_r _ _ _).2).elim
  · exact (no h1 (pop_r _ _).2).elim
  · exact (no h1 rfl).elim
  · exact note_less (k := k) h0 h1
  · exact note_less (k := k) h0 h1
  · replace h1 : k'.l1 < (fullM k x m).rn := h1
    show (fullM k' x m).bad = 211
    unfold fullM at h1 ⊢
    split
    · rename_i h2
      rw [if_pos h2] at h1
      exact (no h1 rfl).elim
    · rename_i h2
      rw [if_neg h2] at h1
      exact note_less (k := k) h0 h1
end Go.Proofs.YtkmhoholblbbfaaDoor.M
set_option linter.unusedVariables false
set_option linter.unusedSimpArgs false
namespace Go.Proofs.YtkmhoholblbbfaaDoor.M
open Go Go.Proofs.YtkmhoholblbbfaaDoor.AM
variable {X : Cx}
theorem go_less0 {code : List Ins} (hc : CodeOK code) {k k' : MC} (hs : k'.s = k.s) : ∀ (n n' : Nat) (m : MS), IS code.length k m → (0 ≤ m.pc ∧ m.pc < code.length) → (goRun code k n m).2 = 0 → m.rs ≤ k'.l0 → k'.l0 < (goRun code k n m).1.rs → (goRun code k n m).1.rn ≤ k'.l1 → (goRun code k n m).1.steps ≤ m.steps + n' → (goRun code k' n' m).2 = 210
  | 0, n', m, his, hp, h0, g1, g2, g3, g4 => by
    simp only [goRun] at h0 g1 g2 g3 g4
    split at h0
    · cases h0
    · rename_i hk
      simp only [if_neg hk] at g1 g2 g3 g4
      omega
  | n + 1, n', m, his, hp, h0, g1, g2, g3, g4 => by
    by_cases hk : m.kind = 0
    · have hxi : m.pc.toNat < code.length := by omega
      have hx : code[m.pc.toNat]? = some (code.getD m.pc.toNat ins0) := by rw [List.getD_eq_getElem?_getD, List.getElem?_eq_getElem hxi]; rfl
      have hop := hc.op _ _ hx
      simp only [goRun] at h0 g1 g2 g3 g4
      simp only [if_pos hk] at h0 g1 g2 g3 g4
      generalize hxe : code.getD m.pc.toNat ins0 = x at *
      have his' : IS code.length k { m with steps := m.steps + 1 } := ⟨his.l0, his.l1, his.s, his.a0, his.a1, his.en, his.st, his.ok, his.bad⟩
      have hss : (stepM k x { m with steps := m.steps + 1 }).steps = m.steps + 1 := step_steps _ _ _
      by_cases hb : (stepM k x { m with steps := m.steps + 1 }).bad = 0
      · simp only [if_pos hb] at h0 g1 g2 g3 g4
        have hr := go_r code k n (stepM k x { m with steps := m.steps + 1 })
        obtain ⟨i1, i2⟩ := step_is hc his' hp hx hb
        have hst := go_steps code k n (stepM k x { m with steps := m.steps + 1 })
        cases n' with
        | zero => omega
        | succ n' =>
          simp only [goRun]
          rw [hxe, if_pos hk]
          by_cases hc2 : (stepM k x { m with steps := m.steps + 1 }).rs ≤ k'.l0
          · have hsame := step_same hs (k' := k') (by omega) hb (by omega) (by omega)
            rw [hsame, if_pos hb]
            exact go_less0 hc hs n n' _ i1 i2 h0 hc2 g2 g3 (by rw [hss]; omega)
          · have hf := step_less0 (k := k) (k' := k') (x := x) (m := { m with steps := m.steps + 1 }) (by omega) g1 (by omega)
            rw [if_neg (by rw [hf]; decide)]
            exact hf
      · rw [if_neg hb] at h0
        exact absurd h0 hb
    · simp only [goRun] at h0 g1 g2 g3 g4
      simp only [if_neg hk] at g1 g2 g3 g4
      omega
theorem go_less1 {code : List Ins} (hc : CodeOK code) {k k' : MC} (hs : k'.s = k.s) : ∀ (n n' : Nat) (m : MS), IS code.length k m → (0 ≤ m.pc ∧ m.pc < code.length) → (goRun code k n m).2 = 0 → m.rn ≤ k'.l1 → k'.l1 < (goRun code k n m).1.rn → (goRun code k n m).1.rs ≤ k'.l0 → (goRun code k n m).1.steps ≤ m.steps + n' → (goRun code k' n' m).2 = 211
  | 0, n', m, his, hp, h0, g1, g2, g3, g4 => by
    simp only [goRun] at h0 g1 g2 g3 g4
    split at h0
    · cases h0
    · rename_i hk
      simp only [if_neg hk] at g1 g2 g3 g4
      omega
  | n + 1, n', m, his, hp, h0, g1, g2, g3, g4 => by
    by_cases hk : m.kind = 0
    · have hxi : m.pc.toNat < code.length := by omega
      have hx : code[m.pc.toNat]? = some (code.getD m.pc.toNat ins0) := by rw [List.getD_eq_getElem?_getD, List.getElem?_eq_getElem hxi]; rfl
      have hop := hc.op _ _ hx
      simp only [goRun] at h0 g1 g2 g3 g4
      simp only [if_pos hk] at h0 g1 g2 g3 g4
      generalize hxe : code.getD m.pc.toNat ins0 = x at *
      have his' : IS code.length k { m with steps := m.steps + 1 } := ⟨his.l0, his.l1, his.s, his.a0, his.a1, his.en, his.st, his.ok, his.bad⟩
      have hss : (stepM k x { m with steps := m.steps + 1 }).steps = m.steps + 1 := step_steps _ _ _
      by_cases hb : (stepM k x { m with steps := m.steps + 1 }).bad = 0
      · simp only [if_pos hb] at h0 g1 g2 g3 g4
        have hr := go_r code k n (stepM k x { m with steps := m.steps + 1 })
        obtain ⟨i1, i2⟩ := step_is hc his' hp hx hb
        have hst := go_steps code k n (stepM k x { m with steps := m.steps + 1 })
        cases n' with
        | zero => omega
        | succ n' =>
          simp only [goRun]
          rw [hxe, if_pos hk]
          by_cases hc2 : (stepM k x { m with steps := m.steps + 1 }).rn ≤ k'.l1
          · have hsame := step_same hs (k' := k') (by omega) hb (by omega) (by omega)
            rw [hsame, if_pos hb]
            exact go_less1 hc hs n n' _ i1 i2 h0 hc2 g2 g3 (by rw [hss]; omega)
          · have hf := step_less1 (k := k) (k' := k') (x := x) (m := { m with steps := m.steps + 1 }) (by omega) g1 (by omega)
            rw [if_neg (by rw [hf]; decide)]
            exact hf
      · rw [if_neg hb] at h0
        exact absurd h0 hb
    · simp only [goRun] at h0 g1 g2 g3 g4
      simp only [if_neg hk] at g1 g2 g3 g4
      omega
theorem go_less2 {code : List Ins} (hc : CodeOK code) {k k' : MC} (hs : k'.s = k.s) : ∀ (n n' : Nat) (m : MS), IS code.length k m → (0 ≤ m.pc ∧ m.pc < code.length) → (goRun code k n m).2 = 0 → (goRun code k n m).1.rs ≤ k'.l0 → (goRun code k n m).1.rn ≤ k'.l1 → m.steps + n' < (goRun code k n m).1.steps → 0 ≤ m.steps → (goRun code k' n' m).2 = 212
  | 0, n', m, his, hp, h0, g1, g2, g3, g4 => by
    simp only [goRun] at h0 g1 g2 g3 g4
    split at h0
    · cases h0
    · rename_i hk
      simp only [if_neg hk] at g1 g2 g3 g4
      omega
  | n + 1, n', m, his, hp, h0, g1, g2, g3, g4 => by
    by_cases hk : m.kind = 0
    · have hxi : m.pc.toNat < code.length := by omega
      have hx : code[m.pc.toNat]? = some (code.getD m.pc.toNat ins0) := by rw [List.getD_eq_getElem?_getD, List.getElem?_eq_getElem hxi]; rfl
      have hop := hc.op _ _ hx
      simp only [goRun] at h0 g1 g2 g3 g4
      simp only [if_pos hk] at h0 g1 g2 g3 g4
      generalize hxe : code.getD m.pc.toNat ins0 = x at *
      have his' : IS code.length k { m with steps := m.steps + 1 } := ⟨his.l0, his.l1, his.s, his.a0, his.a1, his.en, his.st, his.ok, his.bad⟩
      have hss : (stepM k x { m with steps := m.steps + 1 }).steps = m.steps + 1 := step_steps _ _ _
      by_cases hb : (stepM k x { m with steps := m.steps + 1 }).bad = 0
      · simp only [if_pos hb] at h0 g1 g2 g3 g4
        have hr := go_r code k n (stepM k x { m with steps := m.steps + 1 })
        obtain ⟨i1, i2⟩ := step_is hc his' hp hx hb
        have hst := go_steps code k n (stepM k x { m with steps := m.steps + 1 })
        cases n' with
        | zero => simp only [goRun]; rw [if_pos hk]
        | succ n' =>
          simp only [goRun]
          rw [hxe, if_pos hk]
          have hsame := step_same hs (k' := k') (by omega) hb (by omega) (by omega)
          rw [hsame, if_pos hb]
          exact go_less2 hc hs n n' _ i1 i2 h0 g1 g2 (by rw [hss]; omega) (by rw [hss]; omega)
      · rw [if_neg hb] at h0
        exact absurd h0 hb
    · simp only [goRun] at h0 g1 g2 g3 g4
      simp only [if_neg hk] at g1 g2 g3 g4
      omega
end Go.Proofs.YtkmhoholblbbfaaDoor.M
set_option linter.unusedVariables false
set_option linter.unusedSimpArgs false
namespace Go.Proofs.YtkmhoholblbbfaaDoor.M
open Go Go.Proofs.YtkmhoholblbbfaaDoor.AM
variable {X : Cx}
theorem step_le {k : MC} {x : Ins} {m : MS} (hop : 1 ≤ x.op.toNat ∧ x.op.toNat ≤ 20) (h0 : m.rs ≤ k.l0) (h1 : m.rn ≤ k.l1) (hb : (stepM k x m).bad = 0) : (stepM k x m).rs ≤ k.l0 ∧ (stepM k x m).rn ≤ k.l1 := by
  have h2 : (stepM k x m).rs ≤ k.l0 := by
    rcases Int.lt_or_le k.l0 (stepM k x m).rs with h | h
    · have := step_less0 (k := k) (k' := k) hop h0 h
      rw [hb] at this; cases this
    · exact h
  have h3 : (stepM k x m).rn ≤ k.l1 := by
    rcases Int.lt_or_le k.l1 (stepM k x m).rn with h | h
    · have := step_less1 (k := k) (k' := k) hop h1 h
      rw [hb] at this; cases this
    · exact h
  exact ⟨h2, h3⟩
theorem go_le {code : List Ins} (hc : CodeOK code) {k : MC} : ∀ (n : Nat) (m : MS), IS code.length k m → (0 ≤ m.pc ∧ m.pc < code.length) → m.rs ≤ k.l0 → m.rn ≤ k.l1 → (goRun code k n m).2 = 0 → (goRun code k n m).1.rs ≤ k.l0 ∧ (goRun code k n m).1.rn ≤ k.l1 ∧ (goRun code k n m).1.steps ≤ m.steps + n
  | 0, m, his, hp, h1, h2, h0 => by
    simp only [goRun] at h0 ⊢
    split at h0
    · cases h0
    · rename_i hk
      simp only [if_neg hk]
      omega
  | n + 1, m, his, hp, h1, h2, h0 => by
    by_cases hk : m.kind = 0
    · have hxi : m.pc.toNat < code.length := by omega
      have hx : code[m.pc.toNat]? = some (code.getD m.pc.toNat ins0) := by rw [List.getD_eq_getElem?_getD, List.getElem?_eq_getElem hxi]; rfl
      have hop := hc.op _ _ hx
      simp only [goRun] at h0 ⊢
      simp only [if_pos hk] at h0 ⊢
      generalize code.getD m.pc.toNat ins0 = x at *
      have his' : IS code.length k { m with steps := m.steps + 1 } := ⟨his.l0, his.l1, his.s, his.a0, his.a1, his.en, his.st, his.ok, his.bad⟩
      have hss : (stepM k x { m with steps := m.steps + 1 }).steps = m.steps + 1 := step_steps _ _ _
      by_cases hb : (stepM k x { m with steps := m.steps + 1 }).bad = 0
      · simp only [if_pos hb] at h0 ⊢
        obtain ⟨i1, i2⟩ := step_is hc his' hp hx hb
        have hle := step_le (m := { m with steps := m.steps + 1 }) (by omega) h1 h2 hb
        have := go_le hc n _ i1 i2 hle.1 hle.2 h0
        omega
      · rw [if_neg hb] at h0
        exact absurd h0 hb
    · simp only [goRun] at h0 ⊢
      simp only [if_neg hk]
      omega
end Go.Proofs.YtkmhoholblbbfaaDoor.M
set_option linter.unusedVariables false
set_option linter.unusedSimpArgs false
namespace Go.Proofs.YtkmhoholblbbfaaDoor.M
open Go Go.Proofs.YtkmhoholblbbfaaDoor.AM
variable {X : Cx}
theorem runA_err {code : List Ins} {sp : List (List L)} {s : ByteArray} {at_ l0 l1 l2 : Int} (h : ¬ (runA code sp s at_ l0 l1 l2).2 = 0) : (runA code sp s at_ l0 l1 l2).1 = rn0 := by
  unfold runA at h ⊢
  split
  · rfl
  · rename_i h1
    rw [if_neg h1] at h
    split
    · rfl
    · rename_i h2
      rw [if_neg h2] at h
      split
      · rfl
      · rename_i h3
        rw [if_neg h3] at h
        simp only at h ⊢
        split
        · rfl
        · rename_i h4
          rw [if_neg h4] at h
          exact absurd rfl h
abbrev mc (code : List Ins) (sp : List (List L)) (s : ByteArray) (l0 l1 l2 : Int) : MC := ⟨code.map Ins.c, sp, s, l0, l1, l2⟩
def rnOf (m : MS) : Rn := ⟨m.kind, if m.kind = 1 then m.at' else 0, if m.kind = 1 then m.lg else [], m.steps, m.rs, m.rn⟩
/-- what is so where a run begins -/
structure Beg (code : List Ins) (s : ByteArray) (at_ l0 l1 l2 : Int) : Prop where
  chk : (chk capX code).2 = 0
  sz : s.size ≤ 65536
  a0 : 0 ≤ at_
  a1 : at_ ≤ s.size
  l0 : 0 ≤ l0 ∧ l0 ≤ 1048576
  l1 : 0 ≤ l1 ∧ l1 ≤ 1048576
  l2 : 0 ≤ l2 ∧ l2 ≤ 1073741824
theorem runA_beg {code : List Ins} {sp : List (List L)} {s : ByteArray} {at_ l0 l1 l2 : Int} (b : Beg code s at_ l0 l1 l2) :
    runA code sp s at_ l0 l1 l2 = if ¬ (goRun code (mc code sp s l0 l1 l2) l2.toNat (m0 at_)).2 = 0 then (rn0, (goRun code (mc code sp s l0 l1 l2) l2.toNat (m0 at_)).2) else (rnOf (goRun code (mc code sp s l0 l1 l2) l2.toNat (m0 at_)).1, 0) := by
  have b1 := b.chk
  have b2 := b.sz
  have b3 := b.a0
  have b4 := b.a1
  have b5 := b.l0
  have b6 := b.l1
  have b7 := b.l2
  unfold runA
  rw [if_neg (by omega), if_neg (by omega), if_neg (by omega)]
  rfl
theorem runA_ok {code : List Ins} {sp : List (List L)} {s : ByteArray} {at_ l0 l1 l2 : Int} (h : (runA code sp s at_ l0 l1 l2).2 = 0) :
    Beg code s at_ l0 l1 l2 ∧ (goRun code (mc code sp s l0 l1 l2) l2.toNat (m0 at_)).2 = 0 ∧ (runA code sp s at_ l0 l1 l2).1 = rnOf (goRun code (mc code sp s l0 l1 l2) l2.toNat (m0 at_)).1 := by
  have hb : Beg code s at_ l0 l1 l2 := by
    unfold runA at h
    split at h
    · rename_i h1; exact absurd h h1
    · rename_i h1
      split at h
      · cases h
      · rename_i h2
        split at h
        · cases h
        · rename_i h3
          exact ⟨by omega, by omega, by omega, by omega, by omega, by omega, by omega⟩
  refine ⟨hb, ?_⟩
  rw [runA_beg hb] at h ⊢
  by_cases h1 : (goRun code (mc code sp s l0 l1 l2) l2.toNat (m0 at_)).2 = 0
  · rw [if_neg (by omega)]
    exact ⟨h1, rfl⟩
  · rw [if_pos h1] at h
    exact absurd h h1
theorem is0 {code : List Ins} {sp : List (List L)} {s : ByteArray} {at_ l0 l1 l2 : Int} (b : Beg code s at_ l0 l1 l2) : IS code.length (mc code sp s l0 l1 l2) (m0 at_) ∧ (0 ≤ (m0 at_).pc ∧ (m0 at_).pc < code.length) := by
  have hpos := (chk_ok b.chk).pos
  have b2 := b.sz
  have b3 := b.a0
  have b4 := b.a1
  have b5 := b.l0
  have b6 := b.l1
  exact ⟨⟨by simp only; omega, by simp only; omega, by simp only; omega, by simp only [m0]; omega, by simp only [m0]; omega, fun e he => by simp [m0] at he, by simp [m0], trivial, rfl⟩, by simp [m0], by simp only [m0]; omega⟩
/-- what a run tells of itself lies within its limits -/
theorem runA_le {code : List Ins} {sp : List (List L)} {s : ByteArray} {at_ l0 l1 l2 : Int} {A : Rn} (h : runA code sp s at_ l0 l1 l2 = (A, 0)) : (0 ≤ A.rs ∧ A.rs ≤ l0) ∧ (0 ≤ A.rn ∧ A.rn ≤ l1) ∧ (0 ≤ A.steps ∧ A.steps ≤ l2) := by
  obtain ⟨hb, h1, h2⟩ := runA_ok (by rw [h])
  rw [h] at h2
  simp only at h2
  subst h2
  obtain ⟨i1, i2⟩ := is0 (sp := sp) hb
  have b5 := hb.l0
  have b6 := hb.l1
  have b7 := hb.l2
  have q1 := go_le (chk_ok hb.chk) l2.toNat _ i1 i2 (by simp [m0]; omega) (by simp [m0]; omega) h1
  have q2 := go_r code (mc code sp s l0 l1 l2) l2.toNat (m0 at_)
  have q3 := go_steps code (mc code sp s l0 l1 l2) l2.toNat (m0 at_)
  simp only [m0, rnOf] at *
  omega
theorem runA_enough {code : List Ins} {sp : List (List L)} {s : ByteArray} {at_ l0 l1 l2 : Int} {A : Rn} (h : runA code sp s at_ l0 l1 l2 = (A, 0)) {l0' l1' l2' : Int} (g0 : A.rs ≤ l0' ∧ l0' ≤ 1048576) (g1 : A.rn ≤ l1' ∧ l1' ≤ 1048576) (g2 : A.steps ≤ l2' ∧ l2' ≤ 1073741824) : runA code sp s at_ l0' l1' l2' = (A, 0) := by
  have hle := runA_le h
  obtain ⟨hb, h1, h2⟩ := runA_ok (by rw [h])
  rw [h] at h2
  simp only at h2
  have hb' : Beg code s at_ l0' l1' l2' := ⟨hb.chk, hb.sz, hb.a0, hb.a1, by omega, by omega, by omega⟩
  obtain ⟨i1, i2⟩ := is0 (sp := sp) hb
  subst h2
  have q := go_same (chk_ok hb.chk) (k := mc code sp s l0 l1 l2) (k' := mc code sp s l0' l1' l2') rfl l2.toNat l2'.toNat (m0 at_) i1 i2 h1 g0.1 g1.1 (by simp only [m0, rnOf] at *; omega)
  rw [runA_beg hb', q, if_neg (by omega)]
theorem runA_less {code : List Ins} {sp : List (List L)} {s : ByteArray} {at_ l0 l1 l2 : Int} {A : Rn} (h : runA code sp s at_ l0 l1 l2 = (A, 0)) :
    (1 ≤ A.rs → (runA code sp s at_ (A.rs - 1) A.rn A.steps).2 = 210) ∧ (1 ≤ A.rn → (runA code sp s at_ A.rs (A.rn - 1) A.steps).2 = 211) ∧ (1 ≤ A.steps → (runA code sp s at_ A.rs A.rn (A.steps - 1)).2 = 212) := by
  have hle := runA_le h
  obtain ⟨hb, h1, h2⟩ := runA_ok (by rw [h])
  rw [h] at h2
  simp only at h2
  have b5 := hb.l0
  have b6 := hb.l1
  have b7 := hb.l2
  obtain ⟨i1, i2⟩ := is0 (sp := sp) hb
  have hA0 : A.rs = (goRun code (mc code sp s l0 l1 l2) l2.toNat (m0 at_)).1.rs := by rw [h2]; rfl
  have hA1 : A.rn = (goRun code (mc code sp s l0 l1 l2) l2.toNat (m0 at_)).1.rn := by rw [h2]; rfl
  have hA2 : A.steps = (goRun code (mc code sp s l0 l1 l2) l2.toNat (m0 at_)).1.steps := by rw [h2]; rfl
  refine ⟨fun g => ?_, fun g => ?_, fun g => ?_⟩
  · have hb' : Beg code s at_ (A.rs - 1) A.rn A.steps := ⟨hb.chk, hb.sz, hb.a0, hb.a1, by omega, by omega, by omega⟩
    have q := go_less0 (chk_ok hb.chk) (k := mc code sp s l0 l1 l2) (k' := mc code sp s (A.rs - 1) A.rn A.steps) rfl l2.toNat A.steps.toNat (m0 at_) i1 i2 h1 (by simp only [m0]; omega) (by simp only; omega) (by simp only; omega) (by simp only [m0] at *; omega)
    rw [runA_beg hb', if_pos (by rw [q]; decide)]
    exact q
  · have hb' : Beg code s at_ A.rs (A.rn - 1) A.steps := ⟨hb.chk, hb.sz, hb.a0, hb.a1, by omega, by omega, by omega⟩
    have q := go_less1 (chk_ok hb.chk) (k := mc code sp s l0 l1 l2) (k' := mc code sp s A.rs (A.rn - 1) A.steps) rfl l2.toNat A.steps.toNat (m0 at_) i1 i2 h1 (by simp only [m0]; omega) (by simp only; omega) (by simp only; omega) (by simp only [m0] at *; omega)
    rw [runA_beg hb', if_pos (by rw [q]; decide)]
    exact q
  · have hb' : Beg code s at_ A.rs A.rn (A.steps - 1) := ⟨hb.chk, hb.sz, hb.a0, hb.a1, by omega, by omega, by omega⟩
    have q := go_less2 (chk_ok hb.chk) (k := mc code sp s l0 l1 l2) (k' := mc code sp s A.rs A.rn (A.steps - 1)) rfl l2.toNat (A.steps - 1).toNat (m0 at_) i1 i2 h1 (by simp only; omega) (by simp only; omega) (by simp only [m0] at *; omega) (by simp [m0])
    rw [runA_beg hb', if_pos (by rw [q]; decide)]
    exact q
end Go.Proofs.YtkmhoholblbbfaaDoor.M
set_option linter.unusedVariables false
set_option linter.unusedSimpArgs false
namespace Go.Proofs.YtkmhoholblbbfaaDoor.M
open Go Go.Proofs.YtkmhoholblbbfaaDoor.AM
variable {X : Cx}
set_option maxRecDepth 10000 in
theorem r3 (hX : X.G 0 = some usesL) (code : List Ins) (sp : List (List L)) (s : ByteArray) (at_ l0 l1 l2 more : Int) : R X Tryd.prog 3 [.lf (.lst .ro 9 (code.map Ins.c) sp), .ag [.str s, .int .i64 at_, .int .i64 l0, .int .i64 l1, .int .i64 l2], .lf (.int .i64 more)] [] (.lf (.bool true)) [] := by
  have h4 := r4 (X := X) hX
  have h5 := r5 (X := X) l0 l1 l2
  generalize hl2 : (if 5000 < l2 ∧ l2 ≤ 1073741824 then (5000 : Int) else l2) = L2 at h5
  have h6 := fun a b c => r6 hX code sp s at_ a b c
  by_cases e0 : (runA code sp s at_ l0 l1 L2).2 = 0
  · obtain ⟨A, hA⟩ : ∃ A, runA code sp s at_ l0 l1 L2 = (A, 0) := ⟨_, Prod.ext rfl e0⟩
    have hle := runA_le hA
    have hb := (runA_ok e0).1
    have b5 := hb.l0
    have b6 := hb.l1
    have b7 := hb.l2
    have hL : L2 ≤ 5000 := by rw [← hl2] at b7 ⊢; split <;> omega
    obtain ⟨mo, hmo, m0', m1'⟩ : ∃ mo : Int, IntKind.i64.wrap ((IntKind.u64.wrap more).tmod 1000) = mo ∧ 0 ≤ mo ∧ mo ≤ 999 := by
      have hu : 0 ≤ IntKind.u64.wrap more := by simp only [IntKind.wrap, IntKind.bits, IntKind.signed]; simp; omega
      have ht : (IntKind.u64.wrap more).tmod 1000 = (IntKind.u64.wrap more) % 1000 := Int.tmod_eq_emod_of_nonneg hu
      refine ⟨(IntKind.u64.wrap more) % 1000, by rw [ht, w64 (by omega) (by omega)], by omega, by omega⟩
    have wl0 : IntKind.i64.wrap (l0 + mo) = l0 + mo := w64 (by omega) (by omega)
    have wd : mo.tdiv 2 = mo / 2 := Int.tdiv_eq_ediv_of_nonneg m0'
    have wd2 : IntKind.i64.wrap (mo / 2) = mo / 2 := w64 (by omega) (by omega)
    have wl1 : IntKind.i64.wrap (l1 + mo / 2) = l1 + mo / 2 := w64 (by omega) (by omega)
    have wl2 : IntKind.i64.wrap (L2 + mo) = L2 + mo := w64 (by omega) (by omega)
    have hA6 := h6 l0 l1 L2
    have hB6 := h6 (min (l0 + mo) 1048576) (min (l1 + mo / 2) 1048576) (L2 + mo)
    have hC6 := h6 A.rs A.rn A.steps
    rw [hA] at hA6
    rw [runA_enough hA (by omega) (by omega) (by omega)] at hB6 hC6
    have h7 := fun q q' => r7 (X := X) A A q q'
    have hsame : sameR A A = true := by unfold sameR; simp [sameN_eq]
    rw [hsame] at h7
    have hless := runA_less hA
    refine R_i [] [] c3_ok rfl (by simp) ?_
    simp -implicitDefEqProofs (maxSteps := 2000000) only [c3, ↓reduceIte, s_ops0, s_seq, s_opsK, s_seqK_n, s_nil, s_cons, s_wopsK, o_as, o_bx, o_call, e_t, e_k, e_get, e_res, e_keep_n, e_keep_c, e_keep1_s, e_asg_b, St.init, enum, List.length_nil, Option.getD_some, Nat.reduceEqDiff, Nat.reduceAdd, reduceCtorEq, true_and, List.map_cons, List.map_nil, PV.leaves, List.flatMap_nil, Bool.true_and, Nat.zero_le, kc_i, kc_s, kc_l, m_lf, m_ag, m_n, m_c, m_all, d_n, Nat.zero_add, v_bx_a]
    refine wcall_s h4 rfl rfl ?_
    simp -implicitDefEqProofs (maxSteps := 2000000) only [c3, ↓reduceIte, s_skip, s_ops0, s_seq, s_cond, s_opsK, s_seqK_n, s_cnd, s_nil, s_cons, s_wopsK, s_putK, o_un, v_not, v_part_t, o_fa, v_fa_p, o_ld, v_ld_p, v_ldC, o_call, e_t, e_put, e_get, e_res, e_keep_n, e_keep_c, e_keep1_s, List.length_nil, List.length_cons, Option.getD_some, Nat.reduceEqDiff, Nat.reduceAdd, reduceCtorEq, true_and, Bool.not_true, Bool.false_eq_true, St.clr, outV, ownsV, owns1, ownL, List.map_cons, List.map_nil, PV.leaves, List.flatMap_cons, List.flatMap_nil, List.append_nil, Bool.true_and, Nat.le_refl, List.drop_zero, List.take_succ_cons, List.drop_succ_cons, List.take_nil, rl_i, ol_b, m_lf, m_ag, Nat.zero_add]
    refine wcall_s h5 rfl rfl ?_
    simp -implicitDefEqProofs (maxSteps := 2000000) only [c3, ↓reduceIte, s_ops0, s_seq, s_opsK, s_seqK_n, s_nil, s_cons, s_wopsK, s_putK, o_mv, v_part_t, v_part_f, v_atK, o_al, o_fa, v_fa_p, o_ld, v_ld_p, v_ldC, o_st, v_st_p, v_stCK, o_call, e_t, e_put, e_get, e_res, e_keep_n, e_keep_c, e_keep1_s, List.length_nil, List.length_cons, Option.getD_some, Nat.reduceEqDiff, Nat.reduceAdd, reduceCtorEq, true_and, Bool.false_eq_true, St.clr, outV, ownsV, owns1, ownL, List.map_cons, List.map_nil, List.any_cons, List.any_nil, Bool.or_self, PV.leaves, List.flatMap_cons, List.flatMap_nil, List.append_nil, List.cons_append, List.nil_append, List.all_cons, List.all_nil, Bool.true_and, Bool.and_self, PV.cells, cellL, fillL, Nat.reduceBEq, Nat.zero_le, Nat.le_refl, List.take_zero, List.drop_zero, List.take_succ_cons, List.drop_succ_cons, List.drop_nil, List.take_nil, List.getElem?_cons_zero, List.getElem?_cons_succ, kc_b, kc_i, kc_s, rl_i, rl_s, ol_i, kc_p, kc_l, rl_l, m_lf, m_ag, m_n, m_c, m_all, st_b, d_n, d_c, Nat.zero_add, Nat.add_zero]
    refine wcall_down hA6 rfl ?_
    simp -implicitDefEqProofs (maxSteps := 2000000) only [c3, hmo, wl0, wd, wd2, wl1, wl2, ↓reduceIte, s_skip, s_ret, s_ops0, s_seq, s_cond, s_opsK, s_seqK_n, s_seqK_r, s_cnd, s_nil, s_cons, s_guard, s_wopsK, s_putK, s_grd, q_bin, q_fa, q_ld, q_len, o_mv, o_as, o_pk, v_pk, o_bin, v_add, v_quo, v_rem, v_eql, v_neq, o_cvi, v_cvi, o_ext, v_ext0, v_ext1, v_part_f, v_atK, o_al, o_fa, v_fa_p, o_ld, v_ld_p, v_ldC, o_st, v_st_p, v_stCK, o_bd, v_agK, v_bd_n, v_bd_c, o_len, v_len, o_call, e_t, e_k, e_put, e_get, e_res, e_keep_n, e_keep_c, e_keep1_s, e_asg_b, e_asg_i, List.length_nil, List.length_cons, Option.getD_some, Nat.reduceEqDiff, Nat.reduceAdd, reduceCtorEq, true_and, and_true, cond_false, Bool.not_true, Bool.false_eq_true, decide_eq_true_eq, s_ret_r, s_retX, s_cells_n, t_lf, t_b, r_n, r_t, r_cons, one_1, St.clr, outV, ownsV, owns1, ownL, List.map_cons, List.map_nil, List.any_cons, List.any_nil, Bool.or_false, Bool.false_or, Bool.or_self, PV.leaves, List.flatMap_cons, List.flatMap_nil, List.append_nil, List.cons_append, List.nil_append, List.all_cons, List.all_nil, Bool.and_true, Bool.true_and, Bool.and_self, PV.cells, cellL, fillL, Nat.reduceMul, Nat.reduceBEq, Nat.reduceLeDiff, Nat.zero_le, Nat.le_refl, List.take_zero, List.drop_zero, List.take_succ_cons, List.drop_succ_cons, List.drop_nil, List.getElem?_cons_zero, List.getElem?_cons_succ, kps_i, kps_s, kc_i, kc_s, rl_i, rl_s, ol_i, kps_p, kps_lro, kc_p, kc_l, rl_l, ol_lo, m_lf, m_ag, m_tp, m_1l, m_1a, m_n, m_c, m_all, st_b, d_n, d_c, dw_n, dw_i, dw_s, dw_lr, plT, ne_eq, not_false_eq_true, Nat.zero_add, Nat.add_zero, or_false, false_or, ite_not, o_mm, v_mm]
    refine ⟨by decide, by decide, ?_⟩
    refine wcall_down hB6 rfl ?_
    simp -implicitDefEqProofs (maxSteps := 2000000) only [c3, ↓reduceIte, s_ops0, s_seq, s_opsK, s_seqK_n, s_nil, s_cons, s_wopsK, s_putK, o_mv, o_as, o_ext, v_ext0, v_ext1, v_part_t, v_part_f, v_atK, o_al, o_fa, v_fa_p, o_ld, v_ld_p, v_ldC, o_st, v_st_p, v_stCK, o_bd, v_agK, v_bd_n, v_bd_c, o_call, e_t, e_put, e_get, e_res, e_keep_n, e_keep_c, e_keep1_s, e_asg_i, List.length_nil, List.length_cons, Option.getD_some, Nat.reduceEqDiff, Nat.reduceAdd, reduceCtorEq, true_and, Bool.false_eq_true, St.clr, outV, ownsV, owns1, ownL, List.map_cons, List.map_nil, List.any_cons, List.any_nil, Bool.or_false, Bool.false_or, Bool.or_self, PV.leaves, List.flatMap_cons, List.flatMap_nil, List.append_nil, List.cons_append, List.nil_append, List.all_cons, List.all_nil, Bool.true_and, Bool.and_self, PV.cells, cellL, fillL, Nat.reduceMul, Nat.reduceBEq, Nat.reduceLeDiff, Nat.zero_le, Nat.le_refl, List.take_zero, List.drop_zero, List.take_succ_cons, List.drop_succ_cons, List.drop_nil, List.take_nil, List.getElem?_cons_zero, List.getElem?_cons_succ, kps_i, kps_s, kc_i, kc_s, rl_i, rl_s, ol_i, kps_p, kps_lro, kc_p, kc_l, kps_lo, rl_l, ol_lo, m_lf, m_ag, m_tp, m_1l, m_1a, m_n, m_c, m_all, st_b, d_n, d_c, dw_n, dw_i, dw_s, dw_lr, plT, ne_eq, not_false_eq_true, Nat.zero_add, Nat.add_zero, or_false, false_or]
    refine wcall_down hC6 rfl ?_
    simp -implicitDefEqProofs (maxSteps := 2000000) only [c3, ↓reduceIte, s_ops0, s_seq, s_opsK, s_seqK_n, s_nil, s_cons, s_guard, s_wopsK, s_putK, s_grd, q_call, q_mv, q_bin, q_ld, o_mv, o_as, o_pk, v_pk, o_bin, v_neq, o_ext, v_ext0, v_ext1, v_part_t, o_al, o_ld, v_ld_p, v_ldC, o_st, v_st_p, v_stCK, o_call, e_t, e_k, e_put, e_get, e_res, e_keep_n, e_keep_c, e_keep1_s, e_asg_i, List.length_nil, List.length_cons, Option.getD_some, Nat.reduceEqDiff, Nat.reduceAdd, reduceCtorEq, true_and, cond_false, Bool.false_eq_true, decide_eq_false_iff_not, St.clr, outV, ownsV, owns1, ownL, List.map_cons, List.map_nil, List.any_cons, List.any_nil, Bool.or_false, Bool.false_or, Bool.or_self, PV.leaves, List.flatMap_cons, List.flatMap_nil, List.append_nil, List.cons_append, List.nil_append, List.all_cons, List.all_nil, Bool.true_and, Bool.and_self, PV.cells, cellL, fillL, Nat.reduceMul, Nat.reduceBEq, Nat.zero_le, Nat.le_refl, List.take_zero, List.drop_zero, List.take_succ_cons, List.drop_succ_cons, List.drop_nil, List.take_nil, kps_i, kps_s, kc_i, kc_s, rl_i, ol_i, kps_p, kps_lro, kc_p, kc_l, kps_lo, ol_lo, m_lf, m_ag, m_tp, m_1l, m_1a, m_n, m_c, m_all, st_b, d_n, d_c, dw_n, dw_i, dw_s, dw_lr, plT, ne_eq, Nat.zero_add, Nat.add_zero, or_false, false_or, Decidable.not_not]
    refine wcall_s (h7 _ _) rfl rfl ?_
    simp -implicitDefEqProofs (maxSteps := 2000000) only [c3, ↓reduceIte, s_cons, s_guard, s_wopsK, s_putK, s_grd, q_call, q_un, q_ld, o_mv, o_pk, v_pk, o_un, v_not, v_part_t, o_ld, v_ld_p, v_ldC, o_call, e_t, e_k, e_put, e_get, List.length_nil, List.length_cons, Option.getD_some, Nat.reduceEqDiff, Nat.reduceAdd, reduceCtorEq, true_and, cond_false, Bool.not_true, Bool.false_eq_true, St.clr, outV, ownsV, owns1, ownL, List.map_cons, List.map_nil, PV.leaves, List.flatMap_cons, List.flatMap_nil, List.append_nil, List.cons_append, List.nil_append, Bool.true_and, Nat.le_refl, List.drop_zero, List.take_succ_cons, List.take_nil, rl_i, ol_b, rl_l, m_lf, m_ag, Nat.zero_add]
    refine wcall_s (h7 _ _) rfl rfl ?_
    have t0 : Int.toNat 0 = 0 := rfl
    have t1 : Int.toNat 1 = 1 := rfl
    have t2 : Int.toNat 2 = 2 := rfl
    have ws : ∀ z : Int, 0 ≤ z → z ≤ 1073741824 → IntKind.i64.wrap (z - 1) = z - 1 := fun z a b => w64 (by omega) (by omega)
    have ws0 := ws A.rs (by omega) (by omega)
    have ws1 := ws A.rn (by omega) (by omega)
    have ws2 := ws A.steps (by omega) (by omega)
    have key : ∀ (j i : Nat), i + j = 3 → LoopAt X Tryd.prog c3_20 [0, 4, 14, 15, 16] (blkK 0 (seqK X Tryd.prog c3_24 (retS [] [] 0 [RV.t 6] (PV.lf (L.bool true)) [])))
        { m := 0, tm := [(0, PV.lf (L.lst Tag.ro 9 (List.map Ins.c code) sp)), (4, PV.lf (L.ptr 4 0)), (14, PV.lf (L.ptr 14 0)), (15, PV.lf (L.ptr 15 0)), (16, PV.lf (L.int IntKind.i64 i))],
          ce := [(4, [L.str s, L.int IntKind.i64 at_, L.int IntKind.i64 l0, L.int IntKind.i64 l1, L.int IntKind.i64 l2]),
            (14, [L.int IntKind.i64 (A.rs - 1), L.int IntKind.i64 A.rn, L.int IntKind.i64 A.steps, L.int IntKind.i64 A.rs, L.int IntKind.i64 (A.rn - 1), L.int IntKind.i64 A.steps, L.int IntKind.i64 A.rs, L.int IntKind.i64 A.rn, L.int IntKind.i64 (A.steps - 1)]),
            (15, [L.int IntKind.i64 210, L.int IntKind.i64 211, L.int IntKind.i64 212])] } := by
      intro j
      induction j with
      | zero =>
        intro i hi
        obtain rfl : i = 3 := by omega
        intro Z hZ; apply hZ
        have hn : ¬ ((3 : Nat) : Int) < 3 := by decide
        simp -implicitDefEqProofs (maxSteps := 2000000) only [c3, hn, decide_false, ↓reduceIte, s_exit, s_ret, s_ops0, s_seq, s_cond, s_opsK, s_seqK_n, s_seqK_e, s_blkK_e, s_loopK_e, s_cnd, s_nil, s_cons, s_wopsK, s_putK, o_mv, o_as, o_bin, v_lss, e_t, e_k, e_put, e_get, e_res, e_keep_n, e_keep_c, e_keep1_s, e_asg_b, Option.getD_some, Nat.reduceEqDiff, reduceCtorEq, and_true, Bool.false_eq_true, s_ret_r, s_retX, s_cells_n, t_lf, t_b, r_n, r_t, r_cons, one_1, Bool.and_true]
      | succ j ih =>
        intro i hi
        have hlt : (i : Int) < 3 := by omega
        have wi : IntKind.i64.wrap ((i : Int) + 1) = ((i + 1 : Nat) : Int) := by rw [w64 (by omega) (by omega)]; omega
        have ihj := ih (i + 1) (by omega)
        clear ih
        have q0 : ¬ A.rs < 0 := by omega
        have q1 : ¬ A.rn < 0 := by omega
        have q2 : ¬ A.steps < 0 := by omega
        have c0 : ((0 : Nat) : Int) = 0 := rfl
        have m4 : [4, 4, 14].contains 4 = true := by decide
        have m14 : [4, 4, 14].contains 14 = true := by decide
        have m15 : [4, 4, 14].contains 15 = false := by decide
        have z0 : (0 : Int) < 3 := by decide
        have z1 : ((1 : Nat) : Int) < 3 := by decide
        have z2 : ((2 : Nat) : Int) < 3 := by decide
        have d0 : ((0 : Nat) : Int).toNat = 0 := rfl
        have d1 : ((1 : Nat) : Int).toNat = 1 := rfl
        have d2 : ((2 : Nat) : Int).toNat = 2 := rfl
        intro Z hZ; apply hZ
        rcases (show i = 0 ∨ i = 1 ∨ i = 2 by omega) with rfl | rfl | rfl
        · simp -implicitDefEqProofs (maxSteps := 2000000) only [c3, hlt, wi, decide_true, q0, q1, q2, d0, d1, d2, decide_false, m4, m14, m15, ↓reduceIte, s_skip, s_exit, s_ops0, s_seq, s_cond, s_block, s_opsK, s_seqK_n, s_seqK_e, s_blkK_e, s_loopK_n, s_cnd, s_nil, s_cons, s_guard, s_wopsK, s_putK, s_grd, q_mv, q_bin, q_fa, q_iaa, q_ld, o_mv, o_as, o_pk, v_pk, o_bin, v_add, v_lss, v_part_t, v_part_f, v_atK, o_al, o_fa, v_fa_p, o_iaa, v_iaa_p, o_ld, v_ld_p, v_ldC, o_call, e_t, e_k, e_put, e_get, e_res, e_keep_n, e_keep_c, e_keep1_s, e_asg_i, List.length_nil, List.length_cons, Option.getD_some, Nat.reduceEqDiff, Nat.reduceAdd, reduceCtorEq, true_and, and_true, cond_false, Bool.not_false, Bool.true_eq_false, Bool.false_eq_true, decide_eq_false_iff_not, List.map_cons, List.map_nil, PV.leaves, List.flatMap_cons, List.flatMap_nil, List.append_nil, List.cons_append, List.nil_append, List.all_cons, List.all_nil, Bool.and_true, Bool.true_and, Bool.and_self, Nat.reduceMul, Nat.reduceBEq, Nat.reduceLeDiff, Nat.zero_le, List.take_zero, List.drop_zero, List.take_succ_cons, List.getElem?_cons_zero, List.getElem?_cons_succ, kc_b, kc_i, kc_s, rl_i, rl_s, kc_p, kc_l, rl_l, m_lf, m_ag, m_n, m_c, m_all, e_head, e_headK, kC_n, kC_c, pO_n, pO_p, pO_i, pO_l, d_n, d_c, List.range_zero, Nat.zero_add, Nat.add_zero, ite_not, s_gd2, s_g2E, g_a, sm_i, s_gn, s_gc, s_gK, s_r2, s_rK, g_D, g_O, g_i, g_s, g_p, g_ev, p_n, p_c, p_cs, p_cn, p_1, p_1l, p_1i, c_n, c_c, c_cs, cg_st, cg_b, cg_i, cg_p, cg_u, cg_l, k_n, k_c, k_p, k_l, k_i, s_gms, s_gmn, mo_mv, mo_fa, mo_iaa, mo_ld]
          refine ⟨⟨by decide, by decide⟩, ?_⟩
          with_reducible refine ite_pr (fun g => ?_) (fun g => ?_)
          · exact ihj Z hZ
          · skip
            have hf := hless.1 (by omega)
            have hL6 := r6 hX code sp s at_ (A.rs - 1) A.rn A.steps
            rw [runA_err (by rw [hf]; decide), hf] at hL6
            simp only [Rn.c, rn0, List.map_nil] at hL6
            repeat refine ⟨⟨by decide, by decide⟩, ?_⟩
            refine ⟨?_, ?_⟩
            all_goals
              refine wcall_down hL6 rfl ?_
              simp -implicitDefEqProofs (maxSteps := 2000000) only [c3, hlt, wi, decide_true, q0, q1, q2, d0, d1, d2, decide_false, m4, m14, m15, ↓reduceIte, s_skip, s_ret, s_ops0, s_seq, s_cond, s_opsK, s_seqK_n, s_seqK_r, s_blkK_n, s_blkK_r, s_loopK_n, s_loopK_r, s_cnd, s_nil, s_cons, s_wopsK, s_putK, o_mv, o_as, o_bin, v_add, v_neq, o_ext, v_ext0, v_ext1, v_part_f, v_atK, o_al, o_iaa, v_iaa_p, o_ld, v_ld_p, v_ldC, o_st, v_st_p, v_stCK, e_t, e_k, e_put, e_get, e_res, e_keep_n, e_keep_c, e_keep1_s, e_asg_b, e_asg_i, List.length_nil, List.length_cons, Option.getD_some, Nat.reduceEqDiff, Nat.reduceAdd, reduceCtorEq, true_and, and_true, Bool.false_eq_true, decide_eq_true_eq, s_ret_r, s_retX, s_cells_n, t_lf, t_b, r_n, r_t, r_cons, one_1, St.clr, outV, ownsV, owns1, ownL, List.map_cons, List.map_nil, List.any_cons, List.any_nil, Bool.or_false, Bool.false_or, Bool.or_self, List.append_nil, List.nil_append, List.all_cons, List.all_nil, Bool.and_true, Bool.true_and, Bool.and_self, PV.cells, cellL, fillL, Nat.reduceMul, Nat.reduceBEq, Nat.zero_le, Nat.le_refl, List.take_zero, List.drop_succ_cons, List.drop_nil, List.getElem?_cons_zero, kps_b, kps_i, kps_s, kc_b, kc_i, kc_s, ol_i, kps_p, kps_lro, kc_p, kc_l, kps_lo, ol_lo, m_lf, m_ag, m_tp, m_1l, m_1a, m_n, m_c, m_all, e_head, e_headK, kC_n, kC_c, pO_n, pO_p, pO_i, pO_l, st_b, d_n, d_c, dw_n, dw_i, dw_s, dw_lr, List.range_zero, plT, ne_eq, Nat.zero_add, Nat.add_zero, or_false, false_or, ite_not, s_r1, s_r2, s_rF, s_rK, k_n, k_c, k_p, k_l, k_i]
              first
                | exact ihj Z hZ
                | exact ⟨by decide, ihj Z hZ⟩
                | exact ⟨by decide, by decide, ihj Z hZ⟩
                | exact ⟨⟨by decide, by decide⟩, ihj Z hZ⟩
        · simp -implicitDefEqProofs (maxSteps := 2000000) only [c3, hlt, wi, decide_true, q0, q1, q2, d0, d1, d2, decide_false, m4, m14, m15, ↓reduceIte, s_skip, s_exit, s_ops0, s_seq, s_cond, s_block, s_opsK, s_seqK_n, s_seqK_e, s_blkK_e, s_loopK_n, s_cnd, s_nil, s_cons, s_guard, s_wopsK, s_putK, s_grd, q_mv, q_bin, q_fa, q_iaa, q_ld, o_mv, o_as, o_pk, v_pk, o_bin, v_add, v_lss, v_part_t, v_part_f, v_atK, o_al, o_fa, v_fa_p, o_iaa, v_iaa_p, o_ld, v_ld_p, v_ldC, o_call, e_t, e_k, e_put, e_get, e_res, e_keep_n, e_keep_c, e_keep1_s, e_asg_i, List.length_nil, List.length_cons, Option.getD_some, Nat.reduceEqDiff, Nat.reduceAdd, reduceCtorEq, true_and, and_true, cond_false, Bool.not_false, Bool.true_eq_false, Bool.false_eq_true, decide_eq_false_iff_not, List.map_cons, List.map_nil, PV.leaves, List.flatMap_cons, List.flatMap_nil, List.append_nil, List.cons_append, List.nil_append, List.all_cons, List.all_nil, Bool.and_true, Bool.true_and, Bool.and_self, Nat.reduceMul, Nat.reduceBEq, Nat.reduceLeDiff, Nat.zero_le, List.take_zero, List.drop_zero, List.take_succ_cons, List.drop_succ_cons, List.getElem?_cons_zero, List.getElem?_cons_succ, kc_b, kc_i, kc_s, rl_i, rl_s, kc_p, kc_l, rl_l, m_lf, m_ag, m_n, m_c, m_all, e_head, e_headK, kC_n, kC_c, pO_n, pO_p, pO_i, pO_l, d_n, d_c, List.range_zero, Nat.zero_add, Nat.add_zero, ite_not, s_gd2, s_g2E, g_a, sm_i, s_gn, s_gc, s_gK, s_r2, s_rK, g_D, g_O, g_i, g_s, g_p, g_ev, p_n, p_c, p_cs, p_cn, p_1, p_1l, p_1i, c_n, c_c, c_cs, cg_st, cg_b, cg_i, cg_p, cg_u, cg_l, k_n, k_c, k_p, k_l, k_i, s_gms, s_gmn, mo_mv, mo_fa, mo_iaa, mo_ld]
          refine ⟨⟨by decide, by decide⟩, ⟨by decide, by decide⟩, ?_⟩
          with_reducible refine ite_pr (fun g => ?_) (fun g => ?_)
          · exact ihj Z hZ
          · skip
            have hf := hless.2.1 (by omega)
            have hL6 := r6 hX code sp s at_ A.rs (A.rn - 1) A.steps
            rw [runA_err (by rw [hf]; decide), hf] at hL6
            simp only [Rn.c, rn0, List.map_nil] at hL6
            repeat refine ⟨⟨by decide, by decide⟩, ?_⟩
            refine ⟨?_, ?_⟩
            all_goals
              refine wcall_down hL6 rfl ?_
              simp -implicitDefEqProofs (maxSteps := 2000000) only [c3, hlt, wi, decide_true, q0, q1, q2, d0, d1, d2, decide_false, m4, m14, m15, ↓reduceIte, s_skip, s_ret, s_ops0, s_seq, s_cond, s_opsK, s_seqK_n, s_seqK_r, s_blkK_n, s_blkK_r, s_loopK_n, s_loopK_r, s_cnd, s_nil, s_cons, s_wopsK, s_putK, o_mv, o_as, o_bin, v_add, v_neq, o_ext, v_ext0, v_ext1, v_part_f, v_atK, o_al, o_iaa, v_iaa_p, o_ld, v_ld_p, v_ldC, o_st, v_st_p, v_stCK, e_t, e_k, e_put, e_get, e_res, e_keep_n, e_keep_c, e_keep1_s, e_asg_b, e_asg_i, List.length_nil, List.length_cons, Option.getD_some, Nat.reduceEqDiff, Nat.reduceAdd, reduceCtorEq, true_and, and_true, Bool.false_eq_true, decide_eq_true_eq, s_ret_r, s_retX, s_cells_n, t_lf, t_b, r_n, r_t, r_cons, one_1, St.clr, outV, ownsV, owns1, ownL, List.map_cons, List.map_nil, List.any_cons, List.any_nil, Bool.or_false, Bool.false_or, Bool.or_self, List.append_nil, List.nil_append, List.all_cons, List.all_nil, Bool.and_true, Bool.true_and, Bool.and_self, PV.cells, cellL, fillL, Nat.reduceMul, Nat.reduceBEq, Nat.zero_le, Nat.le_refl, List.take_zero, List.drop_succ_cons, List.drop_nil, List.getElem?_cons_zero, List.getElem?_cons_succ, kps_b, kps_i, kps_s, kc_b, kc_i, kc_s, ol_i, kps_p, kps_lro, kc_p, kc_l, kps_lo, ol_lo, m_lf, m_ag, m_tp, m_1l, m_1a, m_n, m_c, m_all, e_head, e_headK, kC_n, kC_c, pO_n, pO_p, pO_i, pO_l, st_b, d_n, d_c, dw_n, dw_i, dw_s, dw_lr, List.range_zero, plT, ne_eq, Nat.zero_add, Nat.add_zero, or_false, false_or, ite_not, s_r1, s_r2, s_rF, s_rK, k_n, k_c, k_p, k_l, k_i]
              first
                | exact ihj Z hZ
                | exact ⟨by decide, ihj Z hZ⟩
                | exact ⟨by decide, by decide, ihj Z hZ⟩
                | exact ⟨⟨by decide, by decide⟩, ihj Z hZ⟩
        · simp -implicitDefEqProofs (maxSteps := 2000000) only [c3, hlt, wi, decide_true, q0, q1, q2, d0, d1, d2, decide_false, m4, m14, m15, ↓reduceIte, s_skip, s_exit, s_ops0, s_seq, s_cond, s_block, s_opsK, s_seqK_n, s_seqK_e, s_blkK_e, s_loopK_n, s_cnd, s_nil, s_cons, s_guard, s_wopsK, s_putK, s_grd, q_mv, q_bin, q_fa, q_iaa, q_ld, o_mv, o_as, o_pk, v_pk, o_bin, v_add, v_lss, v_part_t, v_part_f, v_atK, o_al, o_fa, v_fa_p, o_iaa, v_iaa_p, o_ld, v_ld_p, v_ldC, o_call, e_t, e_k, e_put, e_get, e_res, e_keep_n, e_keep_c, e_keep1_s, e_asg_i, List.length_nil, List.length_cons, Option.getD_some, Nat.reduceEqDiff, Nat.reduceAdd, reduceCtorEq, true_and, and_true, cond_false, Bool.false_eq_true, decide_eq_true_eq, List.map_cons, List.map_nil, PV.leaves, List.flatMap_cons, List.flatMap_nil, List.append_nil, List.cons_append, List.nil_append, List.all_cons, List.all_nil, Bool.and_true, Bool.true_and, Bool.and_self, Nat.reduceMul, Nat.reduceBEq, Nat.zero_le, Nat.le_refl, List.drop_zero, List.take_succ_cons, List.drop_succ_cons, List.take_nil, List.getElem?_cons_zero, List.getElem?_cons_succ, kc_b, kc_i, kc_s, rl_i, rl_s, kc_p, kc_l, rl_l, m_lf, m_ag, m_n, m_c, m_all, e_head, e_headK, kC_n, kC_c, pO_n, pO_p, pO_i, pO_l, d_n, d_c, List.range_zero, Nat.zero_add, Nat.add_zero, s_gd2, s_g2E, g_a, sm_i, s_gn, s_gc, s_gK, s_r2, s_rK, g_D, g_O, g_i, g_s, g_p, g_ev, p_n, p_c, p_cs, p_cn, p_1, p_1l, p_1i, c_n, c_c, c_cs, cg_st, cg_b, cg_i, cg_p, cg_u, cg_l, k_n, k_c, k_p, k_l, k_i, s_gms, s_gmn, mo_mv, mo_fa, mo_iaa, mo_ld]
          refine ⟨⟨by decide, by decide⟩, ⟨by decide, by decide⟩, ⟨by decide, by decide⟩, ?_⟩
          with_reducible refine ite_pr (fun g => ?_) (fun g => ?_)
          · exact ihj Z hZ
          · skip
            have hf := hless.2.2 (by omega)
            have hL6 := r6 hX code sp s at_ A.rs A.rn (A.steps - 1)
            rw [runA_err (by rw [hf]; decide), hf] at hL6
            simp only [Rn.c, rn0, List.map_nil] at hL6
            repeat refine ⟨⟨by decide, by decide⟩, ?_⟩
            refine ⟨?_, ?_⟩
            all_goals
              refine wcall_down hL6 rfl ?_
              simp -implicitDefEqProofs (maxSteps := 2000000) only [c3, hlt, wi, decide_true, q0, q1, q2, d0, d1, d2, decide_false, m4, m14, m15, ↓reduceIte, s_skip, s_ret, s_ops0, s_seq, s_cond, s_opsK, s_seqK_n, s_seqK_r, s_blkK_n, s_blkK_r, s_loopK_n, s_loopK_r, s_cnd, s_nil, s_cons, s_wopsK, s_putK, o_mv, o_as, o_bin, v_add, v_neq, o_ext, v_ext0, v_ext1, v_part_f, v_atK, o_al, o_iaa, v_iaa_p, o_ld, v_ld_p, v_ldC, o_st, v_st_p, v_stCK, e_t, e_k, e_put, e_get, e_res, e_keep_n, e_keep_c, e_keep1_s, e_asg_b, e_asg_i, List.length_nil, List.length_cons, Option.getD_some, Nat.reduceEqDiff, Nat.reduceAdd, reduceCtorEq, true_and, and_true, Bool.false_eq_true, decide_eq_true_eq, s_ret_r, s_retX, s_cells_n, t_lf, t_b, r_n, r_t, r_cons, one_1, St.clr, outV, ownsV, owns1, ownL, List.map_cons, List.map_nil, List.any_cons, List.any_nil, Bool.or_false, Bool.false_or, Bool.or_self, List.append_nil, List.nil_append, List.all_cons, List.all_nil, Bool.and_true, Bool.true_and, Bool.and_self, PV.cells, cellL, fillL, Nat.reduceMul, Nat.reduceBEq, Nat.zero_le, Nat.le_refl, List.take_zero, List.drop_succ_cons, List.drop_nil, List.getElem?_cons_zero, List.getElem?_cons_succ, kps_b, kps_i, kps_s, kc_b, kc_i, kc_s, ol_i, kps_p, kps_lro, kc_p, kc_l, kps_lo, ol_lo, m_lf, m_ag, m_tp, m_1l, m_1a, m_n, m_c, m_all, e_head, e_headK, kC_n, kC_c, pO_n, pO_p, pO_i, pO_l, st_b, d_n, d_c, dw_n, dw_i, dw_s, dw_lr, List.range_zero, plT, ne_eq, Nat.zero_add, Nat.add_zero, or_false, false_or, ite_not, s_r1, s_r2, s_rF, s_rK, k_n, k_c, k_p, k_l, k_i]
              first
                | exact ihj Z hZ
                | exact ⟨by decide, ihj Z hZ⟩
                | exact ⟨by decide, by decide, ihj Z hZ⟩
                | exact ⟨⟨by decide, by decide⟩, ihj Z hZ⟩
    simp -implicitDefEqProofs (maxSteps := 2000000) only [c3, t0, t1, t2, ws0, ws1, ws2, ↓reduceIte, s_skip, s_ops0, s_seq, s_cond, s_block, s_loop, s_opsK, s_seqK_n, s_cnd, s_nil, s_cons, s_guard, s_wopsK, s_putK, s_grd, q_un, o_as, o_pk, v_pk, o_bin, v_sub, o_un, v_not, v_part_t, v_part_f, v_atK, o_al, o_fa, v_fa_p, o_iaa, v_iaa_p, o_ld, v_ld_p, v_ldC, o_st, v_st_p, v_stCK, o_bd, v_agK, v_bd_n, v_bd_c, e_t, e_k, e_put, e_get, e_res, e_keep_n, e_keep_c, e_keep1_s, e_asg_i, List.length_nil, List.length_cons, Option.getD_some, Nat.reduceEqDiff, Nat.reduceAdd, reduceCtorEq, true_and, cond_false, Bool.not_true, Bool.false_eq_true, St.clr, outV, ownsV, owns1, ownL, List.map_cons, List.map_nil, List.append_nil, List.cons_append, List.nil_append, List.all_cons, List.all_nil, Bool.true_and, Bool.and_self, PV.cells, cellL, fillL, Nat.reduceMul, Nat.reduceBEq, Nat.reduceLeDiff, Nat.zero_le, Nat.le_refl, List.take_zero, List.drop_zero, List.take_succ_cons, List.drop_succ_cons, List.drop_nil, List.take_nil, List.getElem?_cons_zero, List.getElem?_cons_succ, kc_b, kc_i, kc_s, ol_b, kc_p, kc_l, m_lf, m_ag, m_n, m_c, m_all, e_head, e_headK, kC_n, kC_c, pO_n, pO_p, pO_i, pO_l, st_b, st_i1, d_n, d_c, List.range_zero, ne_eq, not_false_eq_true, Nat.zero_add, Nat.add_zero]
    exact ⟨by decide, by decide, by decide, by decide, by decide, by decide, key 3 0 rfl⟩
  · have hE6 := h6 l0 l1 L2
    rw [runA_err e0] at hE6
    refine R_i [] [] c3_ok rfl (by simp) ?_
    simp -implicitDefEqProofs (maxSteps := 2000000) only [c3, ↓reduceIte, s_ops0, s_seq, s_opsK, s_seqK_n, s_nil, s_cons, s_wopsK, o_as, o_bx, o_call, e_t, e_k, e_get, e_res, e_keep_n, e_keep_c, e_keep1_s, e_asg_b, St.init, enum, List.length_nil, Option.getD_some, Nat.reduceEqDiff, Nat.reduceAdd, reduceCtorEq, true_and, List.map_cons, List.map_nil, PV.leaves, List.flatMap_nil, Bool.true_and, Nat.zero_le, kc_i, kc_s, kc_l, m_lf, m_ag, m_n, m_c, m_all, d_n, Nat.zero_add, v_bx_a]
    refine wcall_s h4 rfl rfl ?_
    simp -implicitDefEqProofs (maxSteps := 2000000) only [c3, ↓reduceIte, s_skip, s_ops0, s_seq, s_cond, s_opsK, s_seqK_n, s_cnd, s_nil, s_cons, s_wopsK, s_putK, o_un, v_not, v_part_t, o_fa, v_fa_p, o_ld, v_ld_p, v_ldC, o_call, e_t, e_put, e_get, e_res, e_keep_n, e_keep_c, e_keep1_s, List.length_nil, List.length_cons, Option.getD_some, Nat.reduceEqDiff, Nat.reduceAdd, reduceCtorEq, true_and, Bool.not_true, Bool.false_eq_true, St.clr, outV, ownsV, owns1, ownL, List.map_cons, List.map_nil, PV.leaves, List.flatMap_cons, List.flatMap_nil, List.append_nil, Bool.true_and, Nat.le_refl, List.drop_zero, List.take_succ_cons, List.drop_succ_cons, List.take_nil, rl_i, ol_b, m_lf, m_ag, Nat.zero_add]
    refine wcall_s h5 rfl rfl ?_
    simp -implicitDefEqProofs (maxSteps := 2000000) only [c3, ↓reduceIte, s_ops0, s_seq, s_opsK, s_seqK_n, s_nil, s_cons, s_wopsK, s_putK, o_mv, v_part_t, v_part_f, v_atK, o_al, o_fa, v_fa_p, o_ld, v_ld_p, v_ldC, o_st, v_st_p, v_stCK, o_call, e_t, e_put, e_get, e_res, e_keep_n, e_keep_c, e_keep1_s, List.length_nil, List.length_cons, Option.getD_some, Nat.reduceEqDiff, Nat.reduceAdd, reduceCtorEq, true_and, Bool.false_eq_true, St.clr, outV, ownsV, owns1, ownL, List.map_cons, List.map_nil, List.any_cons, List.any_nil, Bool.or_self, PV.leaves, List.flatMap_cons, List.flatMap_nil, List.append_nil, List.cons_append, List.nil_append, List.all_cons, List.all_nil, Bool.true_and, Bool.and_self, PV.cells, cellL, fillL, Nat.reduceBEq, Nat.zero_le, Nat.le_refl, List.take_zero, List.drop_zero, List.take_succ_cons, List.drop_succ_cons, List.drop_nil, List.take_nil, List.getElem?_cons_zero, List.getElem?_cons_succ, kc_b, kc_i, kc_s, rl_i, rl_s, ol_i, kc_p, kc_l, rl_l, m_lf, m_ag, m_n, m_c, m_all, st_b, d_n, d_c, Nat.zero_add, Nat.add_zero]
    refine wcall_down hE6 rfl ?_
    simp -implicitDefEqProofs (maxSteps := 2000000) only [c3, e0, ↓reduceIte, s_ret, s_ops0, s_seq, s_cond, s_opsK, s_seqK_n, s_seqK_r, s_cnd, s_nil, s_cons, s_guard, s_wopsK, s_putK, s_grd, q_bin, q_fa, q_ld, q_len, o_mv, o_as, o_pk, v_pk, o_bin, v_eql, v_neq, o_ext, v_ext0, v_ext1, v_part_f, v_atK, o_al, o_fa, v_fa_p, o_ld, v_ld_p, v_ldC, o_st, v_st_p, v_stCK, o_len, v_len, e_t, e_k, e_put, e_get, e_res, e_keep_n, e_keep_c, e_keep1_s, e_asg_b, e_asg_i, List.length_nil, List.length_cons, Option.getD_some, Nat.reduceEqDiff, Nat.reduceAdd, reduceCtorEq, true_and, and_true, cond_false, Bool.not_true, Bool.false_eq_true, decide_eq_true_eq, s_ret_r, s_retX, s_cells_n, t_lf, t_b, r_n, r_t, r_cons, one_1, St.clr, outV, ownsV, owns1, ownL, List.map_cons, List.map_nil, List.any_cons, List.any_nil, Bool.or_false, Bool.false_or, Bool.or_self, List.append_nil, List.nil_append, List.all_cons, List.all_nil, Bool.and_true, Bool.true_and, Bool.and_self, PV.cells, cellL, fillL, Nat.reduceMul, Nat.reduceBEq, Nat.zero_le, Nat.le_refl, List.take_zero, List.drop_succ_cons, List.drop_nil, List.getElem?_cons_zero, List.getElem?_cons_succ, kps_i, kps_s, kc_i, kc_s, ol_i, kps_p, kps_lro, kc_p, kc_l, ol_lo, m_lf, m_ag, m_tp, m_1l, m_1a, m_n, m_c, m_all, st_b, d_n, d_c, dw_n, dw_i, dw_s, dw_lr, plT, ne_eq, not_false_eq_true, Nat.zero_add, Nat.add_zero, or_false, false_or]
    simp [rn0]
end Go.Proofs.YtkmhoholblbbfaaDoor.M
set_option linter.unusedVariables false
set_option linter.unusedSimpArgs false
namespace Go.Proofs.YtkmhoholblbbfaaDoor.M
open Go Go.Proofs.YtkmhoholblbbfaaDoor.AM

theorem wf64 {n : Int} (h : (Lit.int .i64 n).wf = true) : -9223372036854775808 ≤ n ∧ n ≤ 9223372036854775807 := by
  simp only [Lit.wf, IntKind.min, IntKind.max, Bool.and_eq_true] at h; simp [IntKind.bits, IntKind.signed] at h; omega
theorem wfu64 {n : Int} (h : (Lit.int .u64 n).wf = true) : 0 ≤ n ∧ n ≤ 18446744073709551615 := by
  simp only [Lit.wf, IntKind.min, IntKind.max, Bool.and_eq_true] at h; simp [IntKind.bits, IntKind.signed] at h; omega
structure Ins.ok (x : Ins) : Prop where
  op : -9223372036854775808 ≤ x.op ∧ x.op ≤ 9223372036854775807
  a : -9223372036854775808 ≤ x.a ∧ x.a ≤ 9223372036854775807
  b : -9223372036854775808 ≤ x.b ∧ x.b ≤ 9223372036854775807
  n : -9223372036854775808 ≤ x.n ∧ x.n ≤ 9223372036854775807
  t : x.t.size ≤ 140737488351232
  s0 : 0 ≤ x.s0 ∧ x.s0 ≤ 18446744073709551615
  s1 : 0 ≤ x.s1 ∧ x.s1 ≤ 18446744073709551615
  s2 : 0 ≤ x.s2 ∧ x.s2 ≤ 18446744073709551615
  s3 : 0 ≤ x.s3 ∧ x.s3 ≤ 18446744073709551615
theorem ins_of {l : List L} (h : WT Tryd.prog 43 l) : ∃ x : Ins, l = x.c ∧ x.ok := by
  obtain ⟨lss, rfl, m0⟩ := h.inv_struct Tryd.underlying43
  obtain ⟨e0, es0, rfl, m1, n1⟩ := All2.cons_inv m0
  obtain ⟨e1, es1, rfl, m2, n2⟩ := All2.cons_inv n1
  obtain ⟨e2, es2, rfl, m3, n3⟩ := All2.cons_inv n2
  obtain ⟨e3, es3, rfl, m4, n4⟩ := All2.cons_inv n3
  obtain ⟨e4, es4, rfl, m5, n5⟩ := All2.cons_inv n4
  obtain ⟨e5, es5, rfl, m6, n6⟩ := All2.cons_inv n5
  obtain rfl := All2.nil_inv n6
  obtain ⟨op, rfl, w1⟩ := m1.inv_int Tryd.underlying3
  obtain ⟨a, rfl, w2⟩ := m2.inv_int Tryd.underlying3
  obtain ⟨b, rfl, w3⟩ := m3.inv_int Tryd.underlying3
  obtain ⟨n, rfl, w4⟩ := m4.inv_int Tryd.underlying3
  obtain ⟨t, rfl, w5⟩ := m5.inv_str Tryd.underlying9
  obtain ⟨ss, rfl, hn, hs⟩ := m6.inv_array Tryd.underlying41
  match ss, hn, hs with
  | [z0, z1, z2, z3], _, hs =>
    obtain ⟨s0, rfl, q0⟩ := (hs 0 z0 rfl).inv_int Tryd.underlying35
    obtain ⟨s1, rfl, q1⟩ := (hs 1 z1 rfl).inv_int Tryd.underlying35
    obtain ⟨s2, rfl, q2⟩ := (hs 2 z2 rfl).inv_int Tryd.underlying35
    obtain ⟨s3, rfl, q3⟩ := (hs 3 z3 rfl).inv_int Tryd.underlying35
    exact ⟨⟨op, a, b, n, t, s0, s1, s2, s3⟩, rfl, ⟨wf64 w1, wf64 w2, wf64 w3, wf64 w4, w5, wfu64 q0, wfu64 q1, wfu64 q2, wfu64 q3⟩⟩
theorem code_list : ∀ (xs : List (List L)), (∀ x ∈ xs, ∃ y : Ins, x = y.c ∧ y.ok) → ∃ code : List Ins, xs = code.map Ins.c ∧ ∀ y ∈ code, y.ok
  | [], _ => ⟨[], rfl, fun y h => by simp at h⟩
  | x :: xs, h => by
    obtain ⟨y, rfl, h1⟩ := h x (by simp)
    obtain ⟨c, rfl, h2⟩ := code_list xs (fun z hz => h z (by simp [hz]))
    refine ⟨y :: c, rfl, fun z hz => ?_⟩
    simp only [List.mem_cons] at hz
    rcases hz with rfl | hz
    · exact h1
    · exact h2 z hz
theorem code_of {ls : List L} (h : WT Tryd.prog 22 ls) : ∃ (code : List Ins) (sp : List (List L)), ls = [.lst .ro 9 (code.map Ins.c) sp] ∧ (∀ x ∈ code, x.ok) ∧ code.length ≤ 140737488351232 := by
  obtain ⟨xs, sp, rfl, hb, hm, hx⟩ := h.inv_lst Tryd.underlying22
  obtain ⟨code, rfl, hc⟩ := code_list xs (fun x h => by
    obtain ⟨i, hi⟩ := List.getElem?_of_mem h
    exact ins_of (hx i x (by
      rw [List.getElem?_append_left]
      · exact hi
      · exact (List.getElem?_eq_some_iff.1 hi).1)))
  have h9 : Tryd.prog.cellsOf 43 = 9 := by kernel_rfl
  have hbb : Tryd.prog.bytesOf 43 = 80 := by kernel_rfl
  rw [hbb] at hb
  refine ⟨code, sp, by rw [h9], hc, ?_⟩
  simp only [List.length_map] at hb
  omega
theorem try_of {ls : List L} (h : WT Tryd.prog 26 ls) : ∃ (t : ByteArray) (a l0 l1 l2 : Int), ls = [.str t, .int .i64 a, .int .i64 l0, .int .i64 l1, .int .i64 l2] := by
  obtain ⟨lss, rfl, m0⟩ := h.inv_struct Tryd.underlying26
  obtain ⟨e0, es0, rfl, m1, n1⟩ := All2.cons_inv m0
  obtain ⟨e1, es1, rfl, m2, n2⟩ := All2.cons_inv n1
  obtain ⟨e2, es2, rfl, m3, n3⟩ := All2.cons_inv n2
  obtain rfl := All2.nil_inv n3
  obtain ⟨t, rfl, w1⟩ := m1.inv_str Tryd.underlying9
  obtain ⟨a, rfl, w2⟩ := m2.inv_int Tryd.underlying3
  obtain ⟨ks, rfl, k0⟩ := m3.inv_struct Tryd.underlying24
  obtain ⟨f0, fs0, rfl, k1, j1⟩ := All2.cons_inv k0
  obtain ⟨f1, fs1, rfl, k2, j2⟩ := All2.cons_inv j1
  obtain ⟨f2, fs2, rfl, k3, j3⟩ := All2.cons_inv j2
  obtain rfl := All2.nil_inv j3
  obtain ⟨l0, rfl, z0⟩ := k1.inv_int Tryd.underlying3
  obtain ⟨l1, rfl, z1⟩ := k2.inv_int Tryd.underlying3
  obtain ⟨l2, rfl, z2⟩ := k3.inv_int Tryd.underlying3
  exact ⟨t, a, l0, l1, l2, rfl⟩
def cxU : Cx := ⟨fun g => if g = 0 then some usesL else none⟩
theorem cxU_0 : cxU.G 0 = some usesL := rfl
theorem uses_glob {w : World} {fuel : Nat} {cs : Array Value} {ps : List MemPlace} {d : DataW Unit} (hv : w.var? Tryd.prog "harrow/instr.uses" = some cs)
    (h : DataW.trod (fun _ => ()) Tryd.prog w 0 (fun _ => true) false fuel 66 cs.toList = some (d, ps)) (hd : d = .agg (usesN.map fun n => .lit (.int .i64 n))) : GlobOK w 0 usesL := by
  subst hd
  exact glob_ints (by kernel_rfl) hv (table_ints Tryd.underlying66 Tryd.underlying3 (by kernel_rfl) (by kernel_rfl) h) (by decide)
end Go.Proofs.YtkmhoholblbbfaaDoor.M
