/- Contracts, part W8. -/
import Derived.Test.YthcpaohmajjopaaDoorW7
import Derived.Test.YthcpaohmajjopaaDoorProg
import Derived.Test.YthcpaohmajjopaaDoorAmLeaf2
import Derived.Test.YthcpaohmajjopaaDoorW6
import Derived.Test.YthcpaohmajjopaaDoorW1
import Derived.Lib.ItoaLen
import Derived.Test.YthcpaohmajjopaaDoorW5
import Derived.Test.YthcpaohmajjopaaDoorW2
set_option linter.unusedVariables false
set_option linter.unusedSimpArgs false
namespace Go.Proofs.YthcpaohmajjopaaDoor.I
open Go Go.Proofs.YthcpaohmajjopaaDoor.AM
variable {X : Cx}
theorem full_count (a b c d : Nat) (ha : a < 2 ^ 64) (hb : b < 2 ^ 64) (hc : c < 2 ^ 64) (hd : d < 2 ^ 64) : fullN a b c d = decide (((mems a b c d).length : Int) = 256) := by
  have all : ∀ w : Nat, w < 2 ^ 64 → ((∀ t, t < 64 → w.testBit t = true) ↔ w = 18446744073709551615) := by
    intro w hw
    constructor
    · intro h
      apply Nat.eq_of_testBit_eq
      intro t
      have e : (18446744073709551615 : Nat) = 2 ^ 64 - 1 := rfl
      rw [e, Nat.testBit_two_pow_sub_one]
      by_cases ht : t < 64
      · rw [h t ht]; simp [ht]
      · simp only [ht, decide_false]
        exact Nat.testBit_lt_two_pow (Nat.lt_of_lt_of_le hw (Nat.pow_le_pow_right (by decide) (by omega)))
    · rintro rfl t ht
      have e : (18446744073709551615 : Nat) = 2 ^ 64 - 1 := rfl
      rw [e, Nat.testBit_two_pow_sub_one]; simp [ht]
  have hl : (mems a b c d).length = 256 ↔ ∀ k, k < 256 → hasN a b c d k = true := by
    have e : (mems a b c d).length = (List.range 256).countP (hasN a b c d) := by
      unfold mems; rw [List.countP_eq_length_filter]
    rw [e]
    have := List.countP_eq_length (p := hasN a b c d) (l := List.range 256)
    rw [List.length_range] at this
    rw [this]
    simp only [List.mem_range]
  have hb2 : ∀ k, hasN a b c d k = (wd a b c d (k / 64)).testBit (k % 64) := fun k => by unfold hasN; rw [Nat.testBit_eq_decide_div_mod_eq]
  rw [Bool.eq_iff_iff]
  simp only [fullN, decide_eq_true_eq]
  rw [show ((mems a b c d).length : Int) = 256 ↔ (mems a b c d).length = 256 by omega, hl]
  constructor
  · rintro ⟨h1, h2, h3, h4⟩ k hk
    rw [hb2]
    unfold wd
    rcases (show k / 64 = 0 ∨ k / 64 = 1 ∨ k / 64 = 2 ∨ k / 64 = 3 by omega) with e | e | e | e <;> rw [e] <;> simp only [if_true, if_false, Nat.reduceEqDiff]
    · exact (all a ha).2 h1 _ (by omega)
    · exact (all b hb).2 h2 _ (by omega)
    · exact (all c hc).2 h3 _ (by omega)
    · exact (all d hd).2 h4 _ (by omega)
  · intro h
    refine ⟨(all a ha).1 fun t ht => ?_, (all b hb).1 fun t ht => ?_, (all c hc).1 fun t ht => ?_, (all d hd).1 fun t ht => ?_⟩
    · have := h t (by omega); rw [hb2, show t / 64 = 0 by omega, show t % 64 = t by omega] at this; exact this
    · have := h (64 + t) (by omega); rw [hb2, show (64 + t) / 64 = 1 by omega, show (64 + t) % 64 = t by omega] at this; exact this
    · have := h (128 + t) (by omega); rw [hb2, show (128 + t) / 64 = 2 by omega, show (128 + t) % 64 = t by omega] at this; exact this
    · have := h (192 + t) (by omega); rw [hb2, show (192 + t) / 64 = 3 by omega, show (192 + t) % 64 = t by omega] at this; exact this
theorem r64 (a b c d : Nat) (ha : a < 2 ^ 64) (hb : b < 2 ^ 64) (hc : c < 2 ^ 64) (hd : d < 2 ^ 64) :
    R X Tryd.prog 64 [.ag [.int .u64 a, .int .u64 b, .int .u64 c, .int .u64 d]] [] (.lf (.str ⟨(showL a b c d).toArray⟩)) [] := by
  refine R_i [] [] c64_ok rfl (by simp) ?_
  have hfc := full_count a b c d ha hb hc hd
  have h79 : ∀ n : Nat, n < 256 → R X Tryd.prog 79 [.lf (.int .i64 (n : Int))] [] (.lf (.str ⟨(itemL (UInt8.ofNat n)).toArray⟩)) [] := fun n hn => by
    have := r79 (X := X) (UInt8.ofNat n)
    rwa [of8 hn] at this
  unfold showL
  obtain ⟨hsl, hsb⟩ := sp_ok a b c d
  simp -implicitDefEqProofs (maxSteps := 2000000) only [c64, ↓reduceIte, s_ops0, s_seq, s_opsK, s_seqK_n, s_nil, s_cons, s_wopsK, s_putK, o_as, v_part_t, o_bx, o_ld, v_ld_p, v_ldC, o_call, e_t, e_k, e_put, e_get, e_res, e_keep_n, e_keep_c, e_keep1_s, e_asg_s, St.init, enum, List.length_nil, List.length_cons, Option.getD_some, Nat.reduceEqDiff, Nat.reduceAdd, true_and, List.map_cons, List.map_nil, PV.leaves, List.flatMap_cons, List.flatMap_nil, List.append_nil, Bool.true_and, Nat.zero_le, Nat.le_refl, List.drop_zero, List.take_succ_cons, List.take_nil, kc_i, rl_i, m_ag, m_n, m_c, m_all, d_n, Nat.zero_add, v_bx_a]
  refine wcall_s (r77 a b c d ha hb hc hd) rfl rfl ?_
  rw [hfc]
  by_cases hf : ((mems a b c d).length : Int) = 256
  · simp -implicitDefEqProofs (maxSteps := 2000000) only [c64, hf, decide_true, ↓reduceIte, s_ret, s_ops0, s_seq, s_cond, s_opsK, s_seqK_n, s_seqK_r, s_cnd, s_nil, s_cons, s_wopsK, s_putK, o_as, o_bin, v_eql, e_t, e_k, e_put, e_get, e_res, e_keep_n, e_keep_c, e_keep1_s, e_asg_s, Option.getD_some, Nat.reduceEqDiff, and_true, Bool.false_eq_true, s_ret_r, s_retX, s_cells_n, t_lf, t_s, r_n, r_t, r_cons, one_1, St.clr, outV, ownsV, owns1, ownL, Bool.and_true, ol_i, m_lf]
  · simp -implicitDefEqProofs (maxSteps := 2000000) only [c64, hf, decide_false, Bool.false_eq_true, ↓reduceIte, s_skip, s_ops0, s_seq, s_cond, s_opsK, s_seqK_n, s_cnd, s_nil, s_cons, s_wopsK, s_putK, o_bin, v_eql, v_part_t, o_ld, v_ld_p, v_ldC, o_call, e_t, e_k, e_put, e_get, e_res, e_keep_n, e_keep_c, e_keep1_s, List.length_nil, List.length_cons, Option.getD_some, Nat.reduceEqDiff, Nat.reduceAdd, true_and, Bool.false_eq_true, St.clr, outV, ownsV, owns1, ownL, List.map_cons, List.map_nil, PV.leaves, List.flatMap_cons, List.flatMap_nil, List.append_nil, Bool.true_and, Nat.le_refl, List.drop_zero, List.take_succ_cons, List.take_nil, rl_i, ol_i, m_lf, m_ag, Nat.zero_add]
    refine wcall_flat (r78 a b c d ha hb hc hd) rfl (flat_rows _) ?_
    generalize spN (mems a b c d) = sp at hsl hsb ⊢
    have key : ∀ (q : List (Nat × Nat)) (i : Nat) (s : ByteArray), sp.drop i = q → i ≤ sp.length → s.data.toList ++ q.flatMap pieceL ++ [93] = 91 :: (sp.flatMap pieceL ++ [93]) → LoopAt X Tryd.prog c64_13 [3, 4, 5]
      (blkK 0 (seqK X Tryd.prog c64_17 (retS [] [] 0 [RV.t 2] (PV.lf (L.str { data := (91 :: (sp.flatMap pieceL ++ [93])).toArray })) [])))
      { m := 0, tm := [(3, PV.lf (L.lst (Tag.own 384 105) 2 (sp.map rowP) [])), (4, PV.lf (L.str s)), (5, PV.lf (L.int IntKind.i64 (i : Int)))], ce := [] } := by
      intro q
      induction q with
      | nil =>
        intro i s hq hil hy
        have hi : sp.length ≤ i := by simpa using hq
        have hn : ¬ (i : Int) < (sp.length : Int) := by omega
        have hyl : s.size ≤ 3000 := by
          have h1 := congrArg List.length hy
          have h2 := pieces_len sp
          simp only [List.length_append, List.length_cons, List.length_nil, size_len] at h1
          omega
        intro Z hZ; apply hZ
        simp -implicitDefEqProofs (maxSteps := 2000000) only [c64, hn, decide_false, List.length_map, ↓reduceIte, s_exit, s_ret, s_ops0, s_seq, s_cond, s_opsK, s_seqK_n, s_seqK_e, s_blkK_e, s_loopK_e, s_cnd, s_nil, s_cons, s_wopsK, s_putK, o_mv, o_as, o_bin, v_lss, v_sadd, o_len, v_len, e_t, e_k, e_put, e_get, e_res, e_keep_n, e_keep_c, e_keep1_s, e_asg_s, List.length_nil, List.length_cons, Option.getD_some, Nat.reduceEqDiff, true_and, and_true, Bool.false_eq_true, s_ret_r, s_retX, s_cells_n, t_lf, t_s, r_n, r_t, r_cons, one_1, Bool.and_true, Bool.true_and, Nat.zero_add, ba_size]
        intro _
        have e93 : (ByteArray.mk #[93]).size = 1 := rfl
        refine ⟨by omega, ?_⟩
        apply ByteArray.ext
        apply Array.toList_inj.1
        rw [← hy]
        simp
      | cons p q ih =>
        intro i s hq hil hy
        have hi : i < sp.length := by
          rcases Nat.lt_or_ge i sp.length with h | h
          · exact h
          · rw [List.drop_eq_nil_of_le h] at hq; cases hq
        have hx : sp[i]? = some p := by rw [← List.head?_drop, hq]; rfl
        have hq' : sp.drop (i + 1) = q := by rw [← List.tail_drop, hq]; rfl
        obtain ⟨lo, hi'⟩ := p
        obtain ⟨b1, b2⟩ := hsb _ (List.mem_of_getElem? hx)
        simp only at b1 b2
        have hlt : (i : Int) < (sp.length : Int) := by omega
        have hget : (sp.map rowP).getD i [] = [.int .i64 (lo : Int), .int .i64 (hi' : Int)] := by rw [List.getD_eq_getElem?_getD, List.getElem?_map, hx]; rfl
        have w1 : IntKind.i64.wrap ((i : Int) + 1) = ((i + 1 : Nat) : Int) := by rw [w64 (by omega) (by omega)]; omega
        have w2 : IntKind.i64.wrap ((lo : Int) + 1) = ((lo + 1 : Nat) : Int) := by rw [w64 (by omega) (by omega)]; omega
        have hyl : s.size ≤ 3000 := by
          have h1 := congrArg List.length hy
          have h2 := pieces_len sp
          simp only [List.length_append, List.length_cons, List.length_nil, size_len] at h1
          omega
        have il1 := (itemL_len (UInt8.ofNat lo)).2
        have il2 := (itemL_len (UInt8.ofNat hi')).2
        intro Z hZ; apply hZ
        have fin : ∀ s' : ByteArray, s'.data.toList = s.data.toList ++ pieceL (lo, hi') → Z { m := 0, tm := [(3, PV.lf (L.lst (Tag.own 384 105) 2 (sp.map rowP) [])), (4, PV.lf (L.str s')), (5, PV.lf (L.int IntKind.i64 ((i + 1 : Nat) : Int)))], ce := [] } := fun s' e => ih (i + 1) s' hq' (by omega) (by rw [e, ← hy]; simp) Z hZ
        clear ih hy hZ
        have e45 : (ByteArray.mk #[45]).size = 1 := rfl
        have z1 : (ByteArray.mk (itemL (UInt8.ofNat lo)).toArray).size ≤ 4 := by rw [ba_size]; exact il1
        have z2 : (ByteArray.mk (itemL (UInt8.ofNat hi')).toArray).size ≤ 4 := by rw [ba_size]; exact il2
        have sa : ∀ (x y : ByteArray), (x ++ y).size = x.size + y.size := fun x y => ByteArray.size_append
        simp -implicitDefEqProofs (maxSteps := 2000000) only [c64, hlt, decide_true, v_ld_e, hget, Int.toNat_natCast, List.length_map, ↓reduceIte, s_skip, s_ops0, s_seq, s_cond, s_block, s_opsK, s_seqK_n, s_cnd, s_nil, s_cons, s_wopsK, s_putK, o_mv, o_bin, v_lss, v_part_f, v_atK, o_fa, v_fa_e, o_ia, v_ia, o_ld, o_len, v_len, o_call, e_t, e_put, e_get, e_res, e_keep_n, e_keep_c, e_keep1_s, Option.getD_some, Nat.reduceEqDiff, true_and, List.map_cons, List.map_nil, PV.leaves, List.flatMap_cons, List.flatMap_nil, List.append_nil, Bool.true_and, List.getElem?_cons_zero, rl_i, m_lf, Nat.add_zero]
        intro _
        refine ⟨⟨by omega, hi⟩, hi, ?_⟩
        refine wcall_s (h79 lo b1) rfl rfl ?_
        by_cases c1 : lo + 1 < hi'
        · have c1' : ((lo + 1 : Nat) : Int) < (hi' : Int) := by omega
          have c2' : (lo : Int) < (hi' : Int) := by omega
          simp -implicitDefEqProofs (maxSteps := 2000000) only [c64, c1', c2', w2, hlt, decide_true, v_ld_e, hget, Int.toNat_natCast, List.length_map, ↓reduceIte, s_ops0, s_ops2, s_seq, s_cond, s_opsK, s_seqK_n, s_cnd, s_nil, s_cons, s_wopsK, s_wopsqK, s_putK, s_qnil, s_qcons, q_mv, q_bin, q_fa, q_ia, q_ld, o_mv, o_as, o_bin, v_add, v_gtr, v_sadd, v_part_f, v_atK, o_fa, v_fa_e, o_ia, v_ia, o_ld, o_call, e_t, e_k, e_put, e_get, e_res, e_keep_n, e_keep_c, e_keep1_s, e_asg_s, List.length_nil, List.length_cons, Option.getD_some, Nat.reduceEqDiff, true_and, Bool.false_eq_true, St.clr, outV, ownsV, owns1, ownL, List.map_cons, List.map_nil, PV.leaves, List.flatMap_cons, List.flatMap_nil, List.append_nil, Bool.true_and, List.getElem?_cons_zero, List.getElem?_cons_succ, rl_i, ol_s, m_lf, Nat.zero_add, Nat.add_zero, ba_size]
          refine ⟨by omega, ⟨by omega, hi⟩, hi, ⟨by omega, hi⟩, hi, by rw [sa]; omega, ⟨by omega, hi⟩, hi, ⟨by omega, hi⟩, hi, ⟨by omega, hi⟩, hi, ?_⟩
          refine wcall_s (h79 hi' b2) rfl rfl ?_
          simp -implicitDefEqProofs (maxSteps := 2000000) only [c64, w1, ↓reduceIte, s_ops0, s_opsK, s_seqK_n, s_blkK_n, s_loopK_n, s_nil, s_cons, s_wopsK, s_putK, o_mv, o_as, o_bin, v_add, v_sadd, e_t, e_k, e_put, e_get, e_res, e_keep_n, e_keep_c, e_keep1_s, e_asg_i, e_asg_s, Option.getD_some, Nat.reduceEqDiff, Bool.false_eq_true, St.clr, outV, ownsV, owns1, ownL, List.append_nil, ol_s, m_lf, e_head, e_headK, kC_n, pO_n, pO_i, pO_s, pO_l, List.range_zero, ba_size]
          refine ⟨by rw [sa, sa]; omega, fin _ (by simp [pieceL, c1, show lo < hi' by omega])⟩
        · have c1' : ¬ ((lo + 1 : Nat) : Int) < (hi' : Int) := by omega
          by_cases c2 : lo < hi'
          · have c2' : (lo : Int) < (hi' : Int) := by omega
            simp -implicitDefEqProofs (maxSteps := 2000000) only [c64, c1', c2', w2, hlt, decide_true, decide_false, v_ld_e, hget, Int.toNat_natCast, List.length_map, ↓reduceIte, s_skip, s_ops0, s_ops2, s_seq, s_cond, s_opsK, s_seqK_n, s_cnd, s_nil, s_cons, s_wopsK, s_wopsqK, s_putK, s_qnil, s_qcons, q_mv, q_bin, q_fa, q_ia, q_ld, o_mv, o_as, o_bin, v_add, v_gtr, v_sadd, v_part_f, v_atK, o_fa, v_fa_e, o_ia, v_ia, o_ld, o_call, e_t, e_k, e_put, e_get, e_res, e_keep_n, e_keep_c, e_keep1_s, e_asg_s, Option.getD_some, Nat.reduceEqDiff, true_and, Bool.false_eq_true, St.clr, outV, ownsV, owns1, ownL, List.map_cons, List.map_nil, PV.leaves, List.flatMap_cons, List.flatMap_nil, List.append_nil, Bool.true_and, List.getElem?_cons_zero, List.getElem?_cons_succ, rl_i, ol_s, m_lf, Nat.zero_add, Nat.add_zero, ba_size]
            refine ⟨by omega, ⟨by omega, hi⟩, hi, ⟨by omega, hi⟩, hi, ⟨by omega, hi⟩, hi, ⟨by omega, hi⟩, hi, ⟨by omega, hi⟩, hi, ?_⟩
            refine wcall_s (h79 hi' b2) rfl rfl ?_
            simp -implicitDefEqProofs (maxSteps := 2000000) only [c64, w1, ↓reduceIte, s_ops0, s_opsK, s_seqK_n, s_blkK_n, s_loopK_n, s_nil, s_cons, s_wopsK, s_putK, o_mv, o_as, o_bin, v_add, v_sadd, e_t, e_k, e_put, e_get, e_res, e_keep_n, e_keep_c, e_keep1_s, e_asg_i, e_asg_s, Option.getD_some, Nat.reduceEqDiff, Bool.false_eq_true, St.clr, outV, ownsV, owns1, ownL, List.append_nil, ol_s, m_lf, e_head, e_headK, kC_n, pO_n, pO_i, pO_s, pO_l, List.range_zero, ba_size]
            refine ⟨by rw [sa]; omega, fin _ (by simp [pieceL, c1, c2])⟩
          · have c2' : ¬ (lo : Int) < (hi' : Int) := by omega
            simp -implicitDefEqProofs (maxSteps := 2000000) only [c64, c1', c2', w1, w2, hlt, decide_true, decide_false, v_ld_e, hget, Int.toNat_natCast, List.length_map, ↓reduceIte, s_skip, s_ops0, s_ops2, s_seq, s_cond, s_opsK, s_seqK_n, s_blkK_n, s_loopK_n, s_cnd, s_nil, s_cons, s_wopsK, s_wopsqK, s_putK, s_qnil, s_qcons, q_mv, q_bin, q_fa, q_ia, q_ld, o_mv, o_as, o_bin, v_add, v_gtr, v_sadd, v_part_f, v_atK, o_fa, v_fa_e, o_ia, v_ia, o_ld, e_t, e_k, e_put, e_get, e_res, e_keep_n, e_keep_c, e_keep1_s, e_asg_i, e_asg_s, Option.getD_some, Nat.reduceEqDiff, true_and, Bool.false_eq_true, St.clr, outV, ownsV, owns1, ownL, List.append_nil, Bool.true_and, List.getElem?_cons_zero, List.getElem?_cons_succ, ol_s, m_lf, e_head, e_headK, kC_n, pO_n, pO_i, pO_s, pO_l, List.range_zero, Nat.zero_add, Nat.add_zero, ba_size]
            refine ⟨by omega, ⟨by omega, hi⟩, hi, ⟨by omega, hi⟩, hi, ⟨by omega, hi⟩, hi, ⟨by omega, hi⟩, hi, fin _ (by simp [pieceL, c1, c2])⟩
    simp -implicitDefEqProofs (maxSteps := 2000000) only [c64, ↓reduceIte, s_ops0, s_seq, s_block, s_loop, s_opsK, s_seqK_n, s_nil, s_cons, s_wopsK, o_as, e_t, e_k, e_put, e_get, e_res, e_keep_n, e_keep_c, e_keep1_s, e_asg_i, e_asg_s, Option.getD_some, Nat.reduceEqDiff, Nat.reduceAdd, Bool.false_eq_true, St.clr, outV, ownsV, owns1, ownL, List.map_cons, List.map_nil, List.append_nil, Nat.reduceMul, Nat.reduceBEq, BEq.rfl, kps_b, kps_i, rk_b, rk_i, kps_p, rk_p, rk_lo, ol_lo, m_lf, m_ag, m_n, m_c, m_all, e_asg_o, e_head, e_headK, kC_n, pO_n, pO_i, pO_s, pO_l, List.range_zero, plT, Nat.add_zero]
    exact key sp 0 ⟨#[91]⟩ rfl (Nat.zero_le _) (by simp)
end Go.Proofs.YthcpaohmajjopaaDoor.I
set_option maxRecDepth 100000
namespace Go.Proofs.YthcpaohmajjopaaDoor.I
open Go Go.Proofs.YthcpaohmajjopaaDoor.AM
/-- harrow/instr.Bytes -/
abbrev c22_0 : AC := .seq (.ops 0 [⟨(some 16), .mv (.t 5), none⟩, ⟨(some 2), .as 0 0 (.k (.lf (.str ⟨#[]⟩))), none⟩, ⟨(some 3), .as 0 0 (.t 16), none⟩] [2, 3]) .ret
abbrev c22_1 : AC := .cond (.t 15) c22_0 .skip
abbrev c22_2 : AC := .seq (.ops 0 [⟨(some 14), .mv (.t 5), none⟩, ⟨(some 15), .bin .neq (.t 14) (.k (.lf (.int .i64 0))), none⟩] [0, 5, 15]) c22_1
abbrev c22_3 : AC := .seq (.ops 0 [⟨(some 10), .mv (.t 0), none⟩, ⟨(some 11), .call 28 [(.t 10)], none⟩, ⟨(some 9), .mv (.t 11), none⟩, ⟨(some 12), .ext (.t 9) 0, none⟩, ⟨(some 13), .ext (.t 9) 1, none⟩, ⟨(some 4), .as 0 0 (.t 12), none⟩, ⟨(some 5), .as 0 0 (.t 13), none⟩] [0, 5]) c22_2
abbrev c22_4 : AC := .cond (.t 28) .skip (.exit 0)
abbrev c22_5 : AC := .seq (.ops 0 [⟨(some 2), .as 0 0 (.k (.lf (.str ⟨#[]⟩))), none⟩, ⟨(some 3), .as 0 0 (.k (.lf (.int .i64 2))), none⟩] [2, 3]) .ret
abbrev c22_6 : AC := .cond (.t 36) c22_5 .skip
abbrev c22_7 : AC := .seq (.ops 0 [⟨(some 34), .mv (.t 6), none⟩, ⟨(some 35), .len (.t 34), none⟩, ⟨(some 36), .bin .gtr (.t 35) (.k (.lf (.int .i64 1048576))), none⟩] [6, 25, 26, 27, 36]) c22_6
abbrev c22_8 : AC := .seq (.ops 0 [⟨(some 31), .mv (.t 6), none⟩, ⟨(some 32), .ld (.t 8) 9 true, none⟩, ⟨(some 33), .call 38 [(.t 31), (.t 32)], none⟩, ⟨(some 6), .as 5 1 (.t 33), none⟩] [6, 25, 26, 27]) c22_7
abbrev c22_9 : AC := .seq (.ops 0 [⟨(some 29), .ia (.t 25) (.t 27) 9, none⟩, ⟨(some 30), .ld (.t 29) 9 true, none⟩, ⟨(some 8), .al [.int .i64 0, .int .i64 0, .int .i64 0, .int .i64 0, .str ⟨#[]⟩, .int .u64 0, .int .u64 0, .int .u64 0, .int .u64 0], none⟩, ⟨none, .st (.t 8) (.t 30) 9, none⟩] [6, 8, 25, 26, 27]) c22_8
abbrev c22_10 : AC := .block 1 c22_9
abbrev c22_11 : AC := .seq c22_10 (.ops 0 [⟨(some 37), .bin .add (.t 27) (.k (.lf (.int .i64 1))), none⟩, ⟨(some 27), .mv (.t 37), none⟩] [6, 25, 26, 27])
abbrev c22_12 : AC := .seq c22_4 c22_11
abbrev c22_13 : AC := .seq (.ops 0 [⟨(some 28), .bin .lss (.t 27) (.t 26), none⟩] [6, 25, 26, 27, 28]) c22_12
abbrev c22_14 : AC := .loop c22_13 [6, 25, 26, 27]
abbrev c22_15 : AC := .block 0 c22_14
abbrev c22_16 : AC := .seq (.ops 0 [⟨(some 25), .mv (.t 0), none⟩, ⟨(some 26), .len (.t 25), none⟩, ⟨(some 27), .mv (.k (.lf (.int .i64 0))), none⟩] [6, 25, 26, 27]) c22_15
abbrev c22_17 : AC := .seq (.ops 0 [⟨(some 38), .mv (.t 6), none⟩, ⟨(some 39), .cbs (.t 38), none⟩, ⟨(some 2), .as 0 0 (.t 39), none⟩, ⟨(some 3), .as 0 0 (.k (.lf (.int .i64 0))), none⟩] [2, 3]) .ret
abbrev c22_18 : AC := .seq c22_16 c22_17
abbrev c22_19 : AC := .seq (.ops 0 [⟨(some 17), .mv (.t 0), none⟩, ⟨(some 18), .len (.t 17), none⟩, ⟨(some 19), .bin .shr (.t 18) (.k (.lf (.int .u64 8))), none⟩, ⟨(some 20), .cvi .u8 (.t 19), none⟩, ⟨(some 21), .mv (.t 0), none⟩, ⟨(some 22), .len (.t 21), none⟩, ⟨(some 23), .cvi .u8 (.t 22), none⟩, ⟨(some 24), .bs 5 1 2 [.int .u8 0] [(0, (.t 20)), (1, (.t 23))], none⟩, ⟨(some 6), .as 5 1 (.t 24), none⟩] [0, 6]) c22_18
abbrev c22_20 : AC := .seq c22_3 c22_19
abbrev c22_21 : AC := .seq (.ops 0 [⟨(some 2), .as 0 0 (.k (.lf (.str ⟨#[]⟩))), none⟩, ⟨(some 3), .as 0 0 (.k (.lf (.int .i64 0))), none⟩] [0]) c22_20
abbrev c22 : AC := c22_21
theorem c22_ok : compileFn Tryd.prog 22 = some (40, AC.strip c22, [.t 2, .t 3]) := by kernel_rfl
/-- harrow/instr.put -/
abbrev c38_0 : AC := .cond (.t 14) (.ops 0 [⟨(some 15), .mv (.t 0), none⟩, ⟨(some 16), .fa (.t 3) 1, none⟩, ⟨(some 17), .ld (.t 16) 1 false, none⟩, ⟨(some 18), .bin .shr (.t 17) (.k (.lf (.int .u64 8))), none⟩, ⟨(some 19), .cvi .u8 (.t 18), none⟩, ⟨(some 20), .fa (.t 3) 1, none⟩, ⟨(some 21), .ld (.t 20) 1 false, none⟩, ⟨(some 22), .cvi .u8 (.t 21), none⟩, ⟨(some 23), .bs 5 1 2 [.int .u8 0] [(0, (.t 19)), (1, (.t 22))], none⟩, ⟨(some 24), .app 5 1 1 (.t 15) (.t 23), none⟩, ⟨(some 0), .as 5 1 (.t 24), none⟩] [0, 3]) .skip
abbrev c38_1 : AC := .seq (.ops 0 [⟨(some 12), .fa (.t 3) 0, none⟩, ⟨(some 13), .ld (.t 12) 1 false, none⟩, ⟨(some 14), .call 50 [(.t 13), (.k (.lf (.int .i64 1)))], none⟩] [0, 3, 14]) c38_0
abbrev c38_2 : AC := .cond (.t 27) (.ops 0 [⟨(some 28), .mv (.t 0), none⟩, ⟨(some 29), .fa (.t 3) 2, none⟩, ⟨(some 30), .ld (.t 29) 1 false, none⟩, ⟨(some 31), .cvi .u8 (.t 30), none⟩, ⟨(some 32), .bs 5 1 1 [.int .u8 0] [(0, (.t 31))], none⟩, ⟨(some 33), .app 5 1 1 (.t 28) (.t 32), none⟩, ⟨(some 0), .as 5 1 (.t 33), none⟩] [0, 3]) .skip
abbrev c38_3 : AC := .seq (.ops 0 [⟨(some 25), .fa (.t 3) 0, none⟩, ⟨(some 26), .ld (.t 25) 1 false, none⟩, ⟨(some 27), .call 50 [(.t 26), (.k (.lf (.int .i64 2)))], none⟩] [0, 3, 27]) c38_2
abbrev c38_4 : AC := .cond (.t 36) (.ops 0 [⟨(some 37), .mv (.t 0), none⟩, ⟨(some 38), .fa (.t 3) 3, none⟩, ⟨(some 39), .ld (.t 38) 1 false, none⟩, ⟨(some 40), .cvi .u8 (.t 39), none⟩, ⟨(some 41), .bs 5 1 1 [.int .u8 0] [(0, (.t 40))], none⟩, ⟨(some 42), .app 5 1 1 (.t 37) (.t 41), none⟩, ⟨(some 0), .as 5 1 (.t 42), none⟩] [0, 3]) .skip
abbrev c38_5 : AC := .seq (.ops 0 [⟨(some 34), .fa (.t 3) 0, none⟩, ⟨(some 35), .ld (.t 34) 1 false, none⟩, ⟨(some 36), .call 50 [(.t 35), (.k (.lf (.int .i64 4)))], none⟩] [0, 3, 36]) c38_4
abbrev c38_6 : AC := .cond (.t 45) (.gdr [3, 3] [⟨(some 46), .mv (.t 0), none⟩, ⟨(some 47), .fa (.t 3) 4, none⟩, ⟨(some 48), .ld (.t 47) 1 false, none⟩, ⟨(some 53), .fa (.t 3) 4, none⟩, ⟨(some 54), .ld (.t 53) 1 false, none⟩] [⟨(some 49), .lns (.t 48), none⟩, ⟨(some 50), .cvi .u8 (.t 49), none⟩, ⟨(some 51), .bs 5 1 1 [.int .u8 0] [(0, (.t 50))], none⟩, ⟨(some 52), .app 5 1 1 (.t 46) (.t 51), none⟩, ⟨(some 55), .aps 5 (.t 52) (.t 54), none⟩, ⟨(some 0), .as 5 1 (.t 55), none⟩] [0, 3]) .skip
abbrev c38_7 : AC := .seq (.ops 0 [⟨(some 43), .fa (.t 3) 0, none⟩, ⟨(some 44), .ld (.t 43) 1 false, none⟩, ⟨(some 45), .call 50 [(.t 44), (.k (.lf (.int .i64 8)))], none⟩] [0, 3, 45]) c38_6
abbrev c38_8 : AC := .cond (.t 60) .skip (.exit 0)
abbrev c38_9 : AC := .seq (.ops 0 [⟨(some 61), .mv (.t 59), none⟩, ⟨(some 5), .as 0 0 (.t 61), none⟩] [0, 3, 5, 59]) (.ops 0 [⟨(some 62), .mv (.t 0), none⟩, ⟨(some 63), .mv (.t 5), none⟩, ⟨(some 64), .bin .quo (.t 63) (.k (.lf (.int .i64 8))), none⟩, ⟨(some 65), .fa (.t 3) 5, none⟩, ⟨(some 66), .iaa (.t 65) (.t 64) 4 1, none⟩, ⟨(some 67), .ld (.t 66) 1 false, none⟩, ⟨(some 68), .mv (.t 5), none⟩, ⟨(some 69), .bin .rem (.t 68) (.k (.lf (.int .i64 8))), none⟩, ⟨(some 70), .bin .mul (.t 69) (.k (.lf (.int .i64 8))), none⟩, ⟨(some 71), .bin .shr (.t 67) (.t 70), none⟩, ⟨(some 72), .cvi .u8 (.t 71), none⟩, ⟨(some 73), .bs 5 1 1 [.int .u8 0] [(0, (.t 72))], none⟩, ⟨(some 74), .app 5 1 1 (.t 62) (.t 73), none⟩, ⟨(some 0), .as 5 1 (.t 74), none⟩] [0, 3, 59])
abbrev c38_10 : AC := .block 1 c38_9
abbrev c38_11 : AC := .seq c38_10 (.ops 0 [⟨(some 75), .bin .add (.t 59) (.k (.lf (.int .i64 1))), none⟩, ⟨(some 59), .mv (.t 75), none⟩] [0, 3, 59])
abbrev c38_12 : AC := .seq c38_8 c38_11
abbrev c38_13 : AC := .seq (.ops 0 [⟨(some 60), .bin .lss (.t 59) (.k (.lf (.int .i64 32))), none⟩] [0, 3, 59, 60]) c38_12
abbrev c38_14 : AC := .loop c38_13 [0, 3, 59]
abbrev c38_15 : AC := .block 0 c38_14
abbrev c38_16 : AC := .seq (.ops 0 [⟨(some 59), .mv (.k (.lf (.int .i64 0))), none⟩] [0, 3, 59]) c38_15
abbrev c38_17 : AC := .cond (.t 58) c38_16 .skip
abbrev c38_18 : AC := .seq (.ops 0 [⟨(some 56), .fa (.t 3) 0, none⟩, ⟨(some 57), .ld (.t 56) 1 false, none⟩, ⟨(some 58), .call 50 [(.t 57), (.k (.lf (.int .i64 16)))], none⟩] [0, 3, 58]) c38_17
abbrev c38_19 : AC := .seq (.ops 0 [⟨(some 76), .mv (.t 0), none⟩, ⟨(some 4), .as 5 1 (.t 76), none⟩] [4]) .ret
abbrev c38_20 : AC := .seq c38_18 c38_19
abbrev c38_21 : AC := .seq c38_7 c38_20
abbrev c38_22 : AC := .seq c38_5 c38_21
abbrev c38_23 : AC := .seq c38_3 c38_22
abbrev c38_24 : AC := .seq c38_1 c38_23
abbrev c38_25 : AC := .seq (.ops 0 [⟨(some 6), .mv (.t 0), none⟩, ⟨(some 7), .fa (.t 3) 0, none⟩, ⟨(some 8), .ld (.t 7) 1 false, none⟩, ⟨(some 9), .cvi .u8 (.t 8), none⟩, ⟨(some 10), .bs 5 1 1 [.int .u8 0] [(0, (.t 9))], none⟩, ⟨(some 11), .app 5 1 1 (.t 6) (.t 10), none⟩, ⟨(some 0), .as 5 1 (.t 11), none⟩] [0, 3]) c38_24
abbrev c38_26 : AC := .seq (.ops 0 [⟨(some 3), .bx (.t 1), none⟩, ⟨(some 4), .as 5 1 (.k (.lf (.lst .nl 1 [] []))), none⟩] [0, 3]) c38_25
abbrev c38 : AC := c38_26
theorem c38_ok : compileFn Tryd.prog 38 = some (77, AC.strip c38, [.t 4]) := by kernel_rfl
end Go.Proofs.YthcpaohmajjopaaDoor.I
set_option linter.unusedVariables false
set_option linter.unusedSimpArgs false
namespace Go.Proofs.YthcpaohmajjopaaDoor.I
open Go Go.Proofs.YthcpaohmajjopaaDoor.AM
variable {X : Cx}
theorem byI_mod (z : Int) : byI (z % 256) = byI z := by
  unfold byI
  rw [Int.emod_emod_of_dvd z (by decide : (256 : Int) ∣ 256)]
/-- an instruction's bytes, as the program puts them -/
def putF (h1 h2 h4 h8 h16 : Bool) (x : Ins) : List UInt8 :=
  [byI x.op] ++ (if h1 then numB x.a else []) ++ (if h2 then [byI x.b] else []) ++ (if h4 then [byI x.n] else []) ++ (if h8 then [byI x.t.size] ++ x.t.data.toList else []) ++ (if h16 then memB x.s0.toNat x.s1.toNat x.s2.toNat x.s3.toNat 32 else [])
def putB (x : Ins) : List UInt8 := putF (hasB x.op.toNat 1) (hasB x.op.toNat 2) (hasB x.op.toNat 4) (hasB x.op.toNat 8) (hasB x.op.toNat 16) x
theorem put_ins {x : Ins} (h : 1 ≤ x.op ∧ x.op ≤ 20) : putB x = insB x := by
  obtain ⟨g1, g2, g4, g8, g16, g48⟩ := flags_tab ⟨x.op.toNat, by omega⟩ (by show 1 ≤ x.op.toNat; omega)
  simp only at g1 g2 g4 g8 g16 g48
  unfold putB insB
  rw [g1, g2, g4, g8, g16]
  generalize refB (refF x.op.toNat) 1 = f1
  generalize refB (refF x.op.toNat) 2 = f2
  generalize refB (refF x.op.toNat) 16 = f16
  cases hf4 : refB (refF x.op.toNat) 4 <;> cases hf8 : refB (refF x.op.toNat) 8
  · simp [putF, insBF]
  · simp [putF, insBF]
  · simp [putF, insBF]
  · rw [hf4, hf8] at g48; exact absurd (g48 rfl) (by decide)
set_option maxHeartbeats 4000000 in
theorem r38 (hX : X.G 1 = some usesL) (x : Ins) (hop : 1 ≤ x.op ∧ x.op ≤ 20) (hok : x.ok) (ht : x.t.size ≤ 255) (acc : List UInt8) (ha : acc.length ≤ 2000000) :
    R X Tryd.prog 38 [.lf (.lst (.own 0 5) 1 (ub acc) []), .ag x.c] [] (.lf (.lst (.own 0 5) 1 (ub (acc ++ putB x)) [])) [] := by
  obtain ⟨k, hk0, hk⟩ := nat_of hop
  have a1 := r50 hX k hk 1
  have a2 := r50 hX k hk 2
  have a3 := r50 hX k hk 4
  have a4 := r50 hX k hk 8
  have a5 := r50 hX k hk 16
  have hs0 := hok.s0
  have hs1 := hok.s1
  have hs2 := hok.s2
  have hs3 := hok.s3
  unfold putB
  clear hok
  obtain ⟨xop, xa, xb, xn, xt, s0, s1, s2, s3⟩ := x
  simp only at *
  subst hk0
  rw [Int.toNat_natCast]
  obtain ⟨s0, rfl⟩ : ∃ n : Nat, s0 = n := ⟨s0.toNat, by omega⟩
  obtain ⟨s1, rfl⟩ : ∃ n : Nat, s1 = n := ⟨s1.toNat, by omega⟩
  obtain ⟨s2, rfl⟩ : ∃ n : Nat, s2 = n := ⟨s2.toNat, by omega⟩
  obtain ⟨s3, rfl⟩ : ∃ n : Nat, s3 = n := ⟨s3.toNat, by omega⟩
  have inn : ∀ (Q : Out → St → Prop) (acc1 : List UInt8), acc1.length ≤ 2001000 →
      Q .nrm { m := 0, tm := [(0, PV.lf (L.lst (Tag.own 0 5) 1 (ub (acc1 ++ memB s0 s1 s2 s3 32)) [])), (3, PV.lf (L.ptr 3 0)), (59, PV.lf (L.int IntKind.i64 32)), (60, PV.lf (L.bool false))], ce := [(3, [L.int .i64 k, L.int .i64 xa, L.int .i64 xb, L.int .i64 xn, L.str xt, L.int .u64 s0, L.int .u64 s1, L.int .u64 s2, L.int .u64 s3])] } →
      ∀ (j m : Nat) (xs : List (List L)), m + j = 32 → xs = ub (acc1 ++ memB s0 s1 s2 s3 m) →
      LoopAt X Tryd.prog c38_13 [0, 3, 59] (blkK 0 Q) { m := 0, tm := [(0, PV.lf (L.lst (Tag.own 0 5) 1 xs [])), (3, PV.lf (L.ptr 3 0)), (59, PV.lf (L.int IntKind.i64 m))], ce := [(3, [L.int .i64 k, L.int .i64 xa, L.int .i64 xb, L.int .i64 xn, L.str xt, L.int .u64 s0, L.int .u64 s1, L.int .u64 s2, L.int .u64 s3])] } := by
    intro Q acc1 hacc hQ j
    induction j with
    | zero =>
      intro m xs hm hxs
      obtain rfl : m = 32 := by omega
      rw [← hxs] at hQ
      intro Z2 hZ2; apply hZ2
      have hn : ¬ ((32 : Nat) : Int) < 32 := by omega
      have hn2 : ((32 : Nat) : Int) = 32 := rfl
      simp -implicitDefEqProofs (maxSteps := 2000000) only [c38, hn, decide_false, ↓reduceIte, s_exit, s_ops0, s_seq, s_cond, s_opsK, s_seqK_n, s_seqK_e, s_blkK_e, s_loopK_e, s_cnd, s_nil, s_cons, s_wopsK, s_putK, o_bin, v_lss, e_t, e_k, e_put, e_get, e_res, e_keep_n, e_keep_c, e_keep1_s, Option.getD_some, Nat.reduceEqDiff, reduceCtorEq, Bool.false_eq_true]
      exact hQ
    | succ j ihj =>
      intro m xs hm hxs
      intro Z2 hZ2; apply hZ2
      have hn : (m : Int) < 32 := by omega
      have w1 : IntKind.i64.wrap ((m : Int) + 1) = ((m + 1 : Nat) : Int) := by rw [w64 (by omega) (by omega)]; omega
      have e2 : IntKind.i64.wrap ((m : Int).tmod 8) = ((m % 8 : Nat) : Int) := by rw [Int.tmod_eq_emod_of_nonneg (by omega), w64 (by omega) (by omega)]; omega
      have e3 : IntKind.i64.wrap (((m : Int).tmod 8) * 8) = ((8 * (m % 8) : Nat) : Int) := by rw [Int.tmod_eq_emod_of_nonneg (by omega), w64 (by omega) (by omega)]; omega
      have sh : ∀ s : Nat, (s : Int).fdiv (2 ^ min (8 * (m % 8)) IntKind.u64.bits) = ((s / 2 ^ (8 * (m % 8)) : Nat) : Int) := fun s => by
        rw [show IntKind.u64.bits = 64 from rfl, show min (8 * (m % 8)) 64 = 8 * (m % 8) by omega, show (2 : Int) ^ (8 * (m % 8)) = ((2 ^ (8 * (m % 8)) : Nat) : Int) by rw [Int.natCast_pow]; rfl, Int.fdiv_eq_ediv_of_nonneg _ (Int.natCast_nonneg _), ← Int.natCast_ediv]
      have bm : ∀ s : Nat, byI (((s / 2 ^ (8 * (m % 8)) % 256 : Nat)) : Int) = byI ((s / 2 ^ (8 * (m % 8)) : Nat) : Int) := fun s => by rw [Int.natCast_emod]; exact byI_mod _
      have hxl : xs.length = acc1.length + m := by rw [hxs, ub_len, List.length_append, memB_len]
      have hq : ∃ q : Nat, q < 4 ∧ IntKind.i64.wrap ((m : Int).tdiv 8) = (q : Int) ∧ m / 8 = q := ⟨m / 8, by omega, by rw [w64] <;> simp [Int.tdiv_eq_ediv] <;> omega, rfl⟩
      obtain ⟨q, hq4, e1, eq⟩ := hq
      rcases (show q = 0 ∨ q = 1 ∨ q = 2 ∨ q = 3 by omega) with rfl | rfl | rfl | rfl
      all_goals
        simp -implicitDefEqProofs (maxSteps := 2000000) only [c38, hn, decide_true, e1, e2, e3, sh, w1, wrap_u8, Int.toNat_natCast, Nat.reduceMul, Nat.mul_one, List.getElem?_cons_zero, List.getElem?_cons_succ, ↓reduceIte, s_skip, s_ops0, s_seq, s_cond, s_block, s_opsK, s_seqK_n, s_blkK_n, s_loopK_n, s_cnd, s_nil, s_cons, s_wopsK, s_putK, o_mv, o_as, o_bin, v_add, v_mul, v_quo, v_rem, v_shr, v_lss, o_cvi, v_cvi, v_part_f, v_atK, o_fa, v_fa_p, o_iaa, v_iaa_p, o_ld, v_ld_p, v_ldC, o_bs, v_bsK, v_lit_n, v_lit_c, o_app, v_app_o, e_t, e_k, e_put, e_get, e_res, e_keep_n, e_keep_c, e_keep1_s, e_asg_i, List.length_nil, List.length_cons, Option.getD_some, Nat.reduceEqDiff, Nat.reduceAdd, reduceCtorEq, true_and, Bool.false_eq_true, List.map_cons, List.map_nil, Bool.or_false, List.append_nil, List.nil_append, List.all_cons, List.all_nil, Bool.true_and, Bool.and_self, PV.cells, datL, Nat.reduceMul, Nat.reduceBEq, Nat.reduceLeDiff, BEq.rfl, List.getElem?_cons_zero, List.getElem?_cons_succ, kp_i, kp_s, kp_u, rk_i, rk_s, rk_u, rl_i, kp_p, rk_p, kp_lo, rk_lo, m_lf, m_n, m_c, m_all, e_asg_o, e_head, e_headK, kC_n, kC_c, pO_n, pO_p, pO_i, pO_l, dw_n, dw_i, List.range_zero, plT, ne_eq, lit_n, lit_c, List.reduceReplicate, List.set_cons_zero, Nat.lt_add_one, Nat.zero_add, Nat.add_zero, or_false]
        exact ⟨by decide, ⟨by decide, by decide⟩, by decide, by omega, by omega, ihj (m + 1) _ (by omega) (by rw [hxs, ← bm, ub_snoc, List.append_assoc, memB, eq]; rfl) Z2 hZ2⟩
  refine R_i [(0, 512)] [] c38_ok rfl (by simp) ?_
  simp only [Ins.c]
  obtain ⟨p, hp, e1, e2, e3, e4, e5⟩ := pat hk
  rw [e1] at a1
  rw [e2] at a2
  rw [e3] at a3
  rw [e4] at a4
  rw [e5] at a5
  rw [e1, e2, e3, e4, e5]
  clear e1 e2 e3 e4 e5
  have e8 : xa.fdiv (2 ^ min (Int.toNat 8) IntKind.i64.bits) = xa / 256 := by
    rw [show IntKind.i64.bits = 64 from rfl]
    exact Int.fdiv_eq_ediv_of_nonneg _ (by decide)
  have hts2 : xt.data.toList.length = xt.size := size_len _
  generalize hr : acc ++ putF p.1 p.2.1 p.2.2.1 p.2.2.2.1 p.2.2.2.2 ⟨(k : Int), xa, xb, xn, xt, (s0 : Int), (s1 : Int), (s2 : Int), (s3 : Int)⟩ = r
  simp only [putF, Int.toNat_natCast] at hr
  simp only [List.mem_cons, List.mem_nil_iff, or_false] at hp
  rcases hp with rfl | rfl | rfl | rfl | rfl | rfl | rfl | rfl
  all_goals
    simp only [Bool.false_eq_true, if_true, if_false] at hr
    simp -implicitDefEqProofs (maxSteps := 2000000) only [c38, List.contains_cons, List.contains_nil, ↓reduceIte, s_ops0, s_seq, s_opsK, s_seqK_n, s_nil, s_cons, s_wopsK, s_putK, o_mv, o_as, o_cvi, v_cvi, v_part_f, v_atK, o_bx, o_fa, v_fa_p, o_ld, v_ld_p, v_ldC, o_bs, v_bsK, v_lit_n, v_lit_c, o_app, v_app_o, o_call, e_t, e_k, e_put, e_get, e_res, e_keep_n, e_keep_c, e_keep1_s, St.init, enum, List.length_nil, List.length_cons, Option.getD_some, Nat.reduceEqDiff, reduceCtorEq, true_and, Bool.false_eq_true, List.map_cons, List.map_nil, Bool.or_false, PV.leaves, List.flatMap_cons, List.flatMap_nil, List.append_nil, List.cons_append, List.nil_append, List.all_cons, List.all_nil, Bool.true_and, Bool.and_self, PV.cells, datL, Nat.reduceMul, Nat.reduceBEq, Nat.reduceLeDiff, Nat.zero_le, BEq.rfl, List.getElem?_cons_zero, kp_i, kp_s, kp_u, kc_i, kc_s, rk_i, rk_s, rk_u, rl_i, kp_p, rk_p, kc_l, kp_lo, rk_lo, m_lf, m_ag, m_n, m_c, m_all, e_asg_n, e_asg_o, d_n, dw_n, dw_i, plT, lit_n, lit_c, List.reduceReplicate, List.set_cons_zero, Nat.lt_add_one, Nat.zero_add, Nat.add_zero, or_false, ub_len, v_bx_a]
    repeat' (first
      | (refine ⟨by (simp only [List.length_append, List.length_cons, List.length_nil, ub_len] at *; omega), ?_⟩)
      | (refine wcall_s a1 rfl rfl ?_)
      | (refine wcall_s a2 rfl rfl ?_)
      | (refine wcall_s a3 rfl rfl ?_)
      | (refine wcall_s a4 rfl rfl ?_)
      | (refine wcall_s a5 rfl rfl ?_)
      | (simp -implicitDefEqProofs (maxSteps := 2000000) only [c38, List.contains_cons, List.contains_nil, e8, List.length_append, ub_len, hts2, ↓reduceIte, s_skip, s_ret, s_ops0, s_seq, s_cond, s_block, s_loop, s_opsK, s_seqK_n, s_cnd, s_nil, s_cons, s_wopsK, s_putK, o_mv, o_as, o_bin, v_shr, o_cvi, v_cvi, v_part_f, v_atK, o_fa, v_fa_p, o_ld, v_ld_p, v_ldC, o_bs, v_bsK, v_lit_n, v_lit_c, o_lns, v_lns, o_app, v_app_o, o_aps, v_aps_o, o_call, e_t, e_k, e_put, e_get, e_res, e_keep_n, e_keep_c, e_keep1_s, List.length_nil, List.length_cons, Option.getD_some, Nat.reduceEqDiff, Nat.reduceAdd, reduceCtorEq, true_and, and_true, Bool.false_eq_true, s_ret_r, s_retX, s_cells_n, t_lf, t_l, t_oo, r_n, r_t, r_cons, one_1, St.clr, outV, ownsV, owns1, ownL, List.map_cons, List.map_nil, Bool.or_false, Bool.or_self, PV.leaves, List.flatMap_cons, List.flatMap_nil, List.append_nil, List.cons_append, List.nil_append, List.all_cons, List.all_nil, Bool.and_true, Bool.true_and, Bool.and_self, PV.cells, datL, Nat.reduceMul, Nat.reduceBEq, Nat.reduceLeDiff, BEq.rfl, List.getElem?_cons_zero, List.getElem?_cons_succ, kp_b, kp_i, kp_s, kp_u, rk_b, rk_i, rk_s, rk_u, rl_i, ol_b, kp_p, rk_p, kp_lo, rk_lo, m_lf, m_n, m_c, m_all, e_asg_o, e_head, e_headK, kC_n, kC_c, pO_n, pO_p, pO_i, pO_l, dw_n, dw_i, List.range_zero, plT, lit_n, lit_c, List.reduceReplicate, List.set_cons_zero, List.set_cons_succ, List.length_append, Nat.reduceLT, Nat.lt_add_one, Nat.zero_add, Nat.add_zero, true_or, or_true, or_false, ub_len, s_gdr, s_gn, s_gc, s_gK, s_gE, s_r1, s_r2, s_rF, s_rK, g_D, g_O, g_s, g_p, g_ev, p_n, p_c, p_cs, p_1, c_n, c_c, c_cs, fx_n, fx_c, fx_i, fx_s, cg_st, cg_b, cg_p, cg_u, cg_l, k_n, k_c, k_p, s_gms, s_gmn, mo_mv, mo_fa, mo_ld]))
    first
      | (rw [← hr]; simp [ub, wrap_u8, bytesL, numB]; done)
      | (refine inn _ (acc ++ [byI (k : Int)]) ?_ ?_ 32 0 _ rfl ?_
         · simp; omega
         · simp -implicitDefEqProofs (maxSteps := 2000000) only [c38, List.contains_cons, List.contains_nil, ↓reduceIte, s_ret, s_ops0, s_seq, s_opsK, s_seqK_n, s_nil, s_cons, s_wopsK, o_mv, o_as, e_t, e_put, e_get, e_res, e_keep_n, e_keep_c, e_keep1_s, Option.getD_some, true_and, and_true, Bool.false_eq_true, s_ret_r, s_retX, s_cells_n, t_lf, t_l, t_oo, r_n, r_t, r_cons, one_1, List.map_cons, List.map_nil, Bool.and_true, Bool.true_and, Nat.reduceMul, Nat.reduceBEq, BEq.rfl, rk_b, rk_i, rk_s, rk_p, rk_lo, m_lf, m_n, m_c, m_all, e_asg_o, plT, Nat.add_zero, true_or, or_true]
           rw [← hr]
           simp
         · simp [ub, wrap_u8, memB]
           done)
      | (refine inn _ (acc ++ ([byI (k : Int)] ++ numB xa)) ?_ ?_ 32 0 _ rfl ?_
         · simp [numB]; omega
         · simp -implicitDefEqProofs (maxSteps := 2000000) only [c38, List.contains_cons, List.contains_nil, ↓reduceIte, s_ret, s_ops0, s_seq, s_opsK, s_seqK_n, s_nil, s_cons, s_wopsK, o_mv, o_as, e_t, e_put, e_get, e_res, e_keep_n, e_keep_c, e_keep1_s, Option.getD_some, true_and, and_true, Bool.false_eq_true, s_ret_r, s_retX, s_cells_n, t_lf, t_l, t_oo, r_n, r_t, r_cons, one_1, List.map_cons, List.map_nil, List.cons_append, List.nil_append, Bool.and_true, Bool.true_and, Nat.reduceMul, Nat.reduceBEq, BEq.rfl, rk_b, rk_i, rk_s, rk_p, rk_lo, m_lf, m_n, m_c, m_all, e_asg_o, plT, Nat.add_zero, true_or, or_true]
           rw [← hr]
           simp
         · simp [ub, wrap_u8, numB, memB]
           done)
end Go.Proofs.YthcpaohmajjopaaDoor.I
set_option linter.unusedVariables false
set_option linter.unusedSimpArgs false
namespace Go.Proofs.YthcpaohmajjopaaDoor.I
open Go Go.Proofs.YthcpaohmajjopaaDoor.AM
variable {X : Cx}
/-- instr.names -/
def namesL : List L := (List.range 21).map fun k => .str (nameF k)
theorem namesL_get {k : Nat} (h : k < 21) : namesL[k]? = some (.str (nameF k)) := by simp [namesL, h]
/-! a number's digits -/
theorem dig1 : ∀ n : Fin 10, (ByteArray.mk #[48, 49, 50, 51, 52, 53, 54, 55, 56, 57, 97, 98, 99, 100, 101, 102]).extract n.val (n.val + 1) = ⟨#[UInt8.ofNat (48 + n.val)]⟩ := by decide +kernel
theorem dec_len (n : Nat) (h : n < 10000000000000000000) : (Lib.decDigits n).length ≤ 20 := by
  rw [Lib.decDigits_length]
  exact Lib.nDigits_le20 _ (by omega)
theorem dec_step (m : Nat) : Lib.decDigits m = (if m / 10 = 0 then [] else Lib.decDigits (m / 10)) ++ [UInt8.ofNat (48 + m % 10)] := by
  rw [Lib.decDigits]
  by_cases h : m < 10
  · rw [dif_pos h, if_pos (by omega), Nat.mod_eq_of_lt h]; rfl
  · rw [dif_neg h, if_neg (by omega)]
theorem r62 (n : Nat) (hn : n < 9223372036854775807) : R X Tryd.prog 62 [.lf (.int .i64 (n : Int)), .lf (.int .i64 10)] [] (.lf (.str ⟨(Lib.decDigits n).toArray⟩)) [] := by
  have hdl := dec_len n (by omega)
  have exl : ∀ (s : ByteArray), s.size ≠ 0 → s.data.toList = Lib.decDigits n → LoopAt X Tryd.prog c62_5 [0, 1, 5] (blkK 0 (seqK X Tryd.prog c62_8 (retS [] [] 0 [RV.t 4] (.lf (.str ⟨(Lib.decDigits n).toArray⟩)) [])))
      { m := 0, tm := [(0, PV.lf (L.int IntKind.i64 ((0 : Nat) : Int))), (1, PV.lf (L.int IntKind.i64 10)), (5, PV.lf (L.str s))], ce := [] } := by
    intro s hs he
    have hse : ¬ s = ⟨#[]⟩ := fun e => hs (by rw [e]; rfl)
    intro Z hZ; apply hZ
    have h0 : ¬ (0 : Int) < ((0 : Nat) : Int) := by omega
    simp -implicitDefEqProofs (maxSteps := 2000000) only [c62, h0, hse, decide_false, ↓reduceIte, s_exit, s_ret, s_ops0, s_seq, s_cond, s_opsK, s_seqK_n, s_seqK_e, s_blkK_e, s_loopK_e, s_cnd, s_nil, s_cons, s_guard, s_wopsK, s_putK, s_grd, q_mv, q_bin, o_mv, o_as, o_pk, v_pk, o_bin, v_gtr, v_seql, e_t, e_k, e_put, e_get, e_res, e_keep_n, e_keep_c, e_keep1_s, e_asg_s, Option.getD_some, Nat.reduceEqDiff, reduceCtorEq, true_and, and_true, cond_false, Bool.false_eq_true, s_ret_r, s_retX, s_cells_n, t_lf, t_s, r_n, r_t, r_cons, one_1, Bool.and_true, Bool.true_and]
    apply ByteArray.ext
    apply Array.toList_inj.1
    rw [he]
  have key : ∀ (m : Nat) (s : ByteArray), m < 9223372036854775807 → (if m = 0 ∧ s.size ≠ 0 then s.data.toList else Lib.decDigits m ++ s.data.toList) = Lib.decDigits n → LoopAt X Tryd.prog c62_5 [0, 1, 5] (blkK 0 (seqK X Tryd.prog c62_8 (retS [] [] 0 [RV.t 4] (.lf (.str ⟨(Lib.decDigits n).toArray⟩)) [])))
      { m := 0, tm := [(0, PV.lf (L.int IntKind.i64 (m : Int))), (1, PV.lf (L.int IntKind.i64 10)), (5, PV.lf (L.str s))], ce := [] } := by
    intro m
    induction m using Nat.strongRecOn with
    | _ m ih =>
      intro s hm he
      have hsl : s.size ≤ 20 := by
        have h1 := congrArg List.length he
        split at h1
        · rw [size_len] at h1; omega
        · rw [List.length_append, size_len] at h1; omega
      have hz0 : s.size = 0 → s = ⟨#[]⟩ := fun h => by
        apply ByteArray.ext
        exact Array.eq_empty_of_size_eq_zero h
      by_cases hex : m = 0 ∧ s.size ≠ 0
      · rw [if_pos hex] at he
        obtain ⟨rfl, hs⟩ := hex
        exact exl s hs he
      · rw [if_neg hex] at he
        have hstep := dec_step m
        have e1 : ((m : Int).tmod 10) = ((m % 10 : Nat) : Int) := by rw [Int.tmod_eq_emod_of_nonneg (by omega)]; omega
        have e2 : IntKind.i64.wrap (((m % 10 : Nat) : Int) + 1) = ((m % 10 + 1 : Nat) : Int) := by rw [w64 (by omega) (by omega)]; omega
        have e3 : IntKind.i64.wrap ((m : Int).tdiv 10) = ((m / 10 : Nat) : Int) := by rw [Int.tdiv_eq_ediv_of_nonneg (by omega), w64 (by omega) (by omega)]; omega
        have d1 := dig1 ⟨m % 10, by omega⟩
        simp only at d1
        have goal : LoopAt X Tryd.prog c62_5 [0, 1, 5] (blkK 0 (seqK X Tryd.prog c62_8 (retS [] [] 0 [RV.t 4] (.lf (.str ⟨(Lib.decDigits n).toArray⟩)) []))) { m := 0, tm := [(0, PV.lf (L.int IntKind.i64 ((m / 10 : Nat) : Int))), (1, PV.lf (L.int IntKind.i64 10)), (5, PV.lf (L.str (⟨#[UInt8.ofNat (48 + m % 10)]⟩ ++ s)))], ce := [] } := by
          have hsz : (⟨#[UInt8.ofNat (48 + m % 10)]⟩ ++ s : ByteArray).size = 1 + s.size := by rw [ByteArray.size_append]; rfl
          have hls : (⟨#[UInt8.ofNat (48 + m % 10)]⟩ ++ s : ByteArray).data.toList = UInt8.ofNat (48 + m % 10) :: s.data.toList := by simp
          rw [hstep] at he
          by_cases hq : m / 10 = 0
          · rw [hq]
            rw [if_pos hq] at he
            exact exl _ (by omega) (by rw [hls, ← he]; rfl)
          · rw [if_neg hq] at he
            refine ih (m / 10) (by omega) _ (by omega) ?_
            rw [if_neg (by omega), hls, ← he]
            simp
        intro Z hZ; apply hZ
        by_cases hm0 : 0 < m
        · have h0 : (0 : Int) < (m : Int) := by omega
          simp -implicitDefEqProofs (maxSteps := 2000000) only [c62, h0, decide_true, e1, e2, e3, Int.toNat_natCast, d1, ↓reduceIte, s_skip, s_ops0, s_seq, s_cond, s_block, s_opsK, s_seqK_n, s_blkK_n, s_loopK_n, s_cnd, s_nil, s_cons, s_guard, s_wopsK, s_putK, s_grd, o_mv, o_as, o_pk, v_pk, o_bin, v_add, v_quo, v_rem, v_gtr, v_sadd, o_sls, v_sls_d, e_t, e_k, e_put, e_get, e_res, e_keep_n, e_keep_c, e_keep1_s, e_asg_i, e_asg_s, List.length_nil, List.length_cons, Option.getD_some, Option.map_some, Nat.reduceEqDiff, Nat.reduceAdd, reduceCtorEq, Bool.not_false, Bool.true_eq_false, List.append_nil, e_head, e_headK, kC_n, pO_n, pO_i, pO_s, List.range_zero, ne_eq, Nat.zero_add, ba_size]
          exact ⟨by decide, ⟨by omega, by omega, by omega⟩, by omega, by decide, goal Z hZ⟩
        · have h0 : ¬ (0 : Int) < (m : Int) := by omega
          have hse : s = ⟨#[]⟩ := hz0 (by omega)
          rw [hse] at goal ⊢
          simp -implicitDefEqProofs (maxSteps := 2000000) only [c62, h0, decide_true, decide_false, e1, e2, e3, Int.toNat_natCast, d1, ↓reduceIte, s_skip, s_ops0, s_seq, s_cond, s_block, s_opsK, s_seqK_n, s_blkK_n, s_loopK_n, s_cnd, s_nil, s_cons, s_guard, s_wopsK, s_putK, s_grd, q_mv, q_bin, o_mv, o_as, o_pk, v_pk, o_bin, v_add, v_quo, v_rem, v_gtr, v_sadd, v_seql, o_sls, v_sls_d, e_t, e_k, e_put, e_get, e_res, e_keep_n, e_keep_c, e_keep1_s, e_asg_i, e_asg_s, List.length_nil, List.length_cons, Option.getD_some, Option.map_some, Nat.reduceEqDiff, Nat.reduceAdd, reduceCtorEq, cond_false, Bool.false_eq_true, List.append_nil, e_head, e_headK, kC_n, pO_n, pO_i, pO_s, List.range_zero, ne_eq, Nat.zero_add, Nat.add_zero, ba_size]
          exact ⟨by decide, ⟨by omega, by omega, by omega⟩, by omega, by decide, goal Z hZ⟩
  refine R_i [] [] c62_ok rfl (by simp) ?_
  simp -implicitDefEqProofs (maxSteps := 2000000) only [c62, ↓reduceIte, s_ops0, s_seq, s_block, s_loop, s_opsK, s_seqK_n, s_nil, s_cons, s_wopsK, o_as, e_k, e_get, e_res, e_keep_n, e_keep_c, e_keep1_s, e_asg_s, St.init, enum, List.length_nil, Nat.reduceEqDiff, reduceCtorEq, List.append_nil, e_head, e_headK, kC_n, pO_n, pO_i, pO_s, List.range_zero, Nat.zero_add]
  exact key n ⟨#[]⟩ (by omega) (by simp [ByteArray.size])
end Go.Proofs.YthcpaohmajjopaaDoor.I
set_option linter.unusedVariables false
set_option linter.unusedSimpArgs false
namespace Go.Proofs.YthcpaohmajjopaaDoor.I
open Go Go.Proofs.YthcpaohmajjopaaDoor.AM
variable {X : Cx}
/-- an instruction's line, without its end -/
def lineF (h1 h2 h4 h8 h16 h32 : Bool) (nm : List UInt8) (at_ : Nat) (x : Ins) : List UInt8 :=
  Lib.itoa at_ ++ [32] ++ nm ++ (if h32 then [32, 62] ++ Lib.itoa ((at_ : Int) + x.a) else if h1 then [32] ++ Lib.itoa x.a else []) ++ (if h2 then [32] ++ Lib.itoa x.b else []) ++ (if h4 then [32] ++ Lib.itoa x.n else []) ++
    (if h8 then [32] ++ (quo x.t).1.data.toList else []) ++ (if h16 then [32] ++ showL x.s0.toNat x.s1.toNat x.s2.toNat x.s3.toNat else [])
def lineL (at_ : Nat) (x : Ins) : List UInt8 := lineF (hasB x.op.toNat 1) (hasB x.op.toNat 2) (hasB x.op.toNat 4) (hasB x.op.toNat 8) (hasB x.op.toNat 16) (hasB x.op.toNat 32) (nameF x.op.toNat).data.toList at_ x
theorem pat6 {k : Nat} (hk : k < 21) : ∃ p ∈ [(false, false, false, false, false, false), (false, true, false, false, false, false), (false, false, false, false, true, false), (true, false, false, false, false, true), (true, true, false, false, false, true), (true, false, false, false, true, true), (false, true, true, true, false, false), (true, true, true, true, false, false)],
    hasB k 1 = p.1 ∧ hasB k 2 = p.2.1 ∧ hasB k 4 = p.2.2.1 ∧ hasB k 8 = p.2.2.2.1 ∧ hasB k 16 = p.2.2.2.2.1 ∧ hasB k 32 = p.2.2.2.2.2 := by
  have h : ∀ i : Fin 21, (hasB i.val 1, hasB i.val 2, hasB i.val 4, hasB i.val 8, hasB i.val 16, hasB i.val 32) ∈ [(false, false, false, false, false, false), (false, true, false, false, false, false), (false, false, false, false, true, false), (true, false, false, false, false, true), (true, true, false, false, false, true), (true, false, false, false, true, true), (false, true, true, true, false, false), (true, true, true, true, false, false)] := by decide +kernel
  exact ⟨_, h ⟨k, hk⟩, rfl, rfl, rfl, rfl, rfl, rfl⟩
theorem showL_len (a b c d : Nat) : (showL a b c d).length ≤ 3000 := by
  unfold showL
  split
  · simp
  · have h := pieces_len (spN (mems a b c d))
    have := (sp_ok a b c d).1
    simp only [List.length_cons, List.length_append, List.length_nil]
    omega
theorem quo_len (s : ByteArray) : (quo s).1.size ≤ 65536 := by
  unfold quo
  split
  · decide
  · split
    · decide
    · rw [ba_size]; omega
/-- numbers of a line are none below 0 -/
structure LineOK (at_ : Nat) (x : Ins) : Prop where
  lt : at_ < 8192
  op : 1 ≤ x.op ∧ x.op ≤ 20
  tg : hasB x.op.toNat 32 = true → 0 ≤ (at_ : Int) + x.a ∧ (at_ : Int) + x.a < 8192
  a : hasB x.op.toNat 1 = true → -32768 ≤ x.a ∧ x.a ≤ 32767
  a0 : hasB x.op.toNat 1 = true → hasB x.op.toNat 32 = false → 0 ≤ x.a
  b : hasB x.op.toNat 2 = true → 0 ≤ x.b ∧ x.b ≤ 255
  n : hasB x.op.toNat 4 = true → 0 ≤ x.n ∧ x.n ≤ 255
  ok : x.ok
structure HX (X : Cx) : Prop where
  h0 : X.G 0 = some namesL
  h1 : X.G 1 = some usesL
  h2 : X.G 2 = some powL
  h3 : X.G 3 = some deBL
theorem name_len : ∀ k : Fin 21, (nameF k.val).size ≤ 20 := by decide +kernel
set_option maxHeartbeats 4000000 in
theorem r44 (hX : HX X) (at_ : Nat) (x : Ins) (h : LineOK at_ x) : R X Tryd.prog 44 [.ag x.c, .lf (.int .i64 (at_ : Int))] [] (.lf (.str ⟨(lineL at_ x).toArray⟩)) [] := by
  obtain ⟨k, hk0, hk⟩ := nat_of h.op
  have a1 := r50 hX.h1 k hk 1
  have a2 := r50 hX.h1 k hk 2
  have a4 := r50 hX.h1 k hk 4
  have a8 := r50 hX.h1 k hk 8
  have a16 := r50 hX.h1 k hk 16
  have a32 := r50 hX.h1 k hk 32
  have hnm := name_len ⟨k, hk⟩
  simp only at hnm
  have hs0 := h.ok.s0
  have hs1 := h.ok.s1
  have hs2 := h.ok.s2
  have hs3 := h.ok.s3
  have ta := h.tg
  have tb := h.a
  have tc := h.a0
  have td := h.b
  have te := h.n
  have hat := h.lt
  unfold lineL
  clear h
  obtain ⟨xop, xa, xb, xn, xt, s0, s1, s2, s3⟩ := x
  simp only at *
  subst hk0
  rw [Int.toNat_natCast] at *
  obtain ⟨s0, rfl⟩ : ∃ n : Nat, s0 = n := ⟨s0.toNat, by omega⟩
  obtain ⟨s1, rfl⟩ : ∃ n : Nat, s1 = n := ⟨s1.toNat, by omega⟩
  obtain ⟨s2, rfl⟩ : ∃ n : Nat, s2 = n := ⟨s2.toNat, by omega⟩
  obtain ⟨s3, rfl⟩ : ∃ n : Nat, s3 = n := ⟨s3.toNat, by omega⟩
  have hn1 : namesL[(k : Int).toNat * 1]? = some (.str (nameF k)) := by simpa using namesL_get hk
  have i59 := fun n h0 h1 => r59 hX.h2 n h0 h1
  have q60 := r60 (X := X) xt
  have q61 := r61 hX.h3 s0 s1 s2 s3 (by omega) (by omega) (by omega) (by omega)
  have ql := quo_len xt
  have sl := showL_len s0 s1 s2 s3
  have il := fun n h0 h1 => Lib.itoa_length_le n h0 h1
  have hX0 := hX.h0
  clear hX
  refine R_i [] [] c44_ok rfl (by simp) ?_
  simp only [Ins.c]
  obtain ⟨p, hp, e1, e2, e3, e4, e5, e6⟩ := pat6 hk
  rw [e1] at a1 tb tc
  rw [e2] at a2 td
  rw [e3] at a4 te
  rw [e4] at a8
  rw [e5] at a16
  rw [e6] at a32 ta tc
  rw [e1, e2, e3, e4, e5, e6]
  clear e1 e2 e3 e4 e5 e6
  have sa : ∀ (x y : ByteArray), (x ++ y).size = x.size + y.size := fun x y => ByteArray.size_append
  generalize nameF k = nm at hn1 hnm ⊢
  have i0 := i59 at_ (by omega) (by omega)
  have l0 := il at_ (by omega) (by omega)
  have ba_one : ∀ a : UInt8, (ByteArray.mk #[a]).size = 1 := fun _ => rfl
  have ba_two : ∀ a b : UInt8, (ByteArray.mk #[a, b]).size = 2 := fun _ _ => rfl
  have fT : p.2.2.2.2.2 = true → R X Tryd.prog 59 [.lf (.int .i64 ((at_ : Int) + xa))] [] (.lf (.str ⟨(Lib.itoa ((at_ : Int) + xa)).toArray⟩)) [] ∧ (Lib.itoa ((at_ : Int) + xa)).length ≤ 21 ∧ IntKind.i64.wrap ((at_ : Int) + xa) = (at_ : Int) + xa := fun e => by
    have := ta e
    exact ⟨i59 _ (by omega) (by omega), il _ (by omega) (by omega), w64 (by omega) (by omega)⟩
  have fA : p.1 = true → p.2.2.2.2.2 = false → R X Tryd.prog 59 [.lf (.int .i64 xa)] [] (.lf (.str ⟨(Lib.itoa xa).toArray⟩)) [] ∧ (Lib.itoa xa).length ≤ 21 := fun e e2 => by
    have := tb e
    exact ⟨i59 _ (by omega) (by omega), il _ (by omega) (by omega)⟩
  have fB : p.2.1 = true → R X Tryd.prog 59 [.lf (.int .i64 xb)] [] (.lf (.str ⟨(Lib.itoa xb).toArray⟩)) [] ∧ (Lib.itoa xb).length ≤ 21 := fun e => by
    have := td e
    exact ⟨i59 _ (by omega) (by omega), il _ (by omega) (by omega)⟩
  have fN : p.2.2.1 = true → R X Tryd.prog 59 [.lf (.int .i64 xn)] [] (.lf (.str ⟨(Lib.itoa xn).toArray⟩)) [] ∧ (Lib.itoa xn).length ≤ 21 := fun e => by
    have := te e
    exact ⟨i59 _ (by omega) (by omega), il _ (by omega) (by omega)⟩
  clear ta tb tc td te i59 il
  simp only [List.mem_cons, List.mem_nil_iff, or_false] at hp
  rcases hp with rfl | rfl | rfl | rfl | rfl | rfl | rfl | rfl
  · simp -implicitDefEqProofs (maxSteps := 2000000) only [c44, hX0, hn1, ↓reduceIte, s_ops0, s_ops1, s_seq, s_opsK, s_seqK_n, s_nil, s_cons, s_wopsK, s_wopsTK, s_tcons, q_call, q_mv, o_as, o_bx, e_t, e_k, e_put, e_get, e_res, e_keep_n, e_keep_c, e_keep1_s, e_asg_s, St.init, enum, List.length_nil, Option.getD_some, Nat.reduceEqDiff, reduceCtorEq, true_and, List.map_cons, List.map_nil, Bool.true_and, Nat.zero_le, kc_i, kc_s, rl_i, m_lf, m_ag, m_n, m_c, m_all, d_n, Nat.zero_add, v_bx_a]
    refine wcallq_i i0 rfl ?_
    simp -implicitDefEqProofs (maxSteps := 2000000) only [c44, hX0, hn1, ↓reduceIte, s_ops0, s_seq, s_block, s_opsK, s_seqK_n, s_nil, s_cons, s_wopsK, s_wopsTK, s_putK, s_tone, s_tcons, q_bin, q_fa, q_iaa, q_ld, o_as, o_bin, v_sadd, v_part_f, v_atK, o_fa, v_fa_p, o_iaa, o_ld, v_ld_p, v_ldC, o_call, e_t, e_k, e_put, e_get, e_res, e_keep_n, e_keep_c, e_keep1_s, e_asg_s, List.length_nil, List.length_cons, Option.getD_some, Nat.reduceEqDiff, List.map_cons, List.map_nil, PV.leaves, List.flatMap_cons, List.flatMap_nil, List.append_nil, List.cons_append, List.nil_append, List.getElem?_cons_zero, rl_i, m_lf, Nat.zero_add, Nat.add_zero, v_iaa_g, v_ld_g, ba_size]
    repeat' (first
      | (refine ⟨by ((try simp only [sa, ba_size, ba_one, ba_two]); omega), ?_⟩)
      | (refine ⟨⟨by omega, by omega⟩, ?_⟩)
      | (refine wcall_s a1 rfl rfl ?_)
      | (refine wcall_s a2 rfl rfl ?_)
      | (refine wcall_s a4 rfl rfl ?_)
      | (refine wcall_s a8 rfl rfl ?_)
      | (refine wcall_s a16 rfl rfl ?_)
      | (refine wcall_s a32 rfl rfl ?_)
      | (refine wcall_s q60 rfl rfl ?_)
      | (refine wcall_s q61 rfl rfl ?_)
      | (simp -implicitDefEqProofs (maxSteps := 2000000) only [c44, hX0, hn1, ↓reduceIte, s_skip, s_ret, s_ops0, s_seq, s_cond, s_opsK, s_seqK_n, s_blkK_n, s_cnd, s_nil, s_cons, s_wopsK, s_putK, o_mv, o_as, v_part_f, v_atK, o_fa, v_fa_p, o_ld, v_ld_p, v_ldC, o_call, e_t, e_k, e_put, e_get, e_res, e_keep_n, e_keep_c, e_keep1_s, e_asg_b, e_asg_s, Option.getD_some, Nat.reduceEqDiff, true_and, and_true, Bool.false_eq_true, s_ret_r, s_retX, s_cells_n, t_lf, t_s, r_n, r_t, r_cons, one_1, St.clr, outV, ownsV, owns1, ownL, List.map_cons, List.map_nil, PV.leaves, List.flatMap_cons, List.flatMap_nil, List.append_nil, List.cons_append, List.nil_append, Bool.and_true, Bool.true_and, List.getElem?_cons_zero, rl_i, ol_b, m_lf, Nat.add_zero]))
    all_goals (apply ByteArray.ext; apply Array.toList_inj.1; simp [lineF]; done)
  · obtain ⟨iB, lB⟩ := fB rfl
    simp -implicitDefEqProofs (maxSteps := 2000000) only [c44, hX0, hn1, ↓reduceIte, s_ops0, s_ops1, s_seq, s_opsK, s_seqK_n, s_nil, s_cons, s_wopsK, s_wopsTK, s_tcons, q_call, q_mv, o_as, o_bx, e_t, e_k, e_put, e_get, e_res, e_keep_n, e_keep_c, e_keep1_s, e_asg_s, St.init, enum, List.length_nil, Option.getD_some, Nat.reduceEqDiff, reduceCtorEq, true_and, List.map_cons, List.map_nil, Bool.true_and, Nat.zero_le, kc_i, kc_s, rl_i, m_lf, m_ag, m_n, m_c, m_all, d_n, Nat.zero_add, v_bx_a]
    refine wcallq_i i0 rfl ?_
    simp -implicitDefEqProofs (maxSteps := 2000000) only [c44, hX0, hn1, ↓reduceIte, s_ops0, s_seq, s_block, s_opsK, s_seqK_n, s_nil, s_cons, s_wopsK, s_wopsTK, s_putK, s_tone, s_tcons, q_bin, q_fa, q_iaa, q_ld, o_as, o_bin, v_sadd, v_part_f, v_atK, o_fa, v_fa_p, o_iaa, o_ld, v_ld_p, v_ldC, o_call, e_t, e_k, e_put, e_get, e_res, e_keep_n, e_keep_c, e_keep1_s, e_asg_s, List.length_nil, List.length_cons, Option.getD_some, Nat.reduceEqDiff, List.map_cons, List.map_nil, PV.leaves, List.flatMap_cons, List.flatMap_nil, List.append_nil, List.cons_append, List.nil_append, List.getElem?_cons_zero, rl_i, m_lf, Nat.zero_add, Nat.add_zero, v_iaa_g, v_ld_g, ba_size]
    repeat' (first
      | (refine ⟨by ((try simp only [sa, ba_size, ba_one, ba_two]); omega), ?_⟩)
      | (refine ⟨⟨by omega, by omega⟩, ?_⟩)
      | (refine wcall_s a1 rfl rfl ?_)
      | (refine wcall_s a2 rfl rfl ?_)
      | (refine wcall_s a4 rfl rfl ?_)
      | (refine wcall_s a8 rfl rfl ?_)
      | (refine wcall_s a16 rfl rfl ?_)
      | (refine wcall_s a32 rfl rfl ?_)
      | (refine wcall_s q60 rfl rfl ?_)
      | (refine wcall_s q61 rfl rfl ?_)
      | (refine wcall_s iB rfl rfl ?_)
      | (simp -implicitDefEqProofs (maxSteps := 2000000) only [c44, hX0, hn1, ↓reduceIte, s_skip, s_ret, s_ops0, s_seq, s_cond, s_opsK, s_seqK_n, s_blkK_n, s_cnd, s_nil, s_cons, s_wopsK, s_putK, o_mv, o_as, v_part_f, v_atK, o_fa, v_fa_p, o_ld, v_ld_p, v_ldC, o_call, e_t, e_k, e_put, e_get, e_res, e_keep_n, e_keep_c, e_keep1_s, e_asg_b, e_asg_s, Option.getD_some, Nat.reduceEqDiff, true_and, and_true, Bool.false_eq_true, s_ret_r, s_retX, s_cells_n, t_lf, t_s, r_n, r_t, r_cons, one_1, St.clr, outV, ownsV, owns1, ownL, List.map_cons, List.map_nil, PV.leaves, List.flatMap_cons, List.flatMap_nil, List.append_nil, List.cons_append, List.nil_append, Bool.and_true, Bool.true_and, List.getElem?_cons_zero, List.getElem?_cons_succ, rl_i, ol_b, ol_s, m_lf, Nat.zero_add, Nat.add_zero]))
    all_goals (apply ByteArray.ext; apply Array.toList_inj.1; simp [lineF]; done)
  · simp -implicitDefEqProofs (maxSteps := 2000000) only [c44, hX0, hn1, ↓reduceIte, s_ops0, s_ops1, s_seq, s_opsK, s_seqK_n, s_nil, s_cons, s_wopsK, s_wopsTK, s_tcons, q_call, q_mv, o_as, o_bx, e_t, e_k, e_put, e_get, e_res, e_keep_n, e_keep_c, e_keep1_s, e_asg_s, St.init, enum, List.length_nil, Option.getD_some, Nat.reduceEqDiff, reduceCtorEq, true_and, List.map_cons, List.map_nil, Bool.true_and, Nat.zero_le, kc_i, kc_s, rl_i, m_lf, m_ag, m_n, m_c, m_all, d_n, Nat.zero_add, v_bx_a]
    refine wcallq_i i0 rfl ?_
    simp -implicitDefEqProofs (maxSteps := 2000000) only [c44, hX0, hn1, ↓reduceIte, s_ops0, s_seq, s_block, s_opsK, s_seqK_n, s_nil, s_cons, s_wopsK, s_wopsTK, s_putK, s_tone, s_tcons, q_bin, q_fa, q_iaa, q_ld, o_as, o_bin, v_sadd, v_part_f, v_atK, o_fa, v_fa_p, o_iaa, o_ld, v_ld_p, v_ldC, o_call, e_t, e_k, e_put, e_get, e_res, e_keep_n, e_keep_c, e_keep1_s, e_asg_s, List.length_nil, List.length_cons, Option.getD_some, Nat.reduceEqDiff, List.map_cons, List.map_nil, PV.leaves, List.flatMap_cons, List.flatMap_nil, List.append_nil, List.cons_append, List.nil_append, List.getElem?_cons_zero, rl_i, m_lf, Nat.zero_add, Nat.add_zero, v_iaa_g, v_ld_g, ba_size]
    repeat' (first
      | (refine ⟨by ((try simp only [sa, ba_size, ba_one, ba_two]); omega), ?_⟩)
      | (refine ⟨⟨by omega, by omega⟩, ?_⟩)
      | (refine wcall_s a1 rfl rfl ?_)
      | (refine wcall_s a2 rfl rfl ?_)
      | (refine wcall_s a4 rfl rfl ?_)
      | (refine wcall_s a8 rfl rfl ?_)
      | (refine wcall_s a16 rfl rfl ?_)
      | (refine wcall_s a32 rfl rfl ?_)
      | (refine wcall_s q60 rfl rfl ?_)
      | (refine wcall_s q61 rfl rfl ?_)
      | (simp -implicitDefEqProofs (maxSteps := 2000000) only [c44, hX0, hn1, ↓reduceIte, s_skip, s_ret, s_ops0, s_seq, s_cond, s_opsK, s_seqK_n, s_blkK_n, s_cnd, s_nil, s_cons, s_wopsK, s_putK, o_mv, o_as, v_part_t, v_part_f, v_atK, o_fa, v_fa_p, o_ld, v_ld_p, v_ldC, o_call, e_t, e_k, e_put, e_get, e_res, e_keep_n, e_keep_c, e_keep1_s, e_asg_b, e_asg_s, List.length_nil, List.length_cons, Option.getD_some, Nat.reduceEqDiff, Nat.reduceAdd, true_and, and_true, Bool.false_eq_true, s_ret_r, s_retX, s_cells_n, t_lf, t_s, r_n, r_t, r_cons, one_1, St.clr, outV, ownsV, owns1, ownL, List.map_cons, List.map_nil, PV.leaves, List.flatMap_cons, List.flatMap_nil, List.append_nil, List.cons_append, List.nil_append, Bool.and_true, Bool.true_and, Nat.le_refl, List.drop_zero, List.take_succ_cons, List.drop_succ_cons, List.take_nil, List.getElem?_cons_zero, rl_i, ol_b, ol_s, m_lf, m_ag, Nat.zero_add, Nat.add_zero]))
    all_goals (apply ByteArray.ext; apply Array.toList_inj.1; simp [lineF]; done)
  · obtain ⟨iT, lT, eT⟩ := fT rfl
    simp -implicitDefEqProofs (maxSteps := 2000000) only [c44, hX0, hn1, eT, ↓reduceIte, s_ops0, s_ops1, s_seq, s_opsK, s_seqK_n, s_nil, s_cons, s_wopsK, s_wopsTK, s_tcons, q_call, q_mv, o_as, o_bx, e_t, e_k, e_put, e_get, e_res, e_keep_n, e_keep_c, e_keep1_s, e_asg_s, St.init, enum, List.length_nil, Option.getD_some, Nat.reduceEqDiff, reduceCtorEq, true_and, List.map_cons, List.map_nil, Bool.true_and, Nat.zero_le, kc_i, kc_s, rl_i, m_lf, m_ag, m_n, m_c, m_all, d_n, Nat.zero_add, v_bx_a]
    refine wcallq_i i0 rfl ?_
    simp -implicitDefEqProofs (maxSteps := 2000000) only [c44, hX0, hn1, eT, ↓reduceIte, s_ops0, s_seq, s_block, s_opsK, s_seqK_n, s_nil, s_cons, s_wopsK, s_wopsTK, s_putK, s_tone, s_tcons, q_bin, q_fa, q_iaa, q_ld, o_as, o_bin, v_sadd, v_part_f, v_atK, o_fa, v_fa_p, o_iaa, o_ld, v_ld_p, v_ldC, o_call, e_t, e_k, e_put, e_get, e_res, e_keep_n, e_keep_c, e_keep1_s, e_asg_s, List.length_nil, List.length_cons, Option.getD_some, Nat.reduceEqDiff, List.map_cons, List.map_nil, PV.leaves, List.flatMap_cons, List.flatMap_nil, List.append_nil, List.cons_append, List.nil_append, List.getElem?_cons_zero, rl_i, m_lf, Nat.zero_add, Nat.add_zero, v_iaa_g, v_ld_g, ba_size]
    repeat' (first
      | (refine ⟨by ((try simp only [sa, ba_size, ba_one, ba_two]); omega), ?_⟩)
      | (refine ⟨⟨by omega, by omega⟩, ?_⟩)
      | (refine wcall_s a1 rfl rfl ?_)
      | (refine wcall_s a2 rfl rfl ?_)
      | (refine wcall_s a4 rfl rfl ?_)
      | (refine wcall_s a8 rfl rfl ?_)
      | (refine wcall_s a16 rfl rfl ?_)
      | (refine wcall_s a32 rfl rfl ?_)
      | (refine wcall_s q60 rfl rfl ?_)
      | (refine wcall_s q61 rfl rfl ?_)
      | (refine wcall_s iT rfl rfl ?_)
      | (simp -implicitDefEqProofs (maxSteps := 2000000) only [c44, hX0, hn1, eT, ↓reduceIte, s_skip, s_ret, s_ops0, s_seq, s_cond, s_opsK, s_seqK_n, s_blkK_n, s_cnd, s_nil, s_cons, s_wopsK, s_putK, o_mv, o_as, o_bin, v_add, v_part_f, v_atK, o_fa, v_fa_p, o_ld, v_ld_p, v_ldC, o_call, e_t, e_k, e_put, e_get, e_res, e_keep_n, e_keep_c, e_keep1_s, e_asg_b, e_asg_s, Option.getD_some, Nat.reduceEqDiff, true_and, and_true, Bool.false_eq_true, s_ret_r, s_retX, s_cells_n, t_lf, t_s, r_n, r_t, r_cons, one_1, St.clr, outV, ownsV, owns1, ownL, List.map_cons, List.map_nil, PV.leaves, List.flatMap_cons, List.flatMap_nil, List.append_nil, List.cons_append, List.nil_append, Bool.and_true, Bool.true_and, List.getElem?_cons_zero, List.getElem?_cons_succ, rl_i, ol_b, ol_s, m_lf, Nat.zero_add, Nat.add_zero]))
    all_goals (apply ByteArray.ext; apply Array.toList_inj.1; simp [lineF]; done)
  · obtain ⟨iT, lT, eT⟩ := fT rfl
    obtain ⟨iB, lB⟩ := fB rfl
    simp -implicitDefEqProofs (maxSteps := 2000000) only [c44, hX0, hn1, eT, ↓reduceIte, s_ops0, s_ops1, s_seq, s_opsK, s_seqK_n, s_nil, s_cons, s_wopsK, s_wopsTK, s_tcons, q_call, q_mv, o_as, o_bx, e_t, e_k, e_put, e_get, e_res, e_keep_n, e_keep_c, e_keep1_s, e_asg_s, St.init, enum, List.length_nil, Option.getD_some, Nat.reduceEqDiff, reduceCtorEq, true_and, List.map_cons, List.map_nil, Bool.true_and, Nat.zero_le, kc_i, kc_s, rl_i, m_lf, m_ag, m_n, m_c, m_all, d_n, Nat.zero_add, v_bx_a]
    refine wcallq_i i0 rfl ?_
    simp -implicitDefEqProofs (maxSteps := 2000000) only [c44, hX0, hn1, eT, ↓reduceIte, s_ops0, s_seq, s_block, s_opsK, s_seqK_n, s_nil, s_cons, s_wopsK, s_wopsTK, s_putK, s_tone, s_tcons, q_bin, q_fa, q_iaa, q_ld, o_as, o_bin, v_sadd, v_part_f, v_atK, o_fa, v_fa_p, o_iaa, o_ld, v_ld_p, v_ldC, o_call, e_t, e_k, e_put, e_get, e_res, e_keep_n, e_keep_c, e_keep1_s, e_asg_s, List.length_nil, List.length_cons, Option.getD_some, Nat.reduceEqDiff, List.map_cons, List.map_nil, PV.leaves, List.flatMap_cons, List.flatMap_nil, List.append_nil, List.cons_append, List.nil_append, List.getElem?_cons_zero, rl_i, m_lf, Nat.zero_add, Nat.add_zero, v_iaa_g, v_ld_g, ba_size]
    repeat' (first
      | (refine ⟨by ((try simp only [sa, ba_size, ba_one, ba_two]); omega), ?_⟩)
      | (refine ⟨⟨by omega, by omega⟩, ?_⟩)
      | (refine wcall_s a1 rfl rfl ?_)
      | (refine wcall_s a2 rfl rfl ?_)
      | (refine wcall_s a4 rfl rfl ?_)
      | (refine wcall_s a8 rfl rfl ?_)
      | (refine wcall_s a16 rfl rfl ?_)
      | (refine wcall_s a32 rfl rfl ?_)
      | (refine wcall_s q60 rfl rfl ?_)
      | (refine wcall_s q61 rfl rfl ?_)
      | (refine wcall_s iT rfl rfl ?_)
      | (refine wcall_s iB rfl rfl ?_)
      | (simp -implicitDefEqProofs (maxSteps := 2000000) only [c44, hX0, hn1, eT, ↓reduceIte, s_skip, s_ret, s_ops0, s_seq, s_cond, s_opsK, s_seqK_n, s_blkK_n, s_cnd, s_nil, s_cons, s_wopsK, s_putK, o_mv, o_as, o_bin, v_add, v_part_f, v_atK, o_fa, v_fa_p, o_ld, v_ld_p, v_ldC, o_call, e_t, e_k, e_put, e_get, e_res, e_keep_n, e_keep_c, e_keep1_s, e_asg_b, e_asg_s, Option.getD_some, Nat.reduceEqDiff, true_and, and_true, Bool.false_eq_true, s_ret_r, s_retX, s_cells_n, t_lf, t_s, r_n, r_t, r_cons, one_1, St.clr, outV, ownsV, owns1, ownL, List.map_cons, List.map_nil, PV.leaves, List.flatMap_cons, List.flatMap_nil, List.append_nil, List.cons_append, List.nil_append, Bool.and_true, Bool.true_and, List.getElem?_cons_zero, List.getElem?_cons_succ, rl_i, ol_b, ol_s, m_lf, Nat.zero_add, Nat.add_zero]))
    all_goals (apply ByteArray.ext; apply Array.toList_inj.1; simp [lineF]; done)
  · obtain ⟨iT, lT, eT⟩ := fT rfl
    simp -implicitDefEqProofs (maxSteps := 2000000) only [c44, hX0, hn1, eT, ↓reduceIte, s_ops0, s_ops1, s_seq, s_opsK, s_seqK_n, s_nil, s_cons, s_wopsK, s_wopsTK, s_tcons, q_call, q_mv, o_as, o_bx, e_t, e_k, e_put, e_get, e_res, e_keep_n, e_keep_c, e_keep1_s, e_asg_s, St.init, enum, List.length_nil, Option.getD_some, Nat.reduceEqDiff, reduceCtorEq, true_and, List.map_cons, List.map_nil, Bool.true_and, Nat.zero_le, kc_i, kc_s, rl_i, m_lf, m_ag, m_n, m_c, m_all, d_n, Nat.zero_add, v_bx_a]
    refine wcallq_i i0 rfl ?_
    simp -implicitDefEqProofs (maxSteps := 2000000) only [c44, hX0, hn1, eT, ↓reduceIte, s_ops0, s_seq, s_block, s_opsK, s_seqK_n, s_nil, s_cons, s_wopsK, s_wopsTK, s_putK, s_tone, s_tcons, q_bin, q_fa, q_iaa, q_ld, o_as, o_bin, v_sadd, v_part_f, v_atK, o_fa, v_fa_p, o_iaa, o_ld, v_ld_p, v_ldC, o_call, e_t, e_k, e_put, e_get, e_res, e_keep_n, e_keep_c, e_keep1_s, e_asg_s, List.length_nil, List.length_cons, Option.getD_some, Nat.reduceEqDiff, List.map_cons, List.map_nil, PV.leaves, List.flatMap_cons, List.flatMap_nil, List.append_nil, List.cons_append, List.nil_append, List.getElem?_cons_zero, rl_i, m_lf, Nat.zero_add, Nat.add_zero, v_iaa_g, v_ld_g, ba_size]
    repeat' (first
      | (refine ⟨by ((try simp only [sa, ba_size, ba_one, ba_two]); omega), ?_⟩)
      | (refine ⟨⟨by omega, by omega⟩, ?_⟩)
      | (refine wcall_s a1 rfl rfl ?_)
      | (refine wcall_s a2 rfl rfl ?_)
      | (refine wcall_s a4 rfl rfl ?_)
      | (refine wcall_s a8 rfl rfl ?_)
      | (refine wcall_s a16 rfl rfl ?_)
      | (refine wcall_s a32 rfl rfl ?_)
      | (refine wcall_s q60 rfl rfl ?_)
      | (refine wcall_s q61 rfl rfl ?_)
      | (refine wcall_s iT rfl rfl ?_)
      | (simp -implicitDefEqProofs (maxSteps := 2000000) only [c44, hX0, hn1, eT, ↓reduceIte, s_skip, s_ret, s_ops0, s_seq, s_cond, s_opsK, s_seqK_n, s_blkK_n, s_cnd, s_nil, s_cons, s_wopsK, s_putK, o_mv, o_as, o_bin, v_add, v_part_t, v_part_f, v_atK, o_fa, v_fa_p, o_ld, v_ld_p, v_ldC, o_call, e_t, e_k, e_put, e_get, e_res, e_keep_n, e_keep_c, e_keep1_s, e_asg_b, e_asg_s, List.length_nil, List.length_cons, Option.getD_some, Nat.reduceEqDiff, Nat.reduceAdd, true_and, and_true, Bool.false_eq_true, s_ret_r, s_retX, s_cells_n, t_lf, t_s, r_n, r_t, r_cons, one_1, St.clr, outV, ownsV, owns1, ownL, List.map_cons, List.map_nil, PV.leaves, List.flatMap_cons, List.flatMap_nil, List.append_nil, List.cons_append, List.nil_append, Bool.and_true, Bool.true_and, Nat.le_refl, List.drop_zero, List.take_succ_cons, List.drop_succ_cons, List.take_nil, List.getElem?_cons_zero, List.getElem?_cons_succ, rl_i, ol_b, ol_s, m_lf, m_ag, Nat.zero_add, Nat.add_zero]))
    all_goals (apply ByteArray.ext; apply Array.toList_inj.1; simp [lineF]; done)
  · obtain ⟨iB, lB⟩ := fB rfl
    obtain ⟨iN, lN⟩ := fN rfl
    simp -implicitDefEqProofs (maxSteps := 2000000) only [c44, hX0, hn1, ↓reduceIte, s_ops0, s_ops1, s_seq, s_opsK, s_seqK_n, s_nil, s_cons, s_wopsK, s_wopsTK, s_tcons, q_call, q_mv, o_as, o_bx, e_t, e_k, e_put, e_get, e_res, e_keep_n, e_keep_c, e_keep1_s, e_asg_s, St.init, enum, List.length_nil, Option.getD_some, Nat.reduceEqDiff, reduceCtorEq, true_and, List.map_cons, List.map_nil, Bool.true_and, Nat.zero_le, kc_i, kc_s, rl_i, m_lf, m_ag, m_n, m_c, m_all, d_n, Nat.zero_add, v_bx_a]
    refine wcallq_i i0 rfl ?_
    simp -implicitDefEqProofs (maxSteps := 2000000) only [c44, hX0, hn1, ↓reduceIte, s_ops0, s_seq, s_block, s_opsK, s_seqK_n, s_nil, s_cons, s_wopsK, s_wopsTK, s_putK, s_tone, s_tcons, q_bin, q_fa, q_iaa, q_ld, o_as, o_bin, v_sadd, v_part_f, v_atK, o_fa, v_fa_p, o_iaa, o_ld, v_ld_p, v_ldC, o_call, e_t, e_k, e_put, e_get, e_res, e_keep_n, e_keep_c, e_keep1_s, e_asg_s, List.length_nil, List.length_cons, Option.getD_some, Nat.reduceEqDiff, List.map_cons, List.map_nil, PV.leaves, List.flatMap_cons, List.flatMap_nil, List.append_nil, List.cons_append, List.nil_append, List.getElem?_cons_zero, rl_i, m_lf, Nat.zero_add, Nat.add_zero, v_iaa_g, v_ld_g, ba_size]
    repeat' (first
      | (refine ⟨by ((try simp only [sa, ba_size, ba_one, ba_two]); omega), ?_⟩)
      | (refine ⟨⟨by omega, by omega⟩, ?_⟩)
      | (refine wcall_s a1 rfl rfl ?_)
      | (refine wcall_s a2 rfl rfl ?_)
      | (refine wcall_s a4 rfl rfl ?_)
      | (refine wcall_s a8 rfl rfl ?_)
      | (refine wcall_s a16 rfl rfl ?_)
      | (refine wcall_s a32 rfl rfl ?_)
      | (refine wcall_s q60 rfl rfl ?_)
      | (refine wcall_s q61 rfl rfl ?_)
      | (refine wcall_s iB rfl rfl ?_)
      | (refine wcall_s iN rfl rfl ?_)
      | (simp -implicitDefEqProofs (maxSteps := 2000000) only [c44, hX0, hn1, ↓reduceIte, s_skip, s_ret, s_ops0, s_seq, s_cond, s_opsK, s_seqK_n, s_blkK_n, s_cnd, s_nil, s_cons, s_wopsK, s_putK, o_mv, o_as, o_bin, v_sadd, o_ext, v_ext0, v_ext1, v_part_f, v_atK, o_fa, v_fa_p, o_ld, v_ld_p, v_ldC, o_call, e_t, e_k, e_put, e_get, e_res, e_keep_n, e_keep_c, e_keep1_s, e_asg_b, e_asg_i, e_asg_s, List.length_nil, List.length_cons, Option.getD_some, Nat.reduceEqDiff, true_and, and_true, Bool.false_eq_true, s_ret_r, s_retX, s_cells_n, t_lf, t_s, r_n, r_t, r_cons, one_1, St.clr, outV, ownsV, owns1, ownL, List.map_cons, List.map_nil, List.any_cons, List.any_nil, Bool.or_self, PV.leaves, List.flatMap_cons, List.flatMap_nil, List.append_nil, List.cons_append, List.nil_append, Bool.and_true, Bool.true_and, List.getElem?_cons_zero, List.getElem?_cons_succ, rl_i, rl_s, ol_b, ol_i, ol_s, m_lf, m_tp, m_1l, Nat.zero_add, Nat.add_zero, ba_size]))
    all_goals (apply ByteArray.ext; apply Array.toList_inj.1; simp [lineF]; done)
  · obtain ⟨iA, lA⟩ := fA rfl rfl
    obtain ⟨iB, lB⟩ := fB rfl
    obtain ⟨iN, lN⟩ := fN rfl
    simp -implicitDefEqProofs (maxSteps := 2000000) only [c44, hX0, hn1, ↓reduceIte, s_ops0, s_ops1, s_seq, s_opsK, s_seqK_n, s_nil, s_cons, s_wopsK, s_wopsTK, s_tcons, q_call, q_mv, o_as, o_bx, e_t, e_k, e_put, e_get, e_res, e_keep_n, e_keep_c, e_keep1_s, e_asg_s, St.init, enum, List.length_nil, Option.getD_some, Nat.reduceEqDiff, reduceCtorEq, true_and, List.map_cons, List.map_nil, Bool.true_and, Nat.zero_le, kc_i, kc_s, rl_i, m_lf, m_ag, m_n, m_c, m_all, d_n, Nat.zero_add, v_bx_a]
    refine wcallq_i i0 rfl ?_
    simp -implicitDefEqProofs (maxSteps := 2000000) only [c44, hX0, hn1, ↓reduceIte, s_ops0, s_seq, s_block, s_opsK, s_seqK_n, s_nil, s_cons, s_wopsK, s_wopsTK, s_putK, s_tone, s_tcons, q_bin, q_fa, q_iaa, q_ld, o_as, o_bin, v_sadd, v_part_f, v_atK, o_fa, v_fa_p, o_iaa, o_ld, v_ld_p, v_ldC, o_call, e_t, e_k, e_put, e_get, e_res, e_keep_n, e_keep_c, e_keep1_s, e_asg_s, List.length_nil, List.length_cons, Option.getD_some, Nat.reduceEqDiff, List.map_cons, List.map_nil, PV.leaves, List.flatMap_cons, List.flatMap_nil, List.append_nil, List.cons_append, List.nil_append, List.getElem?_cons_zero, rl_i, m_lf, Nat.zero_add, Nat.add_zero, v_iaa_g, v_ld_g, ba_size]
    repeat' (first
      | (refine ⟨by ((try simp only [sa, ba_size, ba_one, ba_two]); omega), ?_⟩)
      | (refine ⟨⟨by omega, by omega⟩, ?_⟩)
      | (refine wcall_s a1 rfl rfl ?_)
      | (refine wcall_s a2 rfl rfl ?_)
      | (refine wcall_s a4 rfl rfl ?_)
      | (refine wcall_s a8 rfl rfl ?_)
      | (refine wcall_s a16 rfl rfl ?_)
      | (refine wcall_s a32 rfl rfl ?_)
      | (refine wcall_s q60 rfl rfl ?_)
      | (refine wcall_s q61 rfl rfl ?_)
      | (refine wcall_s iA rfl rfl ?_)
      | (refine wcall_s iB rfl rfl ?_)
      | (refine wcall_s iN rfl rfl ?_)
      | (simp -implicitDefEqProofs (maxSteps := 2000000) only [c44, hX0, hn1, ↓reduceIte, s_skip, s_ret, s_ops0, s_seq, s_cond, s_opsK, s_seqK_n, s_blkK_n, s_cnd, s_nil, s_cons, s_wopsK, s_putK, o_mv, o_as, o_bin, v_sadd, o_ext, v_ext0, v_ext1, v_part_f, v_atK, o_fa, v_fa_p, o_ld, v_ld_p, v_ldC, o_call, e_t, e_k, e_put, e_get, e_res, e_keep_n, e_keep_c, e_keep1_s, e_asg_b, e_asg_i, e_asg_s, List.length_nil, List.length_cons, Option.getD_some, Nat.reduceEqDiff, true_and, and_true, Bool.false_eq_true, s_ret_r, s_retX, s_cells_n, t_lf, t_s, r_n, r_t, r_cons, one_1, St.clr, outV, ownsV, owns1, ownL, List.map_cons, List.map_nil, List.any_cons, List.any_nil, Bool.or_self, PV.leaves, List.flatMap_cons, List.flatMap_nil, List.append_nil, List.cons_append, List.nil_append, Bool.and_true, Bool.true_and, List.getElem?_cons_zero, List.getElem?_cons_succ, rl_i, rl_s, ol_b, ol_i, ol_s, m_lf, m_tp, m_1l, Nat.zero_add, Nat.add_zero, ba_size]))
    all_goals (apply ByteArray.ext; apply Array.toList_inj.1; simp [lineF]; done)
end Go.Proofs.YthcpaohmajjopaaDoor.I
set_option linter.unusedVariables false
set_option linter.unusedSimpArgs false
namespace Go.Proofs.YthcpaohmajjopaaDoor.I
open Go Go.Proofs.YthcpaohmajjopaaDoor.AM
variable {X : Cx}
theorem flag32 : ∀ k : Fin 21, 1 ≤ k.val → hasB k.val 32 = refB (refF k.val) 1 := by decide +kernel
theorem itoa_nat (n : Nat) : Lib.itoa (n : Int) = Lib.decDigits n := by
  unfold Lib.itoa
  rw [if_neg (by omega)]; simp
set_option maxHeartbeats 4000000 in
theorem r48 (at_ : Nat) (x : Ins) (h : LineOK at_ x) : R X Tryd.prog 48 [.ag x.c, .lf (.int .i64 (at_ : Int))] [] (.lf (.str ⟨(lineL at_ x ++ [10]).toArray⟩)) [] := by
  have hop := h.op
  obtain ⟨g1, g2, g4, g8, g16, g48⟩ := flags_tab ⟨x.op.toNat, by omega⟩ (by show 1 ≤ x.op.toNat; omega)
  have g32 := flag32 ⟨x.op.toNat, by omega⟩ (by show 1 ≤ x.op.toNat; omega)
  simp only at g1 g2 g4 g8 g16 g32
  have hnm := name_len ⟨x.op.toNat, by omega⟩
  simp only at hnm
  have hs0 := h.ok.s0
  have hs1 := h.ok.s1
  have hs2 := h.ok.s2
  have hs3 := h.ok.s3
  have ta := h.tg
  have tb := h.a
  have tc := h.a0
  have td := h.b
  have te := h.n
  have hat := h.lt
  unfold lineL
  rw [g1] at tb tc
  rw [g32] at ta tc
  rw [g2] at td
  rw [g4] at te
  rw [g1, g2, g4, g8, g16, g32]
  clear h g1 g2 g4 g8 g16 g32 g48
  have h40 := r40 (X := X) x.op
  obtain ⟨p, hp, e1, e2, e3, e4, e5⟩ := pat' (k := x.op.toNat) (by omega)
  have a1 := r41 (X := X) (refF x.op.toNat) 1 (by decide)
  have a2 := r41 (X := X) (refF x.op.toNat) 2 (by decide)
  have a4 := r41 (X := X) (refF x.op.toNat) 4 (by decide)
  have a8 := r41 (X := X) (refF x.op.toNat) 8 (by decide)
  have a16 := r41 (X := X) (refF x.op.toNat) 16 (by decide)
  rw [e1] at a1 ta tb tc
  rw [e2] at a2 tb tc
  rw [e3] at a4 td
  rw [e4] at a8 td te
  rw [e5] at a16
  rw [e1, e2, e3, e4, e5]
  clear e1 e2 e3 e4 e5
  generalize refF x.op.toNat = v at *
  generalize nameF x.op.toNat = nm at *
  generalize nextF x.op.toNat = nx at *
  obtain ⟨xop, xa, xb, xn, xt, s0, s1, s2, s3⟩ := x
  simp only at *
  obtain ⟨s0, rfl⟩ : ∃ n : Nat, s0 = n := ⟨s0.toNat, by omega⟩
  obtain ⟨s1, rfl⟩ : ∃ n : Nat, s1 = n := ⟨s1.toNat, by omega⟩
  obtain ⟨s2, rfl⟩ : ∃ n : Nat, s2 = n := ⟨s2.toNat, by omega⟩
  obtain ⟨s3, rfl⟩ : ∃ n : Nat, s3 = n := ⟨s3.toNat, by omega⟩
  have q60 := r63 (X := X) xt
  have q61 := r64 (X := X) s0 s1 s2 s3 (by omega) (by omega) (by omega) (by omega)
  have ql := quo_len xt
  have sl := showL_len s0 s1 s2 s3
  have il := fun n h0 h1 => Lib.itoa_length_le n h0 h1
  have i62 : ∀ n : Int, 0 ≤ n → n < 100000 → R X Tryd.prog 62 [.lf (.int .i64 n), .lf (.int .i64 10)] [] (.lf (.str ⟨(Lib.itoa n).toArray⟩)) [] := fun n h0 h1 => by
    obtain ⟨m, rfl⟩ : ∃ m : Nat, n = m := ⟨n.toNat, by omega⟩
    rw [itoa_nat]
    exact r62 m (by omega)
  refine R_i [] [] c48_ok rfl (by simp) ?_
  simp only [Ins.c]
  have sa : ∀ (x y : ByteArray), (x ++ y).size = x.size + y.size := fun x y => ByteArray.size_append
  have i0 := i62 at_ (by omega) (by omega)
  have l0 := il at_ (by omega) (by omega)
  have ba_one : ∀ a : UInt8, (ByteArray.mk #[a]).size = 1 := fun _ => rfl
  have ba_two : ∀ a b : UInt8, (ByteArray.mk #[a, b]).size = 2 := fun _ _ => rfl
  have fT : p.1 = true → R X Tryd.prog 62 [.lf (.int .i64 ((at_ : Int) + xa)), .lf (.int .i64 10)] [] (.lf (.str ⟨(Lib.itoa ((at_ : Int) + xa)).toArray⟩)) [] ∧ (Lib.itoa ((at_ : Int) + xa)).length ≤ 21 ∧ IntKind.i64.wrap ((at_ : Int) + xa) = (at_ : Int) + xa := fun e => by
    have := ta e
    exact ⟨i62 _ (by omega) (by omega), il _ (by omega) (by omega), w64 (by omega) (by omega)⟩
  have fA : p.2.1 = true → p.1 = false → R X Tryd.prog 62 [.lf (.int .i64 xa), .lf (.int .i64 10)] [] (.lf (.str ⟨(Lib.itoa xa).toArray⟩)) [] ∧ (Lib.itoa xa).length ≤ 21 := fun e e2 => by
    have h1 := tb (by rw [e]; simp)
    have h2 := tc (by rw [e]; simp) e2
    exact ⟨i62 _ (by omega) (by omega), il _ (by omega) (by omega)⟩
  have fB : (p.2.2.1 || p.2.2.2.1) = true → R X Tryd.prog 62 [.lf (.int .i64 xb), .lf (.int .i64 10)] [] (.lf (.str ⟨(Lib.itoa xb).toArray⟩)) [] ∧ (Lib.itoa xb).length ≤ 21 := fun e => by
    have := td e
    exact ⟨i62 _ (by omega) (by omega), il _ (by omega) (by omega)⟩
  have fN : p.2.2.2.1 = true → R X Tryd.prog 62 [.lf (.int .i64 xn), .lf (.int .i64 10)] [] (.lf (.str ⟨(Lib.itoa xn).toArray⟩)) [] ∧ (Lib.itoa xn).length ≤ 21 := fun e => by
    have := te e
    exact ⟨i62 _ (by omega) (by omega), il _ (by omega) (by omega)⟩
  clear ta tb tc td te i62 il
  simp only [List.mem_cons, List.mem_nil_iff, or_false] at hp
  rcases hp with rfl | rfl | rfl | rfl | rfl | rfl | rfl | rfl
  · simp -implicitDefEqProofs (maxSteps := 2000000) only [c48, ↓reduceIte, s_ops0, s_seq, s_opsK, s_seqK_n, s_nil, s_cons, s_wopsK, s_putK, o_as, v_part_f, v_atK, o_bx, o_fa, v_fa_p, o_ld, v_ld_p, v_ldC, o_call, e_t, e_k, e_put, e_get, e_res, e_keep_n, e_keep_c, e_keep1_s, e_asg_s, St.init, enum, List.length_nil, Option.getD_some, Nat.reduceEqDiff, reduceCtorEq, true_and, List.map_cons, List.map_nil, Bool.or_self, PV.leaves, List.flatMap_cons, List.flatMap_nil, List.append_nil, Bool.true_and, Nat.zero_le, List.getElem?_cons_zero, kc_i, kc_s, rl_i, m_lf, m_ag, m_n, m_c, m_all, d_n, Nat.zero_add, Nat.add_zero, v_bx_a]
    repeat' (first
      | (refine ⟨by ((try simp only [sa, ba_size, ba_one, ba_two]); omega), ?_⟩)
      | (refine wcall_s h40 rfl rfl ?_)
      | (refine wcall_s i0 rfl rfl ?_)
      | (refine wcall_s a1 rfl rfl ?_)
      | (refine wcall_s a2 rfl rfl ?_)
      | (refine wcall_s a4 rfl rfl ?_)
      | (refine wcall_s a8 rfl rfl ?_)
      | (refine wcall_s a16 rfl rfl ?_)
      | (refine wcall_s q60 rfl rfl ?_)
      | (refine wcall_s q61 rfl rfl ?_)
      | (simp -implicitDefEqProofs (maxSteps := 2000000) only [c48, ↓reduceIte, s_skip, s_ret, s_ops0, s_seq, s_cond, s_opsK, s_seqK_n, s_cnd, s_nil, s_cons, s_wopsK, s_putK, o_mv, o_as, o_bin, v_sadd, o_ext, v_ext0, v_ext1, v_ext2, o_call, e_t, e_k, e_put, e_get, e_res, e_keep_n, e_keep_c, e_keep1_s, e_asg_b, e_asg_i, e_asg_s, List.length_nil, List.length_cons, Option.getD_some, Nat.reduceEqDiff, true_and, and_true, Bool.false_eq_true, s_ret_r, s_retX, s_cells_n, t_lf, t_s, r_n, r_t, r_cons, one_1, St.clr, outV, ownsV, owns1, ownL, List.map_cons, List.map_nil, List.any_cons, List.any_nil, Bool.or_self, PV.leaves, List.flatMap_cons, List.flatMap_nil, List.append_nil, List.cons_append, List.nil_append, Bool.and_true, Bool.true_and, rl_i, ol_b, ol_i, ol_s, m_lf, m_tp, m_1l, Nat.zero_add, ba_size]))
    all_goals (apply ByteArray.ext; apply Array.toList_inj.1; simp [lineF]; done)
  · obtain ⟨iB, lB⟩ := fB rfl
    simp -implicitDefEqProofs (maxSteps := 2000000) only [c48, ↓reduceIte, s_ops0, s_seq, s_opsK, s_seqK_n, s_nil, s_cons, s_wopsK, s_putK, o_as, v_part_f, v_atK, o_bx, o_fa, v_fa_p, o_ld, v_ld_p, v_ldC, o_call, e_t, e_k, e_put, e_get, e_res, e_keep_n, e_keep_c, e_keep1_s, e_asg_s, St.init, enum, List.length_nil, Option.getD_some, Nat.reduceEqDiff, reduceCtorEq, true_and, List.map_cons, List.map_nil, Bool.or_false, Bool.or_self, PV.leaves, List.flatMap_cons, List.flatMap_nil, List.append_nil, Bool.true_and, Nat.zero_le, List.getElem?_cons_zero, kc_i, kc_s, rl_i, m_lf, m_ag, m_n, m_c, m_all, d_n, Nat.zero_add, Nat.add_zero, or_false, v_bx_a]
    repeat' (first
      | (refine ⟨by ((try simp only [sa, ba_size, ba_one, ba_two]); omega), ?_⟩)
      | (refine wcall_s h40 rfl rfl ?_)
      | (refine wcall_s i0 rfl rfl ?_)
      | (refine wcall_s a1 rfl rfl ?_)
      | (refine wcall_s a2 rfl rfl ?_)
      | (refine wcall_s a4 rfl rfl ?_)
      | (refine wcall_s a8 rfl rfl ?_)
      | (refine wcall_s a16 rfl rfl ?_)
      | (refine wcall_s q60 rfl rfl ?_)
      | (refine wcall_s q61 rfl rfl ?_)
      | (refine wcall_s iB rfl rfl ?_)
      | (simp -implicitDefEqProofs (maxSteps := 2000000) only [c48, ↓reduceIte, s_skip, s_ret, s_ops0, s_seq, s_cond, s_opsK, s_seqK_n, s_cnd, s_nil, s_cons, s_wopsK, s_putK, o_mv, o_as, o_bin, v_sadd, o_ext, v_ext0, v_ext1, v_ext2, v_part_f, v_atK, o_fa, v_fa_p, o_ld, v_ld_p, v_ldC, o_call, e_t, e_k, e_put, e_get, e_res, e_keep_n, e_keep_c, e_keep1_s, e_asg_b, e_asg_i, e_asg_s, List.length_nil, List.length_cons, Option.getD_some, Nat.reduceEqDiff, true_and, and_true, Bool.false_eq_true, s_ret_r, s_retX, s_cells_n, t_lf, t_s, r_n, r_t, r_cons, one_1, St.clr, outV, ownsV, owns1, ownL, List.map_cons, List.map_nil, List.any_cons, List.any_nil, Bool.or_self, PV.leaves, List.flatMap_cons, List.flatMap_nil, List.append_nil, List.cons_append, List.nil_append, Bool.and_true, Bool.true_and, List.getElem?_cons_zero, List.getElem?_cons_succ, rl_i, ol_b, ol_i, ol_s, m_lf, m_tp, m_1l, Nat.zero_add, ba_size]))
    all_goals (apply ByteArray.ext; apply Array.toList_inj.1; simp [lineF]; done)
  · simp -implicitDefEqProofs (maxSteps := 2000000) only [c48, ↓reduceIte, s_ops0, s_seq, s_opsK, s_seqK_n, s_nil, s_cons, s_wopsK, s_putK, o_as, v_part_f, v_atK, o_bx, o_fa, v_fa_p, o_ld, v_ld_p, v_ldC, o_call, e_t, e_k, e_put, e_get, e_res, e_keep_n, e_keep_c, e_keep1_s, e_asg_s, St.init, enum, List.length_nil, Option.getD_some, Nat.reduceEqDiff, reduceCtorEq, true_and, List.map_cons, List.map_nil, Bool.or_self, PV.leaves, List.flatMap_cons, List.flatMap_nil, List.append_nil, Bool.true_and, Nat.zero_le, List.getElem?_cons_zero, kc_i, kc_s, rl_i, m_lf, m_ag, m_n, m_c, m_all, d_n, Nat.zero_add, Nat.add_zero, v_bx_a]
    repeat' (first
      | (refine ⟨by ((try simp only [sa, ba_size, ba_one, ba_two]); omega), ?_⟩)
      | (refine wcall_s h40 rfl rfl ?_)
      | (refine wcall_s i0 rfl rfl ?_)
      | (refine wcall_s a1 rfl rfl ?_)
      | (refine wcall_s a2 rfl rfl ?_)
      | (refine wcall_s a4 rfl rfl ?_)
      | (refine wcall_s a8 rfl rfl ?_)
      | (refine wcall_s a16 rfl rfl ?_)
      | (refine wcall_s q60 rfl rfl ?_)
      | (refine wcall_s q61 rfl rfl ?_)
      | (simp -implicitDefEqProofs (maxSteps := 2000000) only [c48, ↓reduceIte, s_skip, s_ret, s_ops0, s_seq, s_cond, s_opsK, s_seqK_n, s_cnd, s_nil, s_cons, s_wopsK, s_putK, o_mv, o_as, o_bin, v_sadd, o_ext, v_ext0, v_ext1, v_ext2, v_part_t, o_fa, v_fa_p, o_ld, v_ld_p, v_ldC, o_call, e_t, e_k, e_put, e_get, e_res, e_keep_n, e_keep_c, e_keep1_s, e_asg_b, e_asg_i, e_asg_s, List.length_nil, List.length_cons, Option.getD_some, Nat.reduceEqDiff, Nat.reduceAdd, true_and, and_true, Bool.false_eq_true, s_ret_r, s_retX, s_cells_n, t_lf, t_s, r_n, r_t, r_cons, one_1, St.clr, outV, ownsV, owns1, ownL, List.map_cons, List.map_nil, List.any_cons, List.any_nil, Bool.or_self, PV.leaves, List.flatMap_cons, List.flatMap_nil, List.append_nil, List.cons_append, List.nil_append, Bool.and_true, Bool.true_and, Nat.le_refl, List.drop_zero, List.take_succ_cons, List.drop_succ_cons, List.take_nil, rl_i, ol_b, ol_i, ol_s, m_lf, m_ag, m_tp, m_1l, Nat.zero_add, ba_size]))
    all_goals (apply ByteArray.ext; apply Array.toList_inj.1; simp [lineF]; done)
  · obtain ⟨iT, lT, eT⟩ := fT rfl
    simp -implicitDefEqProofs (maxSteps := 2000000) only [c48, eT, ↓reduceIte, s_ops0, s_seq, s_opsK, s_seqK_n, s_nil, s_cons, s_wopsK, s_putK, o_as, v_part_f, v_atK, o_bx, o_fa, v_fa_p, o_ld, v_ld_p, v_ldC, o_call, e_t, e_k, e_put, e_get, e_res, e_keep_n, e_keep_c, e_keep1_s, e_asg_s, St.init, enum, List.length_nil, Option.getD_some, Nat.reduceEqDiff, reduceCtorEq, true_and, List.map_cons, List.map_nil, Bool.or_false, Bool.or_self, PV.leaves, List.flatMap_cons, List.flatMap_nil, List.append_nil, Bool.true_and, Nat.zero_le, List.getElem?_cons_zero, kc_i, kc_s, rl_i, m_lf, m_ag, m_n, m_c, m_all, d_n, Nat.zero_add, Nat.add_zero, or_false, v_bx_a]
    repeat' (first
      | (refine ⟨by ((try simp only [sa, ba_size, ba_one, ba_two]); omega), ?_⟩)
      | (refine wcall_s h40 rfl rfl ?_)
      | (refine wcall_s i0 rfl rfl ?_)
      | (refine wcall_s a1 rfl rfl ?_)
      | (refine wcall_s a2 rfl rfl ?_)
      | (refine wcall_s a4 rfl rfl ?_)
      | (refine wcall_s a8 rfl rfl ?_)
      | (refine wcall_s a16 rfl rfl ?_)
      | (refine wcall_s q60 rfl rfl ?_)
      | (refine wcall_s q61 rfl rfl ?_)
      | (refine wcall_s iT rfl rfl ?_)
      | (simp -implicitDefEqProofs (maxSteps := 2000000) only [c48, eT, ↓reduceIte, s_skip, s_ret, s_ops0, s_seq, s_cond, s_opsK, s_seqK_n, s_cnd, s_nil, s_cons, s_wopsK, s_putK, o_mv, o_as, o_bin, v_add, v_sadd, o_ext, v_ext0, v_ext1, v_ext2, v_part_f, v_atK, o_fa, v_fa_p, o_ld, v_ld_p, v_ldC, o_call, e_t, e_k, e_put, e_get, e_res, e_keep_n, e_keep_c, e_keep1_s, e_asg_b, e_asg_i, e_asg_s, List.length_nil, List.length_cons, Option.getD_some, Nat.reduceEqDiff, Nat.reduceAdd, true_and, and_true, Bool.false_eq_true, s_ret_r, s_retX, s_cells_n, t_lf, t_s, r_n, r_t, r_cons, one_1, St.clr, outV, ownsV, owns1, ownL, List.map_cons, List.map_nil, List.any_cons, List.any_nil, Bool.or_self, PV.leaves, List.flatMap_cons, List.flatMap_nil, List.append_nil, List.cons_append, List.nil_append, Bool.and_true, Bool.true_and, List.getElem?_cons_zero, List.getElem?_cons_succ, rl_i, ol_b, ol_i, ol_s, m_lf, m_tp, m_1l, Nat.zero_add, ba_size]))
    all_goals (apply ByteArray.ext; apply Array.toList_inj.1; simp [lineF]; done)
  · obtain ⟨iT, lT, eT⟩ := fT rfl
    obtain ⟨iB, lB⟩ := fB rfl
    simp -implicitDefEqProofs (maxSteps := 2000000) only [c48, eT, ↓reduceIte, s_ops0, s_seq, s_opsK, s_seqK_n, s_nil, s_cons, s_wopsK, s_putK, o_as, v_part_f, v_atK, o_bx, o_fa, v_fa_p, o_ld, v_ld_p, v_ldC, o_call, e_t, e_k, e_put, e_get, e_res, e_keep_n, e_keep_c, e_keep1_s, e_asg_s, St.init, enum, List.length_nil, Option.getD_some, Nat.reduceEqDiff, reduceCtorEq, true_and, List.map_cons, List.map_nil, Bool.or_false, PV.leaves, List.flatMap_cons, List.flatMap_nil, List.append_nil, Bool.true_and, Nat.zero_le, List.getElem?_cons_zero, kc_i, kc_s, rl_i, m_lf, m_ag, m_n, m_c, m_all, d_n, Nat.zero_add, Nat.add_zero, or_false, v_bx_a]
    repeat' (first
      | (refine ⟨by ((try simp only [sa, ba_size, ba_one, ba_two]); omega), ?_⟩)
      | (refine wcall_s h40 rfl rfl ?_)
      | (refine wcall_s i0 rfl rfl ?_)
      | (refine wcall_s a1 rfl rfl ?_)
      | (refine wcall_s a2 rfl rfl ?_)
      | (refine wcall_s a4 rfl rfl ?_)
      | (refine wcall_s a8 rfl rfl ?_)
      | (refine wcall_s a16 rfl rfl ?_)
      | (refine wcall_s q60 rfl rfl ?_)
      | (refine wcall_s q61 rfl rfl ?_)
      | (refine wcall_s iT rfl rfl ?_)
      | (refine wcall_s iB rfl rfl ?_)
      | (simp -implicitDefEqProofs (maxSteps := 2000000) only [c48, eT, ↓reduceIte, s_skip, s_ret, s_ops0, s_seq, s_cond, s_opsK, s_seqK_n, s_cnd, s_nil, s_cons, s_wopsK, s_putK, o_mv, o_as, o_bin, v_add, v_sadd, o_ext, v_ext0, v_ext1, v_ext2, v_part_f, v_atK, o_fa, v_fa_p, o_ld, v_ld_p, v_ldC, o_call, e_t, e_k, e_put, e_get, e_res, e_keep_n, e_keep_c, e_keep1_s, e_asg_b, e_asg_i, e_asg_s, List.length_nil, List.length_cons, Option.getD_some, Nat.reduceEqDiff, Nat.reduceAdd, true_and, and_true, Bool.false_eq_true, s_ret_r, s_retX, s_cells_n, t_lf, t_s, r_n, r_t, r_cons, one_1, St.clr, outV, ownsV, owns1, ownL, List.map_cons, List.map_nil, List.any_cons, List.any_nil, Bool.or_self, PV.leaves, List.flatMap_cons, List.flatMap_nil, List.append_nil, List.cons_append, List.nil_append, Bool.and_true, Bool.true_and, List.getElem?_cons_zero, List.getElem?_cons_succ, rl_i, ol_b, ol_i, ol_s, m_lf, m_tp, m_1l, Nat.zero_add, ba_size]))
    all_goals (apply ByteArray.ext; apply Array.toList_inj.1; simp [lineF]; done)
  · obtain ⟨iT, lT, eT⟩ := fT rfl
    simp -implicitDefEqProofs (maxSteps := 2000000) only [c48, eT, ↓reduceIte, s_ops0, s_seq, s_opsK, s_seqK_n, s_nil, s_cons, s_wopsK, s_putK, o_as, v_part_f, v_atK, o_bx, o_fa, v_fa_p, o_ld, v_ld_p, v_ldC, o_call, e_t, e_k, e_put, e_get, e_res, e_keep_n, e_keep_c, e_keep1_s, e_asg_s, St.init, enum, List.length_nil, Option.getD_some, Nat.reduceEqDiff, reduceCtorEq, true_and, List.map_cons, List.map_nil, Bool.or_false, Bool.or_self, PV.leaves, List.flatMap_cons, List.flatMap_nil, List.append_nil, Bool.true_and, Nat.zero_le, List.getElem?_cons_zero, kc_i, kc_s, rl_i, m_lf, m_ag, m_n, m_c, m_all, d_n, Nat.zero_add, Nat.add_zero, or_false, v_bx_a]
    repeat' (first
      | (refine ⟨by ((try simp only [sa, ba_size, ba_one, ba_two]); omega), ?_⟩)
      | (refine wcall_s h40 rfl rfl ?_)
      | (refine wcall_s i0 rfl rfl ?_)
      | (refine wcall_s a1 rfl rfl ?_)
      | (refine wcall_s a2 rfl rfl ?_)
      | (refine wcall_s a4 rfl rfl ?_)
      | (refine wcall_s a8 rfl rfl ?_)
      | (refine wcall_s a16 rfl rfl ?_)
      | (refine wcall_s q60 rfl rfl ?_)
      | (refine wcall_s q61 rfl rfl ?_)
      | (refine wcall_s iT rfl rfl ?_)
      | (simp -implicitDefEqProofs (maxSteps := 2000000) only [c48, eT, ↓reduceIte, s_skip, s_ret, s_ops0, s_seq, s_cond, s_opsK, s_seqK_n, s_cnd, s_nil, s_cons, s_wopsK, s_putK, o_mv, o_as, o_bin, v_add, v_sadd, o_ext, v_ext0, v_ext1, v_ext2, v_part_t, v_part_f, v_atK, o_fa, v_fa_p, o_ld, v_ld_p, v_ldC, o_call, e_t, e_k, e_put, e_get, e_res, e_keep_n, e_keep_c, e_keep1_s, e_asg_b, e_asg_i, e_asg_s, List.length_nil, List.length_cons, Option.getD_some, Nat.reduceEqDiff, Nat.reduceAdd, true_and, and_true, Bool.false_eq_true, s_ret_r, s_retX, s_cells_n, t_lf, t_s, r_n, r_t, r_cons, one_1, St.clr, outV, ownsV, owns1, ownL, List.map_cons, List.map_nil, List.any_cons, List.any_nil, Bool.or_self, PV.leaves, List.flatMap_cons, List.flatMap_nil, List.append_nil, List.cons_append, List.nil_append, Bool.and_true, Bool.true_and, Nat.le_refl, List.drop_zero, List.take_succ_cons, List.drop_succ_cons, List.take_nil, List.getElem?_cons_zero, List.getElem?_cons_succ, rl_i, ol_b, ol_i, ol_s, m_lf, m_ag, m_tp, m_1l, Nat.zero_add, ba_size]))
    all_goals (apply ByteArray.ext; apply Array.toList_inj.1; simp [lineF]; done)
  · obtain ⟨iB, lB⟩ := fB rfl
    obtain ⟨iN, lN⟩ := fN rfl
    simp -implicitDefEqProofs (maxSteps := 2000000) only [c48, ↓reduceIte, s_ops0, s_seq, s_opsK, s_seqK_n, s_nil, s_cons, s_wopsK, s_putK, o_as, v_part_f, v_atK, o_bx, o_fa, v_fa_p, o_ld, v_ld_p, v_ldC, o_call, e_t, e_k, e_put, e_get, e_res, e_keep_n, e_keep_c, e_keep1_s, e_asg_s, St.init, enum, List.length_nil, Option.getD_some, Nat.reduceEqDiff, reduceCtorEq, true_and, List.map_cons, List.map_nil, Bool.false_or, Bool.or_self, PV.leaves, List.flatMap_cons, List.flatMap_nil, List.append_nil, Bool.true_and, Nat.zero_le, List.getElem?_cons_zero, kc_i, kc_s, rl_i, m_lf, m_ag, m_n, m_c, m_all, d_n, Nat.zero_add, Nat.add_zero, false_or, v_bx_a]
    repeat' (first
      | (refine ⟨by ((try simp only [sa, ba_size, ba_one, ba_two]); omega), ?_⟩)
      | (refine wcall_s h40 rfl rfl ?_)
      | (refine wcall_s i0 rfl rfl ?_)
      | (refine wcall_s a1 rfl rfl ?_)
      | (refine wcall_s a2 rfl rfl ?_)
      | (refine wcall_s a4 rfl rfl ?_)
      | (refine wcall_s a8 rfl rfl ?_)
      | (refine wcall_s a16 rfl rfl ?_)
      | (refine wcall_s q60 rfl rfl ?_)
      | (refine wcall_s q61 rfl rfl ?_)
      | (refine wcall_s iB rfl rfl ?_)
      | (refine wcall_s iN rfl rfl ?_)
      | (refine wcallq_i iB rfl ?_)
      | (refine wcallq_i iN rfl ?_)
      | (simp -implicitDefEqProofs (maxSteps := 2000000) only [c48, ↓reduceIte, s_skip, s_ret, s_ops0, s_ops1, s_seq, s_cond, s_opsK, s_seqK_n, s_cnd, s_nil, s_cons, s_wopsK, s_wopsTK, s_putK, s_tone, s_tcons, q_call, q_mv, q_bin, q_fa, q_ld, o_mv, o_as, o_bin, v_sadd, o_ext, v_ext0, v_ext1, v_ext2, v_part_f, v_atK, o_fa, v_fa_p, o_ld, v_ld_p, v_ldC, o_call, e_t, e_k, e_put, e_get, e_res, e_keep_n, e_keep_c, e_keep1_s, e_asg_b, e_asg_i, e_asg_s, List.length_nil, List.length_cons, Option.getD_some, Nat.reduceEqDiff, true_and, and_true, Bool.false_eq_true, s_ret_r, s_retX, s_cells_n, t_lf, t_s, r_n, r_t, r_cons, one_1, St.clr, outV, ownsV, owns1, ownL, List.map_cons, List.map_nil, List.any_cons, List.any_nil, Bool.or_self, PV.leaves, List.flatMap_cons, List.flatMap_nil, List.append_nil, List.cons_append, List.nil_append, Bool.and_true, Bool.true_and, List.getElem?_cons_zero, List.getElem?_cons_succ, rl_i, rl_s, ol_b, ol_i, ol_s, m_lf, m_tp, m_1l, Nat.zero_add, ba_size]))
    all_goals (apply ByteArray.ext; apply Array.toList_inj.1; simp [lineF]; done)
  · obtain ⟨iA, lA⟩ := fA rfl rfl
    obtain ⟨iB, lB⟩ := fB rfl
    obtain ⟨iN, lN⟩ := fN rfl
    simp -implicitDefEqProofs (maxSteps := 2000000) only [c48, ↓reduceIte, s_ops0, s_seq, s_opsK, s_seqK_n, s_nil, s_cons, s_wopsK, s_putK, o_as, v_part_f, v_atK, o_bx, o_fa, v_fa_p, o_ld, v_ld_p, v_ldC, o_call, e_t, e_k, e_put, e_get, e_res, e_keep_n, e_keep_c, e_keep1_s, e_asg_s, St.init, enum, List.length_nil, Option.getD_some, Nat.reduceEqDiff, reduceCtorEq, true_and, List.map_cons, List.map_nil, Bool.false_or, PV.leaves, List.flatMap_cons, List.flatMap_nil, List.append_nil, Bool.true_and, Nat.zero_le, List.getElem?_cons_zero, kc_i, kc_s, rl_i, m_lf, m_ag, m_n, m_c, m_all, d_n, Nat.zero_add, Nat.add_zero, false_or, v_bx_a]
    repeat' (first
      | (refine ⟨by ((try simp only [sa, ba_size, ba_one, ba_two]); omega), ?_⟩)
      | (refine wcall_s h40 rfl rfl ?_)
      | (refine wcall_s i0 rfl rfl ?_)
      | (refine wcall_s a1 rfl rfl ?_)
      | (refine wcall_s a2 rfl rfl ?_)
      | (refine wcall_s a4 rfl rfl ?_)
      | (refine wcall_s a8 rfl rfl ?_)
      | (refine wcall_s a16 rfl rfl ?_)
      | (refine wcall_s q60 rfl rfl ?_)
      | (refine wcall_s q61 rfl rfl ?_)
      | (refine wcall_s iA rfl rfl ?_)
      | (refine wcall_s iB rfl rfl ?_)
      | (refine wcall_s iN rfl rfl ?_)
      | (refine wcallq_i iB rfl ?_)
      | (refine wcallq_i iN rfl ?_)
      | (simp -implicitDefEqProofs (maxSteps := 2000000) only [c48, ↓reduceIte, s_skip, s_ret, s_ops0, s_ops1, s_seq, s_cond, s_opsK, s_seqK_n, s_cnd, s_nil, s_cons, s_wopsK, s_wopsTK, s_putK, s_tone, s_tcons, q_call, q_mv, q_bin, q_fa, q_ld, o_mv, o_as, o_bin, v_sadd, o_ext, v_ext0, v_ext1, v_ext2, v_part_f, v_atK, o_fa, v_fa_p, o_ld, v_ld_p, v_ldC, o_call, e_t, e_k, e_put, e_get, e_res, e_keep_n, e_keep_c, e_keep1_s, e_asg_b, e_asg_i, e_asg_s, List.length_nil, List.length_cons, Option.getD_some, Nat.reduceEqDiff, true_and, and_true, Bool.false_eq_true, s_ret_r, s_retX, s_cells_n, t_lf, t_s, r_n, r_t, r_cons, one_1, St.clr, outV, ownsV, owns1, ownL, List.map_cons, List.map_nil, List.any_cons, List.any_nil, Bool.or_self, PV.leaves, List.flatMap_cons, List.flatMap_nil, List.append_nil, List.cons_append, List.nil_append, Bool.and_true, Bool.true_and, List.getElem?_cons_zero, List.getElem?_cons_succ, rl_i, rl_s, ol_b, ol_i, ol_s, m_lf, m_tp, m_1l, Nat.zero_add, ba_size]))
    all_goals (apply ByteArray.ext; apply Array.toList_inj.1; simp [lineF]; done)
end Go.Proofs.YthcpaohmajjopaaDoor.I
set_option linter.unusedVariables false
set_option linter.unusedSimpArgs false
namespace Go.Proofs.YthcpaohmajjopaaDoor.I
open Go Go.Proofs.YthcpaohmajjopaaDoor.AM
variable {X : Cx}
theorem a_of20 {len i : Nat} {x : Ins} (h : errAt capX len i x = 0) (h20 : x.op.toNat = 20) : 0 ≤ x.a := by
  unfold errAt at h
  split at h
  · cases h
  split at h
  · cases h
  rename_i h2
  have hf : fitB (capX x) x.op.toNat x = true := by simpa using h2
  unfold fitB at hf
  simp only [Bool.and_eq_true] at hf
  have harg := hf.2
  unfold argB at harg
  rw [h20] at harg
  simp at harg
  omega
theorem only20 : ∀ k : Fin 21, hasB k.val 1 = true → hasB k.val 32 = false → k.val = 20 := by decide +kernel
theorem line_ok {code : List Ins} (h : (chk capX code).2 = 0) (hok : ∀ x ∈ code, x.ok) (i : Nat) (x : Ins) (hx : code[i]? = some x) : LineOK i x := by
  have hc := chk_ok h
  have hmem := List.mem_of_getElem? hx
  have hf := fit_all h x hmem
  have hil := (List.getElem?_eq_some_iff.1 hx).1
  have hlen := hc.len
  refine ⟨by omega, hf.op, fun h32 => ?_, hf.a, fun h1 h32 => ?_, hf.b, hf.n, hok x hmem⟩
  · have := hc.tg i x hx h32
    omega
  · have hop := hf.op
    have h20 := only20 ⟨x.op.toNat, by omega⟩ h1 h32
    unfold chk at h
    split at h
    · cases h
    split at h
    · cases h
    cases hg : chkGo capX code.length 0 code with
    | some p =>
      rw [hg] at h
      exact absurd h (chkGo_ne _ _ _ _ _ hg)
    | none =>
      have := chkGo_ok _ _ _ _ hg i x hx
      exact a_of20 this h20
theorem lineL_len {i : Nat} {x : Ins} (h : LineOK i x) : 1 ≤ (lineL i x).length ∧ (lineL i x).length ≤ 70000 := by
  have hop := h.op
  have hnm := name_len ⟨x.op.toNat, by omega⟩
  simp only at hnm
  have ql := quo_len x.t
  have sl := showL_len x.s0.toNat x.s1.toNat x.s2.toNat x.s3.toNat
  have l0 := Lib.itoa_length_le i (by omega) (by have := h.lt; omega)
  have ta := h.tg
  have tb := h.a
  have td := h.b
  have te := h.n
  have e1 : (nameF x.op.toNat).data.toList.length = (nameF x.op.toNat).size := size_len _
  have e2 : (quo x.t).1.data.toList.length = (quo x.t).1.size := size_len _
  have s1 : (if hasB x.op.toNat 32 = true then [32, 62] ++ Lib.itoa ((i : Int) + x.a) else if hasB x.op.toNat 1 = true then [32] ++ Lib.itoa x.a else []).length ≤ 23 := by
    split
    · rename_i hh; have := ta hh; have := Lib.itoa_length_le ((i : Int) + x.a) (by omega) (by omega); simp; omega
    · split
      · rename_i hh; have := tb hh; have := Lib.itoa_length_le x.a (by omega) (by omega); simp; omega
      · simp
  have s2 : (if hasB x.op.toNat 2 = true then [32] ++ Lib.itoa x.b else []).length ≤ 23 := by
    split
    · rename_i hh; have := td hh; have := Lib.itoa_length_le x.b (by omega) (by omega); simp; omega
    · simp
  have s3 : (if hasB x.op.toNat 4 = true then [32] ++ Lib.itoa x.n else []).length ≤ 23 := by
    split
    · rename_i hh; have := te hh; have := Lib.itoa_length_le x.n (by omega) (by omega); simp; omega
    · simp
  have s4 : (if hasB x.op.toNat 8 = true then [32] ++ (quo x.t).1.data.toList else []).length ≤ 65540 := by
    split <;> simp; omega
  have s5 : (if hasB x.op.toNat 16 = true then [32] ++ showL x.s0.toNat x.s1.toNat x.s2.toNat x.s3.toNat else []).length ≤ 3010 := by
    split <;> simp; omega
  unfold lineL lineF
  rw [List.length_append, List.length_append, List.length_append, List.length_append, List.length_append, List.length_append, List.length_append, e1]
  simp only [List.length_cons, List.length_nil]
  constructor <;> omega
/-- the listing, up to where it is too long -/
def lsG : Nat → List Ins → List UInt8 → List UInt8
  | _, [], acc => acc
  | i, x :: q, acc => if acc.length ≤ 65536 then lsG (i + 1) q (acc ++ (lineL i x ++ [10])) else acc
def listA (code : List Ins) : ByteArray × Int := if ¬ (chk capX code).2 = 0 then (⟨#[]⟩, (chk capX code).2) else
  if 65536 < (lsG 0 code []).length then (⟨#[]⟩, 2) else (⟨(lsG 0 code []).toArray⟩, 0)
theorem r25 (code : List Ins) (hok : ∀ x ∈ code, x.ok) (sp : List (List L)) (r : ByteArray × Int) (hr : listA code = r) :
    R X Tryd.prog 25 [.lf (.lst .ro 9 (code.map Ins.c) sp)] [] (.tp [.lf (.str r.1), .lf (.int .i64 r.2)]) [] := by
  have h35 := r35 (X := X) code sp
  have hl : (code.map Ins.c).length = code.length := List.length_map _
  unfold listA at hr
  by_cases h : (chk capX code).2 = 0
  · rw [if_neg (by omega)] at hr
    have hlen := (chk_ok h).len
    generalize hG : lsG 0 code [] = G at hr
    have key : ∀ (q : List Ins) (i : Nat) (acc : List UInt8) (xs : List (List L)), code.drop i = q → xs = ub acc → acc.length ≤ 200000 → lsG i q acc = G → LoopAt X Tryd.prog c25_8 [0, 6, 7]
        (blkK 0 (seqK X Tryd.prog c25_16 (retS [] [] 0 [RV.t 2, RV.t 3] (PV.tp [PV.lf (L.str r.fst), PV.lf (L.int IntKind.i64 r.snd)]) [])))
        { m := 0, tm := [(0, PV.lf (L.lst Tag.ro 9 (List.map Ins.c code) sp)), (6, PV.lf (L.lst (Tag.own 768 5) 1 xs [])), (7, PV.lf (L.int IntKind.i64 i))], ce := [] } := by
      intro q
      have fin : ∀ (acc : List UInt8) (xs : List (List L)), xs = ub acc → acc = G → xs.length = acc.length ∧ (65536 < acc.length → r = (⟨#[]⟩, 2)) ∧ (¬ 65536 < acc.length → r = (⟨acc.toArray⟩, 0)) := by
        intro acc xs hxs hG'
        subst hG'
        refine ⟨by rw [hxs, ub_len], fun h => ?_, fun h => ?_⟩
        · rw [if_pos h] at hr; exact hr.symm
        · rw [if_neg h] at hr; exact hr.symm
      induction q with
      | nil =>
        intro i acc xs hq hxs ha hg
        obtain ⟨f1, f2, f3⟩ := fin acc xs hxs (by simpa [lsG] using hg)
        have hi : code.length ≤ i := by simpa using hq
        have hn : ¬ (i : Int) < (code.length : Int) := by omega
        intro Z hZ; apply hZ
        simp -implicitDefEqProofs (maxSteps := 2000000) only [c25, hl, hn, f1, decide_false, ↓reduceIte, s_skip, s_exit, s_ret, s_ops0, s_seq, s_cond, s_opsK, s_seqK_n, s_seqK_e, s_seqK_r, s_blkK_e, s_loopK_e, s_cnd, s_nil, s_cons, s_guard, s_wopsK, s_putK, s_grd, o_mv, o_as, o_pk, v_pk, o_bin, v_lss, v_gtr, o_cbs, o_len, v_len, e_t, e_k, e_put, e_get, e_res, e_keep_n, e_keep_c, e_keep1_s, e_asg_i, e_asg_s, Option.getD_some, Nat.reduceEqDiff, reduceCtorEq, true_and, and_true, Bool.not_true, Bool.false_eq_true, decide_eq_true_eq, s_ret_r, s_retX, s_cells_n, t_tp, t_n, t_c, t_1l, t_i, t_s, r_n, r_t, r_cons, one_2, Bool.and_true, Bool.true_and]
        intro _ _
        with_reducible refine ite_pr (fun h1 => ?_) (fun h1 => ?_)
        · rw [f2 (by omega)]; exact ⟨rfl, rfl⟩
        · rw [f3 (by omega), hxs, v_cbs_ub]
          simp -implicitDefEqProofs (maxSteps := 2000000) only [c25, ↓reduceIte, s_ret, s_opsK, s_seqK_n, s_nil, s_cons, s_wopsK, s_putK, o_as, e_t, e_k, e_put, e_get, e_res, e_keep_n, e_keep_c, e_keep1_s, e_asg_i, e_asg_s, Option.getD_some, Nat.reduceEqDiff, and_true, s_ret_r, s_retX, s_cells_n, t_tp, t_n, t_c, t_1l, t_i, t_s, r_n, r_t, r_cons, one_2, Bool.and_true]
          done
      | cons x q ih =>
        intro i acc xs hq hxs ha hg
        have hi : i < code.length := by
          rcases Nat.lt_or_ge i code.length with h | h
          · exact h
          · rw [List.drop_eq_nil_of_le h] at hq; cases hq
        have hx : code[i]? = some x := by rw [← List.head?_drop, hq]; rfl
        have hq' : code.drop (i + 1) = q := by rw [← List.tail_drop, hq]; rfl
        have hlo := line_ok h hok i x hx
        have hlt : (i : Int) < (code.length : Int) := by omega
        have hxl : xs.length = acc.length := by rw [hxs, ub_len]
        simp only [lsG] at hg
        by_cases hacc : acc.length ≤ 65536
        · rw [if_pos hacc] at hg
          have hll := (lineL_len hlo).2
          have hacc2 : (acc.length : Int) ≤ 65536 := by omega
          have hget : (code.map Ins.c).getD i [] = x.c := by rw [List.getD_eq_getElem?_getD, List.getElem?_map, hx]; rfl
          have w1 : IntKind.i64.wrap ((i : Int) + 1) = ((i + 1 : Nat) : Int) := by rw [w64 (by omega) (by omega)]; omega
          have h48 := r48 (X := X) i x hlo
          have hgc : x.c = [.int .i64 x.op, .int .i64 x.a, .int .i64 x.b, .int .i64 x.n, .str x.t, .int .u64 x.s0, .int .u64 x.s1, .int .u64 x.s2, .int .u64 x.s3] := rfl
          rw [hgc] at hget h48
          intro Z hZ; apply hZ
          simp -implicitDefEqProofs (maxSteps := 2000000) only [c25, hl, hlt, hxl, hacc2, Int.toNat_natCast, v_ld_e, hget, decide_true, ↓reduceIte, s_skip, s_ops0, s_seq, s_cond, s_block, s_opsK, s_seqK_n, s_cnd, s_nil, s_cons, s_guard, s_wopsK, s_putK, s_grd, q_mv, q_bin, q_len, o_mv, o_pk, v_pk, o_bin, v_lss, v_leq, v_part_t, o_ia, v_ia, o_ld, o_len, v_len, o_call, e_t, e_k, e_put, e_get, e_res, e_keep_n, e_keep_c, e_keep1_s, List.length_nil, List.length_cons, Option.getD_some, Nat.reduceEqDiff, Nat.reduceAdd, reduceCtorEq, true_and, cond_false, List.map_cons, List.map_nil, PV.leaves, List.flatMap_cons, List.flatMap_nil, List.append_nil, List.cons_append, List.nil_append, Bool.true_and, Nat.le_refl, List.drop_zero, List.take_succ_cons, List.take_nil, rl_i, rl_s, m_lf, m_ag, Nat.zero_add]
          intro _ _
          refine ⟨⟨by omega, by omega⟩, by omega, ?_⟩
          refine wcall_s h48 rfl rfl ?_
          simp -implicitDefEqProofs (maxSteps := 2000000) only [c25, hxl, w1, size_len, bytesL_ub, ↓reduceIte, s_ops0, s_opsK, s_seqK_n, s_blkK_n, s_loopK_n, s_nil, s_cons, s_wopsK, s_putK, o_mv, o_as, o_bin, v_add, o_aps, v_aps_o, e_t, e_k, e_put, e_get, e_res, e_keep_n, e_keep_c, e_keep1_s, e_asg_i, List.length_nil, List.length_cons, Option.getD_some, Nat.reduceEqDiff, reduceCtorEq, true_and, Bool.false_eq_true, St.clr, outV, ownsV, owns1, ownL, List.map_cons, List.map_nil, List.append_nil, Bool.true_and, Nat.reduceMul, Nat.reduceBEq, BEq.rfl, kp_b, kp_i, kp_s, kp_u, rk_b, rk_i, rk_s, rk_u, ol_s, kp_lro, rk_lro, kp_lo, rk_lo, m_lf, m_ag, m_n, m_c, m_all, e_asg_o, e_head, e_headK, kC_n, pO_n, pO_i, pO_l, List.range_zero, plT, List.length_append, Nat.zero_add, Nat.add_zero, kp_er, rk_er, ba_size]
          refine ⟨by omega, ih (i + 1) (acc ++ (lineL i x ++ [10])) _ hq' ?_ (by simp; omega) hg Z hZ⟩
          rw [hxs]
          simp [ub]
        · rw [if_neg hacc] at hg
          obtain ⟨f1, f2, f3⟩ := fin acc xs hxs hg
          have hacc2 : ¬ (acc.length : Int) ≤ 65536 := by omega
          have hacc3 : 65536 < (acc.length : Int) := by omega
          intro Z hZ; apply hZ
          simp -implicitDefEqProofs (maxSteps := 2000000) only [c25, hl, hlt, hxl, hacc2, hacc3, decide_true, decide_false, ↓reduceIte, s_exit, s_ret, s_ops0, s_seq, s_cond, s_opsK, s_seqK_n, s_seqK_e, s_seqK_r, s_blkK_e, s_loopK_e, s_cnd, s_nil, s_cons, s_guard, s_wopsK, s_putK, s_grd, q_mv, q_bin, q_len, o_mv, o_as, o_pk, v_pk, o_bin, v_lss, v_leq, v_gtr, o_len, v_len, e_t, e_k, e_put, e_get, e_res, e_keep_n, e_keep_c, e_keep1_s, e_asg_i, e_asg_s, Option.getD_some, Nat.reduceEqDiff, reduceCtorEq, true_and, and_true, cond_false, Bool.false_eq_true, s_ret_r, s_retX, s_cells_n, t_tp, t_n, t_c, t_1l, t_i, t_s, r_n, r_t, r_cons, one_2, Bool.and_true, Bool.true_and]
          intro _ _
          rw [f2 (by omega)]
          exact fun _ => ⟨rfl, rfl⟩
    refine R_i [] [] c25_ok rfl (by simp) ?_
    simp -implicitDefEqProofs (maxSteps := 2000000) only [c25, ↓reduceIte, s_ops0, s_seq, s_opsK, s_seqK_n, s_nil, s_cons, s_wopsK, o_mv, o_as, o_call, e_t, e_k, e_put, e_get, e_res, e_keep_n, e_keep_c, e_keep1_s, e_asg_i, e_asg_s, St.init, enum, List.length_nil, Option.getD_some, reduceCtorEq, List.map_cons, List.map_nil, PV.leaves, List.flatMap_cons, List.flatMap_nil, List.append_nil, rl_l, m_lf]
    refine wcall_s h35 rfl rfl ?_
    simp -implicitDefEqProofs (maxSteps := 2000000) only [c25, h, hl, ↓reduceIte, s_skip, s_ret, s_ops0, s_seq, s_cond, s_block, s_loop, s_opsK, s_seqK_n, s_seqK_r, s_cnd, s_nil, s_cons, s_wopsK, s_putK, o_mv, o_as, o_bin, v_neq, o_ext, v_ext0, v_ext1, e_t, e_k, e_put, e_get, e_res, e_keep_n, e_keep_c, e_keep1_s, e_asg_i, e_asg_s, Option.getD_some, Nat.reduceEqDiff, reduceCtorEq, true_and, and_true, Bool.false_eq_true, decide_eq_true_eq, s_ret_r, s_retX, s_cells_n, t_tp, t_n, t_c, t_1l, t_i, t_s, r_n, r_t, r_cons, one_2, St.clr, outV, ownsV, owns1, ownL, List.map_cons, List.map_nil, List.any_cons, List.any_nil, Bool.or_self, List.append_nil, Bool.and_true, Bool.true_and, Nat.reduceMul, kp_b, kp_i, ol_i, kp_lro, m_lf, m_tp, m_1l, m_n, m_c, m_all, e_asg_n, e_head, e_headK, kC_n, pO_n, pO_i, pO_l, List.range_zero, plT, ne_eq, Nat.add_zero, ite_not]
    exact key code 0 [] _ rfl rfl (by simp) hG
  · rw [if_pos h] at hr
    subst hr
    refine R_i [] [] c25_ok rfl (by simp) ?_
    simp -implicitDefEqProofs (maxSteps := 2000000) only [c25, ↓reduceIte, s_ops0, s_seq, s_opsK, s_seqK_n, s_nil, s_cons, s_wopsK, o_mv, o_as, o_call, e_t, e_k, e_put, e_get, e_res, e_keep_n, e_keep_c, e_keep1_s, e_asg_i, e_asg_s, St.init, enum, List.length_nil, Option.getD_some, reduceCtorEq, List.map_cons, List.map_nil, PV.leaves, List.flatMap_cons, List.flatMap_nil, List.append_nil, rl_l, m_lf]
    refine wcall_s h35 rfl rfl ?_
    simp -implicitDefEqProofs (maxSteps := 2000000) only [c25, h, ↓reduceIte, s_ret, s_ops0, s_seq, s_cond, s_opsK, s_seqK_n, s_seqK_r, s_cnd, s_nil, s_cons, s_wopsK, s_putK, o_mv, o_as, o_bin, v_neq, o_ext, v_ext0, v_ext1, e_t, e_k, e_put, e_get, e_res, e_keep_n, e_keep_c, e_keep1_s, e_asg_i, e_asg_s, Option.getD_some, Nat.reduceEqDiff, reduceCtorEq, and_true, Bool.false_eq_true, decide_eq_true_eq, s_ret_r, s_retX, s_cells_n, t_tp, t_n, t_c, t_1l, t_i, t_s, r_n, r_t, r_cons, one_2, St.clr, outV, ownsV, owns1, ownL, List.map_cons, List.map_nil, List.any_cons, List.any_nil, Bool.or_self, Bool.and_true, ol_i, m_tp, m_1l, ne_eq, not_false_eq_true]
    done
theorem lsG_mono : ∀ (q : List Ins) (i : Nat) (acc : List UInt8), acc.length ≤ (lsG i q acc).length
  | [], i, acc => Nat.le_refl _
  | x :: q, i, acc => by
    simp only [lsG]
    split
    · have := lsG_mono q (i + 1) (acc ++ (lineL i x ++ [10]))
      simp only [List.length_append] at this
      omega
    · exact Nat.le_refl _
theorem r24 (hX : HX X) (code : List Ins) (hok : ∀ x ∈ code, x.ok) (sp : List (List L)) (r : ByteArray × Int) (hr : listA code = r) :
    R X Tryd.prog 24 [.lf (.lst .ro 9 (code.map Ins.c) sp)] [] (.tp [.lf (.str r.1), .lf (.int .i64 r.2)]) [] := by
  have h28 := r28x (X := X) hX.h1 code sp
  have hl : (code.map Ins.c).length = code.length := List.length_map _
  unfold listA at hr
  by_cases h : (chk capX code).2 = 0
  · rw [if_neg (by omega)] at hr
    have hlen := (chk_ok h).len
    have hpos := (chk_ok h).pos
    generalize hG : lsG 0 code [] = G at hr
    have key : ∀ (q : List Ins) (i : Nat) (acc : List UInt8) (y : L), code.drop i = q → (y = .nilp ∨ y = .tptr 6 0 73) → acc.length ≤ 65536 → (0 < i → 0 < acc.length) → lsG i q acc = G → LoopAt X Tryd.prog c24_14 [6, 17, 18, 19]
        (blkK 0 (seqK X Tryd.prog c24_18 (retS [] [] 0 [RV.t 2, RV.t 3] (PV.tp [PV.lf (L.str r.fst), PV.lf (L.int IntKind.i64 r.snd)]) [])))
        { m := 0, tm := [(6, PV.lf (L.tptr 6 0 73)), (17, PV.lf (L.lst Tag.ro 9 (List.map Ins.c code) sp)), (18, PV.lf (L.int IntKind.i64 code.length)), (19, PV.lf (L.int IntKind.i64 i))], ce := [(6, [y, L.lst (Tag.own 771 5) 1 (ub acc) []])] } := by
      intro q
      induction q with
      | nil =>
        intro i acc y hq hy ha hp hg
        have hi : code.length ≤ i := by simpa using hq
        have hn : ¬ (i : Int) < (code.length : Int) := by omega
        have hpa := hp (by omega)
        simp only [lsG] at hg
        rw [← hg, if_neg (by omega)] at hr
        rw [← hr]
        intro Z hZ; apply hZ
        rcases hy with rfl | rfl
        all_goals
          simp -implicitDefEqProofs (maxSteps := 2000000) only [c24, hn, decide_false, ↓reduceIte, s_exit, s_ops0, s_seq, s_cond, s_opsK, s_seqK_n, s_seqK_e, s_blkK_e, s_loopK_e, s_cnd, s_nil, s_cons, s_wopsK, s_putK, o_bin, v_lss, e_t, e_put, e_get, e_res, e_keep_n, e_keep_c, e_keep1_s, Option.getD_some, Nat.reduceEqDiff, Bool.false_eq_true, List.map_cons, List.map_nil, PV.leaves, List.flatMap_cons, List.flatMap_nil, List.append_nil, List.getElem?_cons_zero, Option.bind_some, m_lf, dw_n, ta_t, dw_t0, pc_t, o_callp, v_callp]
          refine pcall_i (r47 _ (by simp [frsh, toC]) _ hpa) rfl rfl ?_
          simp -implicitDefEqProofs (maxSteps := 2000000) only [c24, ↓reduceIte, s_ret, s_opsK, s_seqK_n, s_nil, s_cons, s_wopsK, o_as, e_t, e_k, e_put, e_get, e_res, e_keep_n, e_keep_c, e_keep1_s, e_asg_i, e_asg_s, Option.getD_some, Nat.reduceEqDiff, and_true, Bool.false_eq_true, s_ret_r, s_retX, s_cells_n, t_tp, t_n, t_c, t_1l, t_i, t_s, r_n, r_t, r_cons, one_2, outV, ownsV, owns1, ownL, List.map_cons, List.map_nil, Bool.and_true, Bool.and_self, BEq.rfl, ol_s, m_lf, m_n, m_c, d_n, d_c, tc_np, tc_t, fc_np, fc_u, fc_t, kl_b, kl_i, kl_np, kl_lr, kl_lo, kl_t, kf_s, cp_st, isC, Nat.reduceMod, Nat.reduceDiv]
      | cons x q ih =>
        intro i acc y hq hy ha hp hg
        have hi : i < code.length := by
          rcases Nat.lt_or_ge i code.length with h | h
          · exact h
          · rw [List.drop_eq_nil_of_le h] at hq; cases hq
        have hx : code[i]? = some x := by rw [← List.head?_drop, hq]; rfl
        have hq' : code.drop (i + 1) = q := by rw [← List.tail_drop, hq]; rfl
        have hlo := line_ok h hok i x hx
        have hlt : (i : Int) < (code.length : Int) := by omega
        have hll := lineL_len hlo
        have hget : (code.map Ins.c).getD i [] = x.c := by rw [List.getD_eq_getElem?_getD, List.getElem?_map, hx]; rfl
        have w1 : IntKind.i64.wrap ((i : Int) + 1) = ((i + 1 : Nat) : Int) := by rw [w64 (by omega) (by omega)]; omega
        have h44 := r44 (X := X) hX i x hlo
        have hgc : x.c = [.int .i64 x.op, .int .i64 x.a, .int .i64 x.b, .int .i64 x.n, .str x.t, .int .u64 x.s0, .int .u64 x.s1, .int .u64 x.s2, .int .u64 x.s3] := rfl
        rw [hgc] at hget h44
        simp only [lsG] at hg
        rw [if_pos ha] at hg
        have hba : (ByteArray.mk (lineL i x).toArray).size = (lineL i x).length := ba_size
        have b10 : b8 10 = 10 := rfl
        intro Z hZ; apply hZ
        have ihk := fun acc' h1 h2 h3 => ih (i + 1) acc' (.tptr 6 0 73) hq' (.inr rfl) h1 (fun _ => h2) h3 Z hZ
        have hmono := lsG_mono q (i + 1) (acc ++ (lineL i x ++ [10]))
        rw [hg] at hmono
        simp only [List.length_append, List.length_cons, List.length_nil] at hmono
        clear ih hZ
        rcases hy with rfl | rfl
        all_goals
          simp -implicitDefEqProofs (maxSteps := 2000000) only [c24, hl, hlt, Int.toNat_natCast, v_ld_e, hget, decide_true, ↓reduceIte, s_skip, s_ops0, s_seq, s_cond, s_block, s_opsK, s_seqK_n, s_cnd, s_nil, s_cons, s_wopsK, s_putK, o_mv, o_as, o_bin, v_lss, v_part_t, o_al, o_ia, v_ia, o_ld, v_ld_p, v_ldC, o_st, v_st_p, v_stCK, o_call, e_t, e_put, e_get, e_res, e_keep_n, e_keep_c, e_keep1_s, e_asg_i, List.length_nil, List.length_cons, Option.getD_some, Nat.reduceEqDiff, Nat.reduceAdd, true_and, Bool.false_eq_true, List.map_cons, List.map_nil, PV.leaves, List.flatMap_cons, List.flatMap_nil, List.append_nil, List.cons_append, List.nil_append, List.all_cons, List.all_nil, Bool.true_and, Bool.and_self, PV.cells, cellL, fillL, Nat.reduceBEq, Nat.zero_le, Nat.le_refl, List.take_zero, List.drop_zero, List.take_succ_cons, List.drop_succ_cons, List.drop_nil, List.take_nil, kc_b, kc_i, kc_s, kc_np, rl_i, rl_s, kc_l, m_lf, m_ag, m_n, m_c, m_all, st_b, d_n, d_c, Nat.zero_add, kc_t, kc_er]
          refine ⟨⟨by omega, by omega⟩, by omega, ?_⟩
          refine wcall_s h44 rfl rfl ?_
          simp -implicitDefEqProofs (maxSteps := 2000000) only [c24, ↓reduceIte, s_cons, s_wopsK, e_t, e_put, e_get, Option.getD_some, Nat.reduceEqDiff, Bool.false_eq_true, St.clr, outV, ownsV, owns1, ownL, List.map_cons, List.map_nil, PV.leaves, List.flatMap_cons, List.flatMap_nil, List.append_nil, List.cons_append, List.nil_append, List.getElem?_cons_zero, Option.bind_some, ol_s, m_lf, dw_n, dw_s, ta_s, ta_t, dw_t0, pc_t, o_callp, v_callp]
          refine pcall_i (r43 _ (by simp [frsh, toC]) acc _ (by rw [hba]; omega)) rfl rfl ?_
          simp -implicitDefEqProofs (maxSteps := 2000000) only [c24, ↓reduceIte, s_ops0, s_seq, s_opsK, s_seqK_n, s_nil, s_cons, s_wopsK, e_t, e_k, e_put, e_get, e_res, e_keep_n, e_keep_c, e_keep1_s, Option.getD_some, Nat.reduceEqDiff, Nat.reduceAdd, Bool.false_eq_true, outV, ownsV, owns1, ownL, List.map_cons, List.map_nil, List.any_cons, List.any_nil, Bool.or_self, PV.leaves, List.flatMap_cons, List.flatMap_nil, List.append_nil, List.cons_append, List.nil_append, Bool.and_self, Nat.reduceMul, BEq.rfl, List.getElem?_cons_zero, Option.bind_some, ol_i, ol_ni, m_lf, m_ag, m_tp, m_1l, m_n, m_c, d_n, d_c, dw_n, dw_i, ta_i, ta_t, fc_lo, fc_t, kl_i, kl_s, kl_np, kl_p, kl_lr, kl_lo, kl_t, kf_s, cp_st, dw_t0, pc_t, o_callp, v_callp, isC, cplc, Nat.reduceMod, Nat.reduceDiv, ba_size]
          refine pcall_i (r45 _ (Or.inr rfl) _ 10 (by omega) (by omega) (by simp; omega)) rfl rfl ?_
          simp -implicitDefEqProofs (maxSteps := 2000000) only [c24, ↓reduceIte, s_ops0, s_seq, s_opsK, s_seqK_n, s_nil, s_cons, s_wopsK, e_t, e_put, e_get, e_res, e_keep_n, e_keep_c, e_keep1_s, Option.getD_some, Nat.reduceEqDiff, Nat.reduceAdd, Bool.false_eq_true, outV, ownsV, owns1, ownL, List.map_cons, List.map_nil, PV.leaves, List.flatMap_cons, List.flatMap_nil, List.append_nil, Bool.and_self, Nat.reduceMul, BEq.rfl, List.getElem?_cons_zero, Option.bind_some, ol_ni, m_lf, m_n, m_c, d_n, d_c, dw_n, ta_t, fc_lo, fc_t, kl_i, kl_s, kl_lr, kl_lo, kl_t, kf_s, cp_st, dw_t0, pc_t, o_callp, v_callp, isC, cplc, Nat.reduceMod, Nat.reduceDiv]
          refine pcall_i (r46 _ (Or.inr rfl) _) rfl rfl ?_
          simp -implicitDefEqProofs (maxSteps := 2000000) only [c24, w1, b10, ↓reduceIte, s_skip, s_ret, s_ops0, s_seq, s_cond, s_opsK, s_seqK_n, s_seqK_r, s_blkK_n, s_blkK_r, s_loopK_n, s_loopK_r, s_cnd, s_nil, s_cons, s_wopsK, s_putK, o_mv, o_as, o_bin, v_add, v_gtr, e_t, e_k, e_put, e_get, e_res, e_keep_n, e_keep_c, e_keep1_s, e_asg_i, e_asg_s, List.length_nil, List.length_cons, Option.getD_some, Nat.reduceEqDiff, Nat.reduceAdd, true_and, and_true, Bool.false_eq_true, decide_eq_true_eq, s_ret_r, s_retX, s_cells_n, t_tp, t_n, t_c, t_1l, t_i, t_s, r_n, r_t, r_cons, one_2, outV, ownsV, owns1, ownL, List.map_cons, List.map_nil, List.nil_append, Bool.and_true, Bool.true_and, Bool.and_self, Nat.reduceMul, BEq.rfl, ol_i, m_lf, m_n, m_c, e_head, e_headK, kC_n, kC_c, pO_n, pO_i, pO_l, d_n, d_c, List.range_zero, List.length_append, Nat.zero_add, fc_lo, fc_t, kl_i, kl_s, kl_lr, kl_lo, kl_t, kf_s, cp_st, pO_tt, isC, cplc, Nat.reduceMod, Nat.reduceDiv]
          with_reducible refine ite_pr (fun h1 => ?_) (fun h1 => ?_)
          · rw [if_pos (by omega)] at hr
            rw [← hr]; exact ⟨rfl, rfl⟩
          · rw [List.append_assoc]
            exact ihk _ (by simp only [List.length_append, List.length_cons, List.length_nil]; omega) (by simp only [List.length_append, List.length_cons, List.length_nil]; omega) hg
    refine R_i [] [] c24_ok rfl (by simp) ?_
    simp -implicitDefEqProofs (maxSteps := 2000000) only [c24, ↓reduceIte, s_ops0, s_seq, s_opsK, s_seqK_n, s_nil, s_cons, s_wopsK, o_mv, o_as, o_call, e_t, e_k, e_put, e_get, e_res, e_keep_n, e_keep_c, e_keep1_s, e_asg_i, e_asg_s, St.init, enum, List.length_nil, Option.getD_some, reduceCtorEq, List.map_cons, List.map_nil, PV.leaves, List.flatMap_cons, List.flatMap_nil, List.append_nil, rl_l, m_lf]
    refine wcall_s h28 rfl rfl ?_
    simp -implicitDefEqProofs (maxSteps := 2000000) only [c24, h, hl, ↓reduceIte, s_skip, s_ret, s_ops0, s_seq, s_cond, s_block, s_loop, s_opsK, s_seqK_n, s_seqK_r, s_cnd, s_nil, s_cons, s_wopsK, s_putK, o_mv, o_as, o_bin, v_neq, o_ext, v_ext0, v_ext1, o_len, v_len, e_t, e_k, e_put, e_get, e_res, e_keep_n, e_keep_c, e_keep1_s, e_asg_i, e_asg_s, Option.getD_some, Nat.reduceEqDiff, reduceCtorEq, true_and, and_true, Bool.false_eq_true, decide_eq_true_eq, s_ret_r, s_retX, s_cells_n, t_tp, t_n, t_c, t_1l, t_i, t_s, r_n, r_t, r_cons, one_2, St.clr, outV, ownsV, owns1, ownL, List.map_cons, List.map_nil, List.any_cons, List.any_nil, Bool.or_self, List.nil_append, Bool.and_true, Bool.true_and, Nat.zero_le, kc_b, kc_i, ol_i, kc_l, m_lf, m_tp, m_1l, m_n, m_c, m_all, e_head, e_headK, kC_n, kC_c, pO_n, pO_i, pO_l, d_n, List.range_zero, ne_eq, ite_not, pO_tt, o_alt]
    intro _
    exact key code 0 [] .nilp rfl (.inl rfl) (by simp) (by simp) hG
  · rw [if_pos h] at hr
    subst hr
    refine R_i [] [] c24_ok rfl (by simp) ?_
    simp -implicitDefEqProofs (maxSteps := 2000000) only [c24, ↓reduceIte, s_ops0, s_seq, s_opsK, s_seqK_n, s_nil, s_cons, s_wopsK, o_mv, o_as, o_call, e_t, e_k, e_put, e_get, e_res, e_keep_n, e_keep_c, e_keep1_s, e_asg_i, e_asg_s, St.init, enum, List.length_nil, Option.getD_some, reduceCtorEq, List.map_cons, List.map_nil, PV.leaves, List.flatMap_cons, List.flatMap_nil, List.append_nil, rl_l, m_lf]
    refine wcall_s h28 rfl rfl ?_
    simp -implicitDefEqProofs (maxSteps := 2000000) only [c24, h, ↓reduceIte, s_ret, s_ops0, s_seq, s_cond, s_opsK, s_seqK_n, s_seqK_r, s_cnd, s_nil, s_cons, s_wopsK, s_putK, o_mv, o_as, o_bin, v_neq, o_ext, v_ext0, v_ext1, e_t, e_k, e_put, e_get, e_res, e_keep_n, e_keep_c, e_keep1_s, e_asg_i, e_asg_s, Option.getD_some, Nat.reduceEqDiff, reduceCtorEq, and_true, Bool.false_eq_true, decide_eq_true_eq, s_ret_r, s_retX, s_cells_n, t_tp, t_n, t_c, t_1l, t_i, t_s, r_n, r_t, r_cons, one_2, St.clr, outV, ownsV, owns1, ownL, List.map_cons, List.map_nil, List.any_cons, List.any_nil, Bool.or_self, Bool.and_true, ol_i, m_tp, m_1l, ne_eq, not_false_eq_true]
    done
end Go.Proofs.YthcpaohmajjopaaDoor.I
set_option linter.unusedVariables false
set_option linter.unusedSimpArgs false
namespace Go.Proofs.YthcpaohmajjopaaDoor.I
open Go Go.Proofs.YthcpaohmajjopaaDoor.AM
variable {X : Cx}
theorem goB_mono : ∀ (q : List Ins) (acc : List UInt8), acc.length ≤ (goB q acc).length
  | [], acc => Nat.le_refl _
  | x :: q, acc => by
    simp only [goB]
    split
    · have := goB_mono q (acc ++ insB x)
      simp only [List.length_append] at this
      omega
    · exact Nat.le_refl _
set_option maxHeartbeats 1000000 in
theorem r22 (hX : X.G 1 = some usesL) (code : List Ins) (hok : ∀ x ∈ code, x.ok) (sp : List (List L)) (r : ByteArray × Int) (hr : bytesA code = r) :
    R X Tryd.prog 22 [.lf (.lst .ro 9 (code.map Ins.c) sp)] [] (.tp [.lf (.str r.1), .lf (.int .i64 r.2)]) [] := by
  have h28 := r28x (X := X) hX code sp
  have hl : (code.map Ins.c).length = code.length := List.length_map _
  unfold bytesA at hr
  by_cases h : (chk capX code).2 = 0
  · rw [if_neg (by omega)] at hr
    have hfit := fit_all h
    have hlen := (chk_ok h).len
    generalize hG : goB code (numB code.length) = G at hr
    have key : ∀ (q : List Ins) (i : Nat) (acc : List UInt8), code.drop i = q → acc.length ≤ 1048576 → goB q acc = G → LoopAt X Tryd.prog c22_13 [6, 25, 26, 27]
        (blkK 0 (seqK X Tryd.prog c22_17 (retS [] [] 0 [RV.t 2, RV.t 3] (PV.tp [PV.lf (L.str r.fst), PV.lf (L.int IntKind.i64 r.snd)]) [])))
        { m := 0, tm := [(6, PV.lf (L.lst (Tag.own 768 5) 1 (ub acc) [])), (25, PV.lf (L.lst Tag.ro 9 (List.map Ins.c code) sp)), (26, PV.lf (L.int IntKind.i64 code.length)), (27, PV.lf (L.int IntKind.i64 i))], ce := [] } := by
      intro q
      induction q with
      | nil =>
        intro i acc hq ha hg
        have hi : code.length ≤ i := by simpa using hq
        have hn : ¬ (i : Int) < (code.length : Int) := by omega
        simp only [goB] at hg
        rw [← hg, if_neg (by omega)] at hr
        rw [← hr]
        intro Z hZ; apply hZ
        simp -implicitDefEqProofs (maxSteps := 2000000) only [c22, hn, decide_false, v_cbs_ub, ↓reduceIte, s_exit, s_ret, s_ops0, s_seq, s_cond, s_opsK, s_seqK_n, s_seqK_e, s_blkK_e, s_loopK_e, s_cnd, s_nil, s_cons, s_wopsK, s_putK, o_mv, o_as, o_bin, v_lss, o_cbs, e_t, e_k, e_put, e_get, e_res, e_keep_n, e_keep_c, e_keep1_s, e_asg_i, e_asg_s, Option.getD_some, Nat.reduceEqDiff, and_true, Bool.false_eq_true, s_ret_r, s_retX, s_cells_n, t_tp, t_n, t_c, t_1l, t_i, t_s, r_n, r_t, r_cons, one_2, Bool.and_true, v_cbs_ub]
        done
      | cons x q ih =>
        intro i acc hq ha hg
        have hi : i < code.length := by
          rcases Nat.lt_or_ge i code.length with h | h
          · exact h
          · rw [List.drop_eq_nil_of_le h] at hq; cases hq
        have hx : code[i]? = some x := by rw [← List.head?_drop, hq]; rfl
        have hq' : code.drop (i + 1) = q := by rw [← List.tail_drop, hq]; rfl
        have hmem := List.mem_of_getElem? hx
        have hf := hfit x hmem
        have hlt : (i : Int) < (code.length : Int) := by omega
        have hbl := insB_len hf
        have hput := put_ins hf.op
        have h38 := r38 (X := X) hX x hf.op (hok x hmem) hf.t acc (by omega)
        rw [hput] at h38
        have hget : (code.map Ins.c).getD i [] = x.c := by rw [List.getD_eq_getElem?_getD, List.getElem?_map, hx]; rfl
        have w1 : IntKind.i64.wrap ((i : Int) + 1) = ((i + 1 : Nat) : Int) := by rw [w64 (by omega) (by omega)]; omega
        have hgc : x.c = [.int .i64 x.op, .int .i64 x.a, .int .i64 x.b, .int .i64 x.n, .str x.t, .int .u64 x.s0, .int .u64 x.s1, .int .u64 x.s2, .int .u64 x.s3] := rfl
        rw [hgc] at hget h38
        have ihk := ih (i + 1) (acc ++ insB x) hq'
        have hmono := goB_mono q (acc ++ insB x)
        simp only [goB] at hg
        rw [if_pos ha] at hg
        rw [hg] at hmono
        simp only [List.length_append] at hmono
        intro Z hZ; apply hZ
        simp -implicitDefEqProofs (maxSteps := 2000000) only [c22, hl, hlt, Int.toNat_natCast, v_ld_e, hget, decide_true, ↓reduceIte, s_skip, s_ops0, s_seq, s_cond, s_block, s_opsK, s_seqK_n, s_cnd, s_nil, s_cons, s_wopsK, s_putK, o_mv, o_bin, v_lss, v_part_t, o_al, o_ia, v_ia, o_ld, v_ld_p, v_ldC, o_st, v_st_p, v_stCK, o_call, e_t, e_put, e_get, e_res, e_keep_n, e_keep_c, e_keep1_s, List.length_nil, List.length_cons, Option.getD_some, Nat.reduceEqDiff, Nat.reduceAdd, true_and, List.map_cons, List.map_nil, PV.leaves, List.flatMap_cons, List.flatMap_nil, List.append_nil, List.cons_append, List.nil_append, List.all_cons, List.all_nil, Bool.true_and, Bool.and_self, PV.cells, cellL, fillL, Nat.zero_le, Nat.le_refl, List.take_zero, List.drop_zero, List.take_succ_cons, List.drop_succ_cons, List.drop_nil, List.take_nil, kc_b, kc_i, kc_s, rl_i, rl_s, kc_l, rl_l, m_lf, m_ag, m_n, m_c, m_all, st_b, d_n, d_c, Nat.zero_add, kc_er]
        refine ⟨⟨by omega, by omega⟩, by omega, ?_⟩
        refine wcall_m [] 0 rfl rfl h38 rfl rfl (flat_ub _) ?_
        simp -implicitDefEqProofs (maxSteps := 2000000) only [c22, ub_len, List.length_append, w1, ↓reduceIte, s_skip, s_ret, s_ops0, s_seq, s_cond, s_opsK, s_seqK_n, s_seqK_r, s_blkK_n, s_blkK_r, s_loopK_n, s_loopK_r, s_cnd, s_nil, s_cons, s_wopsK, s_putK, o_mv, o_as, o_bin, v_add, v_gtr, o_len, v_len, e_t, e_k, e_put, e_get, e_res, e_keep_n, e_keep_c, e_keep1_s, e_asg_i, e_asg_s, Option.getD_some, Nat.reduceEqDiff, Nat.reduceAdd, true_and, and_true, Bool.false_eq_true, decide_eq_true_eq, s_ret_r, s_retX, s_cells_n, t_tp, t_n, t_c, t_1l, t_i, t_s, r_n, r_t, r_cons, one_2, St.clr, outV, ownsV, owns1, ownL, List.map_cons, List.map_nil, List.append_nil, Bool.and_true, Bool.true_and, Nat.reduceMul, Nat.reduceBEq, BEq.rfl, kp_i, kp_s, kps_i, kps_s, kps_u, rk_i, rk_s, rk_u, kp_p, kp_lro, kps_p, kps_lro, rk_p, rk_lro, kp_lo, rk_lo, ol_lo, m_lf, m_ag, m_n, m_c, m_all, e_asg_o, e_head, e_headK, kC_n, pO_n, pO_i, pO_l, dw_n, List.range_zero, plT, List.length_append, Nat.add_zero, ub_len]
        intro _
        with_reducible refine ite_pr (fun h1 => ?_) (fun h1 => ?_)
        · rw [if_pos (by omega)] at hr
          rw [← hr]; exact ⟨rfl, rfl⟩
        · exact ihk (by simp only [List.length_append]; omega) hg Z hZ
    refine R_i [] [] c22_ok rfl (by simp) ?_
    simp -implicitDefEqProofs (maxSteps := 2000000) only [c22, ↓reduceIte, s_ops0, s_seq, s_opsK, s_seqK_n, s_nil, s_cons, s_wopsK, o_mv, o_as, o_call, e_t, e_k, e_put, e_get, e_res, e_keep_n, e_keep_c, e_keep1_s, e_asg_i, e_asg_s, St.init, enum, List.length_nil, Option.getD_some, reduceCtorEq, List.map_cons, List.map_nil, PV.leaves, List.flatMap_cons, List.flatMap_nil, List.append_nil, rl_l, m_lf]
    refine wcall_s h28 rfl rfl ?_
    simp -implicitDefEqProofs (maxSteps := 2000000) only [c22, h, hl, ↓reduceIte, s_skip, s_ret, s_ops0, s_seq, s_cond, s_block, s_loop, s_opsK, s_seqK_n, s_seqK_r, s_cnd, s_nil, s_cons, s_wopsK, s_putK, o_mv, o_as, o_bin, v_shr, v_neq, o_cvi, v_cvi, o_ext, v_ext0, v_ext1, o_bs, v_bsK, v_lit_n, v_lit_c, o_len, v_len, e_t, e_k, e_put, e_get, e_res, e_keep_n, e_keep_c, e_keep1_s, e_asg_i, e_asg_s, List.length_nil, List.length_cons, Option.getD_some, Nat.reduceEqDiff, Nat.reduceAdd, reduceCtorEq, true_and, and_true, Bool.false_eq_true, decide_eq_true_eq, s_ret_r, s_retX, s_cells_n, t_tp, t_n, t_c, t_1l, t_i, t_s, r_n, r_t, r_cons, one_2, St.clr, outV, ownsV, owns1, ownL, List.map_cons, List.map_nil, List.any_cons, List.any_nil, Bool.or_self, List.append_nil, List.cons_append, List.nil_append, List.all_cons, List.all_nil, Bool.and_true, Bool.true_and, Bool.and_self, PV.cells, datL, Nat.reduceMul, Nat.reduceBEq, Nat.reduceLeDiff, BEq.rfl, kp_b, kp_i, rk_b, rk_i, rl_i, ol_i, kp_lro, rk_lro, rk_lo, m_lf, m_tp, m_1l, m_n, m_c, m_all, e_asg_o, e_head, e_headK, kC_n, pO_n, pO_i, pO_l, dw_n, dw_i, List.range_zero, plT, ne_eq, lit_n, lit_c, List.reduceReplicate, List.set_cons_zero, List.set_cons_succ, Nat.reduceLT, Nat.lt_add_one, Nat.zero_add, Nat.add_zero, ite_not]
    intro _
    refine ⟨by decide, fun _ _ => ?_⟩
    have e8 : ((code.length : Nat) : Int).fdiv (2 ^ min (Int.toNat 8) IntKind.i64.bits) = (code.length : Int) / 256 := by
      rw [show IntKind.i64.bits = 64 from rfl]
      exact Int.fdiv_eq_ediv_of_nonneg _ (by decide)
    have e9 : ub (numB code.length) = [[L.int IntKind.u8 (IntKind.u8.wrap ((code.length : Int).fdiv (2 ^ min (Int.toNat 8) IntKind.i64.bits)))], [L.int IntKind.u8 (IntKind.u8.wrap code.length)]] := by
      rw [e8]
      simp [ub, wrap_u8, bytesL, numB]
    rw [← e9]
    exact key code 0 (numB code.length) rfl (by simp [numB]) hG
  · rw [if_pos h] at hr
    subst hr
    refine R_i [] [] c22_ok rfl (by simp) ?_
    simp -implicitDefEqProofs (maxSteps := 2000000) only [c22, ↓reduceIte, s_ops0, s_seq, s_opsK, s_seqK_n, s_nil, s_cons, s_wopsK, o_mv, o_as, o_call, e_t, e_k, e_put, e_get, e_res, e_keep_n, e_keep_c, e_keep1_s, e_asg_i, e_asg_s, St.init, enum, List.length_nil, Option.getD_some, reduceCtorEq, List.map_cons, List.map_nil, PV.leaves, List.flatMap_cons, List.flatMap_nil, List.append_nil, rl_l, m_lf]
    refine wcall_s h28 rfl rfl ?_
    simp -implicitDefEqProofs (maxSteps := 2000000) only [c22, h, ↓reduceIte, s_ret, s_ops0, s_seq, s_cond, s_opsK, s_seqK_n, s_seqK_r, s_cnd, s_nil, s_cons, s_wopsK, s_putK, o_mv, o_as, o_bin, v_neq, o_ext, v_ext0, v_ext1, e_t, e_k, e_put, e_get, e_res, e_keep_n, e_keep_c, e_keep1_s, e_asg_i, e_asg_s, Option.getD_some, Nat.reduceEqDiff, reduceCtorEq, and_true, Bool.false_eq_true, decide_eq_true_eq, s_ret_r, s_retX, s_cells_n, t_tp, t_n, t_c, t_1l, t_i, t_s, r_n, r_t, r_cons, one_2, St.clr, outV, ownsV, owns1, ownL, List.map_cons, List.map_nil, List.any_cons, List.any_nil, Bool.or_self, Bool.and_true, ol_i, m_tp, m_1l, ne_eq, not_false_eq_true]
    done
end Go.Proofs.YthcpaohmajjopaaDoor.I
set_option maxRecDepth 100000
namespace Go.Proofs.YthcpaohmajjopaaDoor.I
open Go Go.Proofs.YthcpaohmajjopaaDoor.AM
/-- harrow/harrowbook.KeptCode -/
abbrev c21_0 : AC := .seq (.ops 0 [⟨(some 5), .mv (.t 0), none⟩, ⟨(some 6), .mv (.t 1), none⟩, ⟨(some 7), .call 11 [(.t 5), (.t 6)], none⟩, ⟨(some 8), .mv (.t 7), none⟩, ⟨(some 9), .mv (.t 0), (some (8, true))⟩, ⟨(some 10), .mv (.t 1), (some (8, true))⟩, ⟨(some 11), .len (.t 10), (some (8, true))⟩, ⟨(some 12), .bin .add (.t 11) (.k (.lf (.int .i64 1))), (some (8, true))⟩, ⟨(some 13), .sll 9 (.t 9) none (some (.t 12)), (some (8, true))⟩, ⟨(some 14), .mv (.t 1), (some (8, true))⟩, ⟨(some 15), .len (.t 14), (some (8, true))⟩, ⟨(some 16), .ia (.t 13) (.t 15) 9, (some (8, true))⟩, ⟨(some 17), .ld (.t 16) 9 true, (some (8, true))⟩, ⟨(some 18), .bd [.int .i64 0, .int .i64 0, .int .i64 0, .int .i64 0, .str ⟨#[]⟩, .int .u64 0, .int .u64 0, .int .u64 0, .int .u64 0] [(0, 1, (.k (.lf (.int .i64 (-77)))))], (some (8, true))⟩, ⟨(some 19), .beq false [2, 2, 2, 2, 3, 2, 2, 2, 2] (.t 17) (.t 18), (some (8, true))⟩, ⟨(some 20), .pk (.t 8) (.t 19) (.k (.lf (.bool false))), none⟩, ⟨(some 4), .as 0 0 (.t 20), none⟩] [4]) .ret
abbrev c21_1 : AC := .seq (.ops 0 [⟨(some 4), .as 0 0 (.k (.lf (.bool false))), none⟩] [0, 1]) c21_0
abbrev c21 : AC := c21_1
theorem c21_ok : compileFn Tryd.prog 21 = some (21, AC.strip c21, [.t 4]) := by kernel_rfl
end Go.Proofs.YthcpaohmajjopaaDoor.I
set_option linter.unusedVariables false
set_option linter.unusedSimpArgs false
namespace Go.Proofs.YthcpaohmajjopaaDoor.I
open Go Go.Proofs.YthcpaohmajjopaaDoor.AM
variable {X : Cx}
end Go.Proofs.YthcpaohmajjopaaDoor.I
set_option linter.unusedVariables false
set_option linter.unusedSimpArgs false
namespace Go.Proofs.YthcpaohmajjopaaDoor.I
open Go Go.Proofs.YthcpaohmajjopaaDoor.AM
variable {X : Cx}
/-- the spare instruction behind a lent code -/
def spI : List L := [.int .i64 (-77), .int .i64 0, .int .i64 0, .int .i64 0, .str ⟨#[]⟩, .int .u64 0, .int .u64 0, .int .u64 0, .int .u64 0]
theorem r14 (code : List Ins) (sp : List (List L)) (hl80 : code.length * 80 ≤ 140737488351232) :
    R X Tryd.prog 14 [.lf (.lst .ro 9 (code.map Ins.c) sp)] [] (.lf (.lst (.own 0 52) 9 (code.map Ins.c) [spI])) [] := by
  refine R_i [(0, 256)] [] c14_ok rfl (by simp) ?_
  have hl : (code.map Ins.c).length = code.length := List.length_map _
  have e1 : ((code.map Ins.c) ++ [spI]).take code.length = code.map Ins.c := List.take_left' hl
  have e2 : ((code.map Ins.c) ++ [spI]).drop code.length = [spI] := List.drop_left' hl
  simp -implicitDefEqProofs (maxSteps := 2000000) only [c14, hl, ↓reduceIte, s_ret, s_ops0, s_seq, s_opsK, s_seqK_n, s_nil, s_cons, s_wopsK, s_putK, o_mv, o_as, o_bd, v_agK, v_bd_n, v_bd_c, o_bs, v_bsK, v_lit_n, v_lit_c, o_len, v_len, o_app, v_app_o, o_sll, v_sll_b, e_t, e_k, e_put, e_get, e_res, e_keep_n, e_keep_c, e_keep1_s, St.init, enum, List.length_nil, List.length_cons, Option.getD_some, Option.map_some, Option.map_none, Nat.reduceEqDiff, Nat.reduceAdd, reduceCtorEq, true_and, and_true, Bool.false_eq_true, s_ret_r, s_retX, s_cells_n, t_lf, t_l, t_oo, r_n, r_t, r_cons, one_1, List.map_cons, List.map_nil, Bool.or_false, Bool.false_or, List.append_nil, List.cons_append, List.nil_append, List.all_cons, List.all_nil, Bool.and_true, Bool.true_and, Bool.and_self, PV.cells, cellL, datL, fillL, Nat.reduceMul, Nat.reduceBEq, Nat.reduceLeDiff, Nat.zero_le, BEq.rfl, List.take_zero, List.drop_zero, List.drop_succ_cons, kp_i, kp_s, kp_u, rk_i, rk_s, rk_u, rl_i, rl_s, kp_lro, rk_lro, kp_lo, rk_lo, m_lf, m_ag, m_n, m_c, m_all, e_asg_n, e_asg_o, dw_n, dw_i, dw_s, plT, ne_eq, not_false_eq_true, Int.reduceNeg, lit_n, lit_c, List.reduceReplicate, List.set_cons_zero, List.length_append, Nat.lt_add_one, Nat.zero_add, Nat.add_zero, true_or, or_false, false_or]
  rw [Int.toNat_natCast]
  exact ⟨by omega, by omega, fun _ => ⟨⟨by omega, by omega⟩, e1, e2.symm⟩⟩
theorem r21 (code : List Ins) (sp sp' : List (List L)) (hl80 : code.length * 80 ≤ 140737488351232) :
    R X Tryd.prog 21 [.lf (.lst .ro 9 (code.map Ins.c) (spI :: sp)), .lf (.lst .ro 9 (code.map Ins.c) sp')] [] (.lf (.bool true)) [] := by
  refine R_i [] [] c21_ok rfl (by simp) ?_
  have hl : (code.map Ins.c).length = code.length := List.length_map _
  have h11 := r11 (X := X) code code (spI :: sp) sp'
  rw [sameL_self] at h11
  have w1 : IntKind.i64.wrap ((code.length : Int) + 1) = ((code.length + 1 : Nat) : Int) := by rw [w64 (by omega) (by omega)]; omega
  have e0 : code.map Ins.c ++ spI :: sp = (code.map Ins.c ++ [spI]) ++ sp := by simp
  have e1 : (code.map Ins.c ++ spI :: sp).take (code.length + 1) = code.map Ins.c ++ [spI] := by rw [e0]; exact List.take_left' (by simp)
  have e2 : (code.map Ins.c ++ spI :: sp).drop (code.length + 1) = sp := by rw [e0]; exact List.drop_left' (by simp)
  have e3 : (code.map Ins.c ++ [spI]).getD code.length [] = [.int .i64 (-77), .int .i64 0, .int .i64 0, .int .i64 0, .str ⟨#[]⟩, .int .u64 0, .int .u64 0, .int .u64 0, .int .u64 0] := by
    rw [List.getD_eq_getElem?_getD, List.getElem?_append_right (by rw [hl]; exact Nat.le_refl _), hl]; simp; rfl
  have e4 : (code.map Ins.c ++ [spI]).length = code.length + 1 := by rw [List.length_append, hl]; rfl
  simp -implicitDefEqProofs (maxSteps := 2000000) only [c21, hl, ↓reduceIte, s_ops0, s_seq, s_opsK, s_seqK_n, s_nil, s_cons, s_wopsK, o_mv, o_as, o_call, e_t, e_k, e_put, e_get, e_res, e_keep_n, e_keep_c, e_keep1_s, e_asg_b, St.init, enum, List.length_nil, Option.getD_some, Nat.reduceEqDiff, reduceCtorEq, List.map_cons, List.map_nil, PV.leaves, List.flatMap_cons, List.flatMap_nil, List.append_nil, List.cons_append, List.nil_append, rl_l, m_lf, Int.reduceNeg, Nat.zero_add]
  refine wcall_s h11 rfl rfl ?_
  simp -implicitDefEqProofs (maxSteps := 2000000) only [c21, hl, w1, Int.toNat_natCast, e1, e2, e3, e4, v_ld_e, ↓reduceIte, s_ret, s_opsK, s_seqK_n, s_nil, s_cons, s_guard, s_wopsK, s_putK, s_grd, q_mv, q_bin, q_beq, q_ia, q_ld, q_bd, q_len, q_sll, o_mv, o_as, o_pk, v_pk, o_bin, v_add, o_beq, v_part_t, o_ia, v_ia, o_ld, o_bd, v_agK, v_bd_n, v_bd_c, o_len, v_len, o_sll, v_sll_b, e_t, e_k, e_put, e_get, e_res, e_keep_n, e_keep_c, e_keep1_s, e_asg_b, List.length_nil, List.length_cons, Option.getD_some, Option.map_some, Option.map_none, Nat.reduceEqDiff, Nat.reduceAdd, reduceCtorEq, true_and, and_true, cond_false, Bool.false_eq_true, decide_eq_true_eq, s_ret_r, s_retX, s_cells_n, t_lf, t_b, r_n, r_t, r_cons, one_1, St.clr, outV, ownsV, owns1, ownL, List.map_cons, List.map_nil, List.cons_append, List.nil_append, List.all_cons, List.all_nil, Bool.and_true, Bool.true_and, Bool.and_self, PV.cells, cellL, fillL, Nat.reduceLeDiff, Nat.le_refl, List.take_zero, List.drop_zero, List.take_succ_cons, List.drop_succ_cons, List.take_nil, ol_b, m_lf, ne_eq, not_false_eq_true, Int.reduceNeg, Nat.lt_add_one, Nat.zero_add, v_beqK, v_andO, v_beqA, q_i, q_s, q_1, q_c, kd_i, kd_s]
  intro _
  refine ⟨⟨by omega, by omega⟩, ?_⟩
  intro _
  omega
end Go.Proofs.YthcpaohmajjopaaDoor.I
set_option linter.unusedVariables false
namespace Go.Proofs.YthcpaohmajjopaaDoor.I
open Go Go.Proofs.YthcpaohmajjopaaDoor.AM
theorem code_of80 {ls : List L} (h : WT Tryd.prog 22 ls) : ∃ (code : List Ins) (sp : List (List L)), ls = [.lst .ro 9 (code.map Ins.c) sp] ∧ (∀ x ∈ code, x.ok) ∧ code.length * 80 ≤ 140737488351232 := by
  obtain ⟨xs, sp, rfl, hb, hm, hx⟩ := h.inv_lst Tryd.underlying22
  obtain ⟨code, rfl, hc⟩ := code_list xs (fun x h => by
    obtain ⟨i, hi⟩ := List.getElem?_of_mem h
    exact ins_of (hx i x (by
      rw [List.getElem?_append_left]
      · exact hi
      · exact (List.getElem?_eq_some_iff.1 hi).1)))
  have h9 : Tryd.prog.cellsOf 52 = 9 := by kernel_rfl
  have hbb : Tryd.prog.bytesOf 52 = 80 := by kernel_rfl
  rw [hbb] at hb
  refine ⟨code, sp, by rw [h9], hc, ?_⟩
  simp only [List.length_map] at hb
  omega
end Go.Proofs.YthcpaohmajjopaaDoor.I
set_option linter.unusedVariables false
set_option linter.unusedSimpArgs false
namespace Go.Proofs.YthcpaohmajjopaaDoor.I
open Go Go.Proofs.YthcpaohmajjopaaDoor.AM
variable {X : Cx}
theorem r7 (hX : HX X) (code : List Ins) (hok : ∀ x ∈ code, x.ok) (sp : List (List L)) (hl80 : code.length * 80 ≤ 140737488351232) :
    R X Tryd.prog 7 [.lf (.lst .ro 9 (code.map Ins.c) sp)] [] (.lf (.bool true)) [] := by
  have h9 := r9 (X := X) hX.h1
  have h14 := r14 (X := X) code sp hl80
  have h21 := r21 (X := X) code [] sp hl80
  have h22 := r22 hX.h1 code hok [spI] _ rfl
  have h23 := r23 (X := X) code hok sp _ rfl
  have h24 := r24 hX code hok [spI] _ rfl
  have h25 := r25 (X := X) code hok sp _ rfl
  generalize bytesA code = B at *
  generalize listA code = C at *
  refine R_i [] [] c7_ok rfl (by simp) ?_
  simp -implicitDefEqProofs (maxSteps := 2000000) only [c7, ↓reduceIte, s_ops0, s_seq, s_opsK, s_seqK_n, s_nil, s_cons, s_wopsK, o_mv, o_as, o_call, e_t, e_k, e_put, e_get, e_res, e_keep_n, e_keep_c, e_keep1_s, e_asg_b, St.init, enum, List.length_nil, Option.getD_some, reduceCtorEq, List.map_cons, List.map_nil, PV.leaves, List.flatMap_cons, List.flatMap_nil, List.append_nil, rl_l, m_lf]
  refine wcall_down h14 rfl ?_
  simp -implicitDefEqProofs (maxSteps := 2000000) only [c7, ↓reduceIte, s_ops0, s_seq, s_opsK, s_seqK_n, s_nil, s_cons, s_wopsK, o_mv, o_as, o_call, e_t, e_put, e_get, e_res, e_keep_n, e_keep_c, e_keep1_s, Option.getD_some, Nat.reduceAdd, reduceCtorEq, Bool.false_eq_true, St.clr, outV, ownsV, owns1, ownL, List.map_cons, List.map_nil, PV.leaves, List.flatMap_cons, List.flatMap_nil, List.append_nil, Nat.reduceMul, Nat.reduceBEq, BEq.rfl, kps_lro, rk_lro, rk_lo, rl_l, ol_lo, m_lf, m_n, m_c, m_all, e_asg_o, dw_n, dw_lr, plT, Nat.add_zero]
  refine wcall_s h22 rfl rfl ?_
  simp -implicitDefEqProofs (maxSteps := 2000000) only [c7, ↓reduceIte, s_ops0, s_seq, s_opsK, s_seqK_n, s_nil, s_cons, s_wopsK, s_putK, o_mv, o_as, o_ext, v_ext0, v_ext1, o_call, e_t, e_put, e_get, e_res, e_keep_n, e_keep_c, e_keep1_s, e_asg_i, e_asg_s, Option.getD_some, Nat.reduceEqDiff, reduceCtorEq, Bool.false_eq_true, St.clr, outV, ownsV, owns1, ownL, List.map_cons, List.map_nil, List.any_cons, List.any_nil, Bool.or_self, PV.leaves, List.flatMap_cons, List.flatMap_nil, List.append_nil, ol_i, ol_s, rl_l, m_lf, m_tp, m_1l]
  refine wcall_s h23 rfl rfl ?_
  simp -implicitDefEqProofs (maxSteps := 2000000) only [c7, ↓reduceIte, s_ops0, s_seq, s_opsK, s_seqK_n, s_nil, s_cons, s_wopsK, s_putK, o_mv, o_as, o_ext, v_ext0, v_ext1, o_call, e_t, e_put, e_get, e_res, e_keep_n, e_keep_c, e_keep1_s, e_asg_i, e_asg_s, Option.getD_some, Nat.reduceEqDiff, reduceCtorEq, Bool.false_eq_true, St.clr, outV, ownsV, owns1, ownL, List.map_cons, List.map_nil, List.any_cons, List.any_nil, Bool.or_self, PV.leaves, List.flatMap_cons, List.flatMap_nil, List.append_nil, ol_i, ol_s, rl_l, m_lf, m_tp, m_1l]
  refine wcall_s h24 rfl rfl ?_
  simp -implicitDefEqProofs (maxSteps := 2000000) only [c7, ↓reduceIte, s_ops0, s_seq, s_opsK, s_seqK_n, s_nil, s_cons, s_wopsK, s_putK, o_mv, o_as, o_ext, v_ext0, v_ext1, o_call, e_t, e_put, e_get, e_res, e_keep_n, e_keep_c, e_keep1_s, e_asg_i, e_asg_s, Option.getD_some, Nat.reduceEqDiff, reduceCtorEq, Bool.false_eq_true, St.clr, outV, ownsV, owns1, ownL, List.map_cons, List.map_nil, List.any_cons, List.any_nil, Bool.or_self, PV.leaves, List.flatMap_cons, List.flatMap_nil, List.append_nil, ol_i, ol_s, rl_l, m_lf, m_tp, m_1l]
  refine wcall_s h25 rfl rfl ?_
  simp -implicitDefEqProofs (maxSteps := 2000000) only [c7, ↓reduceIte, s_ops0, s_seq, s_opsK, s_seqK_n, s_nil, s_cons, s_wopsK, s_putK, o_mv, o_as, o_ext, v_ext0, v_ext1, o_call, e_t, e_put, e_get, e_res, e_keep_n, e_keep_c, e_keep1_s, e_asg_i, e_asg_s, Option.getD_some, Nat.reduceEqDiff, reduceCtorEq, Bool.false_eq_true, St.clr, outV, ownsV, owns1, ownL, List.map_cons, List.map_nil, List.any_cons, List.any_nil, Bool.or_self, PV.leaves, List.flatMap_nil, ol_i, ol_s, m_tp, m_1l]
  refine wcall_s h9 rfl rfl ?_
  simp -implicitDefEqProofs (maxSteps := 2000000) only [c7, ↓reduceIte, s_cons, s_guard, s_wopsK, s_putK, s_grd, q_call, q_mv, q_bin, o_mv, o_pk, v_pk, o_bin, v_eql, v_seql, o_call, e_t, e_k, e_put, e_get, Option.getD_some, Nat.reduceEqDiff, reduceCtorEq, cond_false, Bool.false_eq_true, decide_eq_true_eq, St.clr, outV, ownsV, owns1, ownL, List.map_cons, List.map_nil, PV.leaves, List.flatMap_cons, List.flatMap_nil, List.append_nil, List.cons_append, List.nil_append, ol_b, rl_l, m_lf]
  refine wcall_s h21 rfl rfl ?_
  simp -implicitDefEqProofs (maxSteps := 2000000) only [c7, ↓reduceIte, s_ret, s_opsK, s_seqK_n, s_nil, s_cons, s_wopsK, s_putK, o_as, o_pk, v_pk, e_t, e_k, e_put, e_get, e_res, e_keep_n, e_keep_c, e_keep1_s, e_asg_b, Option.getD_some, Nat.reduceEqDiff, and_true, Bool.false_eq_true, s_ret_r, s_retX, s_cells_n, t_lf, t_b, r_n, r_t, r_cons, one_1, St.clr, outV, ownsV, owns1, ownL, Bool.and_true, ol_b, m_lf]
  done
end Go.Proofs.YthcpaohmajjopaaDoor.I
set_option linter.unusedVariables false
namespace Go.Proofs.YthcpaohmajjopaaDoor.I
open Go Go.Proofs Go.Proofs.YthcpaohmajjopaaDoor.AM
def cxW : Cx := ⟨fun g => if g = 0 then some namesL else if g = 1 then some usesL else if g = 2 then some powL else if g = 3 then some deBL else none⟩
theorem cxW_h : HX cxW := ⟨rfl, rfl, rfl, rfl⟩
theorem namesL_is : namesL = nameT.map fun n => L.str ⟨n.toArray⟩ := by
  unfold namesL
  apply List.ext_getElem?
  intro i
  by_cases h : i < 21
  · have h2 : i < nameT.length := by have : nameT.length = 21 := rfl; omega
    simp [h, nameF, List.getElem?_eq_getElem h2]
  · have h2 : nameT.length ≤ i := by have : nameT.length = 21 := rfl; omega
    simp [h, List.getElem?_eq_none h2]
theorem names_glob {w : World} {fuel : Nat} {cs : Array Value} {ps : List MemPlace} {d : DataW Unit} (hv : w.var? Tryd.prog "harrow/instr.names" = some cs)
    (h : DataW.trod (fun _ => ()) Tryd.prog w 0 (fun _ => true) false fuel 88 cs.toList = some (d, ps)) (hd : d = .agg (nameT.map fun n => .lit (.string n))) : GlobOK w 0 namesL := by
  subst hd
  rw [namesL_is]
  exact glob_strs (by kernel_rfl) hv (table_strs Tryd.underlying88 Tryd.underlying9 (by kernel_rfl) (by kernel_rfl) h) (by decide)
theorem pow_glob {w : World} {fuel : Nat} {cs : Array Value} {ps : List MemPlace} {d : DataW Unit} (hv : w.var? Tryd.prog "internal/strconv.uint64pow10" = some cs)
    (h : DataW.trod (fun _ => ()) Tryd.prog w 0 (fun _ => true) false fuel 153 cs.toList = some (d, ps)) (hd : d = .agg (Lib.pow10Tab.map fun n => .lit (.int .u64 n))) : GlobOK w 2 powL := by
  subst hd
  exact glob_ints (by kernel_rfl) hv (table_ints Tryd.underlying153 Tryd.underlying48 (by kernel_rfl) (by kernel_rfl) h) (by decide)
theorem deB_glob {w : World} {fuel : Nat} {cs : Array Value} {ps : List MemPlace} {d : DataW Unit} (hv : w.var? Tryd.prog "math/bits.deBruijn64tab" = some cs)
    (h : DataW.trod (fun _ => ()) Tryd.prog w 0 (fun _ => true) false fuel 155 cs.toList = some (d, ps)) (hd : d = .agg (Lib.deBruijn64tab.map fun n => .lit (.int .u8 (n : Nat)))) : GlobOK w 3 deBL := by
  have e : deBL = (Lib.deBruijn64tab.map fun n => ((n : Nat) : Int)).map (L.int .u8) := by rw [List.map_map]; rfl
  have e2 : d = .agg ((Lib.deBruijn64tab.map fun n => ((n : Nat) : Int)).map fun n => .lit (.int .u8 n)) := by rw [hd, List.map_map]; rfl
  subst e2
  rw [e]
  exact glob_ints (by kernel_rfl) hv (table_ints Tryd.underlying155 Tryd.underlying5 (by kernel_rfl) (by kernel_rfl) h) (by decide)
end Go.Proofs.YthcpaohmajjopaaDoor.I
