/- Contracts, part S2. -/
import Derived.Test.YtdoefdmaecaacaaGreatDoorS1
import Derived.Shelf.LaysM
import Derived.Shelf.Strconv.Itoa3
import Derived.Shelf.Spec.TrailingZeros
import Derived.Shelf.Strings.Repeat
import Derived.Shelf.Strings.Fields
import Derived.Below
import Derived.Test.YtdoefdmaecaacaaGreatDoorProg
import Derived.RangeFuncBox
import Derived.RangeFuncNested
import Derived.RangeFuncLeaves
import Derived.Shelf.Abstract
import Derived.WalkKit
import Derived.OwnWalkIn
import Derived.TacticsInMore
import Derived.LoopNIn
import Derived.LoopIn
import Derived.Maps.AppendAt
set_option linter.unusedVariables false
set_option linter.unusedSimpArgs false
namespace Go.Proofs.YtdoefdmaecaacaaGreatDoor.SL
open Go Go.Proofs.YtdoefdmaecaacaaGreatDoor.AM Go.Proofs.YtdoefdmaecaacaaGreatDoor.S
variable {X : Cx}
abbrev bl (p : L) (l : List UInt8) : List L := [p, .lst (.own 3 5) 1 (ub l) []]
theorem bytesL_ub (s : ByteArray) : bytesL s = ub s.data.toList := rfl
def frsh (x : L) : Prop := x = .nilp ∨ x = .tptr 0 0 56
theorem r83 (x : L) (hx : frsh x) (y : List UInt8) : R X Tryz.prog 83 [.lf (.tptr 0 0 56)] [bl x y] (.tp []) [bl (.tptr 0 0 56) y] := by
  refine R_i [(3, 3)] [] c83_ok rfl (by simp) ?_
  rcases hx with rfl | rfl
  · simp -implicitDefEqProofs (maxSteps := 2000000) only [c83,↓reduceIte,S0,o_st,v_stCK,St.init,enum,Nat.reduceEqDiff,Nat.reduceAdd,reduceCtorEq,Bool.not_false,s_ret_n,List.all_cons,List.all_nil,PV.cells,cellL,fillL,Nat.reduceLeDiff,List.take_zero,List.drop_zero,List.drop_succ_cons,Nat.reduceLT,Nat.lt_add_one,true_or,or_true,st_t1,o_peq,v_peq_nn,o_p2u,v_p2u,v_p2uK,o_u2p,v_u2p,v_u2pK,o_ex,v_exK,v_ex0,v_fa_t,v_ld_t,v_st_t,v_nc_t,t_tr,one_0]
    kernel_rfl
  · simp -implicitDefEqProofs (maxSteps := 2000000) only [c83,↓reduceIte,S0,St.init,enum,Nat.reduceEqDiff,reduceCtorEq,Bool.not_true,s_ret_n,Nat.lt_add_one,true_or,or_true,o_peq,v_peq_tn,v_peq_tt,v_fa_t,v_ld_t,v_nc_t,t_tr,one_0]
theorem r58 (x : L) (hx : frsh x) (y : List UInt8) (s : ByteArray) (hs : y.length + s.size ≤ 140737488355328) : R X Tryz.prog 58 [.lf (.tptr 0 0 56), .lf (.str s)] [bl x y] (.tp [.lf (.int .i64 s.size), .lf .nili]) [bl (.tptr 0 0 56) (y ++ s.data.toList)] := by
  refine R_i [(3, 3)] [] c58_ok rfl (by simp) ?_
  rcases hx with rfl | rfl
  all_goals
    simp -implicitDefEqProofs (maxSteps := 2000000) only [c58,↓reduceIte,S0,St.init,enum,Nat.reduceEqDiff,reduceCtorEq,PV.leaves,e_asg_ni]
    refine pcall_i (r83 _ (by simp [frsh, toC]) y) rfl rfl ?_
    simp -implicitDefEqProofs (maxSteps := 2000000) only [c58,↓reduceIte,S0,o_st,v_stCK,o_lns,v_lns,o_aps,v_aps_o,Nat.reduceEqDiff,Nat.reduceAdd,reduceCtorEq,t_ni,outV,ownsV,List.any_nil,List.all_cons,List.all_nil,PV.cells,cellL,fillL,Nat.reduceMul,Nat.reduceBEq,Nat.le_refl,List.take_zero,List.take_succ_cons,List.drop_succ_cons,List.drop_nil,kp_s,kp_u,kp_lo,e_asg_ni,st_lo,plT,plC,Nat.lt_add_one,true_or,or_true,kp_t,rk_t,fc_lo,fc_t,kl_np,ub_len,v_fa_t,v_ld_t,v_st_t,v_nc_t,t_tr,isC,cplc,Nat.reduceMod,Nat.reduceDiv]
    exact ⟨hs, by rw [bytesL_ub, ub_app]⟩
def b8 (c : Int) : UInt8 := UInt8.ofNat c.toNat
theorem b8_int {c : Int} (h0 : 0 ≤ c) (h1 : c ≤ 255) : ((b8 c).toNat : Int) = c := by
  have : (b8 c).toNat = c.toNat % 256 := rfl
  rw [this]; omega
theorem b8_of (c : UInt8) : b8 (c.toNat : Int) = c := by simp [b8]
theorem r87 (x : L) (hx : frsh x) (y : List UInt8) (c : Int) (h0 : 0 ≤ c) (h1 : c ≤ 255) (hs : y.length < 140737488355328) : R X Tryz.prog 87 [.lf (.tptr 0 0 56), .lf (.int .u8 c)] [bl x y] (.lf .nili) [bl (.tptr 0 0 56) (y ++ [b8 c])] := by
  refine R_i [(3, 3)] [] c87_ok rfl (by simp) ?_
  rw [← b8_int h0 h1, b8_of]
  rcases hx with rfl | rfl
  all_goals
    simp -implicitDefEqProofs (maxSteps := 2000000) only [c87,↓reduceIte,S0,St.init,enum,Nat.reduceEqDiff,reduceCtorEq,PV.leaves,e_asg_ni]
    refine pcall_i (r83 _ (by simp [frsh, toC]) y) rfl rfl ?_
    simp -implicitDefEqProofs (maxSteps := 2000000) only [c87,↓reduceIte,S0,o_st,v_stCK,o_bs,v_bsK,v_lit_n,v_lit_c,o_app,v_app_o,Nat.reduceEqDiff,Nat.reduceAdd,reduceCtorEq,t_ni,outV,ownsV,List.any_nil,Bool.or_false,List.all_cons,List.all_nil,PV.cells,cellL,datL,fillL,Nat.reduceMul,Nat.reduceBEq,Nat.reduceLeDiff,Nat.le_refl,List.take_zero,List.take_succ_cons,List.drop_succ_cons,List.drop_nil,kp_lo,e_asg_ni,st_lo,plT,plC,lit_n,lit_c,List.reduceReplicate,List.set_cons_zero,Nat.lt_add_one,true_or,or_true,or_false,kp_t,rk_t,fc_lo,fc_t,kl_np,ub_len,ub_snoc,v_fa_t,v_ld_t,v_st_t,v_nc_t,t_tr,isC,cplc,Nat.reduceMod,Nat.reduceDiv,kp_lk,rk_lk,lp_i,lp_lo,lp_t]
    omega
theorem r57 (x : L) (hx : frsh x) (y : List UInt8) : R X Tryz.prog 57 [.lf (.tptr 0 0 56)] [bl x y] (.lf (.int .i64 y.length)) [bl x y] := by
  refine R_i [(3, 3)] [] c57_ok rfl (by simp) ?_
  rcases hx with rfl | rfl
  all_goals
    simp -implicitDefEqProofs (maxSteps := 2000000) only [c57,↓reduceIte,S0,o_len,v_len,St.init,enum,reduceCtorEq,t_np,Nat.lt_add_one,true_or,or_true,implies_true,ub_len,v_fa_t,v_ld_t,v_nc_t,t_tr]
theorem r41 (x : L) (hx : frsh x) (y : List UInt8) (hy : 0 < y.length) : R X Tryz.prog 41 [.lf (.tptr 0 0 56)] [bl x y] (.lf (.str ⟨y.toArray⟩)) [[x, .undef]] := by
  refine R_i [] [] c41_ok rfl (by simp) ?_
  rcases hx with rfl | rfl
  all_goals
    simp -implicitDefEqProofs (maxSteps := 2000000) only [c41,↓reduceIte,S0,s_wopsqK,s_qnil,s_qcons,q_fa,q_ld,q_nc,q_len,o_len,v_len,St.init,enum,Nat.reduceEqDiff,reduceCtorEq,t_np,t_u,kp_np,kp_lo,Nat.lt_add_one,implies_true,kp_t,kp_eo,o_usd,v_usd,ub_len,o_ust,v_ust,s_reg,q_usd,v_fa_t,v_ld_t,v_nc_t,t_tr]
    exact hy
def hd (n : UInt8) : UInt8 := if n < 10 then 48 + n else 87 + n
def wb (c : UInt8) : List UInt8 :=
  if c = 10 then [92, 110] else if c = 13 then [92, 114] else if c = 9 then [92, 116] else if c = 39 ∨ c = 92 then [92, c]
  else if 32 ≤ c ∧ c ≤ 126 then [c] else [92, 120, hd (c / 16), hd (c % 16)]
theorem all8 {p : UInt8 → Prop} (h : ∀ n : Fin 256, p (UInt8.ofNat n.val)) (c : UInt8) : p c := by
  have := h ⟨c.toNat, c.toNat_lt⟩
  simpa using this
theorem sh4 : ∀ c : UInt8, ((c.toNat : Int).fdiv (2 ^ min (Int.toNat 4) IntKind.u8.bits)) = ((c / 16).toNat : Int) := all8 (by decide +kernel)
theorem an15 : ∀ c : UInt8, Go.bits .and .u8 (c.toNat : Int) 15 = ((c % 16).toNat : Int) := all8 (by decide +kernel)
theorem digs : ∀ c : UInt8, c < 16 → byteAt ⟨#[48, 49, 50, 51, 52, 53, 54, 55, 56, 57, 97, 98, 99, 100, 101, 102]⟩ (c.toNat : Int) = ((hd c).toNat : Int) := all8 (by decide +kernel)
theorem d16 : ∀ c : UInt8, c / 16 < 16 ∧ c % 16 < 16 ∧ (c / 16).toNat < 16 ∧ (c % 16).toNat < 16 := all8 (by decide +kernel)
theorem wb_int : ∀ c : UInt8, wb c = if (c.toNat : Int) = 10 then [92, 110] else if (c.toNat : Int) = 13 then [92, 114] else if (c.toNat : Int) = 9 then [92, 116] else if (c.toNat : Int) = 39 ∨ (c.toNat : Int) = 92 then [92, c]
      else if 32 ≤ (c.toNat : Int) ∧ (c.toNat : Int) ≤ 126 then [c] else [92, 120, hd (c / 16), hd (c % 16)] := all8 (by decide +kernel)
theorem b8_92 : b8 92 = 92 := rfl
theorem r88 (x : L) (hx : frsh x) (y : List UInt8) (c : UInt8) (hs : y.length < 140737488355000) : R X Tryz.prog 88 [.lf (.tptr 0 0 56), .lf (.int .u8 c.toNat)] [bl x y] (.tp []) [bl (.tptr 0 0 56) (y ++ wb c)] := by
  refine R_i [(3, 3)] [] c88_ok rfl (by simp) ?_
  have hc := c.toNat_lt
  have hw := wb_int c
  rw [hw]
  have q := d16 c
  have qa := digs (c / 16) q.1
  have qb := digs (c % 16) q.2.1
  have qc := (hd (c / 16)).toNat_lt
  have qd := (hd (c % 16)).toNat_lt
  rcases hx with rfl | rfl
  all_goals
    simp -implicitDefEqProofs (maxSteps := 2000000) only [c88,↓reduceIte,S0,v_leq,v_geq,St.init,enum,Nat.reduceEqDiff,reduceCtorEq,cond_false,Bool.not_true,Bool.not_false,Bool.true_eq_false,decide_eq_false_iff_not,PV.leaves,ite_not,ta_i,ta_s]
    repeat' (with_reducible refine ite_pr (fun _ => ?_) (fun _ => ?_))
    iterate 4
      all_goals try (first | refine pcall_i (r58 _ ?_ y _ ?_) rfl rfl ?_ | refine pcall_i (r87 _ ?_ _ _ ?_ ?_ ?_) rfl rfl ?_)
      all_goals try (first | exact Or.inl rfl | exact Or.inr rfl | omega | (simp only [ByteArray.size]; simp; omega) | (simp; omega))
      all_goals try simp -implicitDefEqProofs (maxSteps := 2000000) only [c88,sh4,an15,qa,qb,↓reduceIte,S0,v_and,v_shr,o_ixs,v_ixs,Nat.reduceEqDiff,Nat.reduceAdd,reduceCtorEq,s_ret_n,outV,ownsV,owns1,ownL,List.any_cons,List.any_nil,Bool.or_self,PV.leaves,Nat.reduceMul,ol_ni,m_1l,Nat.lt_add_one,true_or,or_true,ta_i,fc_lo,fc_t,kl_np,t_tr,isC,cplc,Nat.reduceMod,Nat.reduceDiv,one_0]
      all_goals try (refine ⟨by omega, ⟨by omega, ?_⟩, ?_⟩)
      all_goals try (refine ⟨⟨by omega, ?_⟩, ?_⟩)
      all_goals try (simp [ByteArray.size]; omega)
    all_goals try (congr 1; simp [*, b8_of, b8_92]; done)
    all_goals try (congr 1; simp [*, b8_of, b8_92]; apply UInt8.toNat_inj.1; simp [b8]; omega)
end Go.Proofs.YtdoefdmaecaacaaGreatDoor.SL
set_option linter.unusedVariables false
set_option linter.unusedSimpArgs false
namespace Go.Proofs.YtdoefdmaecaacaaGreatDoor.SL
open Go Go.Proofs.YtdoefdmaecaacaaGreatDoor.AM Go.Proofs.YtdoefdmaecaacaaGreatDoor.S
variable {X : Cx}
def body (l : List UInt8) : List UInt8 := l.flatMap wb
def quo (s : ByteArray) : ByteArray × Int :=
  if 65536 < s.size then (⟨#[]⟩, 2) else if 65536 < (39 :: body s.data.toList ++ [39]).length then (⟨#[]⟩, 2) else (⟨(39 :: body s.data.toList ++ [39]).toArray⟩, 0)
def btq (s : ByteArray) (k : Nat) : UInt8 := s.data.toList.getD k 0
theorem btq_int (s : ByteArray) (k : Nat) : byteAt s (k : Int) = ((btq s k).toNat : Int) := rfl
theorem body_take {s : ByteArray} {k : Nat} (h : k < s.size) : body (s.data.toList.take (k + 1)) = body (s.data.toList.take k) ++ wb (btq s k) := by
  have hl : k < s.data.toList.length := by simpa using h
  rw [List.take_succ_eq_append_getElem hl]
  simp [body, btq, List.getD_eq_getElem?_getD, List.getElem?_eq_getElem hl]
theorem wb_len : ∀ c : UInt8, 1 ≤ (wb c).length ∧ (wb c).length ≤ 4 := all8 (by decide +kernel)
theorem body_len : ∀ l : List UInt8, l.length ≤ (body l).length ∧ (body l).length ≤ 4 * l.length
  | [] => by simp [body]
  | c :: l => by
    have := body_len l
    have := wb_len c
    simp only [body, List.flatMap_cons, List.length_append, List.length_cons] at *
    omega
theorem b8_39 : b8 39 = 39 := rfl
theorem r60 (s : ByteArray) : R X Tryz.prog 60 [.lf (.str s)] [] (.tp [.lf (.str (quo s).1), .lf (.int .i64 (quo s).2)]) [] := by
  refine R_i [] [] c60_ok rfl (by simp) ?_
  simp -implicitDefEqProofs (maxSteps := 2000000) only [c60,↓reduceIte,S0,v_gtr,o_lns,v_lns,St.init,enum,Nat.reduceEqDiff,reduceCtorEq,PV.leaves,Nat.zero_le,kc_b,kc_s,ta_i,o_alt]
  refine ite_pr (fun hbig => ?_) (fun hsm => ?_)
  · have : 65536 < s.size := by omega
    simp [quo, this]
  refine pcall_i (r87 _ (Or.inl rfl) [] _ (by omega) (by omega) (by simp)) rfl rfl ?_
  simp -implicitDefEqProofs (maxSteps := 2000000) only [c60,↓reduceIte,S0,s_loop,o_lns,v_lns,Nat.reduceEqDiff,Nat.reduceAdd,reduceCtorEq,outV,ownsV,owns1,ownL,Nat.reduceMul,ol_ni,kC_c,pO_s,List.range_zero,fc_lo,fc_t,kl_np,pO_tt,isC,cplc,Nat.reduceMod,Nat.reduceDiv]
  have hz : ∀ k, (body (s.data.toList.take k)).length ≤ 262144 := fun k => by
    have h1 := body_len (s.data.toList.take k)
    have h2 : (s.data.toList.take k).length ≤ s.size := by simp; omega
    omega
  have key : ∀ (n k : Nat), k + n = s.size → LoopAt X Tryz.prog c60_8 [0, 4, 11, 12] (blkK 0 (seqK X Tryz.prog c60_17 (retS [] [] 0 [RV.t 2, RV.t 3] (.tp [.lf (.str (quo s).1), .lf (.int .i64 (quo s).2)]) [])))
      { m := 0, tm := [(0, PV.lf (L.str s)), (4, PV.lf (L.tptr 4 0 56)), (11, PV.lf (L.int IntKind.i64 ↑s.size)), (12, PV.lf (L.int IntKind.i64 (k : Int)))],
        ce := [(4, [L.tptr 4 0 56, L.lst (Tag.own 515 5) 1 (ub (39 :: body (s.data.toList.take k))) []])] } := by
    intro n
    induction n with
    | zero =>
      intro k hk Z hZ
      apply hZ
      simp -implicitDefEqProofs (maxSteps := 2000000) only [c60,↓reduceIte,S0,s_exit,s_seqK_e,s_blkK_e,s_loopK_e,o_ixs,v_ixs,Nat.reduceEqDiff,reduceCtorEq,PV.leaves,ta_i]
      rw [if_neg (by omega)]
      refine pcall_i (r87 _ (Or.inr rfl) _ _ (by omega) (by omega) ?_) rfl rfl ?_
      · have := hz k; simp; omega
      simp -implicitDefEqProofs (maxSteps := 2000000) only [c60,↓reduceIte,S0,Nat.reduceEqDiff,Nat.reduceAdd,reduceCtorEq,outV,ownsV,owns1,ownL,PV.leaves,Nat.reduceMul,ol_ni,fc_lo,fc_t,isC,cplc,Nat.reduceMod,Nat.reduceDiv]
      refine pcall_i (r57 _ (Or.inr rfl) _) rfl rfl ?_
      simp -implicitDefEqProofs (maxSteps := 2000000) only [c60,↓reduceIte,S0,v_gtr,Nat.reduceEqDiff,Nat.reduceAdd,outV,ownsV,owns1,ownL,PV.leaves,Nat.reduceMul,List.length_append,fc_lo,fc_t,isC,cplc,Nat.reduceMod,Nat.reduceDiv]
      have ek : k = s.size := by omega
      have et : s.data.toList.take k = s.data.toList := List.take_of_length_le (by subst ek; simp)
      rw [et, b8_39]
      refine ite_pr (fun hb => ?_) (fun hb => ?_)
      · have h1 : 65536 < (39 :: body s.data.toList ++ [39]).length := by simp; omega
        unfold quo
        rw [if_neg (by omega), if_pos h1]; exact ⟨rfl, rfl⟩
      · refine pcall_i (r41 _ (Or.inr rfl) _ (by simp)) rfl rfl ?_
        simp -implicitDefEqProofs (maxSteps := 2000000) only [c60,↓reduceIte,S0,Nat.reduceEqDiff,outV,ownsV,owns1,ownL,fc_u,fc_t,isC,Nat.reduceMod,Nat.reduceDiv]
        have h1 : ¬ 65536 < (39 :: body s.data.toList ++ [39]).length := by simp; omega
        unfold quo
        rw [if_neg (by omega), if_neg h1]; exact ⟨rfl, rfl⟩
    | succ n ih =>
      intro k hk Z hZ
      apply hZ
      simp -implicitDefEqProofs (maxSteps := 2000000) only [c60,btq_int,↓reduceIte,S0,s_exit,s_seqK_e,s_blkK_e,s_loopK_e,o_ixs,v_ixs,Nat.reduceEqDiff,reduceCtorEq,PV.leaves,ta_i]
      rw [if_pos (by omega)]
      refine ⟨by omega, pcall_i (r88 _ (Or.inr rfl) _ _ ?_) rfl rfl ?_⟩
      · have := hz k; simp; omega
      simp -implicitDefEqProofs (maxSteps := 2000000) only [c60,↓reduceIte,S0,Nat.reduceEqDiff,Nat.reduceAdd,reduceCtorEq,outV,ownsV,List.any_nil,Nat.reduceMul,kC_c,pO_s,List.range_zero,fc_lo,fc_t,pO_tt,isC,cplc,Nat.reduceMod,Nat.reduceDiv]
      rw [w64 (by omega) (by omega)]
      have := ih (k + 1) (by omega) Z hZ
      rw [body_take (by omega)] at this
      exact this
  exact key s.size 0 (by omega)
end Go.Proofs.YtdoefdmaecaacaaGreatDoor.SL
set_option linter.unusedVariables false
set_option linter.unusedSimpArgs false
namespace Go.Proofs.YtdoefdmaecaacaaGreatDoor.SL
open Go Go.Proofs.YtdoefdmaecaacaaGreatDoor.AM Go.Proofs.YtdoefdmaecaacaaGreatDoor.S
variable {X : Cx}
def itemL (c : UInt8) : List UInt8 :=
  if c = 10 then [92, 110] else if c = 13 then [92, 114] else if c = 9 then [92, 116] else if c = 92 ∨ c = 93 ∨ c = 91 ∨ c = 94 ∨ c = 45 ∨ c = 37 then [92, c]
  else if 32 ≤ c ∧ c ≤ 126 then [c] else [92, 120, hd (c / 16), hd (c % 16)]
theorem itemL_int : ∀ c : UInt8, itemL c = if (c.toNat : Int) = 10 then [92, 110] else if (c.toNat : Int) = 13 then [92, 114] else if (c.toNat : Int) = 9 then [92, 116] else
    if (c.toNat : Int) = 92 ∨ (c.toNat : Int) = 93 ∨ (c.toNat : Int) = 91 ∨ (c.toNat : Int) = 94 ∨ (c.toNat : Int) = 45 ∨ (c.toNat : Int) = 37 then [92, c]
      else if 32 ≤ (c.toNat : Int) ∧ (c.toNat : Int) ≤ 126 then [c] else [92, 120, hd (c / 16), hd (c % 16)] := all8 (by decide +kernel)
theorem w8c : ∀ c : UInt8, IntKind.wrap .u8 (c.toNat : Int) = (c.toNat : Int) := all8 (by decide +kernel)
theorem q16' : ∀ c : UInt8, IntKind.wrap .i64 ((c.toNat : Int).tdiv 16) = ((c / 16).toNat : Int) ∧ (c.toNat : Int).tmod 16 = ((c % 16).toNat : Int) ∧ IntKind.wrap .i64 ((c.toNat : Int).tmod 16) = ((c % 16).toNat : Int) := all8 (by decide +kernel)
theorem itemL_len : ∀ c : UInt8, 1 ≤ (itemL c).length ∧ (itemL c).length ≤ 4 := all8 (by decide +kernel)
theorem ba_app (a b : Array UInt8) : (⟨a⟩ : ByteArray) ++ ⟨b⟩ = ⟨a ++ b⟩ := by
  apply ByteArray.ext; simp [ByteArray.data_append]
theorem ub1 (c : UInt8) : [[L.int .u8 (c.toNat : Int)]] = ub [c] := rfl
theorem ubc (c : UInt8) (l : List UInt8) : [L.int .u8 (c.toNat : Int)] :: ub l = ub (c :: l) := rfl
theorem r63 (c : UInt8) : R X Tryz.prog 63 [.lf (.int .i64 c.toNat)] [] (.lf (.str ⟨(itemL c).toArray⟩)) [] := by
  refine R_i [] [] c63_ok rfl (by simp) ?_
  have hc := c.toNat_lt
  have q := d16 c
  have qa := digs (c / 16) q.1
  have qb := digs (c % 16) q.2.1
  obtain ⟨z1, z2, z3⟩ := q16' c
  rw [itemL_int c]
  simp -implicitDefEqProofs (maxSteps := 2000000) only [c63,w8c,z1,z2,z3,qa,qb,ub1,ubc,v_cbs_ub,↓reduceIte,S0,s_wopsqK,s_qnil,s_qcons,q_ixs,v_quo,v_rem,v_leq,v_geq,v_sadd,o_cvi,v_cvi,o_cbs,o_ixs,v_ixs,o_bs,v_bsK,v_lit_n,v_lit_c,St.init,enum,Nat.reduceEqDiff,Nat.reduceAdd,reduceCtorEq,cond_false,Bool.not_true,List.all_cons,List.all_nil,PV.cells,datL,Nat.reduceMul,Nat.reduceLeDiff,kp_b,plT,ne_eq,lit_n,lit_c,List.reduceReplicate,List.set_cons_zero,List.set_cons_succ,Nat.reduceLT,Nat.lt_add_one,v_cbs_ub,s_reg]
  repeat' (with_reducible refine ite_pr (fun h => ?_) (fun h => ?_))
  all_goals (simp_all [ba_app]; try omega)
theorem r130 (c : UInt8) : R X Tryz.prog 130 [.lf (.int .i64 c.toNat)] [] (.lf (.bool (decide ((c.toNat : Int) = 92 ∨ (c.toNat : Int) = 93 ∨ (c.toNat : Int) = 91 ∨ (c.toNat : Int) = 94 ∨ (c.toNat : Int) = 45 ∨ (c.toNat : Int) = 37)))) [] := by
  refine R_i [] [] c130_ok rfl (by simp) ?_
  simp -implicitDefEqProofs (maxSteps := 2000000) only [c130,↓reduceIte,S0,St.init,enum,Nat.reduceEqDiff,reduceCtorEq,cond_false,Bool.not_false,Bool.true_eq_false,decide_eq_false_iff_not,ite_not]
  revert c
  exact all8 (by decide +kernel)
theorem r102 (c : UInt8) : R X Tryz.prog 102 [.lf (.int .i64 c.toNat)] [] (.lf (.str ⟨#[hd (c / 16), hd (c % 16)]⟩)) [] := by
  refine R_i [] [] c102_ok rfl (by simp) ?_
  have q := d16 c
  obtain ⟨z1, z2, z3⟩ := q16' c
  simp -implicitDefEqProofs (maxSteps := 2000000) only [c102,z1,z2,z3,↓reduceIte,S0,s_ops1,s_wopsTK,s_tone,s_tcons,q_sls,v_quo,v_rem,v_sadd,o_sls,v_sls_d,St.init,enum,Option.map_some,Nat.reduceEqDiff,Nat.reduceAdd,reduceCtorEq,ne_eq]
  clear q z1 z2 z3
  revert c
  exact all8 (by decide +kernel)
theorem r105 (c : UInt8) : R X Tryz.prog 105 [.lf (.int .i64 c.toNat)] [] (.lf (.str ⟨(itemL c).toArray⟩)) [] := by
  refine R_i [] [] c105_ok rfl (by simp) ?_
  have a98 := r130 (X := X) c
  have a99 := r102 (X := X) c
  rw [itemL_int c]
  simp -implicitDefEqProofs (maxSteps := 2000000) only [c105,↓reduceIte,S0,St.init,enum,reduceCtorEq,PV.leaves]
  repeat' (first
    | (with_reducible refine ite_pr (fun h => ?_) (fun h => ?_))
    | (refine wcall_s a98 rfl rfl ?_)
    | (refine wcall_s a99 rfl rfl ?_)
    | (simp -implicitDefEqProofs (maxSteps := 2000000) only [c105,w8c,ub1,ubc,v_cbs_ub,↓reduceIte,S0,v_leq,v_geq,v_sadd,o_cvi,v_cvi,o_cbs,o_bs,v_bsK,v_lit_n,v_lit_c,Nat.reduceEqDiff,Nat.reduceAdd,reduceCtorEq,cond_false,Bool.not_true,St.clr,outV,ownsV,owns1,ownL,PV.leaves,List.all_cons,List.all_nil,PV.cells,datL,Nat.reduceMul,Nat.reduceLeDiff,kp_b,ol_b,plT,lit_n,lit_c,List.reduceReplicate,List.set_cons_zero,Nat.lt_add_one,v_cbs_ub]))
  all_goals (clear a98 a99; simp_all [ba_app]; try omega)
def notW (s : Nat) : Nat := 18446744073709551615 - s
end Go.Proofs.YtdoefdmaecaacaaGreatDoor.SL
set_option linter.unusedVariables false
set_option linter.unusedSimpArgs false
namespace Go.Proofs.YtdoefdmaecaacaaGreatDoor.SL
open Go Go.Proofs.YtdoefdmaecaacaaGreatDoor.AM Go.Proofs.YtdoefdmaecaacaaGreatDoor.S
variable {X : Cx}
def litF (s : ByteArray) : ByteArray := (quo s).1
theorem quo_s {s : ByteArray} (h : s.size ≤ 255) : quo s = (⟨(39 :: body s.data.toList ++ [39]).toArray⟩, 0) := by
  have hb := (body_len s.data.toList).2
  have e : s.data.toList.length = s.size := by rw [Array.length_toList]; rfl
  unfold quo
  rw [if_neg (by omega), if_neg (by simp only [List.length_append, List.length_cons, List.length_nil]; omega)]
theorem litF_n (s : ByteArray) (h : s.size ≤ 255) : (litF s).size ≤ 65536 := by
  have hb := (body_len s.data.toList).2
  have e : s.data.toList.length = s.size := by rw [Array.length_toList]; rfl
  unfold litF
  rw [quo_s h]
  show (39 :: body s.data.toList ++ [39]).toArray.size ≤ _
  simp; omega
theorem r35 (s : ByteArray) : R X Tryz.prog 35 [.lf (.str s)] [] (.lf (.str (litF s))) [] := by
  have h46 := r60 (X := X) s
  refine R_i [] [] c35_ok rfl (by simp) ?_
  unfold litF
  generalize quo s = q at *
  simp -implicitDefEqProofs (maxSteps := 2000000) only [c35,↓reduceIte,S0,St.init,enum,reduceCtorEq,PV.leaves,rl_s]
  refine wcall_s h46 rfl rfl ?_
  simp -implicitDefEqProofs (maxSteps := 2000000) only [c35,↓reduceIte,S0,o_ext,v_ext0,v_ext1,Nat.reduceEqDiff,St.clr,outV,ownsV,owns1,ownL,List.any_cons,List.any_nil,Bool.or_self,m_1l]
theorem r75 (s : ByteArray) (hs : s.size ≤ 255) : R X Tryz.prog 75 [.lf (.str s)] [] (.lf (.str (litF s))) [] := by
  have e : s.data.toList.length = s.size := by rw [Array.length_toList]; rfl
  have hE : litF s = ⟨(39 :: body s.data.toList ++ [39]).toArray⟩ := by unfold litF; rw [quo_s hs]
  rw [hE]
  refine R_i [] [] c75_ok rfl (by simp) ?_
  have key : ∀ (n k : Nat), n + k = s.size → LoopAt X Tryz.prog c75_16 [0, 3, 4] (blkK 0 (seqK X Tryz.prog c75_20 (retS [] [] 0 [RV.t 2] (PV.lf (L.str ⟨(39 :: body s.data.toList ++ [39]).toArray⟩)) [])))
      { m := 0, tm := [(0, PV.lf (L.str s)), (3, PV.lf (.lst (.own 384 5) 1 (ub (body (s.data.toList.take k))) [])), (4, PV.lf (L.int IntKind.i64 k))], ce := [] } := by
    intro n
    induction n with
    | zero =>
      intro k hk
      have hlt : ¬ (k : Int) < s.size := by omega
      intro Z hZ; apply hZ
      simp -implicitDefEqProofs (maxSteps := 2000000) only [c75,hlt,decide_false,↓reduceIte,S0,s_exit,s_seqK_e,s_blkK_e,s_loopK_e,v_sadd,o_cbs,o_lns,v_lns,Nat.reduceEqDiff,reduceCtorEq,v_cbs_ub]
      have ht : s.data.toList.take k = s.data.toList := List.take_of_length_le (by omega)
      have hb := (body_len s.data.toList).2
      rw [ht, ba_app, ba_app]
      refine ⟨by omega, ?_, ?_⟩
      · have e0 : ∀ A : Array UInt8, ({ data := A } : ByteArray).size = A.size := fun _ => rfl
        have e1 : (#[39] : Array UInt8).size = 1 := rfl
        have e2 : (body s.data.toList).toArray.size = (body s.data.toList).length := List.size_toArray
        rw [e0, Array.size_append, e1, e2]
        omega
      · congr 1
        apply Array.ext'
        rw [Array.toList_append, Array.toList_append]
        rfl
    | succ n ih =>
      intro k hk
      have hlt : (k : Int) < s.size := by omega
      have wd : IntKind.i64.wrap ((k : Int) + 1) = ((k + 1 : Nat) : Int) := by rw [w64 (by omega) (by omega)]; omega
      have hih := ih (k + 1) (by omega)
      rw [body_take (by omega)] at hih
      have hbl := (body_len (s.data.toList.take k)).2
      have hq := btq_int s k
      have h92 := r102 (X := X) (btq s k)
      generalize btq s k = c at *
      have hw := wb_int c
      have w8 := w8c c
      have hc8 : c.toNat < 256 := c.toNat_lt
      have wi : IntKind.i64.wrap (c.toNat : Int) = c.toNat := w64 (by omega) (by omega)
      have hkl : (s.data.toList.take k).length ≤ 255 := by rw [List.length_take]; omega
      intro Z hZ; apply hZ
      have hz := hih Z hZ
      clear hih ih
      simp -implicitDefEqProofs (maxSteps := 2000000) only [c75,hlt,decide_true,hq,wd,wi,↓reduceIte,S0,v_leq,v_geq,o_cvi,v_cvi,o_ixs,v_ixs,o_bs,v_bsK,v_lit_n,v_lit_c,o_lns,v_lns,o_app,v_app_o,o_aps,v_aps_o,Nat.reduceEqDiff,Nat.reduceAdd,reduceCtorEq,cond_false,Bool.not_true,Bool.not_false,Bool.true_eq_false,decide_eq_false_iff_not,Bool.or_false,PV.leaves,List.all_cons,List.all_nil,PV.cells,datL,Nat.reduceMul,Nat.reduceBEq,Nat.reduceLeDiff,kp_b,kp_s,kp_u,kp_lo,pO_s,List.range_zero,plT,lit_n,lit_c,List.reduceReplicate,List.set_cons_zero,List.set_cons_succ,Nat.reduceLT,Nat.lt_add_one,or_false,ite_not,ub_len,ub_snoc,kp_lk,rk_lk,lp_b,lp_i,lp_s,lp_lo]
      refine ⟨by omega, ?_⟩
      have fin : ∀ l : List UInt8, wb c = l → Z { m := 0, tm := [(0, PV.lf (L.str s)), (3, PV.lf (L.lst (Tag.own 384 5) 1 (ub (body (List.take k s.data.toList)) ++ ub l) [])), (4, PV.lf (L.int IntKind.i64 (k + 1 : Nat)))], ce := [] } := by
        intro l hl
        rw [← hl, ub_app]; exact hz
      with_reducible refine ite_pr (fun h1 => ?_) (fun h1 => ?_)
      · exact ⟨by omega, fin [92, 110] (by rw [hw, if_pos h1])⟩
      rw [if_neg h1] at hw
      with_reducible refine ite_pr (fun h2 => ?_) (fun h2 => ?_)
      · exact ⟨by omega, fin [92, 114] (by rw [hw, if_pos h2])⟩
      rw [if_neg h2] at hw
      with_reducible refine ite_pr (fun h3 => ?_) (fun h3 => ?_)
      · exact ⟨by omega, fin [92, 116] (by rw [hw, if_pos h3])⟩
      rw [if_neg h3] at hw
      with_reducible refine ite_pr (fun h4 => ?_) (fun h4 => ?_)
      · exact ⟨by omega, fin [92, c] (by rw [hw, if_pos (.inr h4)])⟩
      with_reducible refine ite_pr (fun h5 => ?_) (fun h5 => ?_)
      · exact ⟨by omega, fin [92, c] (by rw [hw, if_pos (.inl h5)])⟩
      rw [if_neg (fun h => h.elim h5 h4)] at hw
      have last : ¬ (32 ≤ (c.toNat : Int) ∧ (c.toNat : Int) ≤ 126) → wb c = [92, 120, hd (c / 16), hd (c % 16)] := fun h => by rw [hw, if_neg h]
      with_reducible refine ite_pr (fun h6 => ?_) (fun h6 => ?_)
      · with_reducible refine ite_pr (fun h7 => ?_) (fun h7 => ?_)
        · have := fin [c] (by rw [hw, if_pos ⟨h6, h7⟩])
          rw [ub_app] at this
          exact ⟨by omega, this⟩
        · refine wcall_s h92 rfl rfl ?_
          simp -implicitDefEqProofs (maxSteps := 2000000) only [c75,wd,ba_app,↓reduceIte,S0,v_sadd,o_aps,v_aps_o,Nat.reduceEqDiff,Nat.reduceAdd,reduceCtorEq,St.clr,outV,ownsV,owns1,ownL,Nat.reduceMul,Nat.reduceBEq,kp_b,kp_s,kp_u,kp_lo,pO_s,List.range_zero,plT,ub_len]
          have e4 : ({ data := #[92, 120] ++ #[hd (c / 16), hd (c % 16)] } : ByteArray).size = 4 := rfl
          exact ⟨by decide, by rw [e4]; omega, fin [92, 120, hd (c / 16), hd (c % 16)] (last (by omega))⟩
      · refine wcall_s h92 rfl rfl ?_
        simp -implicitDefEqProofs (maxSteps := 2000000) only [c75,wd,ba_app,↓reduceIte,S0,v_sadd,o_aps,v_aps_o,Nat.reduceEqDiff,Nat.reduceAdd,reduceCtorEq,St.clr,outV,ownsV,owns1,ownL,Nat.reduceMul,Nat.reduceBEq,kp_b,kp_s,kp_u,kp_lo,pO_s,List.range_zero,plT,ub_len]
        have e4 : ({ data := #[92, 120] ++ #[hd (c / 16), hd (c % 16)] } : ByteArray).size = 4 := rfl
        exact ⟨by decide, by rw [e4]; omega, fin [92, 120, hd (c / 16), hd (c % 16)] (last (by omega))⟩
  have k0 := key s.size 0 rfl
  simp -implicitDefEqProofs (maxSteps := 2000000) only [c75,↓reduceIte,S0,s_loop,St.init,enum,Nat.reduceEqDiff,reduceCtorEq,Nat.reduceMul,kp_s,e_asg_n,pO_s,List.range_zero,plT]
  intro Z hZ
  exact k0 Z hZ
end Go.Proofs.YtdoefdmaecaacaaGreatDoor.SL
set_option linter.unusedVariables false
set_option linter.unusedSimpArgs false
namespace Go.Proofs.YtdoefdmaecaacaaGreatDoor.SL
open Go Go.Proofs.YtdoefdmaecaacaaGreatDoor.AM Go.Proofs.YtdoefdmaecaacaaGreatDoor.S
variable {X : Cx}
def dgF (n : Int) : UInt8 := UInt8.ofNat (48 + n.toNat)
def decF (n : Int) : ByteArray := if n < 10 then ⟨#[dgF n]⟩ else ⟨#[dgF (n / 10), dgF (n % 10)]⟩
theorem dig_ex : ∀ m : Fin 10, (⟨#[48, 49, 50, 51, 52, 53, 54, 55, 56, 57, 97, 98, 99, 100, 101, 102]⟩ : ByteArray).extract m.val (m.val + 1) = ⟨#[dgF (m.val : Int)]⟩ := by decide
theorem dig_ex' {m : Int} (h0 : 0 ≤ m) (h1 : m < 10) : (⟨#[48, 49, 50, 51, 52, 53, 54, 55, 56, 57, 97, 98, 99, 100, 101, 102]⟩ : ByteArray).extract m.toNat (m + 1).toNat = ⟨#[dgF m]⟩ := by
  have h := dig_ex ⟨m.toNat, by omega⟩
  have e : ((m.toNat : Nat) : Int) = m := by omega
  simp only [e] at h
  rw [show (m + 1).toNat = m.toNat + 1 by omega]; exact h
theorem r77 (n : Int) (h0 : 0 ≤ n) (h1 : n ≤ 50) : R X Tryz.prog 77 [.lf (.int .i64 n), .lf (.int .i64 10)] [] (.lf (.str (decF n))) [] := by
  refine R_i [] [] c77_ok rfl (by simp) ?_
  have fin : ∀ s : ByteArray, ¬ s = ⟨#[]⟩ → s = decF n → LoopAt X Tryz.prog c77_5 [0, 1, 5] (blkK 0 (seqK X Tryz.prog c77_8 (retS [] [] 0 [RV.t 4] (PV.lf (L.str (decF n))) [])))
      { m := 0, tm := [(0, PV.lf (.int .i64 0)), (1, PV.lf (.int .i64 10)), (5, PV.lf (L.str s))], ce := [] } := by
    intro s hs hE
    intro Z hZ; apply hZ
    simp -implicitDefEqProofs (maxSteps := 2000000) only [c77,hs,↓reduceIte,S0,s_exit,s_seqK_e,s_blkK_e,s_loopK_e,v_quo,v_rem,v_gtr,v_sadd,v_seql,o_sls,v_sls_d,Option.map_some,Nat.reduceEqDiff,Nat.reduceAdd,reduceCtorEq,cond_false,Bool.not_false,Bool.true_eq_false,decide_eq_false_iff_not,pO_s,List.range_zero,ne_eq,ite_not]
    rw [if_neg (by decide)]; exact hE
  have step : ∀ (m : Int) (s : ByteArray), 0 ≤ m → m ≤ 50 → (0 < m ∨ s = ⟨#[]⟩) → s.size ≤ 10 → LoopAt X Tryz.prog c77_5 [0, 1, 5] (blkK 0 (seqK X Tryz.prog c77_8 (retS [] [] 0 [RV.t 4] (PV.lf (L.str (decF n))) [])))
      { m := 0, tm := [(0, PV.lf (.int .i64 (m / 10))), (1, PV.lf (.int .i64 10)), (5, PV.lf (L.str (⟨#[dgF (m % 10)]⟩ ++ s)))], ce := [] } → LoopAt X Tryz.prog c77_5 [0, 1, 5] (blkK 0 (seqK X Tryz.prog c77_8 (retS [] [] 0 [RV.t 4] (PV.lf (L.str (decF n))) [])))
      { m := 0, tm := [(0, PV.lf (.int .i64 m)), (1, PV.lf (.int .i64 10)), (5, PV.lf (L.str s))], ce := [] } := by
    intro m s hm0 hm1 hs hsz hnext
    have w1 : IntKind.i64.wrap (m.tmod 10 + 1) = m % 10 + 1 := by rw [Int.tmod_eq_emod_of_nonneg hm0, w64 (by omega) (by omega)]
    have e1 : m.tmod 10 = m % 10 := Int.tmod_eq_emod_of_nonneg hm0
    have e2 : m.tdiv 10 = m / 10 := Int.tdiv_eq_ediv_of_nonneg hm0
    have w2 : IntKind.i64.wrap (m % 10) = m % 10 := w64 (by omega) (by omega)
    have w3 : IntKind.i64.wrap (m / 10) = m / 10 := w64 (by omega) (by omega)
    have w4 : IntKind.i64.wrap (m % 10 + 1) = m % 10 + 1 := w64 (by omega) (by omega)
    have d := dig_ex' (m := m % 10) (by omega) (by omega)
    intro Z hZ; apply hZ
    have hz := hnext Z hZ
    by_cases hmp : 0 < m
    · simp -implicitDefEqProofs (maxSteps := 2000000) only [c77,hmp,e1,e2,w2,w3,w4,d,↓reduceIte,S0,s_exit,s_seqK_e,s_blkK_e,s_loopK_e,v_quo,v_rem,v_gtr,v_sadd,v_seql,o_sls,v_sls_d,Option.map_some,Nat.reduceEqDiff,Nat.reduceAdd,reduceCtorEq,cond_false,Bool.not_false,Bool.true_eq_false,decide_eq_false_iff_not,pO_s,List.range_zero,ne_eq,ite_not]
      exact ⟨by decide, ⟨by omega, by omega, by omega⟩, by omega, by decide, hz⟩
    · have hs' : s = ⟨#[]⟩ := hs.resolve_left hmp
      subst hs'
      have k0 : m = 0 := by omega
      simp -implicitDefEqProofs (maxSteps := 2000000) only [c77,hmp,e1,e2,w2,w3,w4,d,↓reduceIte,S0,v_quo,v_rem,v_gtr,v_sadd,v_seql,o_sls,v_sls_d,Option.map_some,Nat.reduceEqDiff,Nat.reduceAdd,reduceCtorEq,cond_false,decide_eq_false_iff_not,pO_s,List.range_zero,ne_eq,not_false_eq_true]
      exact ⟨by decide, ⟨by omega, by omega, by omega⟩, by decide, by decide, hz⟩
  simp -implicitDefEqProofs (maxSteps := 2000000) only [c77,↓reduceIte,S0,s_loop,St.init,enum,Nat.reduceEqDiff,reduceCtorEq,pO_s,List.range_zero]
  intro Z hZ
  by_cases h10 : n < 10
  · refine step n ⟨#[]⟩ h0 h1 (.inr rfl) (by decide) ?_ Z hZ
    have e1 : n / 10 = 0 := by omega
    have e2 : n % 10 = n := by omega
    rw [e1, e2]
    have e3 : (⟨#[dgF n]⟩ : ByteArray) ++ ⟨#[]⟩ = ⟨#[dgF n]⟩ := rfl
    rw [e3]
    exact fin ⟨#[dgF n]⟩ (by intro h; cases h) (by unfold decF; rw [if_pos h10])
  · refine step n ⟨#[]⟩ h0 h1 (.inr rfl) (by decide) (step (n / 10) _ (by omega) (by omega) (.inl (by omega)) (by show 1 ≤ 10; decide) ?_) Z hZ
    have e1 : n / 10 / 10 = 0 := by omega
    have e2 : n / 10 % 10 = n / 10 := by omega
    rw [e1, e2]
    have e3 : (⟨#[dgF (n / 10)]⟩ : ByteArray) ++ (⟨#[dgF (n % 10)]⟩ ++ ⟨#[]⟩) = ⟨#[dgF (n / 10), dgF (n % 10)]⟩ := rfl
    rw [e3]
    exact fin ⟨#[dgF (n / 10), dgF (n % 10)]⟩ (by intro h; cases h) (by unfold decF; rw [if_neg h10])
end Go.Proofs.YtdoefdmaecaacaaGreatDoor.SL
namespace Go.Proofs.YtdoefdmaecaacaaGreatDoor.SL
open Go Go.Shelf Go.Proofs Go.RowKit Go.Sort Go.Lib
def lays171_ren : Go.Shelf.Ren := ⟨fun | 171 => 46 | 243 => 73 | 246 => 101 | 283 => 124 | 284 => 125 | 285 => 126 | 286 => 127 | 129 => 146 | 317 => 145 | 318 => 147 | 319 => 148 | 320 => 149 | 337 => 158 | 338 => 121 | n => n, fun | 3 => 3 | 9 => 9 | 2 => 2 | 4 => 4 | 171 => 168 | 0 => 0 | 53 => 45 | 37 => 54 | 5 => 5 | 173 => 170 | 212 => 194 | 51 => 145 | 20 => 20 | 213 => 195 | 46 => 121 | 232 => 214 | 233 => 181 | n => n, fun | 17 => 4 | 18 => 5 | 19 => 2 | n => n⟩
theorem lays171 : Go.Proofs.Lays.n171 Tryz.prog lays171_ren := {
  mixed := by kernel_rfl
  f129 := Tryz.func146.trans (congrArg some (by kernel_rfl))
  f171 := Tryz.func46.trans (congrArg some (by kernel_rfl))
  f243 := Tryz.func73.trans (congrArg some (by kernel_rfl))
  f246 := Tryz.func101.trans (congrArg some (by kernel_rfl))
  f283 := Tryz.func124.trans (congrArg some (by kernel_rfl))
  f284 := Tryz.func125.trans (congrArg some (by kernel_rfl))
  f285 := Tryz.func126.trans (congrArg some (by kernel_rfl))
  f286 := Tryz.func127.trans (congrArg some (by kernel_rfl))
  f317 := Tryz.func145.trans (congrArg some (by kernel_rfl))
  f318 := Tryz.func147.trans (congrArg some (by kernel_rfl))
  f319 := Tryz.func148.trans (congrArg some (by kernel_rfl))
  f320 := Tryz.func149.trans (congrArg some (by kernel_rfl))
  f337 := Tryz.func158.trans (congrArg some (by kernel_rfl))
  f338 := Tryz.func121.trans (congrArg some (by kernel_rfl))
  t0 := Tryz.underlying0
  a0 := Tryz.isAgg0
  z0 := Tryz.sizeOf0
  v0 := Tryz.zeroValue0
  t2 := Tryz.underlying2
  a2 := Tryz.isAgg2
  z2 := Tryz.sizeOf2
  v2 := Tryz.zeroValue2
  t3 := Tryz.underlying3
  a3 := Tryz.isAgg3
  z3 := Tryz.sizeOf3
  v3 := Tryz.zeroValue3
  t4 := Tryz.underlying4
  a4 := Tryz.isAgg4
  z4 := Tryz.sizeOf4
  v4 := Tryz.zeroValue4
  t5 := Tryz.underlying5
  a5 := Tryz.isAgg5
  z5 := Tryz.sizeOf5
  v5 := Tryz.zeroValue5
  t9 := Tryz.underlying9
  a9 := Tryz.isAgg9
  z9 := Tryz.sizeOf9
  v9 := Tryz.zeroValue9
  t20 := Tryz.underlying20
  a20 := Tryz.isAgg20
  z20 := Tryz.sizeOf20
  v20 := Tryz.zeroValue20
  t37 := Tryz.underlying54
  a37 := Tryz.isAgg54
  z37 := Tryz.sizeOf54
  v37 := Tryz.zeroValue54
  t46 := Tryz.underlying121
  a46 := Tryz.isAgg121
  z46 := Tryz.sizeOf121
  v46 := Tryz.zeroValue121
  t51 := Tryz.underlying145
  a51 := Tryz.isAgg145
  z51 := Tryz.sizeOf145
  v51 := Tryz.zeroValue145
  t53 := Tryz.underlying45
  a53 := Tryz.isAgg45
  z53 := Tryz.sizeOf45
  v53 := Tryz.zeroValue45
  t171 := Tryz.underlying168
  a171 := Tryz.isAgg168
  z171 := Tryz.sizeOf168
  v171 := Tryz.zeroValue168
  t173 := Tryz.underlying170
  a173 := Tryz.isAgg170
  z173 := Tryz.sizeOf170
  v173 := Tryz.zeroValue170
  t212 := Tryz.underlying194
  a212 := Tryz.isAgg194
  z212 := Tryz.sizeOf194
  v212 := Tryz.zeroValue194
  t213 := Tryz.underlying195
  a213 := Tryz.isAgg195
  z213 := Tryz.sizeOf195
  t232 := Tryz.underlying214
  a232 := Tryz.isAgg214
  z232 := Tryz.sizeOf214
  v232 := Tryz.zeroValue214
  t233 := Tryz.underlying181
  a233 := Tryz.isAgg181
  z233 := Tryz.sizeOf181
  v233 := Tryz.zeroValue181
  g17 := by kernel_rfl
  g18 := by kernel_rfl
  g19 := by kernel_rfl }
theorem itoa44 (i : Nat) (hi : i < 100) (w : World) :
    Calls Tryz.prog 46 #[.int .i64 i] w fun e w' => e = .returned (.string ⟨(Lib.decDigits i).toArray⟩) ∧ w' = w := Any.strconv_Itoa_small lays171 i hi w
def lays729_ren : Go.Shelf.Ren := ⟨fun | 29 => 121 | n => n, fun | 22 => 45 | 3 => 3 | 4 => 4 | 25 => 121 | 54 => 181 | 0 => 0 | 5 => 5 | n => n, fun | 1 => 2 | n => n⟩
theorem lays729 : Go.Proofs.Lays7.n29 Tryz.prog lays729_ren := {
  mixed := by kernel_rfl
  f29 := Tryz.func121.trans (congrArg some (by kernel_rfl))
  t0 := Tryz.underlying0
  a0 := Tryz.isAgg0
  z0 := Tryz.sizeOf0
  v0 := Tryz.zeroValue0
  i0 := by kernel_rfl
  t3 := Tryz.underlying3
  a3 := Tryz.isAgg3
  z3 := Tryz.sizeOf3
  v3 := Tryz.zeroValue3
  i3 := by kernel_rfl
  t4 := Tryz.underlying4
  a4 := Tryz.isAgg4
  z4 := Tryz.sizeOf4
  v4 := Tryz.zeroValue4
  i4 := by kernel_rfl
  t5 := Tryz.underlying5
  a5 := Tryz.isAgg5
  z5 := Tryz.sizeOf5
  v5 := Tryz.zeroValue5
  i5 := by kernel_rfl
  t22 := Tryz.underlying45
  a22 := Tryz.isAgg45
  z22 := Tryz.sizeOf45
  v22 := Tryz.zeroValue45
  i22 := by kernel_rfl
  t25 := Tryz.underlying121
  a25 := Tryz.isAgg121
  z25 := Tryz.sizeOf121
  v25 := Tryz.zeroValue121
  i25 := by kernel_rfl
  t54 := Tryz.underlying181
  a54 := Tryz.isAgg181
  z54 := Tryz.sizeOf181
  g1 := by kernel_rfl }
theorem tz89 (x : Nat) (hx : x < 18446744073709551616) (w : World) (hT : x ≠ 0 → TabAt 2 Lib.deBruijn64tab w) :
    Calls Tryz.prog 121 #[.int .u64 x] w fun e w' => e = .returned (.int .i64 (Lib.ctz 64 x)) ∧ w' = w := Any7.bits_TrailingZeros64 lays729 x hx w hT
def lays105_ren : Go.Shelf.Ren := ⟨fun | 105 => 44 | 212 => 69 | 99 => 70 | 165 => 71 | 166 => 58 | 170 => 57 | 169 => 41 | 263 => 95 | 264 => 96 | 206 => 97 | 240 => 83 | 241 => 98 | 276 => 118 | 277 => 122 | n => n, fun | 9 => 9 | 3 => 3 | 4 => 4 | 20 => 20 | 0 => 0 | 46 => 121 | 109 => 122 | 5 => 5 | 72 => 56 | 76 => 109 | 51 => 145 | 146 => 146 | 53 => 45 | 148 => 148 | 70 => 53 | 37 => 54 | 75 => 108 | 127 => 119 | 164 => 158 | 80 => 90 | n => n, fun | n => n⟩
theorem lays105 : Go.Proofs.Lays.n105 Tryz.prog lays105_ren := {
  mixed := by kernel_rfl
  f99 := Tryz.func70.trans (congrArg some (by kernel_rfl))
  f105 := Tryz.func44.trans (congrArg some (by kernel_rfl))
  f165 := Tryz.func71.trans (congrArg some (by kernel_rfl))
  f166 := Tryz.func58.trans (congrArg some (by kernel_rfl))
  f169 := Tryz.func41.trans (congrArg some (by kernel_rfl))
  f170 := Tryz.func57.trans (congrArg some (by kernel_rfl))
  f206 := Tryz.func97.trans (congrArg some (by kernel_rfl))
  f212 := Tryz.func69.trans (congrArg some (by kernel_rfl))
  f240 := Tryz.func83.trans (congrArg some (by kernel_rfl))
  f241 := Tryz.func98.trans (congrArg some (by kernel_rfl))
  f263 := Tryz.func95.trans (congrArg some (by kernel_rfl))
  f264 := Tryz.func96.trans (congrArg some (by kernel_rfl))
  f276 := Tryz.func118.trans (congrArg some (by kernel_rfl))
  f277 := Tryz.func122.trans (congrArg some (by kernel_rfl))
  t0 := Tryz.underlying0
  a0 := Tryz.isAgg0
  z0 := Tryz.sizeOf0
  v0 := Tryz.zeroValue0
  t3 := Tryz.underlying3
  a3 := Tryz.isAgg3
  z3 := Tryz.sizeOf3
  v3 := Tryz.zeroValue3
  t4 := Tryz.underlying4
  a4 := Tryz.isAgg4
  z4 := Tryz.sizeOf4
  v4 := Tryz.zeroValue4
  t5 := Tryz.underlying5
  a5 := Tryz.isAgg5
  z5 := Tryz.sizeOf5
  v5 := Tryz.zeroValue5
  t9 := Tryz.underlying9
  a9 := Tryz.isAgg9
  z9 := Tryz.sizeOf9
  v9 := Tryz.zeroValue9
  t20 := Tryz.underlying20
  a20 := Tryz.isAgg20
  z20 := Tryz.sizeOf20
  v20 := Tryz.zeroValue20
  t37 := Tryz.underlying54
  a37 := Tryz.isAgg54
  z37 := Tryz.sizeOf54
  v37 := Tryz.zeroValue54
  t46 := Tryz.underlying121
  a46 := Tryz.isAgg121
  z46 := Tryz.sizeOf121
  v46 := Tryz.zeroValue121
  t51 := Tryz.underlying145
  a51 := Tryz.isAgg145
  z51 := Tryz.sizeOf145
  v51 := Tryz.zeroValue145
  t53 := Tryz.underlying45
  a53 := Tryz.isAgg45
  z53 := Tryz.sizeOf45
  v53 := Tryz.zeroValue45
  t70 := Tryz.underlying53
  a70 := Tryz.isAgg53
  z70 := Tryz.sizeOf53
  v70 := Tryz.zeroValue53
  t72 := Tryz.underlying56
  a72 := Tryz.isAgg56
  z72 := Tryz.sizeOf56
  v72 := Tryz.zeroValue56
  t75 := Tryz.underlying108
  a75 := Tryz.isAgg108
  z75 := Tryz.sizeOf108
  v75 := Tryz.zeroValue108
  t76 := Tryz.underlying109
  a76 := Tryz.isAgg109
  z76 := Tryz.sizeOf109
  v76 := Tryz.zeroValue109
  t109 := Tryz.underlying122
  a109 := Tryz.isAgg122
  z109 := Tryz.sizeOf122
  v109 := Tryz.zeroValue122
  t127 := Tryz.underlying119
  a127 := Tryz.isAgg119
  z127 := Tryz.sizeOf119
  v127 := Tryz.zeroValue119
  t146 := Tryz.underlying146
  a146 := Tryz.isAgg146
  z146 := Tryz.sizeOf146
  v146 := Tryz.zeroValue146
  t148 := Tryz.underlying148
  a148 := Tryz.isAgg148
  z148 := Tryz.sizeOf148
  v148 := Tryz.zeroValue148
  t164 := Tryz.underlying158
  a164 := Tryz.isAgg158
  z164 := Tryz.sizeOf158
  v164 := Tryz.zeroValue158 }
theorem bx105 : Builder.Extra Tryz.prog lays105_ren := {
  sizeBuilder := by kernel_rfl
  liesBuilder := by kernel_rfl
  t5 := Tryz.underlying5
  a5 := Tryz.isAgg5
  z5 := Tryz.sizeOf5
  v5 := Tryz.zeroValue5
  infoByte := by kernel_rfl
  cellsByte := by kernel_rfl
  sizeByte := by kernel_rfl
  neB5 := by decide }
theorem rep42 (s : ByteArray) (c : Nat) (w : World) (hc : c ≤ 9223372036854775807) (hlen : s.size * c ≤ 140737488355328) :
    Calls Tryz.prog 44 #[.string s, .int .i64 c] w fun e w' => e = .returned (.string ⟨(Lib.repeatL s.data.toList c).toArray⟩) ∧ Below w.heap.size w w' := Any.strings_Repeat lays105 bx105 s c w hc hlen
def lays157_ren : Go.Shelf.Ren := ⟨fun | 157 => 72 | 229 => 99 | 199 => 100 | 261 => 123 | 311 => 143 | 312 => 144 | n => n, fun | 9 => 9 | 31 => 126 | 3 => 3 | 5 => 5 | 4 => 4 | 119 => 150 | 0 => 0 | 40 => 152 | 152 => 163 | 21 => 21 | 154 => 165 | 51 => 145 | 141 => 167 | 196 => 185 | 193 => 182 | 198 => 188 | 49 => 186 | 194 => 183 | 201 => 191 | 226 => 208 | 46 => 121 | 227 => 209 | n => n, fun | 0 => 0 | 6 => 1 | n => n⟩
theorem lays157 : Go.Proofs.Lays.n157 Tryz.prog lays157_ren := {
  mixed := by kernel_rfl
  f157 := Tryz.func72.trans (congrArg some (by kernel_rfl))
  f199 := Tryz.func100.trans (congrArg some (by kernel_rfl))
  f229 := Tryz.func99.trans (congrArg some (by kernel_rfl))
  f261 := Tryz.func123.trans (congrArg some (by kernel_rfl))
  f311 := Tryz.func143.trans (congrArg some (by kernel_rfl))
  f312 := Tryz.func144.trans (congrArg some (by kernel_rfl))
  t0 := Tryz.underlying0
  a0 := Tryz.isAgg0
  z0 := Tryz.sizeOf0
  v0 := Tryz.zeroValue0
  t3 := Tryz.underlying3
  a3 := Tryz.isAgg3
  z3 := Tryz.sizeOf3
  v3 := Tryz.zeroValue3
  t4 := Tryz.underlying4
  a4 := Tryz.isAgg4
  z4 := Tryz.sizeOf4
  v4 := Tryz.zeroValue4
  t5 := Tryz.underlying5
  a5 := Tryz.isAgg5
  z5 := Tryz.sizeOf5
  v5 := Tryz.zeroValue5
  t9 := Tryz.underlying9
  a9 := Tryz.isAgg9
  z9 := Tryz.sizeOf9
  v9 := Tryz.zeroValue9
  t21 := Tryz.underlying21
  a21 := Tryz.isAgg21
  z21 := Tryz.sizeOf21
  v21 := Tryz.zeroValue21
  t31 := Tryz.underlying126
  a31 := Tryz.isAgg126
  z31 := Tryz.sizeOf126
  v31 := Tryz.zeroValue126
  t40 := Tryz.underlying152
  a40 := Tryz.isAgg152
  z40 := Tryz.sizeOf152
  v40 := Tryz.zeroValue152
  t46 := Tryz.underlying121
  a46 := Tryz.isAgg121
  z46 := Tryz.sizeOf121
  v46 := Tryz.zeroValue121
  t49 := Tryz.underlying186
  a49 := Tryz.isAgg186
  z49 := Tryz.sizeOf186
  v49 := Tryz.zeroValue186
  t51 := Tryz.underlying145
  a51 := Tryz.isAgg145
  z51 := Tryz.sizeOf145
  v51 := Tryz.zeroValue145
  t119 := Tryz.underlying150
  a119 := Tryz.isAgg150
  z119 := Tryz.sizeOf150
  t141 := Tryz.underlying167
  a141 := Tryz.isAgg167
  z141 := Tryz.sizeOf167
  v141 := Tryz.zeroValue167
  t152 := Tryz.underlying163
  a152 := Tryz.isAgg163
  z152 := Tryz.sizeOf163
  v152 := Tryz.zeroValue163
  t154 := Tryz.underlying165
  a154 := Tryz.isAgg165
  z154 := Tryz.sizeOf165
  v154 := Tryz.zeroValue165
  t193 := Tryz.underlying182
  a193 := Tryz.isAgg182
  z193 := Tryz.sizeOf182
  v193 := Tryz.zeroValue182
  t194 := Tryz.underlying183
  a194 := Tryz.isAgg183
  z194 := Tryz.sizeOf183
  v194 := Tryz.zeroValue183
  t196 := Tryz.underlying185
  a196 := Tryz.isAgg185
  z196 := Tryz.sizeOf185
  v196 := Tryz.zeroValue185
  t198 := Tryz.underlying188
  a198 := Tryz.isAgg188
  z198 := Tryz.sizeOf188
  v198 := Tryz.zeroValue188
  t201 := Tryz.underlying191
  a201 := Tryz.isAgg191
  z201 := Tryz.sizeOf191
  v201 := Tryz.zeroValue191
  t226 := Tryz.underlying208
  a226 := Tryz.isAgg208
  z226 := Tryz.sizeOf208
  v226 := Tryz.zeroValue208
  t227 := Tryz.underlying209
  a227 := Tryz.isAgg209
  z227 := Tryz.sizeOf209
  v227 := Tryz.zeroValue209
  g0 := by kernel_rfl
  g6 := by kernel_rfl }
theorem fields61 (s : ByteArray) (w : World) (hs : s.size < 4294967281) (hascii : ∀ (j : Nat) b, s.data.toList[j]? = some b → b.toNat < 128) (htab : Lib.TabIs Tryz.prog w "strings.asciiSpace" .u8 Lib.asciiSpaceTab) :
    Calls Tryz.prog 72 #[.string s] w fun e w' =>
      e = .returned (.slice (some ⟨w.heap.size, 0, none⟩) (Lib.fields s.data.toList).length (Lib.fields s.data.toList).length) ∧ w' = w.alloc (.cells ((Lib.fields s.data.toList).map fun l => Value.string ⟨l.toArray⟩).toArray 9) := Any.strings_Fields lays157 (by kernel_rfl) (by kernel_rfl) s w hs hascii htab
end Go.Proofs.YtdoefdmaecaacaaGreatDoor.SL
namespace Go.Proofs.YtdoefdmaecaacaaGreatDoor.SL
open Go Go.Proofs Go.RowKit Go.Shelf
set_option linter.unusedVariables false
set_option linter.unusedSimpArgs false
attribute [local go_sem] Oper.semAt_some
def bitsW (i w : Nat) : List Int := if h : w = 0 then [] else (((64 * i : Nat) : Int) + ((Lib.ctz 64 w : Nat) : Int)) :: bitsW i (w &&& (w - 1))
termination_by w
decreasing_by have := @Nat.and_le_right w (w - 1); omega
theorem idx0 (a b c d : Nat) (w : World) : (Instr.index 47 (.agg #[.int .u64 a, .int .u64 b, .int .u64 c, .int .u64 d]) (.int .i64 0)).run Tryz.prog w = .ok (.int .u64 a) w := by
  simp [Instr.index, run_underlying Tryz.underlying47, asIntOf, go_sem, Tryz.isAgg45, Tryz.sizeOf45]
theorem idx1 (a b c d : Nat) (w : World) : (Instr.index 47 (.agg #[.int .u64 a, .int .u64 b, .int .u64 c, .int .u64 d]) (.int .i64 1)).run Tryz.prog w = .ok (.int .u64 b) w := by
  simp [Instr.index, run_underlying Tryz.underlying47, asIntOf, go_sem, Tryz.isAgg45, Tryz.sizeOf45]
theorem idx2 (a b c d : Nat) (w : World) : (Instr.index 47 (.agg #[.int .u64 a, .int .u64 b, .int .u64 c, .int .u64 d]) (.int .i64 2)).run Tryz.prog w = .ok (.int .u64 c) w := by
  simp [Instr.index, run_underlying Tryz.underlying47, asIntOf, go_sem, Tryz.isAgg45, Tryz.sizeOf45]
theorem idx3 (a b c d : Nat) (w : World) : (Instr.index 47 (.agg #[.int .u64 a, .int .u64 b, .int .u64 c, .int .u64 d]) (.int .i64 3)).run Tryz.prog w = .ok (.int .u64 d) w := by
  simp [Instr.index, run_underlying Tryz.underlying47, asIntOf, go_sem, Tryz.isAgg45, Tryz.sizeOf45]
def restL4 (a b c d : Nat) : Nat → List Int
  | 0 => bitsW 0 a ++ (bitsW 1 b ++ (bitsW 2 c ++ bitsW 3 d))
  | 1 => bitsW 1 b ++ (bitsW 2 c ++ bitsW 3 d)
  | 2 => bitsW 2 c ++ bitsW 3 d
  | 3 => bitsW 3 d
  | _ => []
set_option maxRecDepth 100000 in
set_option maxHeartbeats 4000000 in
theorem each1_in (F : Fence) (n : Nat) (h120 : F.fn 120) (h121 : F.fn 121) (hro : F.round = none) (hn : 1 ≤ n) (l Bn n₀ : Nat) (a b c d : Nat) (ha : a < 18446744073709551616) (hb : b < 18446744073709551616) (hc : c < 18446744073709551616) (hd : d < 18446744073709551616) (xs : List Int) (hxs : xs = restL4 a b c d 0) (J Jx : List Int → World → Prop)
    (hT0 : ∀ W W', Below n₀ W W' → TabAt 2 Lib.deBruijn64tab W → TabAt 2 Lib.deBruijn64tab W')
    (hwide : ∀ (x : Nat) (w : World), x < 18446744073709551616 → TabAt 2 Lib.deBruijn64tab w → CallsIn F (n - 1) Tryz.prog 121 #[.int .u64 x] w fun e w' => e = .returned (.int .i64 (Lib.ctz 64 x)) ∧ w' = w)
    (hY : ∀ pre x W, J pre W → (pre ++ [x]) <+: xs → YieldAt F (n - 1) Tryz.prog l #[.int .i64 x] W fun e W' =>
      (e = .returned (.bool true) ∧ J (pre ++ [x]) W' ∧ Below n₀ W W') ∨ (e = .returned (.bool false) ∧ Jx (pre ++ [x]) W'))
    (W : World) (b0 : W.cell? ⟨Bn, 0, none⟩ = some (.int .u64 a)) (b1 : W.cell? ⟨Bn, 1, none⟩ = some (.int .u64 b)) (b2 : W.cell? ⟨Bn, 2, none⟩ = some (.int .u64 c)) (b3 : W.cell? ⟨Bn, 3, none⟩ = some (.int .u64 d)) (hT : TabAt 2 Lib.deBruijn64tab W) (h0 : J [] W) :
    CallsIn F n Tryz.prog 120 #[.func (.yield l) #[] #[], .pointer (some ⟨Bn, 0, none⟩)] W fun e W' => (∃ v, e = .returned v) ∧
      ((∃ ys, ys = xs ∧ J ys W') ∨ (∃ pre, pre <+: xs ∧ Jx pre W')) := by
  refine callsIn_of_wp Tryz.func120 rfl h120 ?_ hro
  simp only [Tryz.ntmps120, List.size_toArray, List.length_cons, List.length_nil, Nat.reduceAdd, Nat.reduceSub, Array.replicate_succ, Array.replicate_zero, List.push_toArray, List.append_toArray, List.nil_append, List.cons_append]
  gi_wp2
  clear b0 b1 b2 b3
  gi_loopw [6] (fun v wr => ∃ (k : Nat) (pre : List Int), v = .int .i64 (k : Int) ∧ k ≤ 4 ∧ xs = pre ++ restL4 a b c d k ∧ J pre wr ∧ TabAt 2 Lib.deBruijn64tab wr) (fun v _ => 4 - (intOf v).toNat)
  case atStart => exact ⟨0, [], rfl, by omega, by rw [hxs]; rfl, h0, hT⟩
  case round =>
    obtain ⟨k, pre, rfl, hk4, hx, hJ, hTw⟩ := hrel
    have i0 := idx0 a b c d wr
    have i1 := idx1 a b c d wr
    have i2 := idx2 a b c d wr
    have i3 := idx3 a b c d wr
    obtain ⟨wo, rfl⟩ : ∃ wo : World, wo = wr := ⟨_, rfl⟩
    rcases (show k = 0 ∨ k = 1 ∨ k = 2 ∨ k = 3 ∨ k = 4 by omega) with rfl | rfl | rfl | rfl | rfl
    case inr.inr.inr.inr =>
      gi_wp2
      go_end0
      exact ⟨⟨_, rfl⟩, .inl ⟨pre, by rw [hx]; simp [restL4], hJ⟩⟩
    case inl =>
      gi_wp2
      gi_loopw [4] (fun v wr => ∃ (w : Nat) (pre : List Int), v = .int .u64 (w : Int) ∧ w < 18446744073709551616 ∧ xs = pre ++ (bitsW 0 w ++ restL4 a b c d 1) ∧ J pre wr ∧ TabAt 2 Lib.deBruijn64tab wr) (fun v _ => (intOf v).toNat)
      case atStart => exact ⟨a, pre, rfl, ha, by rw [hx]; simp [restL4], hJ, hTw⟩
      case round =>
        obtain ⟨w, pre, rfl, hw, hx, hJ, hTw⟩ := hrel
        by_cases hw0 : w = 0
        · subst hw0
          gi_wp2
          refine ⟨⟨1, pre, rfl, by omega, by rw [hx]; simp [bitsW], hJ, hTw⟩, by simp [intOf]⟩
        · have hc64 : Lib.ctz 64 w < 64 := (Lib.lowest_bit 64 w hw0 hw).2
          have hb1 : bitsW 0 w = ((Lib.ctz 64 w : Nat) : Int) :: bitsW 0 (w &&& (w - 1)) := by
            rw [bitsW]; simp [hw0]
          have hle : w &&& (w - 1) ≤ w - 1 := Nat.and_le_right
          have hand : bits BinOp.and IntKind.u64 (w : Int) ((w : Int) - 1) = ((w &&& (w - 1) : Nat) : Int) := by
            rw [← bits_and_u64_nat w (w - 1) hw (by omega)]
            congr 1; omega
          obtain ⟨fn, tmps, assign, body, hy, hR⟩ := hY pre ((Lib.ctz 64 w : Nat) : Int) wr hJ ⟨bitsW 0 (w &&& (w - 1)) ++ restL4 a b c d 1, by rw [hx, hb1]; simp⟩
          gi_wp2_with (gi_at_call 121; refine (hwide w wr hw hTw).mono ?_; rintro e w' ⟨rfl, rfl⟩)
          refine hR.mono ?_
          rintro e W3 (⟨rfl, hJ3, hk3⟩ | ⟨rfl, hJx3⟩)
          · gi_wp2
            go_roundw
            case rel => (first | exact ⟨w &&& (w - 1), pre ++ [((Lib.ctz 64 w : Nat) : Int)], rfl, by omega, by rw [hx, hb1]; simp, hJ3, hT0 _ _ hk3 hTw⟩ | ((repeat apply Exists.intro); exact ⟨⟨w &&& (w - 1), pre ++ [((Lib.ctz 64 w : Nat) : Int)], rfl, by omega, by rw [hx, hb1]; simp, hJ3, hT0 _ _ hk3 hTw⟩, rfl⟩))
            case measure => simp [intOf]; omega
          · gi_wp2
            refine bodyPost_ret (results_none rfl _ _ _) rfl ?_
            exact ⟨⟨_, rfl⟩, .inr ⟨pre ++ [((Lib.ctz 64 w : Nat) : Int)], ⟨bitsW 0 (w &&& (w - 1)) ++ restL4 a b c d 1, by rw [hx, hb1]; simp⟩, hJx3⟩⟩
    case inr.inl =>
      gi_wp2
      gi_loopw [4] (fun v wr => ∃ (w : Nat) (pre : List Int), v = .int .u64 (w : Int) ∧ w < 18446744073709551616 ∧ xs = pre ++ (bitsW 1 w ++ restL4 a b c d 2) ∧ J pre wr ∧ TabAt 2 Lib.deBruijn64tab wr) (fun v _ => (intOf v).toNat)
      case atStart => exact ⟨b, pre, rfl, hb, by rw [hx]; simp [restL4], hJ, hTw⟩
      case round =>
        obtain ⟨w, pre, rfl, hw, hx, hJ, hTw⟩ := hrel
        by_cases hw0 : w = 0
        · subst hw0
          gi_wp2
          refine ⟨⟨2, pre, rfl, by omega, by rw [hx]; simp [bitsW], hJ, hTw⟩, by simp [intOf]⟩
        · have hc64 : Lib.ctz 64 w < 64 := (Lib.lowest_bit 64 w hw0 hw).2
          have hb1 : bitsW 1 w = (64 + ((Lib.ctz 64 w : Nat) : Int)) :: bitsW 1 (w &&& (w - 1)) := by
            rw [bitsW]; simp [hw0]
          have hle : w &&& (w - 1) ≤ w - 1 := Nat.and_le_right
          have hand : bits BinOp.and IntKind.u64 (w : Int) ((w : Int) - 1) = ((w &&& (w - 1) : Nat) : Int) := by
            rw [← bits_and_u64_nat w (w - 1) hw (by omega)]
            congr 1; omega
          obtain ⟨fn, tmps, assign, body, hy, hR⟩ := hY pre (64 + ((Lib.ctz 64 w : Nat) : Int)) wr hJ ⟨bitsW 1 (w &&& (w - 1)) ++ restL4 a b c d 2, by rw [hx, hb1]; simp⟩
          gi_wp2_with (gi_at_call 121; refine (hwide w wr hw hTw).mono ?_; rintro e w' ⟨rfl, rfl⟩)
          refine hR.mono ?_
          rintro e W3 (⟨rfl, hJ3, hk3⟩ | ⟨rfl, hJx3⟩)
          · gi_wp2
            go_roundw
            case rel => (first | exact ⟨w &&& (w - 1), pre ++ [(64 + ((Lib.ctz 64 w : Nat) : Int))], rfl, by omega, by rw [hx, hb1]; simp, hJ3, hT0 _ _ hk3 hTw⟩ | ((repeat apply Exists.intro); exact ⟨⟨w &&& (w - 1), pre ++ [(64 + ((Lib.ctz 64 w : Nat) : Int))], rfl, by omega, by rw [hx, hb1]; simp, hJ3, hT0 _ _ hk3 hTw⟩, rfl⟩))
            case measure => simp [intOf]; omega
          · gi_wp2
            refine bodyPost_ret (results_none rfl _ _ _) rfl ?_
            exact ⟨⟨_, rfl⟩, .inr ⟨pre ++ [(64 + ((Lib.ctz 64 w : Nat) : Int))], ⟨bitsW 1 (w &&& (w - 1)) ++ restL4 a b c d 2, by rw [hx, hb1]; simp⟩, hJx3⟩⟩
    case inr.inr.inl =>
      gi_wp2
      gi_loopw [4] (fun v wr => ∃ (w : Nat) (pre : List Int), v = .int .u64 (w : Int) ∧ w < 18446744073709551616 ∧ xs = pre ++ (bitsW 2 w ++ restL4 a b c d 3) ∧ J pre wr ∧ TabAt 2 Lib.deBruijn64tab wr) (fun v _ => (intOf v).toNat)
      case atStart => exact ⟨c, pre, rfl, hc, by rw [hx]; simp [restL4], hJ, hTw⟩
      case round =>
        obtain ⟨w, pre, rfl, hw, hx, hJ, hTw⟩ := hrel
        by_cases hw0 : w = 0
        · subst hw0
          gi_wp2
          refine ⟨⟨3, pre, rfl, by omega, by rw [hx]; simp [bitsW], hJ, hTw⟩, by simp [intOf]⟩
        · have hc64 : Lib.ctz 64 w < 64 := (Lib.lowest_bit 64 w hw0 hw).2
          have hb1 : bitsW 2 w = (128 + ((Lib.ctz 64 w : Nat) : Int)) :: bitsW 2 (w &&& (w - 1)) := by
            rw [bitsW]; simp [hw0]
          have hle : w &&& (w - 1) ≤ w - 1 := Nat.and_le_right
          have hand : bits BinOp.and IntKind.u64 (w : Int) ((w : Int) - 1) = ((w &&& (w - 1) : Nat) : Int) := by
            rw [← bits_and_u64_nat w (w - 1) hw (by omega)]
            congr 1; omega
          obtain ⟨fn, tmps, assign, body, hy, hR⟩ := hY pre (128 + ((Lib.ctz 64 w : Nat) : Int)) wr hJ ⟨bitsW 2 (w &&& (w - 1)) ++ restL4 a b c d 3, by rw [hx, hb1]; simp⟩
          gi_wp2_with (gi_at_call 121; refine (hwide w wr hw hTw).mono ?_; rintro e w' ⟨rfl, rfl⟩)
          refine hR.mono ?_
          rintro e W3 (⟨rfl, hJ3, hk3⟩ | ⟨rfl, hJx3⟩)
          · gi_wp2
            go_roundw
            case rel => (first | exact ⟨w &&& (w - 1), pre ++ [(128 + ((Lib.ctz 64 w : Nat) : Int))], rfl, by omega, by rw [hx, hb1]; simp, hJ3, hT0 _ _ hk3 hTw⟩ | ((repeat apply Exists.intro); exact ⟨⟨w &&& (w - 1), pre ++ [(128 + ((Lib.ctz 64 w : Nat) : Int))], rfl, by omega, by rw [hx, hb1]; simp, hJ3, hT0 _ _ hk3 hTw⟩, rfl⟩))
            case measure => simp [intOf]; omega
          · gi_wp2
            refine bodyPost_ret (results_none rfl _ _ _) rfl ?_
            exact ⟨⟨_, rfl⟩, .inr ⟨pre ++ [(128 + ((Lib.ctz 64 w : Nat) : Int))], ⟨bitsW 2 (w &&& (w - 1)) ++ restL4 a b c d 3, by rw [hx, hb1]; simp⟩, hJx3⟩⟩
    case inr.inr.inr.inl =>
      gi_wp2
      gi_loopw [4] (fun v wr => ∃ (w : Nat) (pre : List Int), v = .int .u64 (w : Int) ∧ w < 18446744073709551616 ∧ xs = pre ++ (bitsW 3 w ++ restL4 a b c d 4) ∧ J pre wr ∧ TabAt 2 Lib.deBruijn64tab wr) (fun v _ => (intOf v).toNat)
      case atStart => exact ⟨d, pre, rfl, hd, by rw [hx]; simp [restL4], hJ, hTw⟩
      case round =>
        obtain ⟨w, pre, rfl, hw, hx, hJ, hTw⟩ := hrel
        by_cases hw0 : w = 0
        · subst hw0
          gi_wp2
          refine ⟨⟨4, pre, rfl, by omega, by rw [hx]; simp [bitsW], hJ, hTw⟩, by simp [intOf]⟩
        · have hc64 : Lib.ctz 64 w < 64 := (Lib.lowest_bit 64 w hw0 hw).2
          have hb1 : bitsW 3 w = (192 + ((Lib.ctz 64 w : Nat) : Int)) :: bitsW 3 (w &&& (w - 1)) := by
            rw [bitsW]; simp [hw0]
          have hle : w &&& (w - 1) ≤ w - 1 := Nat.and_le_right
          have hand : bits BinOp.and IntKind.u64 (w : Int) ((w : Int) - 1) = ((w &&& (w - 1) : Nat) : Int) := by
            rw [← bits_and_u64_nat w (w - 1) hw (by omega)]
            congr 1; omega
          obtain ⟨fn, tmps, assign, body, hy, hR⟩ := hY pre (192 + ((Lib.ctz 64 w : Nat) : Int)) wr hJ ⟨bitsW 3 (w &&& (w - 1)) ++ restL4 a b c d 4, by rw [hx, hb1]; simp⟩
          gi_wp2_with (gi_at_call 121; refine (hwide w wr hw hTw).mono ?_; rintro e w' ⟨rfl, rfl⟩)
          refine hR.mono ?_
          rintro e W3 (⟨rfl, hJ3, hk3⟩ | ⟨rfl, hJx3⟩)
          · gi_wp2
            go_roundw
            case rel => (first | exact ⟨w &&& (w - 1), pre ++ [(192 + ((Lib.ctz 64 w : Nat) : Int))], rfl, by omega, by rw [hx, hb1]; simp, hJ3, hT0 _ _ hk3 hTw⟩ | ((repeat apply Exists.intro); exact ⟨⟨w &&& (w - 1), pre ++ [(192 + ((Lib.ctz 64 w : Nat) : Int))], rfl, by omega, by rw [hx, hb1]; simp, hJ3, hT0 _ _ hk3 hTw⟩, rfl⟩))
            case measure => simp [intOf]; omega
          · gi_wp2
            refine bodyPost_ret (results_none rfl _ _ _) rfl ?_
            exact ⟨⟨_, rfl⟩, .inr ⟨pre ++ [(192 + ((Lib.ctz 64 w : Nat) : Int))], ⟨bitsW 3 (w &&& (w - 1)) ++ restL4 a b c d 4, by rw [hx, hb1]; simp⟩, hJx3⟩⟩
set_option maxHeartbeats 1000000 in
theorem each_in (F : Fence) (n : Nat) (h90 : F.fn 90) (hro : F.round = none) (a b c d : Nat) (w : World) :
    CallsIn F n Tryz.prog 90 #[.agg #[.int .u64 a, .int .u64 b, .int .u64 c, .int .u64 d]] w fun e w' => e = .returned (.func (.func 120) #[] #[.pointer (some ⟨w.heap.size, 0, none⟩)]) ∧ w' = w.alloc (.cells #[.int .u64 a, .int .u64 b, .int .u64 c, .int .u64 d] 47) := by
  refine callsIn_of_wp Tryz.func90 rfl h90 ?_ hro
  simp only [Tryz.ntmps90, List.size_toArray, List.length_cons, List.length_nil, Nat.reduceAdd, Nat.reduceSub, Array.replicate_succ, Array.replicate_zero, List.push_toArray, List.append_toArray, List.nil_append, List.cons_append]
  gi_wp2
  go_ret
  exact ⟨rfl, rfl⟩
abbrev By := { x : Int // 0 ≤ x ∧ x < 256 }
theorem bitsW_range (i : Nat) (hi : i < 4) (w : Nat) (hw : w < 18446744073709551616) : ∀ x ∈ bitsW i w, 0 ≤ x ∧ x < 256 := by
  induction w using Nat.strongRecOn with
  | _ w ih =>
    intro x hx
    rw [bitsW] at hx
    split at hx
    · cases hx
    · rename_i h0
      have hc64 : Lib.ctz 64 w < 64 := (Lib.lowest_bit 64 w h0 hw).2
      have hle : w &&& (w - 1) ≤ w - 1 := Nat.and_le_right
      rcases List.mem_cons.1 hx with rfl | hx
      · omega
      · exact ih _ (by omega) (by omega) x hx
theorem rest_range {a b c d : Nat} (ha : a < 18446744073709551616) (hb : b < 18446744073709551616) (hc : c < 18446744073709551616) (hd : d < 18446744073709551616) : ∀ x ∈ restL4 a b c d 0, 0 ≤ x ∧ x < 256 := by
  intro x hx
  simp only [restL4, List.mem_append] at hx
  rcases hx with h | h | h | h
  · exact bitsW_range 0 (by omega) a ha x h
  · exact bitsW_range 1 (by omega) b hb x h
  · exact bitsW_range 2 (by omega) c hc x h
  · exact bitsW_range 3 (by omega) d hd x h
theorem tab_below {n₀ : Nat} (h : 2 < n₀) {W W' : World} (hB : Below n₀ W W') (hT : TabAt 2 Lib.deBruijn64tab W) : TabAt 2 Lib.deBruijn64tab W' := fun j hj => (hB.cell (p := ⟨2, j, none⟩) h).trans (hT j hj)
theorem each_stops (F : Fence) (n : Nat) (h120 : F.fn 120) (h121 : F.fn 121) (hro : F.round = none) (hn : 1 ≤ n) (Bn n₀ : Nat) (a b c d : Nat) (ha : a < 18446744073709551616) (hb : b < 18446744073709551616) (hc : c < 18446744073709551616) (hd : d < 18446744073709551616)
    (hwide : ∀ (x : Nat) (w : World), x < 18446744073709551616 → TabAt 2 Lib.deBruijn64tab w → CallsIn F (n - 1) Tryz.prog 121 #[.int .u64 x] w fun e w' => e = .returned (.int .i64 (Lib.ctz 64 x)) ∧ w' = w)
    (w : World) (hBn : Bn < w.heap.size) (hn₀ : n₀ ≤ w.heap.size) (h3 : 2 < n₀) (hT : TabAt 2 Lib.deBruijn64tab w)
    (b0 : w.cell? ⟨Bn, 0, none⟩ = some (.int .u64 a)) (b1 : w.cell? ⟨Bn, 1, none⟩ = some (.int .u64 b)) (b2 : w.cell? ⟨Bn, 2, none⟩ = some (.int .u64 c)) (b3 : w.cell? ⟨Bn, 3, none⟩ = some (.int .u64 d)) :
    SeqStopsK F n Tryz.prog 120 #[.pointer (some ⟨Bn, 0, none⟩)] (fun x : By => #[Value.int .i64 x.1]) (Below n₀) (fun ys => ys.map (·.1) = restL4 a b c d 0) (fun pre => pre.map (·.1) <+: restL4 a b c d 0) (restL4 a b c d 0).length w := by
  intro l J Jx W hW _ _ hY h0
  have key := each1_in F n h120 h121 hro hn l Bn n₀ a b c d ha hb hc hd _ rfl (fun pre W => ∃ p : List By, p.map (·.1) = pre ∧ J p W) (fun pre W => ∃ p : List By, p.map (·.1) = pre ∧ Jx p W)
    (fun W W' hB hT => tab_below h3 hB hT) hwide (fun pre x W1 hJ hpre => ?_) W ((hW.cell (p := ⟨Bn, 0, none⟩) hBn).trans b0) ((hW.cell (p := ⟨Bn, 1, none⟩) hBn).trans b1) ((hW.cell (p := ⟨Bn, 2, none⟩) hBn).trans b2) ((hW.cell (p := ⟨Bn, 3, none⟩) hBn).trans b3) (tab_below h3 (hW.mono hn₀) hT) ⟨[], rfl, h0⟩
  · refine key.mono ?_
    rintro e W' ⟨hv, ⟨ys, hys, p, hp, hJ⟩ | ⟨pre, hpre, p, hp, hJ⟩⟩
    · exact ⟨hv, .inl ⟨p, hp.trans hys, hJ⟩⟩
    · exact ⟨hv, .inr ⟨p, (show p.map (·.1) <+: _ by rw [hp]; exact hpre), hJ⟩⟩
  · obtain ⟨p, hp, hJ⟩ := hJ
    have hx := rest_range ha hb hc hd x (by
      obtain ⟨r, hr⟩ := hpre
      rw [← hr]; simp)
    have hlen : p.length < (restL4 a b c d 0).length := by
      have := hpre.length_le
      rw [← hp] at this
      simp at this
      omega
    obtain ⟨fn, tmps, assign, body, hy, hR⟩ := hY p ⟨x, hx⟩ W1 hJ hlen
    refine ⟨fn, tmps, assign, body, hy, hR.mono ?_⟩
    rintro e W' (⟨he, hJ', hB⟩ | ⟨he, hJ'⟩)
    · exact .inl ⟨he, ⟨p ++ [⟨x, hx⟩], by simp [hp], hJ'⟩, hB⟩
    · exact .inr ⟨he, ⟨p ++ [⟨x, hx⟩], by simp [hp], hJ'⟩⟩
def stepS (acc : List (Int × Int)) (b : Int) : List (Int × Int) :=
  match acc.getLast? with
  | some (lo, hi) => if hi = b - 1 then acc.dropLast ++ [(lo, b)] else acc ++ [(b, b)]
  | none => [(b, b)]
def spansF (xs : List Int) : List (Int × Int) := xs.foldl stepS []
def spC (l : List (Int × Int)) : List Value := l.flatMap fun p => [.int .i64 p.1, .int .i64 p.2]
theorem spC_len (l : List (Int × Int)) : (spC l).length = l.length * 2 := by
  induction l with
  | nil => rfl
  | cons x l ih => simp only [spC, List.flatMap_cons, List.length_append] at ih ⊢; simp [ih]; omega
theorem spC_app (l m : List (Int × Int)) : spC (l ++ m) = spC l ++ spC m := by simp [spC]
theorem stepS_len (acc : List (Int × Int)) (b : Int) : (stepS acc b).length ≤ acc.length + 1 := by
  unfold stepS
  split
  · split
    · rename_i h _
      have : acc ≠ [] := by intro e; rw [e] at h; simp at h
      have := List.length_pos_iff.2 this
      simp only [List.length_append, List.length_dropLast, List.length_cons, List.length_nil]
      omega
    · simp
  · simp
theorem spansF_snoc (xs : List Int) (b : Int) : spansF (xs ++ [b]) = stepS (spansF xs) b := by simp [spansF]
theorem spansF_len (xs : List Int) : (spansF xs).length ≤ xs.length := by
  have gen : ∀ (xs : List Int) (acc : List (Int × Int)), (xs.foldl stepS acc).length ≤ acc.length + xs.length := by
    intro xs
    induction xs with
    | nil => intro acc; simp
    | cons x xs ih =>
      intro acc
      have := ih (stepS acc x)
      have := stepS_len acc x
      simp only [List.foldl_cons, List.length_cons]
      omega
  have := gen xs []
  simp only [List.length_nil, Nat.zero_add] at this
  exact this
theorem cell_two_new (w : World) (x y : Value) (t : TypeId) : ∀ j u, [x, y][j]? = some u → (w.alloc (.cells #[x, y] t)).cell? ((⟨w.heap.size, 0, none⟩ : Addr).add j) = some u := by
  intro j u hj
  match j, hj with
  | 0, hj =>
    simp at hj
    subst hj
    simp [Addr.add]
  | 1, hj =>
    simp at hj
    subst hj
    simp [Addr.add]
theorem info105 : (Tryz.prog.info? 118).map (fun i => (i.zero, i.size, i.bytes)) = some (some (.agg #[.int .i64 0, .int .i64 0]), 2, 16) := by kernel_rfl
set_option maxRecDepth 100000 in
set_option maxHeartbeats 4000000 in
theorem spans_in (F : Fence) (n : Nat) (h62 : F.fn 62) (h90 : F.fn 90) (h120 : F.fn 120) (h121 : F.fn 121) (hro : F.round = none) (hn : 3 ≤ n) (a b c d : Nat) (ha : a < 18446744073709551616) (hb : b < 18446744073709551616) (hc : c < 18446744073709551616) (hd : d < 18446744073709551616)
    (hwide : ∀ (m x : Nat) (w : World), x < 18446744073709551616 → TabAt 2 Lib.deBruijn64tab w → CallsIn F m Tryz.prog 121 #[.int .u64 x] w fun e w' => e = .returned (.int .i64 (Lib.ctz 64 x)) ∧ w' = w)
    (hN : (restL4 a b c d 0).length ≤ 256)
    (w : World) (h3 : 2 < w.heap.size) (hT : TabAt 2 Lib.deBruijn64tab w) :
    CallsIn F n Tryz.prog 62 #[.agg #[.int .u64 a, .int .u64 b, .int .u64 c, .int .u64 d]] w fun e W' => ∃ v, e = .returned v ∧ W'.ownsRow w.heap.size 118 2 v (spansF (restL4 a b c d 0)).length (spC (spansF (restL4 a b c d 0))) ∧ (v = .slice none 0 0 ↔ spansF (restL4 a b c d 0) = []) ∧ Below w.heap.size w W' := by
  have h1 : 1 ≤ n := by omega
  obtain ⟨i0, hi, hz0, hz1, hz2⟩ := info_parts info105
  refine callsIn_of_wp_marks Tryz.func62 rfl h62 ?_ hro
  simp only [Tryz.ntmps62, List.size_toArray, List.length_cons, List.length_nil, Nat.reduceAdd, Nat.reduceSub, Array.replicate_succ, Array.replicate_zero, List.push_toArray, List.append_toArray, List.nil_append, List.cons_append]
  gi_wp2_with (gi_at_call 90; refine (each_in F (n - 1) h90 hro a b c d _).mono ?_; rintro e w' ⟨rfl, rfl⟩)
  have bO := (Boxed.new (w.alloc (.cells #[.int .u64 a, .int .u64 b, .int .u64 c, .int .u64 d] 47)) 115 (.slice none 0 0))
  rw [World.size_alloc] at bO
  obtain ⟨w2, hw2⟩ : ∃ w2, (w.alloc (.cells #[.int .u64 a, .int .u64 b, .int .u64 c, .int .u64 d] 47)).alloc (.cells #[.slice none 0 0] 115) = w2 := ⟨_, rfl⟩
  have hB2 : Below w.heap.size w w2 := by rw [← hw2]; exact ((Below.refl _ w).alloc (Nat.le_refl _) _).alloc (by simp) _
  have hs2 : w2.heap.size = w.heap.size + 1 + 1 := by rw [← hw2]; simp
  rw [hw2] at bO ⊢
  have hB3 : Below w.heap.size w (w2.alloc (.cells #[.int .u64 a, .int .u64 b, .int .u64 c, .int .u64 d] 47)) := hB2.alloc (by omega) _
  have cB : ∀ j, j < 4 → (w2.alloc (.cells #[.int .u64 a, .int .u64 b, .int .u64 c, .int .u64 d] 47)).cell? ⟨w.heap.size + 1 + 1, j, none⟩ = (#[Value.int .u64 a, .int .u64 b, .int .u64 c, .int .u64 d])[j]? := by
    intro j hj
    rw [← hs2]
    have := World.alloc_heap_new w2 (.cells #[.int .u64 a, .int .u64 b, .int .u64 c, .int .u64 d] 47)
    simp only [World.cell?, this]
    simp
  refine wpIn_rangeFunc_ownG hro h1 (gf := 120) (lb := #[.pointer (some ⟨w.heap.size + 1 + 1, 0, none⟩)]) rfl h120 (enters_of Tryz.func120 (by kernel_rfl) rfl)
    (each_stops F (n - 1) h120 h121 hro (by omega) (w.heap.size + 1 + 1) w.heap.size a b c d ha hb hc hd (hwide _) _ (by simp; omega) (by simp; omega) h3 (tab_below h3 hB3 hT) (cB 0 (by omega)) (cB 1 (by omega)) (cB 2 (by omega)) (cB 3 (by omega)))
    belowK_t (belowK_b (by simp; omega)) (Below.refl _ _) (fun _ => rfl)
    (fun (pre : List By) W => (∃ v, Boxed W (w.heap.size + 1) 115 v ∧ W.ownsRow w.heap.size 118 2 v (spansF (pre.map (·.1))).length (spC (spansF (pre.map (·.1)))) ∧ (v = .slice none 0 0 ↔ spansF (pre.map (·.1)) = [])) ∧ Below w.heap.size w W)
    (fun _ _ _ => False)
    (OwnFrom.and (Own.from (holdsRow_own w.heap.size (w.heap.size + 1) 115 118 2 (fun (pre : List By) => (spansF (pre.map (·.1))).length) (fun (pre : List By) => spC (spansF (pre.map (·.1)))) (fun (pre : List By) v => v = .slice none 0 0 ↔ spansF (pre.map (·.1)) = [])) _) (ownFrom_below (Nat.le_refl _) (by simp; omega)))
    (fun _ _ _ _ _ hs _ _ => hs)
    ⟨⟨_, bO.alloc _, World.ownsRow_nil _ _ _ _, by simp [spansF]⟩, hB3⟩
    (fun (x : By) => { tmps := #[Value.agg #[.int .u64 a, .int .u64 b, .int .u64 c, .int .u64 d], .pointer (some ⟨w.heap.size, 0, none⟩), .slice none 0 0, .pointer (some ⟨w.heap.size + 1, 0, none⟩), .int .i64 x.1, undef, Value.agg #[.int .u64 a, .int .u64 b, .int .u64 c, .int .u64 d], .func (.func 120) #[] #[.pointer (some ⟨w.heap.size + 1 + 1, 0, none⟩)], .int .i64 x.1, undef, undef, undef, undef, undef, undef, undef, undef, undef, undef, undef, undef, undef, undef, undef, undef, undef, undef, undef, undef, undef, undef, undef, undef, undef, undef, undef, undef], defers := [] }) ?assign ?body ?done ?stop
  case assign =>
    intro l x W K hK
    gi_wp2
    exact hK
  case body =>
    rintro l pre ⟨x, hx0, hx1⟩ W ⟨⟨v, hv, hrow, hnil⟩, hB⟩ hlt
    have hc := hv.cell
    have hpl : (spansF (pre.map (·.1))).length ≤ pre.length := by have := spansF_len (pre.map (·.1)); simpa using this
    have hsn : spansF ((pre ++ [(⟨x, hx0, hx1⟩ : By)]).map (·.1)) = stepS (spansF (pre.map (·.1))) x := by rw [List.map_append]; exact spansF_snoc _ _
    generalize hL : spansF (pre.map (·.1)) = L at *
    have hlen : L.length ≤ 256 := by omega
    clear hL
    obtain rfl | ⟨M, ⟨lo, hi'⟩, rfl⟩ : L = [] ∨ ∃ M p, L = M ++ [p] := by
      rcases List.eq_nil_or_concat L with h | ⟨M, p, h⟩
      · exact .inl h
      · exact .inr ⟨M, p, by rw [h, List.concat_eq_append]⟩
    · obtain rfl : v = .slice none 0 0 := hnil.2 rfl
      have hst : stepS [] x = [(x, x)] := rfl
      rw [hst] at hsn
      gi_wp2_with (gi_at_builtin; refine wpListIn_append_own _ rfl _ _ 115 rfl w.heap.size 118 i0 (.agg #[.int .i64 0, .int .i64 0]) 2 16 Tryz.underlying115 hi hz0 hz1 hz2 rfl (by decide) _ _ _ rfl (hrow.alloc _) ⟨W.heap.size, 0, none⟩ 1 1 [.int .i64 x, .int .i64 x] rfl rfl (cell_two_new _ _ _ _) (by simp [Value.oneCell']) (by unfold maxLen; omega) (by omega) (by have := hB.size; simp; omega) ?_; intro v' w1 hown' hgrow _; obtain ⟨g', cap', rfl⟩ := ownsRow_succ hown'; obtain ⟨hv1, hv2, hr2, hk2, hb2⟩ := hv.appended (by decide) hrow hB.size (by omega) hown' hgrow; have hc1 := hv1.cell; have hf1 := hv1.frozen)
      have hsn' : spansF (List.unattach (pre ++ [(⟨x, hx0, hx1⟩ : By)])) = [(x, x)] := hsn
      refine ⟨hk2.from _, hb2, ⟨_, hv2, ?_, ?_⟩, hB.trans hb2⟩
      · show World.ownsRow _ _ _ _ _ (spansF (List.unattach (pre ++ [(⟨x, hx0, hx1⟩ : By)]))).length (spC (spansF (List.unattach (pre ++ [(⟨x, hx0, hx1⟩ : By)]))))
        rw [hsn']; simpa [spC] using hr2
      · show _ ↔ spansF (List.unattach (pre ++ [(⟨x, hx0, hx1⟩ : By)])) = []
        rw [hsn']; simp
    · have hml : (M ++ [(lo, hi')]).length = M.length + 1 := by simp
      rw [hml] at hrow hlen
      obtain ⟨g, cap, rfl⟩ := ownsRow_succ hrow
      have hgl : M.length * 2 + 1 < (M.length + 1) * 2 := by omega
      have hcell : W.cell? ⟨g, M.length * 2 + 1, none⟩ = some (.int .i64 hi') := by
        rw [hrow.cellAt _ hgl, spC_app, List.getElem?_append_right (by rw [spC_len]; omega), spC_len]
        simp [spC]
      have hfz := hrow.frozenAt (M.length * 2 + 1)
      generalize hm : M.length = m at *
      by_cases heq : hi' = x - 1
      · subst heq
        gi_wp2
        have hst : stepS (M ++ [(lo, x - 1)]) x = M ++ [(lo, x)] := by simp [stepS]
        rw [hst] at hsn
        have hg := hrow.lt g rfl
        have hsr := hrow.stored (m * 2 + 1) (.int .i64 x)
        have hset : (spC (M ++ [(lo, x - 1)])).set (m * 2 + 1) (.int .i64 x) = spC (M ++ [(lo, x)]) := by
          rw [spC_app, spC_app, List.set_append_right _ _ (by rw [spC_len]; omega), spC_len, hm]
          simp [spC]
        rw [hset] at hsr
        refine ⟨(KeepsOthers.setCell _ _ _).from _, (Below.refl _ W).setCell (p := ⟨g, m * 2 + 1, none⟩) hg.1 _, ⟨_, hv.kept hsr.2 (hv.not_row (by decide) hrow), ?_, ?_⟩, (hB.setCell (p := ⟨g, m * 2 + 1, none⟩) hg.1 _)⟩
        · show World.ownsRow _ _ _ _ _ (spansF ((pre ++ [(⟨x, hx0, hx1⟩ : By)]).map (·.1))).length (spC (spansF ((pre ++ [(⟨x, hx0, hx1⟩ : By)]).map (·.1))))
          rw [hsn]
          simpa [hm] using hsr.1
        · show _ ↔ spansF ((pre ++ [(⟨x, hx0, hx1⟩ : By)]).map (·.1)) = []
          rw [hsn]; simp
      · gi_wp2_with (gi_at_builtin; refine wpListIn_append_own _ rfl _ _ 115 rfl w.heap.size 118 i0 (.agg #[.int .i64 0, .int .i64 0]) 2 16 Tryz.underlying115 hi hz0 hz1 hz2 rfl (by decide) _ _ _ rfl (hrow.alloc _) ⟨W.heap.size, 0, none⟩ 1 1 [.int .i64 x, .int .i64 x] rfl rfl (cell_two_new _ _ _ _) (by simp [Value.oneCell']) (by unfold maxLen; omega) (by omega) (by have := hB.size; simp; omega) ?_; intro v' w1 hown' hgrow _; obtain ⟨g', cap', rfl⟩ := ownsRow_succ hown'; obtain ⟨hv1, hv2, hr2, hk2, hb2⟩ := hv.appended (by decide) hrow hB.size (by omega) hown' hgrow; have hc1 := hv1.cell; have hf1 := hv1.frozen)
        have hst : stepS (M ++ [(lo, hi')]) x = M ++ [(lo, hi')] ++ [(x, x)] := by simp [stepS, heq]
        rw [hst] at hsn
        refine ⟨hk2.from _, hb2, ⟨_, hv2, ?_, ?_⟩, hB.trans hb2⟩
        · show World.ownsRow _ _ _ _ _ (spansF ((pre ++ [(⟨x, hx0, hx1⟩ : By)]).map (·.1))).length (spC (spansF ((pre ++ [(⟨x, hx0, hx1⟩ : By)]).map (·.1))))
          rw [hsn, spC_app (M ++ [(lo, hi')])]
          simpa [hm, spC] using hr2
        · show _ ↔ spansF ((pre ++ [(⟨x, hx0, hx1⟩ : By)]).map (·.1)) = []
          rw [hsn]; simp
  case done =>
    rintro D ys W hD hys ⟨⟨v, hv, hrow, hnil⟩, hB⟩ hK
    rw [hys] at hrow hnil
    have hc := hv.cell
    gi_wp2
    refine ⟨by simp, .inl ⟨_, _, rfl, run_takeDeferred hK, ?_⟩⟩
    exact ⟨_, results_tmp rfl _ _ _, v, rfl, ownsRow_putObj hrow _ hK rfl, hnil, hB.trans (belowK_b (w := w) (Nat.le_refl _) W D _ _ (by simp at hD; omega) hK rfl rfl)⟩
  case stop =>
    rintro D c pre W _ _ h _
    exact h.elim
end Go.Proofs.YtdoefdmaecaacaaGreatDoor.SL
namespace Go.Proofs.YtdoefdmaecaacaaGreatDoor.SL
open Go Go.Proofs Go.Proofs.YtdoefdmaecaacaaGreatDoor.AM Go.Proofs.YtdoefdmaecaacaaGreatDoor.S
set_option linter.unusedVariables false
set_option linter.unusedSimpArgs false
variable {X : Cx}
def deBL : List L := Lib.deBruijn64tab.map fun n => .int .u8 (n : Nat)
theorem R_grow {f : Nat} {args : List PV} {r : PV} {rv : Value} (hr : detPV r = some rv) (h : ∀ (E : Env) (w : World) (vs : List Value), CxOK X E w → All2 (V E w) args vs → Calls Tryz.prog f vs.toArray w fun e w' => e = .returned rv ∧ Unch (fun _ => False) w w') :
    R X Tryz.prog f args [] r [] := by
  intro E w vs hX hI _ ha _
  refine (h E w vs hX ha).mono ?_
  rintro e w' ⟨rfl, hU⟩
  exact ⟨rv, E, rfl, (ext_step hI hU).1, det_V E w' hr, fun c cs h => by simp at h⟩
theorem deB_tab (hX : X.G 2 = some deBL) {E : Env} {w : World} (h : CxOK X E w) : 2 < w.heap.size ∧ TabAt 2 Lib.deBruijn64tab w := by
  obtain ⟨_, hlt, _, hc⟩ := h 2 _ hX
  refine ⟨hlt, fun j hj => ?_⟩
  obtain ⟨u, h1, h2⟩ := hc j (.int .u8 (Lib.deBruijn64tab.getD j 0 : Nat)) (by
    rw [deBL, List.getElem?_map, List.getElem?_eq_getElem hj, List.getD_eq_getElem?_getD, List.getElem?_eq_getElem hj]; rfl)
  cases h2
  exact h1
end Go.Proofs.YtdoefdmaecaacaaGreatDoor.SL
set_option linter.unusedVariables false
set_option linter.unusedSimpArgs false
namespace Go.Proofs.YtdoefdmaecaacaaGreatDoor.SL
open Go Go.Proofs.YtdoefdmaecaacaaGreatDoor.AM Go.Proofs.YtdoefdmaecaacaaGreatDoor.S
variable {X : Cx}
theorem wrap_u64 {n : Nat} (h : n < 2 ^ 64) : IntKind.u64.wrap (n : Int) = n := by
  simp only [IntKind.wrap, IntKind.bits, IntKind.signed]; simp; omega
def byI (z : Int) : UInt8 := UInt8.ofNat (z % 256).toNat
theorem byI_nat (z : Int) : ((byI z).toNat : Int) = z % 256 := by
  unfold byI
  rw [UInt8.toNat_ofNat']
  omega
theorem wrap_u8 (z : Int) : IntKind.u8.wrap z = ((byI z).toNat : Int) := by
  rw [byI_nat]
  simp [IntKind.wrap, IntKind.bits, IntKind.signed]
def wd (s0 s1 s2 s3 : Nat) (q : Nat) : Nat := if q = 0 then s0 else if q = 1 then s1 else if q = 2 then s2 else s3
def hasN (s0 s1 s2 s3 : Nat) (k : Nat) : Bool := decide (wd s0 s1 s2 s3 (k / 64) / 2 ^ (k % 64) % 2 = 1)
theorem and_one {x : Nat} (hx : x < 2 ^ 64) : bits .and .u64 (x : Int) 1 = ((x % 2 : Nat) : Int) := by
  have h1 : (BitVec.ofInt 64 (x : Int)).toNat = x := by simp [BitVec.toNat_ofInt]; omega
  have h2 : (BitVec.ofInt 64 (1 : Int)).toNat = 1 := rfl
  unfold bits
  simp only [BitVec.toNat_and]
  show IntKind.u64.wrap (((BitVec.ofInt 64 (x : Int)).toNat &&& (BitVec.ofInt 64 (1 : Int)).toNat : Nat) : Int) = _
  rw [h1, h2, Nat.and_one_is_mod]
  exact wrap_u64 (by omega)
theorem has_one {s k : Nat} (hs : s < 2 ^ 64) : bits .and .u64 ((s : Int).fdiv (2 ^ min ((k : Int).tmod 64).toNat IntKind.u64.bits)) 1 = ((s / 2 ^ (k % 64) % 2 : Nat) : Int) := by
  rw [Int.tmod_eq_emod_of_nonneg (show (0 : Int) ≤ (k : Int) by omega), show ((k : Int) % 64).toNat = k % 64 by omega, show IntKind.u64.bits = 64 from rfl, show min (k % 64) 64 = k % 64 by omega, show (2 : Int) ^ (k % 64) = ((2 ^ (k % 64) : Nat) : Int) by rw [Int.natCast_pow]; rfl, Int.fdiv_eq_ediv_of_nonneg _ (Int.natCast_nonneg _), ← Int.natCast_ediv]
  exact and_one (Nat.lt_of_le_of_lt (Nat.div_le_self _ _) hs)
theorem r129 (s0 s1 s2 s3 : Nat) (h0 : s0 < 2 ^ 64) (h1 : s1 < 2 ^ 64) (h2 : s2 < 2 ^ 64) (h3 : s3 < 2 ^ 64) (k : Nat) (hk : k < 256) : R X Tryz.prog 129 [.ag [.int .u64 s0, .int .u64 s1, .int .u64 s2, .int .u64 s3], .lf (.int .i64 k)] [] (.lf (.bool (hasN s0 s1 s2 s3 k))) [] := by
  have hq : ∃ q : Nat, q < 4 ∧ IntKind.i64.wrap ((k : Int).tdiv 64) = (q : Int) ∧ k / 64 = q := ⟨k / 64, by omega, by rw [w64] <;> simp [Int.tdiv_eq_ediv] <;> omega, rfl⟩
  obtain ⟨q, hq4, e1, e2⟩ := hq
  have hm : 0 ≤ (k : Int).tmod 64 := Int.tmod_nonneg _ (by omega)
  have g0 : (0 : Int) ≤ k := by omega
  have g1 : (k : Int) ≤ 255 := by omega
  have b0 := has_one (k := k) h0
  have b1 := has_one (k := k) h1
  have b2 := has_one (k := k) h2
  have b3 := has_one (k := k) h3
  have fin : ∀ s : Nat, decide (((s / 2 ^ (k % 64) % 2 : Nat) : Int) = 1) = decide (s / 2 ^ (k % 64) % 2 = 1) := fun s => decide_eq_decide.2 (by omega)
  refine R_i [] [] c129_ok rfl (by simp) ?_
  unfold hasN wd
  rcases (show q = 0 ∨ q = 1 ∨ q = 2 ∨ q = 3 by omega) with rfl | rfl | rfl | rfl
  all_goals (simp only [e2]; simp -implicitDefEqProofs (maxSteps := 2000000) only [c129,g0,g1,e1,b0,b1,b2,b3,fin,Int.toNat_natCast,Nat.reduceMul,Nat.mul_one,List.getElem?_cons_zero,List.getElem?_cons_succ,↓reduceIte,S0,q_iaa,q_ld,v_quo,v_rem,v_and,v_shr,v_leq,v_geq,o_bx,o_iaa,v_iaa_p,St.init,enum,Nat.reduceEqDiff,reduceCtorEq,cond_false,Nat.zero_le,kc_i,ne_eq,v_bx_a])
  all_goals exact ⟨by decide, ⟨by decide, by decide⟩, by decide, hm⟩
end Go.Proofs.YtdoefdmaecaacaaGreatDoor.SL
namespace Go.Proofs.YtdoefdmaecaacaaGreatDoor.SL
open Go Go.Proofs
set_option linter.unusedVariables false
set_option linter.unusedSimpArgs false
theorem low_bit {w : Nat} (h0 : w ≠ 0) (h : w < 2 ^ 64) : w.testBit (Lib.ctz 64 w) = true ∧ (∀ t, t < Lib.ctz 64 w → w.testBit t = false) ∧ ∀ t, (w &&& (w - 1)).testBit t = (decide (Lib.ctz 64 w < t) && w.testBit t) := by
  obtain ⟨m, hm, hk⟩ := Lib.ctzFrom_spec 64 w (by omega) h
  have e : Lib.ctz 64 w = Lib.ctzFrom 64 w := by simp [Lib.ctz, h0]
  rw [e]
  generalize Lib.ctzFrom 64 w = c at *
  have hp : 0 < 2 ^ c := Nat.two_pow_pos c
  have tw : ∀ t, w.testBit t = if t < c then false else (2 * m + 1).testBit (t - c) := fun t => by
    have := Nat.testBit_two_pow_mul_add (i := c) (a := 2 * m + 1) (b := 0) hp t
    rw [Nat.add_zero, ← hm] at this
    rw [this]; simp
  have ew : w - 1 = 2 ^ c * (2 * m) + (2 ^ c - 1) := by
    rw [hm, Nat.mul_add]; omega
  have tw1 : ∀ t, (w - 1).testBit t = if t < c then (2 ^ c - 1).testBit t else (2 * m).testBit (t - c) := fun t => by
    rw [ew]; exact Nat.testBit_two_pow_mul_add (i := c) (a := 2 * m) (b := 2 ^ c - 1) (by omega) t
  refine ⟨by rw [tw]; simp, fun t ht => by rw [tw, if_pos ht], fun t => ?_⟩
  rw [Nat.testBit_and, tw, tw1]
  by_cases h1 : t < c
  · simp [h1]
  · rw [if_neg h1, if_neg h1]
    by_cases h2 : t = c
    · subst h2; simp
    · have : c < t := by omega
      obtain ⟨d, hd⟩ : ∃ d, t - c = d + 1 := ⟨t - c - 1, by omega⟩
      simp only [hd, this, decide_true, Bool.true_and]
      rw [Nat.testBit_succ, Nat.testBit_succ, show (2 * m + 1) / 2 = m by omega, show 2 * m / 2 = m by omega, Bool.and_self]
theorem bits_fb (i : Nat) : ∀ (n j w : Nat), n + j = 64 → w < 2 ^ 64 → (∀ t, t < j → w.testBit t = false) → bitsW i w = ((List.range' j n).filter w.testBit).map (fun t => ((64 * i + t : Nat) : Int)) := by
  intro n
  induction n with
  | zero =>
    intro j w hj hw ht
    have : w = 0 := by
      apply Nat.eq_of_testBit_eq
      intro t
      rw [Nat.zero_testBit]
      by_cases h : t < j
      · exact ht t h
      · exact Nat.testBit_lt_two_pow (Nat.lt_of_lt_of_le hw (Nat.pow_le_pow_right (by decide) (by omega)))
    subst this
    rw [bitsW]; simp
  | succ n ih =>
    intro j w hj hw ht
    rw [List.range'_succ]
    cases hb : w.testBit j with
    | false =>
      rw [List.filter_cons_of_neg (by simp [hb])]
      exact ih (j + 1) w (by omega) hw (fun t h => by
        by_cases e : t = j
        · rw [e, hb]
        · exact ht t (by omega))
    | true =>
      have h0 : w ≠ 0 := by intro e; subst e; simp at hb
      obtain ⟨l1, l2, l3⟩ := low_bit h0 hw
      have hc : Lib.ctz 64 w = j := by
        rcases Nat.lt_trichotomy (Lib.ctz 64 w) j with h | h | h
        · rw [ht _ h] at l1; cases l1
        · exact h
        · rw [l2 _ h] at hb; cases hb
      rw [hc] at l3
      have hle : w &&& (w - 1) ≤ w - 1 := Nat.and_le_right
      rw [List.filter_cons_of_pos hb, List.map_cons, bitsW, dif_neg h0, hc, ih (j + 1) (w &&& (w - 1)) (by omega) (by omega) (fun t h => by
        rw [l3, show decide (j < t) = false from decide_eq_false (by omega)]; rfl)]
      congr 1
      congr 1
      apply List.filter_congr
      intro t hmem
      have : j + 1 ≤ t := by
        have := List.mem_range'.1 hmem
        obtain ⟨k, _, rfl⟩ := this
        omega
      rw [l3, show decide (j < t) = true from decide_eq_true (by omega), Bool.true_and]
def mems (a b c d : Nat) : List Nat := (List.range 256).filter (hasN a b c d)
theorem mems_eq {a b c d : Nat} (ha : a < 18446744073709551616) (hb : b < 18446744073709551616) (hc : c < 18446744073709551616) (hd : d < 18446744073709551616) : restL4 a b c d 0 = (mems a b c d).map (fun (t : Nat) => (t : Int)) := by
  have one : ∀ (i w : Nat), (∀ t, t < 64 → hasN a b c d (64 * i + t) = w.testBit t) → w < 2 ^ 64 → bitsW i w = ((List.range' (64 * i) 64).filter (hasN a b c d)).map (fun (t : Nat) => (t : Int)) := by
    intro i w hh hw
    rw [bits_fb i 64 0 w rfl hw (fun _ h => by omega), show List.range' (64 * i) 64 = (List.range' 0 64).map (64 * i + ·) by rw [List.map_add_range']; rfl, List.filter_map, List.map_map]
    have : (List.range' 0 64).filter w.testBit = (List.range' 0 64).filter (hasN a b c d ∘ (64 * i + ·)) := by
      apply List.filter_congr
      intro t hmem
      obtain ⟨k, hk, rfl⟩ := List.mem_range'.1 hmem
      exact (hh _ (by omega)).symm
    rw [this]
    rfl
  have tb : ∀ (i w : Nat), i < 4 → wd a b c d i = w → ∀ t, t < 64 → hasN a b c d (64 * i + t) = w.testBit t := by
    intro i w hi hw t ht
    unfold hasN
    rw [show (64 * i + t) / 64 = i by omega, show (64 * i + t) % 64 = t by omega, hw, Nat.testBit_eq_decide_div_mod_eq]
  have sp : List.range 256 = List.range' (64 * 0) 64 ++ (List.range' (64 * 1) 64 ++ (List.range' (64 * 2) 64 ++ List.range' (64 * 3) 64)) := by decide +kernel
  unfold mems
  rw [sp, List.filter_append, List.filter_append, List.filter_append, List.map_append, List.map_append, List.map_append]
  simp only [restL4]
  rw [one 0 a (tb 0 a (by omega) rfl) ha, one 1 b (tb 1 b (by omega) rfl) hb, one 2 c (tb 2 c (by omega) rfl) hc, one 3 d (tb 3 d (by omega) rfl) hd]
theorem mems_len (a b c d : Nat) : (mems a b c d).length ≤ 256 := by
  have := List.length_filter_le (hasN a b c d) (List.range 256)
  simpa [mems] using this
end Go.Proofs.YtdoefdmaecaacaaGreatDoor.SL
set_option linter.unusedVariables false
set_option linter.unusedSimpArgs false
namespace Go.Proofs.YtdoefdmaecaacaaGreatDoor.SL
open Go Go.Proofs.YtdoefdmaecaacaaGreatDoor.AM Go.Proofs.YtdoefdmaecaacaaGreatDoor.S
variable {X : Cx}
theorem xor_max (s : Nat) (h : s < 2 ^ 64) : Go.bits .xor .u64 IntKind.u64.max (s : Int) = ((notW s : Nat) : Int) := by
  have h1 : (BitVec.ofInt 64 (s : Int)).toNat = s := by simp [BitVec.toNat_ofInt]; omega
  have h2 : BitVec.ofInt 64 IntKind.u64.max = BitVec.allOnes 64 := by decide
  have h3 : (BitVec.ofInt 64 IntKind.u64.max ^^^ BitVec.ofInt 64 (s : Int)).toNat = 18446744073709551615 - s := by
    rw [h2, BitVec.allOnes_xor, BitVec.toNat_not, h1]
  show IntKind.u64.wrap ((BitVec.ofInt 64 IntKind.u64.max ^^^ BitVec.ofInt 64 (s : Int)).toNat : Int) = _
  rw [h3]
  exact wrap_u64 (by omega)
theorem r89 (a b c d : Nat) (ha : a < 2 ^ 64) (hb : b < 2 ^ 64) (hc : c < 2 ^ 64) (hd : d < 2 ^ 64) :
    R X Tryz.prog 89 [.ag [.int .u64 a, .int .u64 b, .int .u64 c, .int .u64 d]] [] (.ag [.int .u64 (notW a), .int .u64 (notW b), .int .u64 (notW c), .int .u64 (notW d)]) [] := by
  have xa := xor_max a ha
  have xb := xor_max b hb
  have xc := xor_max c hc
  have xd := xor_max d hd
  have w1 : IntKind.i64.wrap 1 = 1 := by decide
  have w2 : IntKind.i64.wrap 2 = 2 := by decide
  have w3 : IntKind.i64.wrap 3 = 3 := by decide
  have w4 : IntKind.i64.wrap 4 = 4 := by decide
  have sg : (if IntKind.u64.signed = true then (-1 : Int) else IntKind.u64.max) = IntKind.u64.max := by decide
  refine R_i [] [] c89_ok rfl (by simp) ?_
  simp -implicitDefEqProofs (maxSteps := 2000000) only [c89,↓reduceIte,S0,s_loop,o_al,o_bx,St.init,enum,Nat.reduceEqDiff,Nat.reduceBEq,Nat.zero_le,kc_i,kc_p,kC_c,pO_p,List.range_zero,v_bx_a]
  intro Z hZ; apply hZ
  simp -implicitDefEqProofs (maxSteps := 2000000) only [c89,sg,xa,xb,xc,xd,w1,w2,w3,w4,Int.reduceLT,Int.reduceAdd,Int.reduceToNat,Int.reduceLE,decide_true,decide_false,Nat.reduceLT,Nat.reduceAdd,↓reduceIte,S0,o_un,v_cmp,o_iaa,v_iaa_p,o_st,v_st_p,v_stCK,Nat.reduceEqDiff,Nat.reduceAdd,List.all_cons,List.all_nil,PV.cells,cellL,fillL,Nat.reduceMul,Nat.reduceLeDiff,List.take_zero,List.drop_zero,List.drop_succ_cons,kC_c,pO_p,st_i1,List.range_zero,Int.reduceNeg,Nat.reduceLT]
  refine ⟨by omega, by omega, ?_⟩; apply hZ
  simp -implicitDefEqProofs (maxSteps := 2000000) only [c89,sg,xa,xb,xc,xd,w1,w2,w3,w4,Int.reduceLT,Int.reduceAdd,Int.reduceToNat,Int.reduceLE,decide_true,decide_false,Nat.reduceLT,Nat.reduceAdd,↓reduceIte,S0,o_un,v_cmp,o_iaa,v_iaa_p,o_st,v_st_p,v_stCK,Nat.reduceEqDiff,Nat.reduceAdd,List.all_cons,List.all_nil,PV.cells,cellL,fillL,Nat.reduceMul,Nat.reduceLeDiff,List.take_zero,List.drop_zero,List.take_succ_cons,List.drop_succ_cons,kC_c,pO_p,st_i1,List.range_zero,Int.reduceNeg,Nat.reduceLT]
  refine ⟨by omega, by omega, ?_⟩; apply hZ
  simp -implicitDefEqProofs (maxSteps := 2000000) only [c89,sg,xa,xb,xc,xd,w1,w2,w3,w4,Int.reduceLT,Int.reduceAdd,Int.reduceToNat,Int.reduceLE,decide_true,decide_false,Nat.reduceLT,Nat.reduceAdd,↓reduceIte,S0,o_un,v_cmp,o_iaa,v_iaa_p,o_st,v_st_p,v_stCK,Nat.reduceEqDiff,Nat.reduceAdd,List.all_cons,List.all_nil,PV.cells,cellL,fillL,Nat.reduceMul,Nat.reduceLeDiff,List.take_zero,List.drop_zero,List.take_succ_cons,List.drop_succ_cons,kC_c,pO_p,st_i1,List.range_zero,Int.reduceNeg,Nat.reduceLT]
  refine ⟨by omega, by omega, ?_⟩; apply hZ
  simp -implicitDefEqProofs (maxSteps := 2000000) only [c89,sg,xa,xb,xc,xd,w1,w2,w3,w4,Int.reduceLT,Int.reduceAdd,Int.reduceToNat,Int.reduceLE,decide_true,decide_false,Nat.reduceLT,Nat.reduceAdd,↓reduceIte,S0,o_un,v_cmp,o_iaa,v_iaa_p,o_st,v_st_p,v_stCK,Nat.reduceEqDiff,Nat.reduceAdd,List.all_cons,List.all_nil,PV.cells,cellL,fillL,Nat.reduceMul,Nat.le_refl,List.take_zero,List.take_succ_cons,List.drop_succ_cons,List.drop_nil,kC_c,pO_p,st_i1,List.range_zero,Int.reduceNeg,Nat.reduceLT]
  refine ⟨by omega, by omega, ?_⟩; apply hZ
  simp -implicitDefEqProofs (maxSteps := 2000000) only [c89,sg,xa,xb,xc,xd,w1,w2,w3,w4,Int.reduceLT,Int.reduceAdd,Int.reduceToNat,Int.reduceLE,decide_true,decide_false,Nat.reduceLT,Nat.reduceAdd,↓reduceIte,S0,s_exit,s_seqK_e,s_blkK_e,s_loopK_e,v_part_t,o_st,v_st_p,v_stCK,Nat.reduceEqDiff,Nat.reduceAdd,t_ag,r_c,r_cell,r_part_t,List.all_cons,List.all_nil,PV.cells,cellL,fillL,Nat.le_refl,List.take_zero,List.drop_zero,List.take_succ_cons,List.drop_succ_cons,List.drop_nil,List.take_nil,st_b,Nat.reduceLT]
  done
def fullN (a b c d : Nat) : Bool := decide (a = 18446744073709551615 ∧ b = 18446744073709551615 ∧ c = 18446744073709551615 ∧ d = 18446744073709551615)
theorem r61 (a b c d : Nat) (ha : a < 2 ^ 64) (hb : b < 2 ^ 64) (hc : c < 2 ^ 64) (hd : d < 2 ^ 64) :
    R X Tryz.prog 61 [.ag [.int .u64 a, .int .u64 b, .int .u64 c, .int .u64 d]] [] (.lf (.bool (fullN a b c d))) [] := by
  refine R_i [] [] c61_ok rfl (by simp) ?_
  simp -implicitDefEqProofs (maxSteps := 2000000) only [c61,↓reduceIte,S0,v_part_t,o_bx,St.init,enum,Nat.reduceEqDiff,Nat.reduceAdd,PV.leaves,Nat.zero_le,Nat.le_refl,List.drop_zero,List.take_succ_cons,List.take_nil,kc_i,v_bx_a]
  refine wcall_s (r89 a b c d ha hb hc hd) rfl rfl ?_
  simp -implicitDefEqProofs (maxSteps := 2000000) only [c61,↓reduceIte,S0,o_beq,o_bd,v_agK,v_bd_n,Nat.reduceEqDiff,St.clr,outV,ownsV,owns1,ownL,List.any_cons,List.any_nil,Bool.or_self,v_beqK,v_andO,v_beqA,q_i,q_1,q_c,kd_i]
  rw [Bool.eq_iff_iff]
  simp only [Bool.and_eq_true, decide_eq_true_eq, fullN]
  have e1 : notW a = 18446744073709551615 - a := rfl
  have e2 : notW b = 18446744073709551615 - b := rfl
  have e3 : notW c = 18446744073709551615 - c := rfl
  have e4 : notW d = 18446744073709551615 - d := rfl
  constructor
  · rintro ⟨h1, h2, h3, h4⟩
    exact ⟨by omega, by omega, by omega, by omega⟩
  · rintro ⟨rfl, rfl, rfl, rfl⟩
    exact ⟨by decide, by decide, by decide, by decide⟩
theorem r128 (a b c d : Nat) (ha : a < 2 ^ 64) (hb : b < 2 ^ 64) (hc : c < 2 ^ 64) (hd : d < 2 ^ 64) :
    R X Tryz.prog 128 [.ag [.int .u64 a, .int .u64 b, .int .u64 c, .int .u64 d]] [] (.lf (.str ⟨((mems a b c d).map fun (t : Nat) => byI (t : Int)).toArray⟩)) [] := by
  have h57 := fun k hk => r129 (X := X) a b c d ha hb hc hd k hk
  have key : ∀ (n k : Nat) (xs : List (List L)), k + n = 256 → xs = ub (((List.range k).filter (hasN a b c d)).map fun (t : Nat) => byI (t : Int)) → LoopAt X Tryz.prog c128_6 [1, 3, 4] (blkK 0 (seqK X Tryz.prog c128_10 (retS [] [] 0 [RV.t 2] (.lf (.str ⟨((mems a b c d).map fun (t : Nat) => byI (t : Int)).toArray⟩)) [])))
      { m := 0, tm := [(1, PV.lf (L.ptr 1 0)), (3, PV.lf (L.lst (Tag.own 384 5) 1 xs [])), (4, PV.lf (L.int IntKind.i64 (k : Int)))],
        ce := [(1, [.int .u64 a, .int .u64 b, .int .u64 c, .int .u64 d])] } := by
    intro n
    induction n with
    | zero =>
      intro k xs hk hxs
      obtain rfl : k = 256 := by omega
      intro Z hZ; apply hZ
      have hn : ¬ ((256 : Nat) : Int) ≤ 255 := by omega
      simp -implicitDefEqProofs (maxSteps := 2000000) only [c128,hn,decide_false,↓reduceIte,S0,s_exit,s_seqK_e,s_blkK_e,s_loopK_e,v_leq,o_cbs,Nat.reduceEqDiff]
      rw [hxs, v_cbs_ub]
      simp -implicitDefEqProofs (maxSteps := 2000000) only [c128,↓reduceIte,S0]
      rfl
    | succ n ih =>
      intro k xs hk hxs
      have hn : (k : Int) ≤ 255 := by omega
      have w1 : IntKind.i64.wrap ((k : Int) + 1) = ((k + 1 : Nat) : Int) := by rw [w64 (by omega) (by omega)]; omega
      have hxl : xs.length ≤ 256 := by
        rw [hxs, ub_len, List.length_map]
        have := List.length_filter_le (hasN a b c d) (List.range k)
        simp at this; omega
      intro Z hZ; apply hZ
      simp -implicitDefEqProofs (maxSteps := 2000000) only [c128,hn,decide_true,↓reduceIte,S0,v_leq,v_part_t,Nat.reduceEqDiff,Nat.reduceAdd,PV.leaves,Nat.le_refl,List.drop_zero,List.take_succ_cons,List.take_nil]
      refine wcall_s (h57 k (by omega)) rfl rfl ?_
      have hs : (List.range (k + 1)).filter (hasN a b c d) = if hasN a b c d k = true then (List.range k).filter (hasN a b c d) ++ [k] else (List.range k).filter (hasN a b c d) := by
        rw [List.range_succ, List.filter_append]
        split <;> rename_i h <;> simp [h]
      cases hh : hasN a b c d k with
      | false =>
        rw [hh] at hs
        simp -implicitDefEqProofs (maxSteps := 2000000) only [c128,w1,↓reduceIte,S0,Nat.reduceEqDiff,St.clr,outV,ownsV,owns1,ownL,ol_b,kC_c,pO_p,List.range_zero]
        exact ih (k + 1) xs (by omega) (by rw [hxs, hs]; simp) Z hZ
      | true =>
        rw [hh] at hs
        simp -implicitDefEqProofs (maxSteps := 2000000) only [c128,w1,wrap_u8,↓reduceIte,S0,o_cvi,v_cvi,o_bs,v_bsK,v_lit_n,v_lit_c,o_app,v_app_o,Nat.reduceEqDiff,reduceCtorEq,St.clr,outV,ownsV,owns1,ownL,Bool.or_false,List.all_cons,List.all_nil,PV.cells,datL,Nat.reduceMul,Nat.reduceBEq,Nat.reduceLeDiff,kp_b,ol_b,kp_p,kp_lo,kC_c,pO_p,List.range_zero,plT,lit_n,lit_c,List.reduceReplicate,List.set_cons_zero,Nat.lt_add_one,or_false,kp_lk,rk_lk,lp_b,lp_i,lp_p,lp_lo]
        refine ⟨by omega, ih (k + 1) _ (by omega) ?_ Z hZ⟩
        rw [hxs, hs]
        simp [ub]
  refine R_i [] [] c128_ok rfl (by simp) ?_
  simp -implicitDefEqProofs (maxSteps := 2000000) only [c128,↓reduceIte,S0,s_loop,o_bx,St.init,enum,Nat.reduceEqDiff,Nat.reduceMul,Nat.zero_le,kc_i,kp_p,e_asg_n,kC_c,pO_p,List.range_zero,plT,v_bx_a]
  exact key 256 0 _ rfl rfl
theorem r103 (a b c d : Nat) (ha : a < 2 ^ 64) (hb : b < 2 ^ 64) (hc : c < 2 ^ 64) (hd : d < 2 ^ 64) :
    R X Tryz.prog 103 [.ag [.int .u64 a, .int .u64 b, .int .u64 c, .int .u64 d]] [] (.lf (.int .i64 (mems a b c d).length)) [] := by
  refine R_i [] [] c103_ok rfl (by simp) ?_
  simp -implicitDefEqProofs (maxSteps := 2000000) only [c103,↓reduceIte,S0,v_part_t,o_bx,St.init,enum,Nat.reduceEqDiff,Nat.reduceAdd,PV.leaves,Nat.zero_le,Nat.le_refl,List.drop_zero,List.take_succ_cons,List.take_nil,kc_i,v_bx_a]
  refine wcall_s (r128 a b c d ha hb hc hd) rfl rfl ?_
  simp -implicitDefEqProofs (maxSteps := 2000000) only [c103,ba_size,List.length_map,↓reduceIte,S0,o_lns,v_lns,St.clr,outV,ownsV,owns1,ownL]
  done
end Go.Proofs.YtdoefdmaecaacaaGreatDoor.SL
