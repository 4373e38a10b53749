/- Contracts, part S4. -/
import Derived.Test.YtdoefdmaecaacaaGreatDoorS1
import Derived.Test.YtdoefdmaecaacaaGreatDoorS3
set_option linter.unusedVariables false
set_option linter.unusedSimpArgs false
namespace Go.Proofs.YtdoefdmaecaacaaGreatDoor.S
open Go Go.Proofs.YtdoefdmaecaacaaGreatDoor.AM
variable {X : Cx}
abbrev headP (c : Int) : Prop := (65 ≤ c ∧ c ≤ 90) ∨ (97 ≤ c ∧ c ≤ 122) ∨ c = 95
abbrev wordP (c : Int) : Prop := headP c ∨ (48 ≤ c ∧ c ≤ 57)
abbrev nameP (s : ByteArray) : Prop := 1 ≤ s.size ∧ s.size ≤ 32 ∧ headP (byteAt s 0) ∧ ∀ i, i < s.size → wordP (byteAt s (i : Int))
theorem or32 : ∀ n : Fin 256, (((97 ≤ bits .or .u8 (n.val : Int) 32 ∧ bits .or .u8 (n.val : Int) 32 ≤ 122 ∧ (n.val : Int) < 128) ∨ (n.val : Int) = 95) ↔ headP (n.val : Int)) := by decide +kernel
theorem or32' {c : Int} (h0 : 0 ≤ c) (h1 : c ≤ 255) : ((97 ≤ bits .or .u8 c 32 ∧ bits .or .u8 c 32 ≤ 122 ∧ c < 128) ∨ c = 95) ↔ headP c := by
  have h := or32 ⟨c.toNat, by omega⟩
  have e : ((c.toNat : Nat) : Int) = c := by omega
  simp only [e] at h
  exact h
theorem r119 (c : Int) (h0 : 0 ≤ c) (h1 : c ≤ 255) : R X Tryz.prog 119 [.lf (.int .u8 c)] [] (.lf (.bool (decide (headP c)))) [] := by
  refine R_i [] [] c119_ok rfl (by simp) ?_
  have h := or32' h0 h1
  simp -implicitDefEqProofs (maxSteps := 2000000) only [c119,↓reduceIte,S0,v_or,v_leq,v_geq,St.init,enum,Nat.reduceEqDiff,reduceCtorEq,cond_false,Bool.not_true,Bool.not_false,Bool.true_eq_false,decide_eq_false_iff_not,ite_not]
  generalize bits BinOp.or IntKind.u8 c 32 = y at *
  generalize hp : decide (headP c) = r
  have e1 : ((97 ≤ y ∧ y ≤ 122 ∧ c < 128) ∨ c = 95) → true = r := fun q => by rw [← hp, decide_eq_true (h.1 q)]
  have e2 : ¬ ((97 ≤ y ∧ y ≤ 122 ∧ c < 128) ∨ c = 95) → false = r := fun q => by rw [← hp, decide_eq_false (fun z => q (h.2 z))]
  have e3 : ¬ (97 ≤ y ∧ y ≤ 122 ∧ c < 128) → decide (c = 95) = r := fun q => by
    by_cases hc : c = 95
    · rw [decide_eq_true hc]; exact e1 (.inr hc)
    · rw [decide_eq_false hc]; exact e2 (fun z => z.elim q hc)
  iterate 3 (all_goals try (with_reducible refine ite_pr (fun _ => ?_) (fun _ => ?_)))
  · exact e1 (by omega)
  all_goals exact e3 (by omega)
theorem r85 (s : ByteArray) : R X Tryz.prog 85 [.lf (.str s)] [] (.lf (.bool (decide (nameP s)))) [] := by
  refine R_i [] [] c85_ok rfl (by simp) ?_
  generalize hr : decide (nameP s) = r
  have no : ¬ nameP s → false = r := fun h => by rw [← hr, decide_eq_false h]
  have yes : nameP s → true = r := fun h => by rw [← hr, decide_eq_true h]
  have key : ∀ (n i : Nat), n + i = s.size → s.size ≤ 32 → (∀ j, j < i → wordP (byteAt s (j : Int))) → 1 ≤ s.size → headP (byteAt s 0) → LoopAt X Tryz.prog c85_11 [0, 18, 19] (blkK 0 (seqK X Tryz.prog c85_15 (retS [] [] 0 [RV.t 2] (PV.lf (L.bool r)) [])))
      { m := 0, tm := [(0, PV.lf (L.str s)), (18, PV.lf (L.int IntKind.i64 s.size)), (19, PV.lf (L.int IntKind.i64 i))], ce := [] } := by
    intro n
    induction n with
    | zero =>
      intro i hn h32 hall h1 hh Z hZ
      apply hZ
      simp -implicitDefEqProofs (maxSteps := 2000000) only [c85,↓reduceIte,S0,s_exit,s_seqK_e,s_blkK_e,s_loopK_e,o_ixs,v_ixs,Nat.reduceEqDiff,reduceCtorEq,PV.leaves]
      with_reducible refine ite_pr (fun _ => ?_) (fun _ => ?_)
      · omega
      · exact yes ⟨h1, h32, hh, fun j hj => hall j (by omega)⟩
    | succ n ih =>
      intro i hn h32 hall h1 hh Z hZ
      apply hZ
      have w3 : IntKind.i64.wrap ((i : Int) + 1) = ((i + 1 : Nat) : Int) := by rw [w64 (by omega) (by omega)]; omega
      simp -implicitDefEqProofs (maxSteps := 2000000) only [c85,w3,↓reduceIte,S0,s_exit,s_seqK_e,s_blkK_e,s_loopK_e,o_ixs,v_ixs,Nat.reduceEqDiff,reduceCtorEq,PV.leaves]
      with_reducible refine ite_pr (fun _ => ?_) (fun _ => ?_)
      rotate_left
      · omega
      refine ⟨⟨by omega, by omega⟩, ?_⟩
      refine wcall_s (r119 _ (byteAt_0 s i) (byteAt_1 s i)) rfl rfl ?_
      simp -implicitDefEqProofs (maxSteps := 2000000) only [c85,w3,↓reduceIte,S0,s_loopK_r,s_grd_no,q_pk,q_ixs,v_gtr,o_un,v_not,o_ixs,v_ixs,Nat.reduceEqDiff,reduceCtorEq,cond_false,Bool.not_true,Bool.not_false,Bool.true_eq_false,decide_eq_false_iff_not,St.clr,outV,ownsV,owns1,ownL,ol_b,pO_s,List.range_zero,ite_not,Bool.not_eq_eq_eq_not]
      have bad : ¬ wordP (byteAt s (i : Int)) → false = r := fun h => no (fun q => h (q.2.2.2 i (by omega)))
      have nx := fun h : wordP (byteAt s (i : Int)) => ih (i + 1) (by omega) h32 (fun j hj => by
        rcases Nat.lt_succ_iff_lt_or_eq.1 hj with h | rfl
        · exact hall j h
        · assumption) h1 hh Z hZ
      generalize byteAt s (i : Int) = y at *
      with_reducible refine ite_pr (fun h => ?_) (fun h => ?_)
      · exact nx (.inl h)
      refine ⟨⟨by omega, by omega⟩, ?_⟩
      with_reducible refine ite_pr (fun h2 => ?_) (fun h2 => ?_)
      · exact bad (by omega)
      refine ⟨⟨by omega, by omega⟩, ?_⟩
      with_reducible refine ite_pr (fun h2 => ?_) (fun h2 => ?_)
      · exact bad (by omega)
      · exact nx (by omega)
  simp -implicitDefEqProofs (maxSteps := 2000000) only [c85,↓reduceIte,S0,q_call,q_ixs,q_lns,v_gtr,v_seql,o_ixs,v_ixs,o_lns,v_lns,St.init,enum,Nat.reduceEqDiff,reduceCtorEq,cond_false,Bool.not_false,Bool.true_eq_false,decide_eq_false_iff_not,PV.leaves,ite_not]
  with_reducible refine ite_pr (fun h => ?_) (fun h => ?_)
  · exact no (fun q => absurd q.1 (by rw [h]; decide))
  have hz : 1 ≤ s.size := by
    rcases Nat.eq_zero_or_pos s.size with h0 | h0
    · refine absurd ?_ h
      have : s.data = #[] := Array.eq_empty_of_size_eq_zero h0
      cases s; simp_all
    · exact h0
  with_reducible refine ite_pr (fun h2 => ?_) (fun h2 => ?_)
  · exact no (fun q => by have := q.2.1; omega)
  refine ⟨⟨by omega, by omega⟩, ?_⟩
  refine wcall_s (r119 _ (byteAt_0 s 0) (byteAt_1 s 0)) rfl rfl ?_
  simp -implicitDefEqProofs (maxSteps := 2000000) only [c85,↓reduceIte,S0,s_loop,q_un,o_un,v_not,o_lns,v_lns,Nat.reduceEqDiff,reduceCtorEq,cond_false,Bool.not_true,decide_eq_false_iff_not,St.clr,outV,ownsV,owns1,ownL,ol_b,pO_s,List.range_zero,ite_not,Bool.not_eq_eq_eq_not]
  with_reducible refine ite_pr (fun h3 => ?_) (fun h3 => ?_)
  · exact key s.size 0 rfl (by omega) (fun j hj => by omega) (by omega) h3
  · exact no (fun q => h3 q.2.2.1)
theorem r92 (s : ByteArray) : R X Tryz.prog 92 [.lf (.str s)] [] (.lf (.bool (decide (nameP s)))) [] := by
  refine R_i [] [] c92_ok rfl (by simp) ?_
  generalize hr : decide (nameP s) = r
  have no : ¬ nameP s → false = r := fun h => by rw [← hr, decide_eq_false h]
  have yes : nameP s → true = r := fun h => by rw [← hr, decide_eq_true h]
  have key : ∀ (n i : Nat), n + i = s.size → s.size ≤ 32 → (∀ j, j < i → wordP (byteAt s (j : Int))) → 1 ≤ s.size → ¬ (48 ≤ byteAt s 0 ∧ byteAt s 0 ≤ 57) → LoopAt X Tryz.prog c92_11 [0, 3] (blkK 0 (seqK X Tryz.prog c92_15 (retS [] [] 0 [RV.t 2] (PV.lf (L.bool r)) [])))
      { m := 0, tm := [(0, PV.lf (L.str s)), (3, PV.lf (L.int IntKind.i64 i))], ce := [] } := by
    intro n
    induction n with
    | zero =>
      intro i hn h32 hall h1 hh Z hZ
      apply hZ
      simp -implicitDefEqProofs (maxSteps := 2000000) only [c92,↓reduceIte,S0,s_exit,s_seqK_e,s_blkK_e,s_loopK_e,s_loopK_r,s_grd_no,q_pk,v_leq,v_geq,o_un,v_not,o_ixs,v_ixs,o_lns,v_lns,Nat.reduceEqDiff,reduceCtorEq,cond_false,Bool.not_true,Bool.not_false,Bool.true_eq_false,decide_eq_false_iff_not,pO_s,List.range_zero,ite_not,Bool.not_eq_eq_eq_not]
      with_reducible refine ite_pr (fun _ => ?_) (fun _ => ?_)
      · omega
      · refine yes ⟨h1, h32, ?_, fun j hj => hall j (by omega)⟩
        have := hall 0 (by omega)
        simp only [Int.natCast_zero] at this
        rcases this with h | h
        · exact h
        · exact absurd h hh
    | succ n ih =>
      intro i hn h32 hall h1 hh Z hZ
      apply hZ
      have w3 : IntKind.i64.wrap ((i : Int) + 1) = ((i + 1 : Nat) : Int) := by rw [w64 (by omega) (by omega)]; omega
      have bad : ¬ wordP (byteAt s (i : Int)) → false = r := fun h => no (fun q => h (q.2.2.2 i (by omega)))
      have nx := fun h : wordP (byteAt s (i : Int)) => ih (i + 1) (by omega) h32 (fun j hj => by
        rcases Nat.lt_succ_iff_lt_or_eq.1 hj with h | rfl
        · exact hall j h
        · assumption) h1 hh Z hZ
      simp -implicitDefEqProofs (maxSteps := 2000000) only [c92,w3,↓reduceIte,S0,s_exit,s_seqK_e,s_blkK_e,s_loopK_e,s_loopK_r,s_grd_no,q_pk,v_leq,v_geq,o_un,v_not,o_ixs,v_ixs,o_lns,v_lns,Nat.reduceEqDiff,reduceCtorEq,cond_false,Bool.not_true,Bool.not_false,Bool.true_eq_false,decide_eq_false_iff_not,pO_s,List.range_zero,ite_not,Bool.not_eq_eq_eq_not]
      generalize byteAt s (i : Int) = y at *
      with_reducible refine ite_pr (fun h => ?_) (fun h => ?_)
      rotate_left
      · omega
      refine ⟨⟨by omega, by omega⟩, ?_⟩
      iterate 9
        all_goals try (with_reducible refine ite_pr (fun _ => ?_) (fun _ => ?_))
        all_goals try (with_reducible refine And.intro (And.intro (by omega) (by omega)) ?_)
      all_goals try omega
      all_goals first
        | exact nx (by omega)
        | exact bad (by omega)
        | trace_state
  simp -implicitDefEqProofs (maxSteps := 2000000) only [c92,↓reduceIte,S0,s_loop,s_grd_no,q_pk,q_ixs,q_lns,v_leq,v_gtr,v_geq,o_ixs,v_ixs,o_lns,v_lns,St.init,enum,Nat.reduceEqDiff,reduceCtorEq,cond_false,Bool.not_true,Bool.not_false,Bool.true_eq_false,decide_eq_false_iff_not,pO_s,List.range_zero,ite_not]
  with_reducible refine ite_pr (fun h => ?_) (fun h => ?_)
  · exact no (fun q => by have := q.1; omega)
  with_reducible refine ite_pr (fun h2 => ?_) (fun h2 => ?_)
  · exact no (fun q => by have := q.2.1; omega)
  refine ⟨⟨by omega, by omega⟩, ?_⟩
  with_reducible refine ite_pr (fun h3 => ?_) (fun h3 => ?_)
  · refine ⟨⟨by omega, by omega⟩, ?_⟩
    with_reducible refine ite_pr (fun h4 => ?_) (fun h4 => ?_)
    · exact no (fun q => by have := q.2.2.1; omega)
    · exact key s.size 0 rfl (by omega) (fun j hj => by omega) (by omega) (by omega)
  · exact key s.size 0 rfl (by omega) (fun j hj => by omega) (by omega) (by omega)
end Go.Proofs.YtdoefdmaecaacaaGreatDoor.S
set_option linter.unusedVariables false
set_option linter.unusedSimpArgs false
namespace Go.Proofs.YtdoefdmaecaacaaGreatDoor.S
open Go Go.Proofs.YtdoefdmaecaacaaGreatDoor.AM
variable {X : Cx}
def tmB : List UInt8 → Bool
  | [] => true
  | c :: r => if c.toNat = 37 then match r with
      | [] => false
      | d :: r' => if d.toNat = 37 ∨ (48 ≤ d.toNat ∧ d.toNat ≤ 57) then tmB r' else false
    else tmB r
theorem drop_byte {s : ByteArray} {i : Nat} {c : UInt8} {r : List UInt8} (h : s.data.toList.drop i = c :: r) : i < s.size ∧ byteAt s (i : Int) = (c.toNat : Int) ∧ s.data.toList.drop (i + 1) = r := by
  have hl : s.data.toList.length = s.size := size_len s
  have h1 : i < s.data.toList.length := by
    have := congrArg List.length h
    simp at this; simp; omega
  refine ⟨by omega, ?_, ?_⟩
  · have := congrArg (fun l => l[0]?) h
    simp only [List.getElem?_drop, Nat.add_zero, List.getElem?_cons_zero] at this
    unfold byteAt
    rw [Int.toNat_natCast, List.getD_eq_getElem?_getD, this]; rfl
  · rw [← List.drop_drop, h]; rfl
def tempB (s : ByteArray) : Bool := decide (s.size ≤ 255) && tmB s.data.toList
theorem r86 (s : ByteArray) : R X Tryz.prog 86 [.lf (.str s)] [] (.lf (.bool (tempB s))) [] := by
  refine R_i [] [] c86_ok rfl (by simp) ?_
  generalize hr : tempB s = r
  have key : ∀ (n i : Nat) (q : List UInt8), s.data.toList.drop i = q → q.length ≤ n → s.size ≤ 255 → tmB q = r → LoopAt X Tryz.prog c86_14 [0, 3] (blkK 0 (seqK X Tryz.prog c86_18 (retS [] [] 0 [RV.t 2] (PV.lf (L.bool r)) [])))
      { m := 0, tm := [(0, PV.lf (L.str s)), (3, PV.lf (L.int IntKind.i64 i))], ce := [] } := by
    intro n
    induction n with
    | zero =>
      intro i q hq hn h255 hr Z hZ
      obtain rfl : q = [] := List.eq_nil_of_length_eq_zero (by omega)
      have hi : s.size ≤ i := by
        have := congrArg List.length hq
        simp at this; omega
      apply hZ
      simp -implicitDefEqProofs (maxSteps := 2000000) only [c86,↓reduceIte,S0,s_exit,s_seqK_e,s_blkK_e,s_loopK_e,s_loopK_r,s_grd_no,q_pk,q_ixs,v_neq,v_gtr,o_ixs,v_ixs,o_lns,v_lns,Nat.reduceEqDiff,reduceCtorEq,cond_false,Bool.not_true,Bool.not_false,Bool.true_eq_false,decide_eq_false_iff_not,pO_s,List.range_zero,ne_eq,ite_not]
      with_reducible refine ite_pr (fun _ => ?_) (fun _ => ?_)
      · omega
      · exact hr
    | succ n ih =>
      intro i q hq hn h255 hr Z hZ
      apply hZ
      cases q with
      | nil =>
        have hi : s.size ≤ i := by
          have := congrArg List.length hq
          simp at this; omega
        simp -implicitDefEqProofs (maxSteps := 2000000) only [c86,↓reduceIte,S0,s_exit,s_seqK_e,s_blkK_e,s_loopK_e,s_loopK_r,s_grd_no,q_pk,q_ixs,v_neq,v_gtr,o_ixs,v_ixs,o_lns,v_lns,Nat.reduceEqDiff,reduceCtorEq,cond_false,Bool.not_true,Bool.not_false,Bool.true_eq_false,decide_eq_false_iff_not,pO_s,List.range_zero,ne_eq,ite_not]
        with_reducible refine ite_pr (fun _ => ?_) (fun _ => ?_)
        · omega
        · exact hr
      | cons c q =>
        obtain ⟨hi, hb, hq⟩ := drop_byte hq
        simp only [List.length_cons] at hn
        have w1 : IntKind.i64.wrap ((i : Int) + 1) = ((i + 1 : Nat) : Int) := by rw [w64 (by omega) (by omega)]; omega
        have w2 : IntKind.i64.wrap (((i + 1 : Nat) : Int) + 1) = ((i + 2 : Nat) : Int) := by rw [w64 (by omega) (by omega)]; omega
        simp -implicitDefEqProofs (maxSteps := 2000000) only [c86,w1,w2,↓reduceIte,S0,s_exit,s_seqK_e,s_blkK_e,s_loopK_e,s_loopK_r,s_grd_no,q_pk,q_ixs,v_neq,v_gtr,o_ixs,v_ixs,o_lns,v_lns,Nat.reduceEqDiff,reduceCtorEq,cond_false,Bool.not_true,Bool.not_false,Bool.true_eq_false,decide_eq_false_iff_not,pO_s,List.range_zero,ne_eq,ite_not]
        with_reducible refine ite_pr (fun _ => ?_) (fun _ => ?_)
        rotate_left
        · omega
        refine ⟨⟨by omega, by omega⟩, ?_⟩
        have hsz : s.data.toList.length = s.size := size_len s
        with_reducible refine ite_pr (fun h37 => ?_) (fun h37 => ?_)
        · have hc : c.toNat = 37 := by omega
          cases q with
          | nil =>
            have he : s.size = i + 1 := by
              have := congrArg List.length hq
              rw [List.length_drop, hsz] at this
              simp at this; omega
            simp only [tmB, hc, if_true] at hr
            with_reducible refine ite_pr (fun _ => ?_) (fun _ => ?_)
            · exact hr
            · omega
          | cons d q =>
            obtain ⟨hi2, hb2, hq2⟩ := drop_byte hq
            simp only [tmB, hc, if_true] at hr
            simp only [List.length_cons] at hn
            have nx := fun h : d.toNat = 37 ∨ (48 ≤ d.toNat ∧ d.toNat ≤ 57) => ih (i + 2) q hq2 (by omega) h255 (by rw [if_pos h] at hr; exact hr) Z hZ
            have bad : ¬ (d.toNat = 37 ∨ (48 ≤ d.toNat ∧ d.toNat ≤ 57)) → false = r := fun h => by rw [if_neg h] at hr; exact hr
            rw [hb2]
            with_reducible refine ite_pr (fun _ => ?_) (fun _ => ?_)
            · omega
            refine ⟨⟨by omega, by omega⟩, ?_⟩
            with_reducible refine ite_pr (fun _ => ?_) (fun _ => ?_)
            · exact nx (by omega)
            refine ⟨⟨by omega, by omega⟩, ?_⟩
            with_reducible refine ite_pr (fun _ => ?_) (fun _ => ?_)
            · exact bad (by omega)
            refine ⟨⟨by omega, by omega⟩, ?_⟩
            with_reducible refine ite_pr (fun _ => ?_) (fun _ => ?_)
            · exact bad (by omega)
            · exact nx (by omega)
        · have hc : ¬ c.toNat = 37 := by omega
          refine ih (i + 1) q hq (by omega) h255 ?_ Z hZ
          rw [tmB.eq_def] at hr
          simp only [hc, if_false] at hr
          exact hr
  simp -implicitDefEqProofs (maxSteps := 2000000) only [c86,↓reduceIte,S0,s_loop,v_gtr,o_lns,v_lns,St.init,enum,reduceCtorEq,pO_s,List.range_zero]
  with_reducible refine ite_pr (fun h => ?_) (fun h => ?_)
  · rw [← hr, tempB, decide_eq_false (by omega)]; rfl
  · refine key s.data.toList.length 0 _ rfl (Nat.le_refl _) (by omega) ?_
    rw [← hr, tempB, decide_eq_true (by omega)]; rfl
theorem r93 (s : ByteArray) : R X Tryz.prog 93 [.lf (.str s)] [] (.lf (.bool (tempB s))) [] := by
  refine R_i [] [] c93_ok rfl (by simp) ?_
  generalize hr : tempB s = r
  have key : ∀ (n i : Nat) (q : List UInt8), s.data.toList.drop i = q → q.length ≤ n → s.size ≤ 255 → tmB q = r → LoopAt X Tryz.prog c93_14 [0, 3] (blkK 0 (seqK X Tryz.prog c93_18 (retS [] [] 0 [RV.t 2] (PV.lf (L.bool r)) [])))
      { m := 0, tm := [(0, PV.lf (L.str s)), (3, PV.lf (L.int IntKind.i64 i))], ce := [] } := by
    intro n
    induction n with
    | zero =>
      intro i q hq hn h255 hr Z hZ
      obtain rfl : q = [] := List.eq_nil_of_length_eq_zero (by omega)
      have hi : s.size ≤ i := by
        have := congrArg List.length hq
        simp at this; omega
      apply hZ
      simp -implicitDefEqProofs (maxSteps := 2000000) only [c93,↓reduceIte,S0,s_exit,s_seqK_e,s_blkK_e,s_loopK_e,s_loopK_r,s_grd_no,q_pk,q_ixs,v_neq,v_gtr,o_ixs,v_ixs,o_lns,v_lns,Nat.reduceEqDiff,reduceCtorEq,cond_false,Bool.not_true,Bool.not_false,Bool.true_eq_false,decide_eq_false_iff_not,pO_s,List.range_zero,ne_eq,ite_not]
      with_reducible refine ite_pr (fun _ => ?_) (fun _ => ?_)
      · omega
      · exact hr
    | succ n ih =>
      intro i q hq hn h255 hr Z hZ
      apply hZ
      cases q with
      | nil =>
        have hi : s.size ≤ i := by
          have := congrArg List.length hq
          simp at this; omega
        simp -implicitDefEqProofs (maxSteps := 2000000) only [c93,↓reduceIte,S0,s_exit,s_seqK_e,s_blkK_e,s_loopK_e,s_loopK_r,s_grd_no,q_pk,q_ixs,v_neq,v_gtr,o_ixs,v_ixs,o_lns,v_lns,Nat.reduceEqDiff,reduceCtorEq,cond_false,Bool.not_true,Bool.not_false,Bool.true_eq_false,decide_eq_false_iff_not,pO_s,List.range_zero,ne_eq,ite_not]
        with_reducible refine ite_pr (fun _ => ?_) (fun _ => ?_)
        · omega
        · exact hr
      | cons c q =>
        obtain ⟨hi, hb, hq⟩ := drop_byte hq
        simp only [List.length_cons] at hn
        have w1 : IntKind.i64.wrap ((i : Int) + 1) = ((i + 1 : Nat) : Int) := by rw [w64 (by omega) (by omega)]; omega
        have w2 : IntKind.i64.wrap (((i + 1 : Nat) : Int) + 1) = ((i + 2 : Nat) : Int) := by rw [w64 (by omega) (by omega)]; omega
        simp -implicitDefEqProofs (maxSteps := 2000000) only [c93,w1,w2,↓reduceIte,S0,s_exit,s_seqK_e,s_blkK_e,s_loopK_e,s_loopK_r,s_grd_no,q_pk,q_ixs,v_neq,v_gtr,o_ixs,v_ixs,o_lns,v_lns,Nat.reduceEqDiff,reduceCtorEq,cond_false,Bool.not_true,Bool.not_false,Bool.true_eq_false,decide_eq_false_iff_not,pO_s,List.range_zero,ne_eq,ite_not]
        with_reducible refine ite_pr (fun _ => ?_) (fun _ => ?_)
        rotate_left
        · omega
        refine ⟨⟨by omega, by omega⟩, ?_⟩
        have hsz : s.data.toList.length = s.size := size_len s
        with_reducible refine ite_pr (fun h37 => ?_) (fun h37 => ?_)
        · have hc : c.toNat = 37 := by omega
          cases q with
          | nil =>
            have he : s.size = i + 1 := by
              have := congrArg List.length hq
              rw [List.length_drop, hsz] at this
              simp at this; omega
            simp only [tmB, hc, if_true] at hr
            with_reducible refine ite_pr (fun _ => ?_) (fun _ => ?_)
            · exact hr
            · omega
          | cons d q =>
            obtain ⟨hi2, hb2, hq2⟩ := drop_byte hq
            simp only [tmB, hc, if_true] at hr
            simp only [List.length_cons] at hn
            have nx := fun h : d.toNat = 37 ∨ (48 ≤ d.toNat ∧ d.toNat ≤ 57) => ih (i + 2) q hq2 (by omega) h255 (by rw [if_pos h] at hr; exact hr) Z hZ
            have bad : ¬ (d.toNat = 37 ∨ (48 ≤ d.toNat ∧ d.toNat ≤ 57)) → false = r := fun h => by rw [if_neg h] at hr; exact hr
            rw [hb2]
            with_reducible refine ite_pr (fun _ => ?_) (fun _ => ?_)
            · omega
            refine ⟨⟨by omega, by omega⟩, ?_⟩
            with_reducible refine ite_pr (fun _ => ?_) (fun _ => ?_)
            · exact nx (by omega)
            refine ⟨⟨by omega, by omega⟩, ?_⟩
            with_reducible refine ite_pr (fun _ => ?_) (fun _ => ?_)
            · exact bad (by omega)
            refine ⟨⟨by omega, by omega⟩, ?_⟩
            with_reducible refine ite_pr (fun _ => ?_) (fun _ => ?_)
            · exact bad (by omega)
            · exact nx (by omega)
        · have hc : ¬ c.toNat = 37 := by omega
          refine ih (i + 1) q hq (by omega) h255 ?_ Z hZ
          rw [tmB.eq_def] at hr
          simp only [hc, if_false] at hr
          exact hr
  simp -implicitDefEqProofs (maxSteps := 2000000) only [c93,↓reduceIte,S0,s_loop,v_gtr,o_lns,v_lns,St.init,enum,reduceCtorEq,pO_s,List.range_zero]
  with_reducible refine ite_pr (fun h => ?_) (fun h => ?_)
  · rw [← hr, tempB, decide_eq_false (by omega)]; rfl
  · refine key s.data.toList.length 0 _ rfl (Nat.le_refl _) (by omega) ?_
    rw [← hr, tempB, decide_eq_true (by omega)]; rfl
end Go.Proofs.YtdoefdmaecaacaaGreatDoor.S
set_option linter.unusedVariables false
set_option linter.unusedSimpArgs false
namespace Go.Proofs.YtdoefdmaecaacaaGreatDoor.S
open Go Go.Proofs.YtdoefdmaecaacaaGreatDoor.AM
variable {X : Cx}
theorem r84 (op : Int) : R X Tryz.prog 84 [.lf (.int .i64 op)] [] (.lf (.bool (decide ((14 ≤ op ∧ op ≤ 16) ∨ op = 23)))) [] := by
  refine R_i [] [] c84_ok rfl (by simp) ?_
  simp -implicitDefEqProofs (maxSteps := 2000000) only [c84,↓reduceIte,S0,v_leq,v_geq,St.init,enum,Nat.reduceEqDiff,reduceCtorEq,cond_false,Bool.not_true,Bool.not_false,Bool.true_eq_false,decide_eq_false_iff_not,ite_not]
  iterate 2 (all_goals try (with_reducible refine ite_pr (fun _ => ?_) (fun _ => ?_)))
  all_goals first
    | (rw [decide_eq_decide]; omega)
    | (symm; rw [decide_eq_true_eq]; omega)
def txtB (op : Int) (t : ByteArray) : Bool := if op = 4 then !decide (t = ⟨#[]⟩) && decide (t.size ≤ 255) else if op = 6 then decide (nameP t) else if op = 19 then decide (t = ⟨#[]⟩) || decide (nameP t) else if op = 22 then tempB t else decide (t = ⟨#[]⟩)
def Nd.G (x : Nd) : Prop := (x.op = 5 ∨ (x.s0 = 0 ∧ x.s1 = 0 ∧ x.s2 = 0 ∧ x.s3 = 0)) ∧ 0 ≤ x.n ∧ x.n ≤ 50 ∧ (x.n = 0 ∨ (14 ≤ x.op ∧ x.op ≤ 16) ∨ x.op = 23)
instance (x : Nd) : Decidable x.G := by unfold Nd.G; exact inferInstance
def fldB (x : Nd) : Bool := decide x.G && txtB x.op x.t
theorem eq_set (s0 s1 s2 s3 : Int) : eqLs [.int .u64 s0, .int .u64 s1, .int .u64 s2, .int .u64 s3] [.int .u64 0, .int .u64 0, .int .u64 0, .int .u64 0] = some (decide (s0 = 0 ∧ s1 = 0 ∧ s2 = 0 ∧ s3 = 0)) := by
  simp [eqLs, eqL]
theorem r59 (x : Nd) : R X Tryz.prog 59 [.ag x.c] [] (.lf (.bool (fldB x))) [] := by
  obtain ⟨op, n, t, s0, s1, s2, s3⟩ := x
  have he := eq_set s0 s1 s2 s3
  generalize hz : decide (s0 = 0 ∧ s1 = 0 ∧ s2 = 0 ∧ s3 = 0) = z at he
  have hb := fun neg ks K => v_beq (neg := neg) (ks := ks) (K := K) he
  generalize hr : fldB ⟨op, n, t, s0, s1, s2, s3⟩ = r
  have no : ¬ ((op = 5 ∨ (s0 = 0 ∧ s1 = 0 ∧ s2 = 0 ∧ s3 = 0)) ∧ 0 ≤ n ∧ n ≤ 50 ∧ (n = 0 ∨ (14 ≤ op ∧ op ≤ 16) ∨ op = 23)) → false = r := fun h => by rw [← hr, fldB, decide_eq_false (show ¬ Nd.G ⟨op, n, t, s0, s1, s2, s3⟩ from h)]; rfl
  have yes : ((op = 5 ∨ (s0 = 0 ∧ s1 = 0 ∧ s2 = 0 ∧ s3 = 0)) ∧ 0 ≤ n ∧ n ≤ 50 ∧ (n = 0 ∨ (14 ≤ op ∧ op ≤ 16) ∨ op = 23)) → txtB op t = r := fun h => by rw [← hr, fldB, decide_eq_true (show Nd.G ⟨op, n, t, s0, s1, s2, s3⟩ from h)]; rfl
  have noB : ¬ (0 ≤ n ∧ n ≤ 50 ∧ (n = 0 ∨ (14 ≤ op ∧ op ≤ 16) ∨ op = 23)) → false = r := fun h => no (fun q => h q.2)
  have noA : ¬ op = 5 → z = false → false = r := fun h1 h2 => no (fun q => by
    rcases q.1 with q | q
    · exact h1 q
    · rw [decide_eq_true q] at hz; rw [h2] at hz; cases hz)
  have yes1 : (op = 5 ∨ z = true) → (0 ≤ n ∧ n ≤ 50 ∧ (n = 0 ∨ (14 ≤ op ∧ op ≤ 16) ∨ op = 23)) → txtB op t = r := fun h1 h2 => yes ⟨by
    rcases h1 with h | h
    · exact .inl h
    · rw [h] at hz; exact .inr (of_decide_eq_true hz), h2⟩
  have h79 := r85 (X := X) t
  have h80 := r86 (X := X) t
  unfold txtB at yes1
  generalize decide (nameP t) = nm at *
  generalize tempB t = tmv at *
  clear yes no hr hz
  refine R_i [] [] c59_ok rfl (by simp) ?_
  simp -implicitDefEqProofs (maxSteps := 2000000) only [c59,hb,↓reduceIte,S0,s_grd_no,q_call,q_pk,q_beq,q_fa,q_ld,q_bd,q_lns,v_neq,v_leq,v_gtr,v_seql,v_sneq,o_beq,v_part_t,o_bx,o_bd,v_agK,v_bd_n,o_lns,v_lns,St.init,enum,Nat.reduceEqDiff,Nat.reduceAdd,cond_false,Bool.not_true,Bool.not_false,Bool.true_eq_false,decide_eq_false_iff_not,PV.leaves,Nat.zero_le,Nat.le_refl,List.drop_zero,List.take_succ_cons,List.drop_succ_cons,List.take_nil,kc_i,kc_s,rl_s,ne_eq,kd_i,ite_not,Bool.not_eq_eq_eq_not,v_bx_a]
  clear hb he
  cases z <;> simp only [Bool.false_eq_true, Bool.not_true, Bool.not_false, if_true, if_false]
  all_goals iterate 9 (all_goals try (with_reducible refine ite_pr (fun _ => ?_) (fun _ => ?_)))
  all_goals try (first | contradiction | exact noB (by omega) | exact noA (by assumption) rfl)
  all_goals try (refine wcall_s (r84 op) rfl rfl ?_; simp -implicitDefEqProofs (maxSteps := 2000000) only [c59,↓reduceIte,S0,q_call,q_pk,q_un,q_fa,q_ld,q_lns,v_leq,v_seql,v_sneq,o_un,v_not,o_lns,v_lns,Nat.reduceEqDiff,cond_false,Bool.not_true,Bool.not_false,Bool.true_eq_false,decide_eq_false_iff_not,St.clr,outV,ownsV,owns1,ownL,PV.leaves,rl_s,ol_b,ne_eq,ite_not,Bool.not_eq_eq_eq_not])
  all_goals iterate 10 (all_goals try (with_reducible refine ite_pr (fun _ => ?_) (fun _ => ?_)); all_goals try omega)
  all_goals try (first | contradiction | exact noB (by omega) | exact noA (by assumption) rfl)
  all_goals (have y := yes1 (by first | exact .inl (by assumption) | exact .inr rfl) (by omega); clear yes1 noA noB)
  all_goals try (refine wcall_s h79 rfl rfl ?_; simp -implicitDefEqProofs (maxSteps := 2000000) only [c59,↓reduceIte,S0,Nat.reduceEqDiff,St.clr,outV,ownsV,owns1,ownL,ol_b])
  all_goals try (refine wcall_s h80 rfl rfl ?_; simp -implicitDefEqProofs (maxSteps := 2000000) only [c59,↓reduceIte,S0,St.clr,outV,ownsV,owns1,ownL,ol_b])
  all_goals first
    | (simp_all; done)
    | (simp_all; rw [← y, decide_eq_decide]; omega)
end Go.Proofs.YtdoefdmaecaacaaGreatDoor.S
set_option linter.unusedVariables false
set_option linter.unusedSimpArgs false
namespace Go.Proofs.YtdoefdmaecaacaaGreatDoor.S
open Go Go.Proofs.YtdoefdmaecaacaaGreatDoor.AM
variable {X : Cx}
theorem size0 (t : ByteArray) : t = ⟨#[]⟩ ↔ t.size = 0 := by
  constructor
  · rintro rfl; rfl
  · intro h
    obtain ⟨a⟩ := t
    have : a = #[] := Array.size_eq_zero_iff.1 h
    rw [this]
set_option maxRecDepth 20000 in
set_option maxHeartbeats 2000000 in
theorem r66 (x : Nd) : R X Tryz.prog 66 [.ag x.c] [] (.lf (.bool (fldB x))) [] := by
  obtain ⟨op, n, t, s0, s1, s2, s3⟩ := x
  have he := eq_set s0 s1 s2 s3
  generalize hz : decide (s0 = 0 ∧ s1 = 0 ∧ s2 = 0 ∧ s3 = 0) = z at he
  have hb := fun neg ks K => v_beq (neg := neg) (ks := ks) (K := K) he
  generalize hr : fldB ⟨op, n, t, s0, s1, s2, s3⟩ = r
  have no : ¬ ((op = 5 ∨ (s0 = 0 ∧ s1 = 0 ∧ s2 = 0 ∧ s3 = 0)) ∧ 0 ≤ n ∧ n ≤ 50 ∧ (n = 0 ∨ (14 ≤ op ∧ op ≤ 16) ∨ op = 23)) → false = r := fun h => by rw [← hr, fldB, decide_eq_false (show ¬ Nd.G ⟨op, n, t, s0, s1, s2, s3⟩ from h)]; rfl
  have yes : ((op = 5 ∨ (s0 = 0 ∧ s1 = 0 ∧ s2 = 0 ∧ s3 = 0)) ∧ 0 ≤ n ∧ n ≤ 50 ∧ (n = 0 ∨ (14 ≤ op ∧ op ≤ 16) ∨ op = 23)) → txtB op t = r := fun h => by rw [← hr, fldB, decide_eq_true (show Nd.G ⟨op, n, t, s0, s1, s2, s3⟩ from h)]; rfl
  have noB : ¬ (0 ≤ n ∧ n ≤ 50 ∧ (n = 0 ∨ (14 ≤ op ∧ op ≤ 16) ∨ op = 23)) → false = r := fun h => no (fun q => h q.2)
  have noA : ¬ op = 5 → z = false → false = r := fun h1 h2 => no (fun q => by
    rcases q.1 with q | q
    · exact h1 q
    · rw [decide_eq_true q] at hz; rw [h2] at hz; cases hz)
  have yes1 : (op = 5 ∨ z = true) → (0 ≤ n ∧ n ≤ 50 ∧ (n = 0 ∨ (14 ≤ op ∧ op ≤ 16) ∨ op = 23)) → txtB op t = r := fun h1 h2 => yes ⟨by
    rcases h1 with h | h
    · exact .inl h
    · rw [h] at hz; exact .inr (of_decide_eq_true hz), h2⟩
  have h90 := r92 (X := X) t
  have h91 := r93 (X := X) t
  unfold txtB at yes1
  generalize decide (nameP t) = nm at *
  generalize tempB t = tmv at *
  clear yes no hr hz
  refine R_i [] [] c66_ok rfl (by simp) ?_
  simp -implicitDefEqProofs (maxSteps := 2000000) only [c66,hb,↓reduceIte,S0,s_grd_no,q_call,q_pk,q_beq,q_un,q_fa,q_ld,q_lns,v_neq,v_leq,v_gtr,v_geq,v_seql,o_beq,o_un,v_not,v_part_t,o_al,o_bx,o_st,v_st_p,v_stCK,o_bd,v_agK,v_bd_n,o_lns,v_lns,St.init,enum,Nat.reduceEqDiff,Nat.reduceAdd,cond_false,Bool.not_true,Bool.not_false,Bool.true_eq_false,decide_eq_false_iff_not,PV.leaves,List.all_cons,List.all_nil,PV.cells,cellL,fillL,Nat.reduceBEq,Nat.zero_le,Nat.le_refl,List.take_zero,List.drop_zero,List.take_succ_cons,List.drop_succ_cons,List.drop_nil,List.take_nil,kc_i,kc_s,rl_s,kc_p,st_b,ne_eq,kd_i,ite_not,Bool.not_eq_eq_eq_not,v_bx_a]
  clear hb he
  cases z <;> (try simp only [Bool.false_eq_true, Bool.not_true, Bool.not_false, if_true, if_false])
  all_goals iterate 14 (all_goals try (with_reducible refine ite_pr (fun _ => ?_) (fun _ => ?_)))
  all_goals try (first | contradiction | exact noB (by omega) | exact noA (by assumption) rfl)
  all_goals iterate 10 (all_goals try (with_reducible refine ite_pr (fun _ => ?_) (fun _ => ?_)); all_goals try omega)
  all_goals try (first | contradiction | exact noB (by omega) | exact noA (by assumption) rfl)
  all_goals (have y := yes1 (by first | exact .inl (by assumption) | exact .inr rfl) (by omega); clear yes1 noA noB)
  all_goals try (refine wcall_s h90 rfl rfl ?_; simp -implicitDefEqProofs (maxSteps := 2000000) only [c66,↓reduceIte,S0,Nat.reduceEqDiff,St.clr,outV,ownsV,owns1,ownL,ol_b])
  all_goals try (refine wcall_s h91 rfl rfl ?_; simp -implicitDefEqProofs (maxSteps := 2000000) only [c66,↓reduceIte,S0,St.clr,outV,ownsV,owns1,ownL,ol_b])
  all_goals first
    | (simp_all; done)
    | (simp_all; rw [← y, decide_eq_decide]; omega)
    | (simp_all; rcases Nat.eq_zero_or_pos t.size with h | h <;> (try have h' : ¬ t.size = 0 := by omega) <;> simp_all [size0] <;> omega)
    | (simp_all; rcases Nat.eq_zero_or_pos t.size with h | h <;> (try have h' : ¬ t.size = 0 := by omega) <;> simp_all [size0] <;> first | omega | (rw [← y, decide_eq_decide]; omega))
end Go.Proofs.YtdoefdmaecaacaaGreatDoor.S
set_option linter.unusedVariables false
set_option linter.unusedSimpArgs false
namespace Go.Proofs.YtdoefdmaecaacaaGreatDoor.S
open Go Go.Proofs.YtdoefdmaecaacaaGreatDoor.AM
variable {X : Cx}
abbrev shp (s : Int × Int) : List L := [.int .i64 s.1, .int .i64 s.2]
def nd0 : Nd := ⟨0, 0, ⟨#[]⟩, 0, 0, 0, 0⟩
def prtC (p : List Nd) (op : Int) (sh : List (Int × Int)) (k : Int) (s : Int × Int) : Option (Int × Int) :=
  if s.1 = 0 then none else some ((sh.getD (s.1 - 1).toNat (0, 0)).1, max s.2 (if k = 1 ∧ (p.getD (s.1 - 1).toNat nd0).op = op then (sh.getD (s.1 - 1).toNat (0, 0)).2 - 1 else (sh.getD (s.1 - 1).toNat (0, 0)).2))
def prts (p : List Nd) (op : Int) (sh : List (Int × Int)) (a : Int) (s : Int × Int) : Option (Int × Int) :=
  if a = 0 then some s else if a = 1 then prtC p op sh 0 s else (prtC p op sh 0 s).bind (prtC p op sh 1)
def shC (p : List Nd) (i : Int) (x : Nd) (sh : List (Int × Int)) : Int × (Int × Int) :=
  if arF x.op < 0 then (40, 0, 0) else if fldB x = false then (41, 0, 0) else
  match prts p x.op sh (arF x.op) (i, 0) with
  | none => (42, 0, 0)
  | some s => if 60 < s.2 + 1 then (4, 0, 0) else (0, s.1, s.2 + 1)
def chkR (p : List Nd) : List Nd → Int → List (Int × Int) → Int × Int × List (Int × Int)
  | [], i, sh => (0, 0, sh)
  | x :: r, i, sh => if (shC p i x sh).1 = 0 then chkR p r (i + 1) (sh ++ [(shC p i x sh).2]) else (i, (shC p i x sh).1, sh)
def eachF (p : List Nd) : Int × Int :=
  if (chkR p p 0 []).2.1 = 0 then (if p = [] ∨ ¬ ((chkR p p 0 []).2.2.getD (p.length - 1) (0, 0)).1 = 0 then ((p.length : Int), 42) else (0, 0)) else ((chkR p p 0 []).1, (chkR p p 0 []).2.1)
def chk (p : List Nd) : Int × Int := if 2048 < p.length then (0, 2) else eachF p
def ShI (sh : List (Int × Int)) : Prop := ∀ (j : Nat) (s : Int × Int), sh[j]? = some s → (0 ≤ s.1 ∧ s.1 ≤ j) ∧ 0 ≤ s.2 ∧ s.2 ≤ 60
theorem ShI.get {sh : List (Int × Int)} (h : ShI sh) {j : Nat} (hj : j < sh.length) : (0 ≤ (sh.getD j (0, 0)).1 ∧ (sh.getD j (0, 0)).1 ≤ j) ∧ 0 ≤ (sh.getD j (0, 0)).2 ∧ (sh.getD j (0, 0)).2 ≤ 60 := by
  rw [List.getD_eq_getElem?_getD, List.getElem?_eq_getElem hj]
  exact h j _ (List.getElem?_eq_getElem hj)
theorem prtC_ok {p : List Nd} {op : Int} {sh : List (Int × Int)} {k : Int} {s s' : Int × Int} (hI : ShI sh) (h0 : 0 ≤ s.1 ∧ s.1 ≤ sh.length) (h1 : 0 ≤ s.2 ∧ s.2 ≤ 60) (h : prtC p op sh k s = some s') :
    (0 ≤ s'.1 ∧ s'.1 ≤ s.1 - 1) ∧ 0 ≤ s'.2 ∧ s'.2 ≤ 60 := by
  unfold prtC at h
  split at h
  · cases h
  · obtain ⟨a, b⟩ := s
    have hj : (a - 1).toNat < sh.length := by simp only at *; omega
    have := hI.get hj
    simp only [Option.some.injEq] at h
    subst h
    simp only at *
    split <;> omega
theorem shC_ok {p : List Nd} {x : Nd} {sh : List (Int × Int)} (hI : ShI sh) (h : (shC p sh.length x sh).1 = 0) : ShI (sh ++ [(shC p sh.length x sh).2]) := by
  intro j s hs
  by_cases hj : j < sh.length
  · rw [List.getElem?_append_left hj] at hs
    exact hI j s hs
  · rw [List.getElem?_append_right (by omega)] at hs
    have e : j = sh.length := by
      have := (List.getElem?_eq_some_iff.1 hs).1
      simp at this; omega
    subst e
    simp only [Nat.sub_self, List.getElem?_cons_zero, Option.some.injEq] at hs
    subst hs
    unfold shC at h ⊢
    split at h
    · cases h
    split at h
    · cases h
    rename_i h1 h2
    rw [if_neg h1, if_neg h2]
    split at h
    · cases h
    rename_i s hs
    (try rw [hs]); (try simp only)
    split at h
    · cases h
    rename_i h3
    rw [if_neg h3]
    have key : (0 ≤ s.1 ∧ s.1 ≤ (sh.length : Int)) ∧ 0 ≤ s.2 := by
      unfold prts at hs
      split at hs
      · cases hs; simp
      · split at hs
        · have := prtC_ok hI (by simp) (by simp) hs; simp only at this; omega
        · obtain ⟨s1, h4, h5⟩ := Option.bind_eq_some_iff.1 hs
          have a1 := prtC_ok hI (by simp) (by simp) h4
          have a2 := prtC_ok hI (by simp only at a1; omega) a1.2 h5
          simp only at a1 a2; omega
    exact ⟨key.1, by simp only; omega, by simp only; omega⟩
theorem r34 (a b c : Int) : R X Tryz.prog 34 [.lf (.int .i64 a), .ag [.int .i64 b, .int .i64 c]] [] (.tp []) [] := by
  refine R_i [] [] c34_ok rfl (by simp) ?_
  simp -implicitDefEqProofs (maxSteps := 2000000) only [c34,↓reduceIte,S0,o_bx,St.init,enum,reduceCtorEq,s_ret_n,Nat.zero_le,kc_i,one_0,v_bx_a]
theorem fn34 : fnOK Tryz.prog 34 = true := by kernel_rfl
abbrev inS (p : List Nd) (sp spr : List (List L)) (sh : List (Int × Int)) (x : Nd) (i : Nat) (a k : Int) (s : Int × Int) (extra : List (Nat × PV)) : St :=
  { m := 0, tm := [(0, .lf (.lst .ro 7 (p.map Nd.c) sp)), (1, .lf (.fn 34 [] [])), (6, .lf (.lst (.own 768 79) 2 (sh.map shp) spr)), (7, .lf (.int .i64 i)), (8, .lf (.ptr 8 0)), (10, .lf (.ptr 10 0)),
      (16, .lf (.lst .ro 7 (p.map Nd.c) sp)), (17, .lf (.int .i64 p.length)), (18, .lf (.int .i64 i)), (35, .lf (.int .i64 a)), (36, .lf (.int .i64 k))] ++ extra, ce := [(8, x.c), (10, shp s)] }
theorem in_done (p : List Nd) (sp spr : List (List L)) (sh : List (Int × Int)) (x : Nd) (i : Nat) (a k : Int) (s : Int × Int) (h : ¬ k < a) (Q : Out → St → Prop) (hQ : Q .nrm (inS p sp spr sh x i a k s [(37, .lf (.bool false))])) :
    LoopAt X Tryz.prog c33_20 [0, 1, 6, 7, 8, 10, 16, 17, 18, 35, 36] (blkK 2 Q) (inS p sp spr sh x i a k s []) := by
  obtain ⟨b, e⟩ := s
  obtain ⟨op, n, t, s0, s1, s2, s3⟩ := x
  simp only [inS, List.append_nil, List.cons_append, List.nil_append] at hQ ⊢
  intro Z hZ; apply hZ
  simp -implicitDefEqProofs (maxSteps := 2000000) only [c33,h,decide_false,↓reduceIte,S0,s_exit,s_seqK_e,s_blkK_e,s_loopK_e,Nat.reduceEqDiff,reduceCtorEq]
  exact hQ
theorem in_step (p : List Nd) (sp spr : List (List L)) (sh : List (Int × Int)) (x : Nd) (i : Nat) (a k : Int) (s : Int × Int) (h : k < a) (hk : k = 0 ∨ k = 1) (hI : ShI sh) (hs : (0 ≤ s.1 ∧ s.1 ≤ sh.length) ∧ 0 ≤ s.2 ∧ s.2 ≤ 60) (hsh : sh.length ≤ p.length) (hp : p.length ≤ 2048) (Q : Out → St → Prop)
    (h0 : s.1 = 0 → Q .ret { m := 0, tm := [(4, .lf (.int .i64 i)), (5, .lf (.int .i64 42))], ce := [(8, x.c), (10, shp s)] })
    (h1 : ∀ s', prtC p x.op sh k s = some s' → LoopAt X Tryz.prog c33_20 [0, 1, 6, 7, 8, 10, 16, 17, 18, 35, 36] (blkK 2 Q) (inS p sp spr sh x i a (k + 1) s' [])) :
    LoopAt X Tryz.prog c33_20 [0, 1, 6, 7, 8, 10, 16, 17, 18, 35, 36] (blkK 2 Q) (inS p sp spr sh x i a k s []) := by
  obtain ⟨b, e⟩ := s
  obtain ⟨op, n, t, s0, s1, s2, s3⟩ := x
  simp only [inS, List.append_nil] at h1 h0 hs ⊢
  have wk : IntKind.i64.wrap (k + 1) = k + 1 := w64 (by omega) (by omega)
  have wb : IntKind.i64.wrap (b - 1) = b - 1 := w64 (by omega) (by omega)
  have hml : (p.map Nd.c).length = p.length := List.length_map _
  have hsl : (sh.map shp).length = sh.length := List.length_map _
  intro Z hZ; apply hZ
  by_cases hb : b = 0
  · subst hb
    simp -implicitDefEqProofs (maxSteps := 2000000) only [c33,h,decide_true,↓reduceIte,S0,s_loopK_r,Nat.reduceEqDiff,reduceCtorEq]
    exact h0 rfl
  · have hj : (b - 1).toNat < sh.length := by omega
    have hgI := hI.get hj
    have hz := h1 _ (by unfold prtC; rw [if_neg hb])
    have hg : (sh.map shp).getD (b - 1).toNat [] = [.int .i64 (sh.getD (b - 1).toNat (0, 0)).1, .int .i64 (sh.getD (b - 1).toNat (0, 0)).2] := by
      simp only [List.getD_eq_getElem?_getD, List.getElem?_map, List.getElem?_eq_getElem hj]; rfl
    have hgp : (p.map Nd.c).getD (b - 1).toNat [] = (p.getD (b - 1).toNat nd0).c := by
      have hj2 : (b - 1).toNat < p.length := by omega
      simp only [List.getD_eq_getElem?_getD, List.getElem?_map, List.getElem?_eq_getElem hj2]; rfl
    have wh : IntKind.i64.wrap ((sh.getD (b - 1).toNat (0, 0)).2 - 1) = (sh.getD (b - 1).toNat (0, 0)).2 - 1 := w64 (by omega) (by omega)
    generalize (sh.getD (b - 1).toNat (0, 0)) = q at *
    generalize p.getD (b - 1).toNat nd0 = y at *
    simp only at hz
    rcases hk with rfl | rfl
    · have n01 : ((0 : Int) = 1) = False := by simp
      simp only [n01, false_and, if_false] at hz
      simp -implicitDefEqProofs (maxSteps := 2000000) only [c33,h,decide_true,hb,decide_false,wb,hg,v_ld_e,n01,wk,↓reduceIte,S0,s_ops2,s_wopsqK,s_qnil,s_qcons,s_qguard,q_pk,v_sub,v_part_t,o_al,o_st,v_st_p,v_stCK,o_bd,v_agK,v_bd_n,v_bd_c,Nat.reduceEqDiff,Nat.reduceAdd,reduceCtorEq,Bool.not_true,List.any_nil,Bool.or_self,List.all_cons,List.all_nil,PV.cells,cellL,fillL,Nat.reduceBEq,Nat.reduceLeDiff,Nat.zero_le,Nat.le_refl,List.take_zero,List.drop_zero,List.take_succ_cons,List.drop_succ_cons,List.drop_nil,List.take_nil,kc_b,kc_i,kc_s,kc_p,kc_l,kC_c,pO_p,st_b,List.range_zero,ne_eq,not_false_eq_true,kc_fn,kc_eo,pO_fn,o_mm,v_mm]
      refine ⟨⟨by omega, by rw [hsl]; exact hj⟩, by rw [hsl]; exact hj, ?_⟩
      exact hz Z hZ
    · have n11 : ((1 : Int) = 1) = True := by simp
      have b7 : (b - 1).toNat < p.length := by omega
      simp only [n11, true_and] at hz
      by_cases hy : y.op = op
      · rw [if_pos hy] at hz
        simp -implicitDefEqProofs (maxSteps := 2000000) only [c33,h,decide_true,hb,decide_false,wb,hg,hgp,v_ld_e,wh,n11,wk,hy,↓reduceIte,S0,s_ops2,s_wopsqK,s_qnil,s_qcons,s_qguard,q_pk,q_fa,q_ia,q_ld,v_sub,v_part_t,o_al,v_fa_e,o_st,v_st_p,v_stCK,o_bd,v_agK,v_bd_n,v_bd_c,Nat.reduceEqDiff,Nat.reduceAdd,reduceCtorEq,cond_true,List.any_nil,Bool.or_self,List.all_cons,List.all_nil,PV.cells,cellL,fillL,Nat.reduceBEq,Nat.reduceLeDiff,Nat.zero_le,Nat.le_refl,List.take_zero,List.drop_zero,List.take_succ_cons,List.drop_succ_cons,List.drop_nil,List.take_nil,kc_b,kc_i,kc_s,kc_p,kc_l,kC_c,pO_p,st_b,st_i1,List.range_zero,ne_eq,not_false_eq_true,kc_fn,kc_eo,pO_fn,o_mm,v_mm]
        refine ⟨⟨by omega, by rw [hsl]; exact hj⟩, by rw [hsl]; exact hj, ⟨by omega, by rw [hml]; exact b7⟩, by rw [hml]; exact b7, ?_⟩
        exact hz Z hZ
      · rw [if_neg hy] at hz
        simp -implicitDefEqProofs (maxSteps := 2000000) only [c33,h,decide_true,hb,decide_false,wb,hg,hgp,v_ld_e,wh,n11,wk,hy,↓reduceIte,S0,s_ops2,s_wopsqK,s_qnil,s_qcons,s_qguard,q_pk,q_fa,q_ia,q_ld,v_sub,v_part_t,o_al,v_fa_e,o_st,v_st_p,v_stCK,o_bd,v_agK,v_bd_n,v_bd_c,Nat.reduceEqDiff,Nat.reduceAdd,reduceCtorEq,cond_true,List.any_nil,Bool.or_self,List.all_cons,List.all_nil,PV.cells,cellL,fillL,Nat.reduceBEq,Nat.reduceLeDiff,Nat.zero_le,Nat.le_refl,List.take_zero,List.drop_zero,List.take_succ_cons,List.drop_succ_cons,List.drop_nil,List.take_nil,kc_b,kc_i,kc_s,kc_p,kc_l,kC_c,pO_p,st_b,List.range_zero,ne_eq,not_false_eq_true,kc_fn,kc_eo,pO_fn,o_mm,v_mm]
        refine ⟨⟨by omega, by rw [hsl]; exact hj⟩, by rw [hsl]; exact hj, ⟨by omega, by rw [hml]; exact b7⟩, by rw [hml]; exact b7, ?_⟩
        exact hz Z hZ
theorem in_all (p : List Nd) (sp spr : List (List L)) (sh : List (Int × Int)) (x : Nd) (i : Nat) (a : Int) (ha : a = 0 ∨ a = 1 ∨ a = 2) (hI : ShI sh) (hi : sh.length = i) (hsh : sh.length ≤ p.length) (hp : p.length ≤ 2048) (Q : Out → St → Prop)
    (h1 : ∀ s, prts p x.op sh a ((i : Int), 0) = some s → ((0 ≤ s.1 ∧ s.1 ≤ i) ∧ 0 ≤ s.2 ∧ s.2 ≤ 60) → Q .nrm (inS p sp spr sh x i a a s [(37, .lf (.bool false))]))
    (h0 : ∀ s : Int × Int, prts p x.op sh a ((i : Int), 0) = none → Q .ret { m := 0, tm := [(4, .lf (.int .i64 i)), (5, .lf (.int .i64 42))], ce := [(8, x.c), (10, shp s)] }) :
    LoopAt X Tryz.prog c33_20 [0, 1, 6, 7, 8, 10, 16, 17, 18, 35, 36] (blkK 2 Q) (inS p sp spr sh x i a 0 ((i : Int), 0) []) := by
  have b0 : (0 ≤ ((i : Int), (0 : Int)).1 ∧ ((i : Int), (0 : Int)).1 ≤ sh.length) ∧ 0 ≤ ((i : Int), (0 : Int)).2 ∧ ((i : Int), (0 : Int)).2 ≤ 60 := by simp only; omega
  rcases ha with rfl | rfl | rfl
  · exact in_done p sp spr sh x i 0 0 _ (by decide) Q (h1 _ (by simp [prts]) (by simp only; omega))
  · have e1 : ∀ s, prts p x.op sh 1 s = prtC p x.op sh 0 s := fun s => by simp [prts]
    refine in_step p sp spr sh x i 1 0 _ (by decide) (.inl rfl) hI b0 hsh hp Q (fun h => h0 _ (by rw [e1]; unfold prtC; rw [if_pos h])) (fun s' hs' => ?_)
    have o1 := prtC_ok hI b0.1 b0.2 hs'
    exact in_done p sp spr sh x i 1 (0 + 1) s' (by decide) Q (h1 s' (by rw [e1]; exact hs') (by simp only at o1; omega))
  · have e1 : ∀ s, prts p x.op sh 2 s = (prtC p x.op sh 0 s).bind (prtC p x.op sh 1) := fun s => by simp [prts]
    have en : ((i : Int), (0 : Int)).1 = 0 → prts p x.op sh 2 ((i : Int), 0) = none := fun h => by
      have : prtC p x.op sh 0 ((i : Int), 0) = none := by unfold prtC; rw [if_pos h]
      rw [e1, this]; rfl
    refine in_step p sp spr sh x i 2 0 _ (by decide) (.inl rfl) hI b0 hsh hp Q (fun h => h0 _ (en h)) (fun s' hs' => ?_)
    have o1 := prtC_ok hI b0.1 b0.2 hs'
    simp only at o1
    refine in_step p sp spr sh x i 2 (0 + 1) s' (by decide) (.inr rfl) hI (by omega) hsh hp Q (fun h => h0 _ (by rw [e1, hs']; show prtC p x.op sh 1 s' = none; unfold prtC; rw [if_pos h])) (fun s2 hs2 => ?_)
    have o2 := prtC_ok hI (by omega) o1.2 hs2
    exact in_done p sp spr sh x i 2 (0 + 1 + 1) s2 (by decide) Q (h1 s2 (by rw [e1, hs']; exact hs2) (by omega))
end Go.Proofs.YtdoefdmaecaacaaGreatDoor.S
set_option linter.unusedVariables false
set_option linter.unusedSimpArgs false
namespace Go.Proofs.YtdoefdmaecaacaaGreatDoor.S
open Go Go.Proofs.YtdoefdmaecaacaaGreatDoor.AM
variable {X : Cx}
theorem ar_cases (op : Int) : arF op = -1 ∨ arF op = 0 ∨ arF op = 1 ∨ arF op = 2 := by
  unfold arF; (repeat' split) <;> simp
theorem r33 (p : List Nd) (sp : List (List L)) (hp : p.length ≤ 2048) : R X Tryz.prog 33 [.lf (.lst .ro 7 (p.map Nd.c) sp), .lf (.fn 34 [] [])] [] (.tp [.lf (.int .i64 (eachF p).1), .lf (.int .i64 (eachF p).2)]) [] := by
  have hml : (p.map Nd.c).length = p.length := List.length_map _
  generalize hE : eachF p = E
  refine R_i [] [] c33_ok rfl (by simp) ?_
  simp -implicitDefEqProofs (maxSteps := 2000000) only [c33,v_ms,hml,↓reduceIte,S0,s_loop,o_ms,o_len,v_len,St.init,enum,Nat.reduceEqDiff,Nat.reduceAdd,reduceCtorEq,Nat.reduceMul,Nat.reduceBEq,kp_lro,List.range_zero,plT,kp_fn,rk_fn,pO_fn]
  intro _
  refine ⟨⟨by decide, by omega, by omega, by omega⟩, fun _ => ?_⟩
  have key : ∀ (q d : List Nd) (sh : List (Int × Int)) (spr : List (List L)), d ++ q = p → sh.length = d.length → ShI sh → chkR p q d.length sh = chkR p p 0 [] →
      LoopAt X Tryz.prog c33_39 [0, 1, 6, 16, 17, 18] (blkK 0 (seqK X Tryz.prog c33_47 (retS [] [] 0 [RV.t 4, RV.t 5] (PV.tp [PV.lf (L.int IntKind.i64 E.1), PV.lf (L.int IntKind.i64 E.2)]) [])))
        { m := 0, tm := [(0, .lf (.lst .ro 7 (p.map Nd.c) sp)), (1, .lf (.fn 34 [] [])), (6, .lf (.lst (.own 768 79) 2 (sh.map shp) spr)), (16, .lf (.lst .ro 7 (p.map Nd.c) sp)), (17, .lf (.int .i64 p.length)), (18, .lf (.int .i64 d.length))], ce := [] } := by
    intro q
    induction q with
    | nil =>
      intro d sh spr hd hl hI hc
      simp only [List.append_nil] at hd
      subst hd
      simp only [chkR] at hc
      have hlt : ¬ (d.length : Int) < d.length := by omega
      have hsl : (sh.map shp).length = sh.length := List.length_map _
      unfold eachF at hE
      rw [← hc] at hE
      simp only [if_true] at hE
      intro Z hZ; apply hZ
      by_cases h0 : d = []
      · subst h0
        rw [if_pos (.inl rfl)] at hE
        subst hE
        have a0 : (((0 : Nat) : Int) < ((0 : Nat) : Int)) = False := by simp
        have a1 : (((0 : Nat) : Int) = 0) = True := by simp
        simp -implicitDefEqProofs (maxSteps := 2000000) only [c33,a0,a1,decide_false,hml,↓reduceIte,S0,s_exit,s_seqK_e,s_blkK_e,s_loopK_e,q_fa,q_ia,q_ld,q_len,v_sub,v_neq,v_fa_e,v_ld_m,o_len,v_len,Nat.reduceEqDiff,reduceCtorEq,cond_false,Bool.not_false,Bool.true_eq_false,decide_eq_false_iff_not,Nat.zero_le,ne_eq,implies_true,forall_const,ite_not]
      · have hpos : 0 < d.length := List.length_pos_iff.2 h0
        have hn0 : ¬ (d.length : Int) = 0 := by omega
        have wl : IntKind.i64.wrap ((d.length : Int) - 1) = (d.length : Int) - 1 := w64 (by omega) (by omega)
        have hj : ((d.length : Int) - 1).toNat = d.length - 1 := by omega
        have hg : (sh.map shp).getD ((d.length : Int) - 1).toNat [] = [.int .i64 (sh.getD (d.length - 1) (0, 0)).1, .int .i64 (sh.getD (d.length - 1) (0, 0)).2] := by
          rw [hj]
          have hj2 : d.length - 1 < sh.length := by omega
          simp only [List.getD_eq_getElem?_getD, List.getElem?_map, List.getElem?_eq_getElem hj2]; rfl
        simp -implicitDefEqProofs (maxSteps := 2000000) only [c33,hlt,decide_false,hml,hn0,wl,hg,v_ld_e,↓reduceIte,S0,s_exit,s_seqK_e,s_blkK_e,s_loopK_e,q_fa,q_ia,q_ld,q_len,v_sub,v_neq,v_fa_e,o_len,v_len,Nat.reduceEqDiff,reduceCtorEq,cond_false,ne_eq,ite_not]
        intro _ _
        refine ⟨⟨by omega, by rw [hsl]; omega⟩, by rw [hsl]; omega, ?_⟩
        with_reducible refine ite_pr (fun g => ?_) (fun g => ?_)
        · rw [if_neg (by simp only [not_or, Decidable.not_not]; exact ⟨h0, g⟩)] at hE
          subst hE; exact ⟨rfl, rfl⟩
        · rw [if_pos (.inr g)] at hE
          subst hE; intro _; exact ⟨rfl, rfl⟩
    | cons x q ih =>
      intro d sh spr hd hl hI hc
      have hdl : d.length < p.length := by rw [← hd]; simp
      have hlt : (d.length : Int) < p.length := by omega
      have h33 := r40 (X := X) x.op
      have h57 := r59 (X := X) x
      obtain ⟨op, n, tx, s0, s1, s2, s3⟩ := x
      have hx : (p.map Nd.c).getD ((d.length : Nat) : Int).toNat [] = [.int .i64 op, .int .i64 n, .str tx, .int .u64 s0, .int .u64 s1, .int .u64 s2, .int .u64 s3] := by
        rw [Int.toNat_natCast, List.getD_eq_getElem?_getD, List.getElem?_map, ← hd]; simp
      intro Z hZ; apply hZ
      simp -implicitDefEqProofs (maxSteps := 2000000) only [c33,hlt,decide_true,hx,v_ld_e,↓reduceIte,S0,v_part_t,o_al,o_st,v_st_p,v_stCK,Nat.reduceEqDiff,Nat.reduceAdd,reduceCtorEq,List.any_nil,Bool.or_self,PV.leaves,List.all_cons,List.all_nil,PV.cells,cellL,fillL,Nat.zero_le,Nat.le_refl,List.take_zero,List.drop_zero,List.take_succ_cons,List.drop_succ_cons,List.drop_nil,List.take_nil,kc_b,kc_i,kc_s,kc_l,st_b,kc_fn,kc_er]
      refine ⟨⟨by omega, by rw [hml]; omega⟩, by rw [hml]; omega, wcall_s h33 rfl rfl ?_⟩
      simp only [chkR] at hc
      have hE1 : ∀ (e : Int), (shC p d.length ⟨op, n, tx, s0, s1, s2, s3⟩ sh).1 = e → ¬ e = 0 → E = ((d.length : Int), e) := by
        intro e he hne
        rw [if_neg (by rw [he]; exact hne), he] at hc
        rw [← hE]; unfold eachF
        rw [← hc]
        simp only
        rw [if_neg hne]
      have hgo : ∀ s' : Int × Int, shC p d.length ⟨op, n, tx, s0, s1, s2, s3⟩ sh = (0, s') → LoopAt X Tryz.prog c33_39 [0, 1, 6, 16, 17, 18] (blkK 0 (seqK X Tryz.prog c33_47 (retS [] [] 0 [RV.t 4, RV.t 5] (PV.tp [PV.lf (L.int IntKind.i64 E.1), PV.lf (L.int IntKind.i64 E.2)]) [])))
          { m := 0, tm := [(0, .lf (.lst .ro 7 (p.map Nd.c) sp)), (1, .lf (.fn 34 [] [])), (6, .lf (.lst (.own 768 79) 2 (sh.map shp ++ [[.int .i64 s'.1, .int .i64 s'.2]]) [])), (16, .lf (.lst .ro 7 (p.map Nd.c) sp)), (17, .lf (.int .i64 p.length)), (18, .lf (.int .i64 (d.length + 1 : Nat)))], ce := [] } := by
        intro s' he
        have hk := shC_ok (p := p) (x := ⟨op, n, tx, s0, s1, s2, s3⟩) hI (by rw [hl, he])
        rw [hl, he] at hk
        rw [he] at hc
        simp only [if_true] at hc
        have := ih (d ++ [⟨op, n, tx, s0, s1, s2, s3⟩]) (sh ++ [s']) [] (by simp [← hd]) (by simp [hl]) hk (by rw [show ((((d ++ [(⟨op, n, tx, s0, s1, s2, s3⟩ : Nd)]).length : Nat)) : Int) = (d.length : Int) + 1 by simp]; exact hc)
        simp only [List.map_append, List.map_cons, List.map_nil, List.length_append, List.length_cons, List.length_nil, Nat.zero_add] at this
        exact this
      unfold shC at hE1 hgo
      simp only at hE1 hgo
      rcases ar_cases op with ha | ha
      · rw [ha] at hE1 ⊢
        have hEe := hE1 40 (by simp) (by decide)
        have am : ((-1 : Int) < 0) = True := by simp
        subst hEe
        simp -implicitDefEqProofs (maxSteps := 2000000) only [c33,am,decide_true,↓reduceIte,S0,s_loopK_r,Nat.reduceEqDiff,reduceCtorEq,St.clr,outV,ownsV,owns1,ownL,Int.reduceNeg]
      · have hnn : ¬ arF op < 0 := by omega
        rw [if_neg hnn] at hE1
        simp -implicitDefEqProofs (maxSteps := 2000000) only [c33,hnn,decide_false,↓reduceIte,S0,v_part_t,Nat.reduceEqDiff,Nat.reduceAdd,reduceCtorEq,St.clr,outV,ownsV,owns1,ownL,PV.leaves,Nat.le_refl,List.drop_zero,List.take_succ_cons,List.take_nil,rl_s]
        refine wcall_s h57 rfl rfl ?_
        cases hf : fldB ⟨op, n, tx, s0, s1, s2, s3⟩ with
        | false =>
          rw [hf] at hE1
          have hEe := hE1 41 (by simp) (by decide)
          subst hEe
          simp -implicitDefEqProofs (maxSteps := 2000000) only [c33,↓reduceIte,S0,s_loopK_r,o_un,v_not,Nat.reduceEqDiff,reduceCtorEq,Bool.not_false,St.clr,outV,ownsV,owns1,ownL,ol_b]
        | true =>
          rw [hf] at hE1 hgo
          simp only [Bool.true_eq_false, if_false, if_neg hnn] at hE1 hgo
          simp -implicitDefEqProofs (maxSteps := 2000000) only [c33,↓reduceIte,S0,s_loop,o_un,v_not,o_al,o_st,v_st_p,v_stCK,o_bd,v_agK,v_bd_n,v_bd_c,Nat.reduceEqDiff,Nat.reduceAdd,reduceCtorEq,Bool.not_true,St.clr,outV,ownsV,owns1,ownL,List.any_nil,Bool.or_self,List.all_cons,List.all_nil,PV.cells,cellL,fillL,Nat.reduceBEq,Nat.reduceLeDiff,Nat.zero_le,Nat.le_refl,List.take_zero,List.drop_zero,List.drop_succ_cons,List.drop_nil,kc_b,kc_i,kc_s,ol_b,kc_p,kc_l,kC_c,pO_p,st_b,List.range_zero,ne_eq,not_false_eq_true,kc_fn,pO_fn]
          refine in_all p sp spr sh ⟨op, n, tx, s0, s1, s2, s3⟩ d.length (arF op) ha hI hl (by omega) hp _ (fun s hs hb => ?_) (fun s hs => ?_)
          · simp only [inS, List.cons_append, List.nil_append, hs] at hE1 hgo ⊢
            obtain ⟨b, e⟩ := s
            simp only at hb hE1 hgo
            have we : IntKind.i64.wrap (e + 1) = e + 1 := w64 (by omega) (by omega)
            by_cases he : 60 < e + 1
            · rw [if_pos he] at hE1
              have hEe := hE1 4 rfl (by decide)
              subst hEe
              simp -implicitDefEqProofs (maxSteps := 2000000) only [c33,we,he,↓reduceIte,S0,s_loopK_r,v_gtr,o_st,v_st_p,v_stCK,Nat.reduceEqDiff,Nat.reduceAdd,reduceCtorEq,List.all_cons,List.all_nil,PV.cells,cellL,fillL,Nat.le_refl,List.take_zero,List.take_succ_cons,List.drop_succ_cons,List.drop_nil,st_i1]
            · rw [if_neg he] at hE1 hgo
              simp -implicitDefEqProofs (maxSteps := 2000000) only [c33,we,he,↓reduceIte,S0,v_gtr,v_part_t,o_st,v_st_p,v_stCK,o_bs,v_bsK,v_lit_n,v_lit_c,o_app,v_app_o,Nat.reduceEqDiff,Nat.reduceAdd,reduceCtorEq,Bool.or_false,PV.leaves,List.all_cons,List.all_nil,PV.cells,cellL,datL,fillL,Nat.reduceMul,Nat.reduceBEq,Nat.reduceLeDiff,Nat.le_refl,List.take_zero,List.drop_zero,List.take_succ_cons,List.drop_succ_cons,List.drop_nil,List.take_nil,kp_b,kp_s,kp_p,kp_lro,kp_lo,st_i1,plT,lit_n,lit_c,List.reduceReplicate,List.set_cons_zero,Nat.lt_add_one,or_false,kp_fn,rk_fn,o_cald,kp_lk,rk_lk,lp_b,lp_i,lp_s,lp_p,lp_lr,lp_lo,lp_fn]
              refine ⟨by simp only [List.length_map]; omega, ?_⟩
              refine wcald_i fn34 rfl (r34 _ _ _) rfl ?_
              have wd : IntKind.i64.wrap ((d.length : Int) + 1) = ((d.length + 1 : Nat) : Int) := by rw [w64 (by omega) (by omega)]; omega
              simp -implicitDefEqProofs (maxSteps := 2000000) only [c33,wd,↓reduceIte,S0,Nat.reduceEqDiff,reduceCtorEq,St.clr,outV,ownsV,List.any_nil,List.range_zero,pO_fn]
              exact hgo (b, e + 1) rfl Z hZ
          · rw [hs] at hE1
            have hEe := hE1 42 rfl (by decide)
            subst hEe
            simp -implicitDefEqProofs (maxSteps := 2000000) only [c33,↓reduceIte,S0,s_loopK_r,Nat.reduceEqDiff]
  exact key p [] [] _ rfl rfl (fun j s h => by simp at h) rfl
theorem r21 (p : List Nd) (sp : List (List L)) : R X Tryz.prog 21 [.lf (.lst .ro 7 (p.map Nd.c) sp)] [] (.tp [.lf (.int .i64 (chk p).1), .lf (.int .i64 (chk p).2)]) [] := by
  have hml : (p.map Nd.c).length = p.length := List.length_map _
  have h40 := r33 (X := X) p sp
  refine R_i [] [] c21_ok rfl (by simp) ?_
  unfold chk
  simp -implicitDefEqProofs (maxSteps := 2000000) only [c21,hml,↓reduceIte,S0,v_gtr,o_len,v_len,St.init,enum,Nat.reduceEqDiff,reduceCtorEq,PV.leaves,rl_l,rl_fn,pl_nn]
  intro _
  by_cases h : 2048 < p.length
  · have h' : (2048 : Int) < p.length := by omega
    rw [if_pos h]
    simp -implicitDefEqProofs (maxSteps := 2000000) only [c21,h',↓reduceIte,S0]
  · have h' : ¬ (2048 : Int) < p.length := by omega
    rw [if_neg h]
    simp -implicitDefEqProofs (maxSteps := 2000000) only [c21,h',↓reduceIte]
    refine wcall_s (h40 (by omega)) rfl rfl ?_
    simp -implicitDefEqProofs (maxSteps := 2000000) only [c21,↓reduceIte,S0,o_ext,v_ext0,v_ext1,Nat.reduceEqDiff,St.clr,outV,ownsV,owns1,ownL,List.any_cons,List.any_nil,Bool.or_self,m_1l]
end Go.Proofs.YtdoefdmaecaacaaGreatDoor.S
set_option linter.unusedVariables false
set_option linter.unusedSimpArgs false
namespace Go.Proofs.YtdoefdmaecaacaaGreatDoor.S
open Go Go.Proofs.YtdoefdmaecaacaaGreatDoor.AM
variable {X : Cx}
theorem W.ldg {w : W} : w.c[2]? = some (.bool w.g) := rfl
theorem pat_long (T : Txt X) (t : Tr) (w : W) (hw : w.ok) (hg : w.g = true) : R X Tryz.prog 22 [bt, .lf (.rp t.c 0)] [w.c] (.tp []) [(putsW (toks T t) w).c] := by
  rw [putsW_g _ _ hg]
  obtain ⟨l, hl⟩ := tr_c t
  rw [hl]
  refine R_i [(3, 3)] [] c22_ok rfl (by simp) ?_
  simp only [List.cons_append, List.nil_append]
  simp -implicitDefEqProofs (maxSteps := 2000000) only [c22,↓reduceIte,S0,St.init,enum,Option.map_some,List.all_cons,List.all_nil,rc_t,o_mkf,v_mkf,v_lf_n,v_lf_c,capL]
  refine wmkf_n ?_
  simp -implicitDefEqProofs (maxSteps := 2000000) only [c22,W.ldg,hg,↓reduceIte,S0,Nat.reduceEqDiff,reduceCtorEq,Nat.lt_add_one,e_asg_fn,v_fa_t,v_ld_t,v_nc_t,one_0]
  exact W.to hw
theorem ar0 {op : Int} (h : arF op = 0) : op = 1 ∨ op = 2 ∨ op = 3 ∨ op = 17 ∨ op = 4 ∨ op = 5 ∨ op = 6 := by
  unfold arF at h; (repeat' split at h) <;> omega
theorem ar1 {op : Int} (h : arF op = 1) : op = 18 ∨ op = 20 ∨ op = 21 ∨ op = 12 ∨ op = 13 ∨ op = 19 ∨ (op = 9 ∨ op = 10 ∨ op = 11 ∨ op = 14 ∨ op = 15 ∨ op = 16 ∨ op = 22 ∨ op = 23) := by
  unfold arF at h; (repeat' split at h) <;> omega
theorem ar2 {op : Int} (h : arF op = 2) : op = 7 ∨ op = 8 := by
  unfold arF at h; (repeat' split at h) <;> omega
theorem pat0 (T : Txt X) (x : Nd) (hx : x.ok) (ha : arF x.op = 0) (w : W) (hw : w.ok) (hg : w.g = false) : R X Tryz.prog 22 [bt, .lf (.rp (Tr.l0 x).c 0)] [w.c] (.tp []) [(putsW (toks T (.l0 x)) w).c] := by
  have h14 := fun s hs => r32 (X := X) w hw s hs
  have ok1 : ∀ s, (putW s w).ok := fun s => putW_ok hw
  obtain ⟨op, n, tx, s0, s1, s2, s3⟩ := x
  have h28 := T.h28 tx hx.t
  have h29 := T.h29 s0 s1 s2 s3 hx.s0.1 hx.s0.2 hx.s1.1 hx.s1.2 hx.s2.1 hx.s2.2 hx.s3.1 hx.s3.2
  have l1 := T.lit_n tx hx.t
  have l2 := T.set_n s0 s1 s2 s3
  have l3 := hx.t
  simp only at ha l3
  refine R_i [(3, 3)] [] c22_ok rfl (by simp) ?_
  simp only [Tr.c, List.cons_append, List.nil_append, toks, tok0, putsW]
  simp -implicitDefEqProofs (maxSteps := 2000000) only [c22,↓reduceIte,S0,St.init,enum,Option.map_some,List.all_cons,List.all_nil,rc_t,o_mkf,v_mkf,v_lf_n,v_lf_c,capL]
  refine wmkf_n ?_
  rcases ar0 ha with e | e | e | e | e | e | e
  case' inl => subst e
  case' inr.inl => subst e
  case' inr.inr.inl => subst e
  case' inr.inr.inr.inl => subst e
  iterate 4
    · simp -implicitDefEqProofs (maxSteps := 2000000) only [c22,W.ldg,hg,↓reduceIte,S0,Nat.reduceEqDiff,reduceCtorEq,PV.leaves,rl_s,e_asg_fn,o_cald,v_fa_t,v_ld_t,v_nc_t,v_fa_r,v_ld_r,v_nc_r]
      refine wcald_c fn32 0 rfl (h14 _ ?_) rfl (W.toC hw) rfl ?_
      · first | decide | omega
      simp -implicitDefEqProofs (maxSteps := 2000000) only [c22,W.fromC (ok1 _),↓reduceIte,S0,s_ret_n,outV,ownsV,List.any_nil,Nat.lt_add_one,kl_fn,one_0,kl_rp]
      exact W.to (ok1 _)
  · subst e
    simp -implicitDefEqProofs (maxSteps := 2000000) only [c22,W.ldg,hg,↓reduceIte,S0,Nat.reduceEqDiff,reduceCtorEq,PV.leaves,rl_s,e_asg_fn,o_cald,v_fa_t,v_ld_t,v_nc_t,v_fa_r,v_ld_r,v_nc_r]
    refine wcall_s h28 rfl rfl ?_
    simp -implicitDefEqProofs (maxSteps := 2000000) only [c22,↓reduceIte,S0,Nat.reduceEqDiff,St.clr,outV,ownsV,owns1,ownL,PV.leaves,rl_s,o_cald]
    refine wcald_c fn32 0 rfl (h14 _ ?_) rfl (W.toC hw) rfl ?_
    · first | decide | omega
    simp -implicitDefEqProofs (maxSteps := 2000000) only [c22,W.fromC (ok1 _),↓reduceIte,S0,s_ret_n,outV,ownsV,List.any_nil,Nat.lt_add_one,kl_fn,one_0,kl_rp]
    exact W.to (ok1 _)
  · subst e
    simp -implicitDefEqProofs (maxSteps := 2000000) only [c22,W.ldg,hg,↓reduceIte,S0,v_part_t,Nat.reduceEqDiff,Nat.reduceAdd,reduceCtorEq,PV.leaves,Nat.reduceLeDiff,List.take_zero,List.drop_zero,List.take_succ_cons,List.drop_succ_cons,rl_s,e_asg_fn,o_cald,v_fa_t,v_ld_t,v_nc_t,v_fa_r,v_ld_r,v_nc_r]
    refine wcall_s h29 rfl rfl ?_
    simp -implicitDefEqProofs (maxSteps := 2000000) only [c22,↓reduceIte,S0,Nat.reduceEqDiff,St.clr,outV,ownsV,owns1,ownL,PV.leaves,rl_s,o_cald]
    refine wcald_c fn32 0 rfl (h14 _ ?_) rfl (W.toC hw) rfl ?_
    · first | decide | omega
    simp -implicitDefEqProofs (maxSteps := 2000000) only [c22,W.fromC (ok1 _),↓reduceIte,S0,s_ret_n,outV,ownsV,List.any_nil,Nat.lt_add_one,kl_fn,one_0,kl_rp]
    exact W.to (ok1 _)
  · subst e
    simp -implicitDefEqProofs (maxSteps := 2000000) only [c22,W.ldg,hg,↓reduceIte,S0,v_part_t,Nat.reduceEqDiff,Nat.reduceAdd,reduceCtorEq,PV.leaves,Nat.reduceLeDiff,List.take_zero,List.drop_zero,List.take_succ_cons,List.drop_succ_cons,rl_s,e_asg_fn,o_cald,v_fa_t,v_ld_t,v_nc_t,v_fa_r,v_ld_r,v_nc_r]
    refine wcald_c fn32 0 rfl (h14 _ ?_) rfl (W.toC hw) rfl ?_
    · first | decide | omega
    simp -implicitDefEqProofs (maxSteps := 2000000) only [c22,W.fromC (ok1 _),↓reduceIte,S0,s_ret_n,outV,ownsV,List.any_nil,Nat.lt_add_one,kl_fn,one_0,kl_rp]
    exact W.to (ok1 _)
end Go.Proofs.YtdoefdmaecaacaaGreatDoor.S
set_option linter.unusedVariables false
set_option linter.unusedSimpArgs false
namespace Go.Proofs.YtdoefdmaecaacaaGreatDoor.S
open Go Go.Proofs.YtdoefdmaecaacaaGreatDoor.AM
variable {X : Cx}
theorem pat1 (T : Txt X) (x : Nd) (a : Tr) (h : PatOK T a) (hx : x.ok) (ha : arF x.op = 1) (w : W) (hw : w.ok) (hg : w.g = false) : R X Tryz.prog 22 [bt, .lf (.rp (Tr.l1 x a).c 0)] [w.c] (.tp []) [(putsW (toks T (.l1 x a)) w).c] := by
  have h30 := fun o e ho he k => r37 T (x := x) h o e ho he k w hw
  have h32 := r39 T (.l1 x a) hx
  have ok1 : ∀ l, (putsW l w).ok := fun l => putsW_ok l hw
  have hst : (sufF T x).size ≤ 1073741824 := by
    have l1 := T.lit_n x.t hx.t
    have l2 := T.dec_n x.n hx.n.1 hx.n.2
    unfold sufF
    (repeat' split) <;> first | decide | (simp only [ByteArray.size_append]; have e1 : ByteArray.size ⟨#[94]⟩ = 1 := rfl; have e2 : ByteArray.size ⟨#[94, 43]⟩ = 2 := rfl; have e3 : ByteArray.size ⟨#[94, 45]⟩ = 2 := rfl; have e4 : ByteArray.size ⟨#[32, 45, 62, 32]⟩ = 4 := rfl; omega)
  obtain ⟨op, n, tx, s0, s1, s2, s3⟩ := x
  have l3 := hx.t
  simp only at ha l3
  simp only [Tr.c, List.cons_append, List.nil_append, Tr.x] at h30 h32
  refine R_i [(3, 3)] [] c22_ok rfl (by simp) ?_
  simp only [Tr.c, List.cons_append, List.nil_append, toks, aro]
  simp -implicitDefEqProofs (maxSteps := 2000000) only [c22,↓reduceIte,S0,St.init,enum,Option.map_some,List.all_cons,List.all_nil,rc_t,o_mkf,v_mkf,v_lf_n,v_lf_c,capL]
  refine wmkf_n ?_
  rcases ar1 ha with e | e | e | e | e | e | e
  case' inl => subst e
  case' inr.inl => subst e
  case' inr.inr.inl => subst e
  case' inr.inr.inr.inl => subst e
  case' inr.inr.inr.inr.inl => subst e
  iterate 5
    · simp -implicitDefEqProofs (maxSteps := 2000000) only [c22,W.ldg,hg,↓reduceIte,S0,v_sadd,v_sneq,v_part_t,Nat.reduceEqDiff,Nat.reduceAdd,reduceCtorEq,PV.leaves,Nat.reduceLeDiff,List.take_zero,List.drop_zero,List.take_succ_cons,List.drop_succ_cons,rl_s,ne_eq,ite_not,ta_i,ta_s,e_asg_fn,o_cald,v_fa_t,v_ld_t,v_nc_t,ta_rp,dw_rp0,v_fa_r,v_ld_r,v_nc_r]
      refine pcall_i (h30 _ _ (by decide) (by decide) _) (W.toC hw) rfl ?_
      simp -implicitDefEqProofs (maxSteps := 2000000) only [c22,W.fromC (ok1 _),↓reduceIte,S0,s_ret_n,outV,ownsV,List.any_nil,Nat.lt_add_one,one_0,kl_rp]
      exact W.to (ok1 _)
  · subst e
    have l4 : ByteArray.size ⟨#[123, 58]⟩ = 2 := rfl
    have l5 : ByteArray.size ⟨#[32]⟩ = 1 := rfl
    have l6 : ByteArray.size ⟨#[58]⟩ = 1 := rfl
    simp -implicitDefEqProofs (maxSteps := 2000000) only [c22,W.ldg,hg,↓reduceIte,S0,v_sadd,v_sneq,v_part_t,Nat.reduceEqDiff,Nat.reduceAdd,reduceCtorEq,PV.leaves,Nat.reduceLeDiff,List.take_zero,List.drop_zero,List.take_succ_cons,List.drop_succ_cons,rl_s,ne_eq,ite_not,ta_i,ta_s,e_asg_fn,o_cald,v_fa_t,v_ld_t,v_nc_t,ta_rp,dw_rp0,v_fa_r,v_ld_r,v_nc_r]
    simp only [Int.reduceEq, ↓reduceIte]
    by_cases ht : tx = ⟨#[]⟩
    · simp only [if_pos ht]
      refine ⟨by decide, by decide, pcall_i (h30 _ _ (by decide) (by decide) _) (W.toC hw) rfl ?_⟩
      simp -implicitDefEqProofs (maxSteps := 2000000) only [c22,W.fromC (ok1 _),↓reduceIte,S0,s_ret_n,outV,ownsV,List.any_nil,Nat.lt_add_one,one_0,kl_rp]
      exact W.to (ok1 _)
    · simp only [if_neg ht]
      refine ⟨by omega, by simp only [ByteArray.size_append, l4, l6]; omega, by simp only [ByteArray.size_append, l4, l6]; omega, pcall_i (h30 _ _ (by simp only [ByteArray.size_append, l4, l5, l6]; omega) (by decide) _) (W.toC hw) rfl ?_⟩
      simp -implicitDefEqProofs (maxSteps := 2000000) only [c22,W.fromC (ok1 _),↓reduceIte,S0,s_ret_n,outV,ownsV,List.any_nil,Nat.lt_add_one,one_0,kl_rp]
      exact W.to (ok1 _)
  · have hne : ¬ op = 18 ∧ ¬ op = 19 ∧ ¬ op = 20 ∧ ¬ op = 21 ∧ ¬ op = 12 ∧ ¬ op = 13 ∧ ¬ op = 1 ∧ ¬ op = 2 ∧ ¬ op = 3 ∧ ¬ op = 4 ∧ ¬ op = 5 ∧ ¬ op = 6 ∧ ¬ op = 7 ∧ ¬ op = 8 ∧ ¬ op = 17 := by omega
    obtain ⟨m18, m19, m20, m21, m12, m13, m1, m2, m3, m4, m5, m6, m7, m8, m17⟩ := hne
    simp -implicitDefEqProofs (maxSteps := 2000000) only [c22,W.ldg,hg,m18,m19,m20,m21,m12,m13,m1,m2,m3,m4,m5,m6,m7,m8,m17,↓reduceIte,S0,Nat.reduceEqDiff,reduceCtorEq,PV.leaves,e_asg_fn,v_fa_t,v_ld_t,v_nc_t,rl_rp,v_fa_r,v_ld_r,v_nc_r,v_callpn,v_callA,pc_rp]
    refine wcn_down (h32 e) rfl ?_
    simp -implicitDefEqProofs (maxSteps := 2000000) only [c22,↓reduceIte,S0,Nat.reduceEqDiff,St.clr,outV,ownsV,owns1,ownL,PV.leaves,ta_i,ta_s,ta_rp,dw_rp0]
    refine pcall_i (h30 _ _ (by decide) hst _) (W.toC hw) rfl ?_
    simp -implicitDefEqProofs (maxSteps := 2000000) only [c22,W.fromC (ok1 _),↓reduceIte,S0,s_ret_n,outV,ownsV,List.any_nil,Nat.lt_add_one,one_0,kl_rp]
    exact W.to (ok1 _)
theorem pat2 (T : Txt X) (x : Nd) (a b : Tr) (h : ∀ t : Tr, t.size < (Tr.l2 x a b).size → t.ok → PatOK T t) (hok : (Tr.l2 x a b).ok) (hsz : (Tr.l2 x a b).size < 1000000000) (w : W) (hw : w.ok) (hg : w.g = false) :
    R X Tryz.prog 22 [bt, .lf (.rp (Tr.l2 x a b).c 0)] [w.c] (.tp []) [(putsW (toks T (.l2 x a b)) w).c] := by
  have ha : arF x.op = 2 := by cases hok with | l2 _ h _ _ => exact h
  have hx := ar2 ha
  have h31 := fun bet k hk => r38 T h hok bet k hk hx hsz w hw
  have ok1 := putsW_ok (toks T (.l2 x a b)) hw
  generalize putsW (toks T (.l2 x a b)) w = wf at *
  obtain ⟨op, n, tx, s0, s1, s2, s3⟩ := x
  simp only [Tr.c, List.cons_append, List.nil_append] at h31
  simp only at hx
  refine R_i [(3, 3)] [] c22_ok rfl (by simp) ?_
  simp only [Tr.c, List.cons_append, List.nil_append]
  simp -implicitDefEqProofs (maxSteps := 2000000) only [c22,↓reduceIte,S0,St.init,enum,Option.map_some,List.all_cons,List.all_nil,rc_t,o_mkf,v_mkf,v_lf_n,v_lf_c,capL]
  refine wmkf_n ?_
  rcases hx with e | e
  · subst e
    simp -implicitDefEqProofs (maxSteps := 2000000) only [c22,W.ldg,hg,↓reduceIte,S0,v_sadd,v_sneq,v_part_t,Nat.reduceEqDiff,Nat.reduceAdd,reduceCtorEq,PV.leaves,Nat.reduceLeDiff,List.take_zero,List.drop_zero,List.take_succ_cons,List.drop_succ_cons,rl_s,ne_eq,ite_not,ta_i,ta_s,e_asg_fn,o_cald,v_fa_t,v_ld_t,v_nc_t,ta_rp,dw_rp0,v_fa_r,v_ld_r,v_nc_r]
    refine pcall_i (h31 _ _ rfl) (W.toC hw) rfl ?_
    simp -implicitDefEqProofs (maxSteps := 2000000) only [c22,W.fromC ok1,↓reduceIte,S0,s_ret_n,outV,ownsV,List.any_nil,Nat.lt_add_one,one_0,kl_rp]
    exact W.to ok1
  · subst e
    simp -implicitDefEqProofs (maxSteps := 2000000) only [c22,W.ldg,hg,↓reduceIte,S0,v_sadd,v_sneq,v_part_t,Nat.reduceEqDiff,Nat.reduceAdd,reduceCtorEq,PV.leaves,Nat.reduceLeDiff,List.take_zero,List.drop_zero,List.take_succ_cons,List.drop_succ_cons,rl_s,ne_eq,ite_not,ta_i,ta_s,e_asg_fn,o_cald,v_fa_t,v_ld_t,v_nc_t,ta_rp,dw_rp0,v_fa_r,v_ld_r,v_nc_r]
    refine pcall_i (h31 _ _ rfl) (W.toC hw) rfl ?_
    simp -implicitDefEqProofs (maxSteps := 2000000) only [c22,W.fromC ok1,↓reduceIte,S0,s_ret_n,outV,ownsV,List.any_nil,Nat.lt_add_one,one_0,kl_rp]
    exact W.to ok1
theorem pat_ok (T : Txt X) : ∀ (n : Nat) (t : Tr), t.size ≤ n → t.size < 1000000000 → t.ok → PatOK T t
  | 0, t, h, _, _ => by cases t <;> simp [Tr.size] at h
  | n + 1, t, h, hs, hok => by
    intro w hw
    cases hg : w.g with
    | true => exact pat_long T t w hw hg
    | false =>
      cases hok with
      | l0 hx ha => exact pat0 T _ hx ha w hw hg
      | l1 hx ha hc =>
        simp only [Tr.size] at h hs
        exact pat1 T _ _ (pat_ok T n _ (by omega) (by omega) hc) hx ha w hw hg
      | l2 hx ha hc hd =>
        exact pat2 T _ _ _ (fun q hq hqo => pat_ok T n q (by omega) (by omega) hqo) (.l2 hx ha hc hd) hs w hw hg
end Go.Proofs.YtdoefdmaecaacaaGreatDoor.S
set_option linter.unusedVariables false
set_option linter.unusedSimpArgs false
namespace Go.Proofs.YtdoefdmaecaacaaGreatDoor.S
open Go Go.Proofs.YtdoefdmaecaacaaGreatDoor.AM
variable {X : Cx}
structure Nd.wf (x : Nd) : Prop where
  s0 : 0 ≤ x.s0 ∧ x.s0 ≤ 18446744073709551615
  s1 : 0 ≤ x.s1 ∧ x.s1 ≤ 18446744073709551615
  s2 : 0 ≤ x.s2 ∧ x.s2 ≤ 18446744073709551615
  s3 : 0 ≤ x.s3 ∧ x.s3 ≤ 18446744073709551615
theorem nd_ok {x : Nd} (hw : x.wf) (ha : ¬ arF x.op < 0) (hf : fldB x = true) : x.ok := by
  simp only [fldB, Bool.and_eq_true, decide_eq_true_eq] at hf
  obtain ⟨⟨_, h0, h1, _⟩, ht⟩ := hf
  refine ⟨?_, ⟨h0, h1⟩, ?_, hw.s0, hw.s1, hw.s2, hw.s3⟩
  · unfold arF at ha; (repeat' split at ha) <;> first | omega | (exfalso; omega)
  · unfold txtB at ht
    split at ht
    · simp only [Bool.and_eq_true, decide_eq_true_eq] at ht; exact ht.2
    · split at ht
      · simp only [decide_eq_true_eq] at ht; have := ht.2.1; omega
      · split at ht
        · simp only [Bool.or_eq_true, decide_eq_true_eq] at ht
          rcases ht with ht | ht
          · rw [ht]; decide
          · have := ht.2.1; omega
        · split at ht
          · simp only [tempB, Bool.and_eq_true, decide_eq_true_eq] at ht; exact ht.1
          · simp only [decide_eq_true_eq] at ht; rw [ht]; decide
inductive Chn (p : List Nd) (sh : List (Int × Int)) : Nat → List Tr → Prop where
  | nil : Chn p sh 0 []
  | cons {i : Nat} {t : Tr} {r : List Tr} (h0 : t.size ≤ i) (h1 : 0 < i) (h2 : (sh.getD (i - 1) (0, 0)).1 = (i : Int) - t.size) (h3 : p.getD (i - 1) nd0 = t.x) (h : Chn p sh (i - t.size) r) : Chn p sh i (t :: r)
theorem Tr.pos (t : Tr) : 0 < t.size := by cases t <;> simp [Tr.size]
theorem Chn.mono {p : List Nd} {sh sh2 : List (Int × Int)} {i : Nat} {st : List Tr} (h : Chn p sh i st) (hi : i ≤ sh.length) : Chn p (sh ++ sh2) i st := by
  induction h with
  | nil => exact .nil
  | @cons i t r h0 h1 h2 h3 h ih =>
    refine .cons h0 h1 ?_ h3 (ih (by omega))
    rw [List.getD_eq_getElem?_getD, List.getElem?_append_left (by omega), ← List.getD_eq_getElem?_getD]
    exact h2
theorem Chn.part {p : List Nd} {sh : List (Int × Int)} {op k e : Int} {i : Nat} {st : List Tr} (h : Chn p sh i st) {s' : Int × Int} (hs : prtC p op sh k ((i : Int), e) = some s') : ∃ t r, st = t :: r ∧ t.size ≤ i ∧ s'.1 = ((i - t.size : Nat) : Int) ∧ Chn p sh (i - t.size) r := by
  cases h with
  | nil => simp [prtC] at hs
  | @cons i t r h0 h1 h2 h3 h =>
    unfold prtC at hs
    rw [if_neg (by simp only; omega)] at hs
    have e1 : ((i : Int) - 1).toNat = i - 1 := by omega
    simp only [e1, Option.some.injEq] at hs
    subst hs
    exact ⟨t, r, rfl, h0, by simp only; rw [h2]; omega, h⟩
theorem step_ok {p : List Nd} {x : Nd} {sh : List (Int × Int)} {st : List Tr} {i : Nat} (hw : x.wf) (hi : sh.length = i) (hx : p.getD i nd0 = x) (hc : Chn p sh i st) (hok : ∀ t ∈ st, t.ok) (h : (shC p i x sh).1 = 0) :
    ∃ st', stepT x st = some st' ∧ Chn p (sh ++ [(shC p i x sh).2]) (i + 1) st' ∧ ∀ t ∈ st', t.ok := by
  unfold shC at h ⊢
  split at h
  · cases h
  split at h
  · cases h
  rename_i ha hf
  have hxo := nd_ok hw ha (by simpa using hf)
  rw [if_neg ha, if_neg hf]
  split at h
  · cases h
  rename_i s hs
  split at h
  · cases h
  rename_i h60
  (try rw [hs]); (try simp only)
  rw [if_neg h60]
  have mk : ∀ (t : Tr) (r : List Tr) (b : Int) (hb : b = ((i + 1 : Nat) : Int) - t.size) (e : Int), t.size ≤ i + 1 → t.x = x → Chn p sh (i + 1 - t.size) r → Chn p (sh ++ [(b, e)]) (i + 1) (t :: r) := by
    intro t r b hb e h1 h2 h3
    have hp := t.pos
    refine .cons h1 (by omega) ?_ ?_ (h3.mono (by omega))
    · rw [show i + 1 - 1 = i by omega, List.getD_eq_getElem?_getD, List.getElem?_append_right (by omega), hi]
      simpa using hb
    · rw [show i + 1 - 1 = i by omega, hx, h2]
  unfold prts at hs
  rcases ar_cases x.op with a0 | a0 | a0 | a0
  · omega
  · rw [a0] at hs
    simp only [if_true, Option.some.injEq] at hs
    subst hs
    refine ⟨.l0 x :: st, by simp [stepT, a0], mk (.l0 x) st _ (by simp [Tr.size]) _ (by simp [Tr.size]) rfl (by simpa [Tr.size] using hc), fun t ht => ?_⟩
    rcases List.mem_cons.1 ht with rfl | ht
    · exact .l0 hxo a0
    · exact hok t ht
  · rw [a0] at hs
    simp only [(by decide : ¬ (1 : Int) = 0), if_false, if_true] at hs
    obtain ⟨a, r, rfl, h1, h2, h3⟩ := hc.part hs
    refine ⟨.l1 x a :: r, by simp [stepT, a0], mk (.l1 x a) r _ (by simp only [Tr.size]; omega) _ (by simp only [Tr.size]; omega) rfl (by rw [show i + 1 - (Tr.l1 x a).size = i - a.size by simp only [Tr.size]; omega]; exact h3), fun t ht => ?_⟩
    rcases List.mem_cons.1 ht with rfl | ht
    · exact .l1 hxo a0 (hok a (by simp))
    · exact hok t (List.mem_cons_of_mem _ ht)
  · rw [a0] at hs
    simp only [(by decide : ¬ (2 : Int) = 0), (by decide : ¬ (2 : Int) = 1), if_false] at hs
    obtain ⟨s1, g1, g2⟩ := Option.bind_eq_some_iff.1 hs
    obtain ⟨b, r, rfl, h1, h2, h3⟩ := hc.part g1
    have g2' : prtC p x.op sh 1 (((i - b.size : Nat) : Int), s1.2) = some s := by rw [← h2]; exact g2
    obtain ⟨a, r', rfl, k1, k2, k3⟩ := h3.part g2'
    refine ⟨.l2 x a b :: r', by simp [stepT, a0], mk (.l2 x a b) r' _ (by simp only [Tr.size]; omega) _ (by simp only [Tr.size]; omega) rfl (by rw [show i + 1 - (Tr.l2 x a b).size = i - b.size - a.size by simp only [Tr.size]; omega]; exact k3), fun t ht => ?_⟩
    rcases List.mem_cons.1 ht with rfl | ht
    · exact .l2 hxo a0 (hok a (by simp)) (hok b (by simp))
    · exact hok t (List.mem_cons_of_mem _ (List.mem_cons_of_mem _ ht))
theorem chkR_ok {p : List Nd} (hw : ∀ x ∈ p, x.wf) : ∀ (q d : List Nd) (sh : List (Int × Int)) (st : List Tr), d ++ q = p → sh.length = d.length → Chn p sh d.length st → (∀ t ∈ st, t.ok) → (chkR p q d.length sh).2.1 = 0 →
    ∃ st', buildT q st = some st' ∧ Chn p (chkR p q d.length sh).2.2 p.length st' ∧ ∀ t ∈ st', t.ok
  | [], d, sh, st, hd, hl, hc, hok, _ => by
    simp only [List.append_nil] at hd
    subst hd
    exact ⟨st, rfl, hc, hok⟩
  | x :: q, d, sh, st, hd, hl, hc, hok, h => by
    have hx : p.getD d.length nd0 = x := by rw [← hd]; simp
    simp only [chkR] at h ⊢
    split at h
    · rename_i h0
      rw [if_pos h0]
      obtain ⟨st1, h1, h2, h3⟩ := step_ok (hw x (by rw [← hd]; simp)) hl hx hc hok h0
      have e : (((d ++ [x]).length : Nat) : Int) = (d.length : Int) + 1 := by simp
      rw [← e] at h ⊢
      obtain ⟨st', k1, k2, k3⟩ := chkR_ok hw q (d ++ [x]) (sh ++ [(shC p d.length x sh).2]) st1 (by simp [← hd]) (by simp [hl]) (by simpa using h2) h3 h
      exact ⟨st', by simp [buildT, h1, k1], k2, k3⟩
    · rename_i h0
      exact absurd h h0
theorem chk_tree {p : List Nd} (hw : ∀ x ∈ p, x.wf) (h : (chk p).2 = 0) : ∃ t : Tr, buildT p [] = some [t] ∧ t.ok ∧ t.size = p.length ∧ p.length ≤ 2048 := by
  unfold chk at h
  split at h
  · cases h
  rename_i hlen
  unfold eachF at h
  split at h
  · rename_i h0
    split at h
    · cases h
    rename_i hn
    simp only [not_or, Decidable.not_not] at hn
    obtain ⟨st, h1, h2, h3⟩ := chkR_ok hw p [] [] [] rfl rfl .nil (by simp) h0
    simp only [List.length_nil] at h2
    generalize hN : p.length = N at h2
    cases h2 with
    | nil => exact absurd (List.eq_nil_of_length_eq_zero (by omega)) hn.1
    | @cons _ t r g0 g1 g2 g3 g =>
      have e := hn.2
      rw [hN] at e
      have e : (N : Int) - t.size = 0 := g2.symm.trans e
      have hs : t.size = N := by omega
      rw [hs, Nat.sub_self] at g
      cases g with
      | nil => exact ⟨t, h1, h3 t (by simp), hs, by omega⟩
      | cons _ k _ _ _ => omega
  · rename_i h0
    exact absurd h h0
end Go.Proofs.YtdoefdmaecaacaaGreatDoor.S
set_option linter.unusedVariables false
set_option linter.unusedSimpArgs false
namespace Go.Proofs.YtdoefdmaecaacaaGreatDoor.S
open Go Go.Proofs.YtdoefdmaecaacaaGreatDoor.AM
variable {X : Cx}
theorem chk1 (s : ByteArray) : ((chk [⟨6, 0, s, 0, 0, 0, 0⟩]).2 = 0) ↔ nameP s := by
  have ha : arF 6 = 0 := by decide
  have hf : fldB ⟨6, 0, s, 0, 0, 0, 0⟩ = decide (nameP s) := by
    simp only [fldB, Nd.G, txtB]; simp
  by_cases h : nameP s
  · rw [decide_eq_true h] at hf
    refine ⟨fun _ => h, fun _ => ?_⟩
    simp [chk, eachF, chkR, shC, ha, hf, prts]
  · rw [decide_eq_false h] at hf
    simp [chk, eachF, chkR, shC, ha, hf, h]
theorem r56 (s : ByteArray) : R X Tryz.prog 56 [.lf (.str s)] [] (.lf (.bool (decide (nameP s)))) [] := by
  have h22 := r21 (X := X) [⟨6, 0, s, 0, 0, 0, 0⟩] []
  have hb : decide (nameP s) = decide ((chk [⟨6, 0, s, 0, 0, 0, 0⟩]).2 = 0) := by rw [decide_eq_decide]; exact (chk1 s).symm
  rw [hb]
  generalize chk [⟨6, 0, s, 0, 0, 0, 0⟩] = c at *
  simp only [List.map_cons, List.map_nil] at h22
  refine R_i [] [] c56_ok rfl (by simp) ?_
  simp -implicitDefEqProofs (maxSteps := 2000000) only [c56,↓reduceIte,S0,o_bd,v_agK,v_bd_n,v_bd_c,o_bs,v_bsK,v_lit_n,v_lit_c,St.init,enum,Nat.reduceAdd,reduceCtorEq,PV.leaves,List.all_cons,List.all_nil,PV.cells,cellL,datL,fillL,Nat.reduceMul,Nat.reduceLeDiff,List.take_zero,List.drop_zero,List.take_succ_cons,List.drop_succ_cons,kp_s,rl_s,rl_l,plT,ne_eq,not_false_eq_true,lit_n,lit_c,List.reduceReplicate,List.set_cons_zero,Nat.lt_add_one]
  refine wcall_s h22 rfl rfl ?_
  simp -implicitDefEqProofs (maxSteps := 2000000) only [c56,↓reduceIte,S0,o_ext,v_ext0,v_ext1,Nat.reduceEqDiff,St.clr,outV,ownsV,owns1,ownL,List.any_cons,List.any_nil,Bool.or_self,m_1l]
structure Ru where
  nm : ByteArray
  bd : List Nd
  sp : List (List L)
abbrev Ru.c (r : Ru) : List L := [.str r.nm, .lst .ro 7 (r.bd.map Nd.c) r.sp]
def goR (n : Nat) : List Ru → Int → Int
  | [], _ => 0
  | r :: rs, all => if ¬ nameP r.nm ∧ (¬ r.nm = ⟨#[]⟩ ∨ 1 < n) then 6 else if ¬ (chk r.bd).2 = 0 then (chk r.bd).2 else if 2048 < all + r.bd.length then 2 else goR n rs (all + r.bd.length)
def rightF (g : List Ru) : Int := if g.length = 0 then 3 else if 200 < g.length then 2 else goR g.length g 0
theorem chk_len {p : List Nd} (h : (chk p).2 = 0) : p.length ≤ 2048 := by
  unfold chk at h
  split at h
  · cases h
  · omega
theorem r31 (g : List Ru) (sp : List (List L)) : R X Tryz.prog 31 [.ag [.lst .ro 2 (g.map Ru.c) sp]] [] (.lf (.int .i64 (rightF g))) [] := by
  have hml : (g.map Ru.c).length = g.length := List.length_map _
  refine R_i [] [] c31_ok rfl (by simp) ?_
  generalize hE : rightF g = E
  unfold rightF at hE
  simp -implicitDefEqProofs (maxSteps := 2000000) only [c31,hml,↓reduceIte,S0,s_loop,v_gtr,o_bx,o_len,v_len,St.init,enum,Nat.reduceEqDiff,Nat.zero_le,kc_l,kC_c,pO_p,List.range_zero,v_bx_a]
  intro _
  by_cases h0 : g.length = 0
  · have h0' : (g.length : Int) = 0 := by omega
    rw [if_pos h0] at hE
    subst hE
    simp -implicitDefEqProofs (maxSteps := 2000000) only [c31,h0',↓reduceIte]
  have h0' : ¬ (g.length : Int) = 0 := by omega
  rw [if_neg h0] at hE
  by_cases h2 : 200 < g.length
  · have h2' : (200 : Int) < g.length := by omega
    rw [if_pos h2] at hE
    subst hE
    simp -implicitDefEqProofs (maxSteps := 2000000) only [c31,h0',h2',hml,↓reduceIte,implies_true]
  have h2' : ¬ (200 : Int) < g.length := by omega
  rw [if_neg h2] at hE
  simp -implicitDefEqProofs (maxSteps := 2000000) only [c31,h0',h2',hml,↓reduceIte]
  intro _ _
  have key : ∀ (q d : List Ru) (all : Int), d ++ q = g → 0 ≤ all → all ≤ 2048 → goR g.length q all = E →
      LoopAt X Tryz.prog c31_24 [1, 3, 17, 18, 19] (blkK 0 (seqK X Tryz.prog c31_28 (retS [] [] 0 [RV.t 2] (PV.lf (L.int IntKind.i64 E)) [])))
        { m := 0, tm := [(1, .lf (.ptr 1 0)), (3, .lf (.int .i64 all)), (17, .lf (.lst .ro 2 (g.map Ru.c) sp)), (18, .lf (.int .i64 g.length)), (19, .lf (.int .i64 d.length))], ce := [(1, [.lst .ro 2 (g.map Ru.c) sp])] } := by
    intro q
    induction q with
    | nil =>
      intro d all hd _ _ hq
      simp only [List.append_nil] at hd
      have hlt : ¬ (d.length : Int) < g.length := by rw [hd]; omega
      simp only [goR] at hq
      subst hq
      intro Z hZ; apply hZ
      simp -implicitDefEqProofs (maxSteps := 2000000) only [c31,hlt,decide_false,↓reduceIte,S0,s_exit,s_seqK_e,s_blkK_e,s_loopK_e,Nat.reduceEqDiff]
    | cons x q ih =>
      intro d all hd ha0 ha1 hq
      have hdl : d.length < g.length := by rw [← hd]; simp
      have hlt : (d.length : Int) < g.length := by omega
      have h25 := r56 (X := X) x.nm
      have h22 := r21 (X := X) x.bd x.sp
      have hlen := fun h => chk_len (p := x.bd) h
      have hihn := fun a h1 h2 h3 => ih (d ++ [x]) a (by simp [← hd]) h1 h2 h3
      obtain ⟨nm, bd, bsp⟩ := x
      have hx : (g.map Ru.c).getD ((d.length : Nat) : Int).toNat [] = [.str nm, .lst .ro 7 (bd.map Nd.c) bsp] := by
        rw [Int.toNat_natCast, List.getD_eq_getElem?_getD, List.getElem?_map, ← hd]; simp
      have hbl : (bd.map Nd.c).length = bd.length := List.length_map _
      have wd : IntKind.i64.wrap ((d.length : Int) + 1) = ((d.length + 1 : Nat) : Int) := by rw [w64 (by omega) (by omega)]; omega
      simp only [goR] at hq
      simp only at h25 h22 hlen
      intro Z hZ; apply hZ
      simp -implicitDefEqProofs (maxSteps := 2000000) only [c31,hlt,decide_true,hx,v_ld_e,↓reduceIte,S0,v_part_t,o_al,o_st,v_st_p,v_stCK,Nat.reduceEqDiff,Nat.reduceAdd,PV.leaves,List.all_cons,List.all_nil,PV.cells,cellL,fillL,Nat.reduceBEq,Nat.zero_le,Nat.le_refl,List.take_zero,List.drop_zero,List.take_succ_cons,List.drop_succ_cons,List.drop_nil,List.take_nil,kc_b,kc_i,kc_s,rl_s,kc_p,kc_l,st_b,kc_er]
      refine ⟨⟨by omega, by rw [hml]; omega⟩, by rw [hml]; omega, wcall_s h25 rfl rfl ?_⟩
      by_cases hn : nameP nm
      · rw [decide_eq_true hn]
        rw [if_neg (fun h => h.1 hn)] at hq
        simp -implicitDefEqProofs (maxSteps := 2000000) only [c31,↓reduceIte,S0,s_grd_no,o_un,v_not,Nat.reduceEqDiff,Bool.not_true,St.clr,outV,ownsV,owns1,ownL,PV.leaves,ol_b,rl_l]
        refine wcall_s h22 rfl rfl ?_
        simp -implicitDefEqProofs (maxSteps := 2000000) only [c31,hbl,↓reduceIte,S0,s_loopK_r,v_neq,v_gtr,o_ext,v_ext0,v_ext1,o_len,v_len,Nat.reduceEqDiff,St.clr,outV,ownsV,owns1,ownL,List.any_cons,List.any_nil,Bool.or_self,m_1l,kC_c,pO_p,List.range_zero,ne_eq,ite_not]
        with_reducible refine ite_pr (fun hc => ?_) (fun hc => ?_)
        · rw [if_neg (fun h => h hc)] at hq
          have hl := hlen hc
          have wa : IntKind.i64.wrap (all + (bd.length : Int)) = all + bd.length := w64 (by omega) (by omega)
          intro _
          rw [wa]
          by_cases hb : 2048 < all + (bd.length : Int)
          · rw [if_pos hb] at hq
            simp -implicitDefEqProofs (maxSteps := 2000000) only [c31,hb,decide_true,↓reduceIte]
            exact hq
          · rw [if_neg hb] at hq
            simp -implicitDefEqProofs (maxSteps := 2000000) only [c31,hb,decide_false,wd,↓reduceIte]
            have hz := hihn _ (by omega) (by omega) hq Z hZ
            simp only [List.length_append, List.length_cons, List.length_nil, Nat.zero_add] at hz
            exact hz
        · rw [if_pos hc] at hq
          exact hq
      · rw [decide_eq_false hn]
        by_cases h1 : nm = ⟨#[]⟩
        · by_cases hg1 : 1 < g.length
          · have hg1' : (1 : Int) < g.length := by omega
            rw [if_pos ⟨hn, .inr hg1⟩] at hq
            simp -implicitDefEqProofs (maxSteps := 2000000) only [c31,h1,hml,hg1',↓reduceIte,S0,s_loopK_r,q_pk,q_fa,q_ld,q_len,v_gtr,v_sneq,o_un,v_not,o_len,v_len,Nat.reduceEqDiff,cond_false,Bool.not_false,decide_eq_false_iff_not,St.clr,outV,ownsV,owns1,ownL,ol_b,ne_eq,Decidable.not_not]
            intro _
            exact hq
          · have hg1' : ¬ (1 : Int) < g.length := by omega
            rw [if_neg (fun h => h.2.elim (fun k => k h1) hg1)] at hq
            simp -implicitDefEqProofs (maxSteps := 2000000) only [c31,h1,hml,hg1',↓reduceIte,S0,q_pk,q_fa,q_ld,q_len,v_gtr,v_sneq,o_un,v_not,o_len,v_len,Nat.reduceEqDiff,cond_false,Bool.not_false,decide_eq_false_iff_not,St.clr,outV,ownsV,owns1,ownL,PV.leaves,ol_b,rl_l,ne_eq,Decidable.not_not]
            intro _
            refine wcall_s h22 rfl rfl ?_
            simp -implicitDefEqProofs (maxSteps := 2000000) only [c31,hbl,↓reduceIte,S0,s_loopK_r,v_neq,v_gtr,o_ext,v_ext0,v_ext1,o_len,v_len,Nat.reduceEqDiff,St.clr,outV,ownsV,owns1,ownL,List.any_cons,List.any_nil,Bool.or_self,m_1l,kC_c,pO_p,List.range_zero,ne_eq,ite_not]
            with_reducible refine ite_pr (fun hc => ?_) (fun hc => ?_)
            · rw [if_neg (fun h => h hc)] at hq
              have hl := hlen hc
              have wa : IntKind.i64.wrap (all + (bd.length : Int)) = all + bd.length := w64 (by omega) (by omega)
              intro _
              rw [wa]
              by_cases hb : 2048 < all + (bd.length : Int)
              · rw [if_pos hb] at hq
                simp -implicitDefEqProofs (maxSteps := 2000000) only [c31,hb,decide_true,↓reduceIte]
                exact hq
              · rw [if_neg hb] at hq
                simp -implicitDefEqProofs (maxSteps := 2000000) only [c31,hb,decide_false,wd,↓reduceIte]
                have hz := hihn _ (by omega) (by omega) hq Z hZ
                simp only [List.length_append, List.length_cons, List.length_nil, Nat.zero_add] at hz
                exact hz
            · rw [if_pos hc] at hq
              exact hq
        · rw [if_pos ⟨hn, .inl h1⟩] at hq
          simp -implicitDefEqProofs (maxSteps := 2000000) only [c31,h1,hml,↓reduceIte,S0,s_loopK_r,q_pk,q_fa,q_ld,q_len,v_gtr,v_sneq,o_un,v_not,o_len,v_len,Nat.reduceEqDiff,cond_false,Bool.not_false,Bool.true_eq_false,decide_eq_false_iff_not,St.clr,outV,ownsV,owns1,ownL,PV.leaves,ol_b,rl_l,ne_eq,not_false_eq_true,ite_not]
          exact hq
  exact key g [] 0 rfl (by decide) (by decide) hE
end Go.Proofs.YtdoefdmaecaacaaGreatDoor.S
set_option linter.unusedVariables false
set_option linter.unusedSimpArgs false
namespace Go.Proofs.YtdoefdmaecaacaaGreatDoor.S
open Go Go.Proofs.YtdoefdmaecaacaaGreatDoor.AM
variable {X : Cx}
theorem r24g (w : W) (hw : w.ok) (hg : w.g = true) : R X Tryz.prog 24 [bt] [w.c] (.tp [.lf (.str ⟨#[]⟩), .lf (.int .i64 2)]) [w.c] := by
  refine R_i [(3, 3)] [] c24_ok rfl (by simp) ?_
  simp -implicitDefEqProofs (maxSteps := 2000000) only [c24,W.ldg,hg,↓reduceIte,S0,St.init,enum,Nat.reduceEqDiff,reduceCtorEq,Nat.lt_add_one,v_fa_t,v_ld_t,v_nc_t]
  exact W.to hw
theorem r24 (w : W) (hw : w.ok) (hg : w.g = false) (hy : 0 < w.y.length) : R X Tryz.prog 24 [bt] [w.c] (.tp [.lf (.str ⟨w.y.toArray⟩), .lf (.int .i64 0)]) [[w.x, .undef, .bool false]] := by
  have h34 := r41w (X := X) w.x hw.x w.y w.g hy
  have hx := hw.x
  refine R_i [] [] c24_ok rfl (by simp) ?_
  simp -implicitDefEqProofs (maxSteps := 2000000) only [c24,W.ldg,hg,↓reduceIte,S0,St.init,enum,reduceCtorEq,PV.leaves,v_fa_t,v_ld_t,v_nc_t]
  refine pcall_i h34 (W.toC hw) rfl ?_
  rw [hg]
  rcases hx with e | e <;> rw [e]
  all_goals
    simp -implicitDefEqProofs (maxSteps := 2000000) only [c24,↓reduceIte,S0,Nat.reduceEqDiff,t_np,t_u,outV,ownsV,owns1,ownL,Nat.lt_add_one,fc_np,fc_u,fc_t,t_tr]
def W.a (w : W) : List L := w.c.map (AM.fromC 14)
theorem W.a_toC {w : W} (h : w.ok) : w.a.map (AM.toC 14) = w.c := by
  obtain ⟨x, y, g⟩ := w
  rcases h.x with h | h <;> (simp only at h; subst h; rfl)
theorem W.a_killC {w : W} (h : w.ok) {c : Nat} (hc : (14 == c) = false) : w.a.map (AM.killC c) = w.a := by
  obtain ⟨x, y, g⟩ := w
  rcases h.x with h | h
  · simp only at h; subst h; rfl
  · simp only at h; subst h
    have e : AM.killC c (.tptr 14 0 58) = .tptr 14 0 58 := by simp only [AM.killC, hc]; rfl
    show [AM.killC c (.tptr 14 0 58), _, _] = _
    rw [e]; rfl
def w0 : W := ⟨.nilp, [], false⟩
abbrev c0 : List L := [.nilp, .lst .nl 1 [] [], .bool false]
theorem w0_ok : w0.ok := ⟨.inl rfl, by decide⟩
theorem nl_w0 : NlC c0 w0.c := .same (.nl (.same .nil))
def treeP (p : List Nd) : Option Tr :=
  match buildT p [] with
  | some [t] => some t
  | _ => none
section
variable (T : Txt X)
def toksP (p : List Nd) : List ByteArray :=
  match treeP p with
  | some t => toks T t
  | none => []
def ruT (r : Ru) : List ByteArray := (if r.nm = ⟨#[]⟩ then [] else [r.nm ++ ⟨#[32, 60, 45, 32]⟩]) ++ toksP T r.bd ++ [⟨#[10]⟩]
def gT (g : List Ru) : List ByteArray := g.flatMap (ruT T)
def showG (g : List Ru) : ByteArray × Int :=
  if ¬ rightF g = 0 then (⟨#[]⟩, rightF g) else
  if (putsW (gT T g) w0).g = true then (⟨#[]⟩, 2) else (⟨(putsW (gT T g) w0).y.toArray⟩, 0)
end
theorem putW_y {s : ByteArray} {w : W} (h : (putW s w).g = false) : (putW s w).y = w.y ++ s.data.toList := by
  unfold putW at h ⊢
  split
  · rename_i h1; rw [if_pos h1] at h; cases h
  · rfl
structure Ru.ok (r : Ru) : Prop where
  nm : r.nm.size ≤ 32
  wf : ∀ x ∈ r.bd, x.wf
  ch : (chk r.bd).2 = 0
theorem goR_ok {n : Nat} : ∀ (g : List Ru) (all : Int), goR n g all = 0 → ∀ r ∈ g, r.nm.size ≤ 32 ∧ (chk r.bd).2 = 0
  | [], _, _, r, hr => by simp at hr
  | x :: g, all, h, r, hr => by
    simp only [goR] at h
    split at h
    · cases h
    rename_i h1
    split at h
    · rename_i h2; exact absurd h h2
    rename_i h2
    split at h
    · cases h
    have h2' : (chk x.bd).2 = 0 := by simpa using h2
    rcases List.mem_cons.1 hr with rfl | hr
    · refine ⟨?_, h2'⟩
      by_cases hn : nameP r.nm
      · have := hn.2.1; omega
      · by_cases he : r.nm = ⟨#[]⟩
        · rw [he]; decide
        · exact absurd ⟨hn, .inl he⟩ h1
    · exact goR_ok g _ h r hr
theorem right_ok {g : List Ru} (h : rightF g = 0) : g.length ≤ 200 ∧ 0 < g.length ∧ ∀ r ∈ g, r.nm.size ≤ 32 ∧ (chk r.bd).2 = 0 := by
  unfold rightF at h
  split at h
  · cases h
  split at h
  · cases h
  exact ⟨by omega, by omega, goR_ok g 0 h⟩
def Wst (cell : List L) (w : W) : Prop := (cell = c0 ∧ w = w0) ∨ (cell = w.a ∧ w.ok)
theorem Wst.ok {cell : List L} {w : W} (h : Wst cell w) : w.ok := by
  rcases h with ⟨_, rfl⟩ | ⟨_, h⟩
  · exact w0_ok
  · exact h
theorem Wst.R {cell : List L} {w : W} (h : Wst cell w) {f : Nat} {args : List PV} {r : PV} {cs' : List L} (hR : AM.R X Tryz.prog f args [w.c] r [cs']) : AM.R X Tryz.prog f args [cell.map (AM.toC 14)] r [cs'] := by
  rcases h with ⟨rfl, rfl⟩ | ⟨rfl, h⟩
  · exact R_nlc nl_w0 hR
  · rw [W.a_toC h]; exact hR
theorem Wst.k7 {cell : List L} {w : W} (h : Wst cell w) : cell.map (AM.killC 7) = cell := by
  rcases h with ⟨rfl, rfl⟩ | ⟨rfl, h⟩
  · rfl
  · exact W.a_killC h rfl
theorem r18 (T : Txt X) (g : List Ru) (sp : List (List L)) (hwf : ∀ r ∈ g, ∀ x ∈ r.bd, x.wf) : R X Tryz.prog 18 [.ag [.lst .ro 2 (g.map Ru.c) sp]] [] (.tp [.lf (.str (showG T g).1), .lf (.int .i64 (showG T g).2)]) [] := by
  have hml : (g.map Ru.c).length = g.length := List.length_map _
  have h13 := r31 (X := X) g sp
  refine R_i [] [] c18_ok rfl (by simp) ?_
  by_cases hr : rightF g = 0
  · obtain ⟨hg2, hg1, hrs⟩ := right_ok hr
    rw [hr] at h13
    unfold showG
    rw [if_neg (fun h => h hr)]
    generalize hF : putsW (gT T g) w0 = wf
    simp -implicitDefEqProofs (maxSteps := 2000000) only [c18,↓reduceIte,S0,v_part_t,o_bx,St.init,enum,Nat.reduceEqDiff,PV.leaves,Nat.zero_le,Nat.le_refl,List.drop_zero,List.take_succ_cons,List.take_nil,kc_l,rl_l,v_bx_a]
    refine wcall_s h13 rfl rfl ?_
    simp -implicitDefEqProofs (maxSteps := 2000000) only [c18,hml,↓reduceIte,S0,s_loop,v_neq,o_bd,v_agK,v_bd_n,o_len,v_len,Nat.reduceEqDiff,St.clr,outV,ownsV,owns1,ownL,Nat.reduceBEq,Nat.zero_le,kc_b,kc_i,kc_np,kc_p,kc_l,kC_c,List.range_zero,ne_eq,ite_not,pO_tt,e_asg_t,o_bxt,v_bxt]
    intro _
    have key : ∀ (q d : List Ru) (cell : List L) (w : W), d ++ q = g → Wst cell w → (d = [] ∨ w.g = true ∨ 0 < w.y.length) → putsW (gT T q) w = wf →
        LoopAt X Tryz.prog c18_13 [5, 16, 17, 18] (blkK 0 (seqK X Tryz.prog c18_17 (retS [] [] 0 [RV.t 2, RV.t 3] (PV.tp [PV.lf (L.str (if wf.g = true then ((⟨#[]⟩ : ByteArray), (2 : Int)) else (⟨wf.y.toArray⟩, 0)).1), PV.lf (L.int .i64 (if wf.g = true then ((⟨#[]⟩ : ByteArray), (2 : Int)) else (⟨wf.y.toArray⟩, 0)).2)]) [])))
          { m := 0, tm := [(5, .lf (.tptr 14 0 58)), (16, .lf (.lst .ro 2 (g.map Ru.c) sp)), (17, .lf (.int .i64 g.length)), (18, .lf (.int .i64 d.length))], ce := [(14, cell)] } := by
      intro q
      induction q with
      | nil =>
        intro d cell w hd hW hy hq
        simp only [List.append_nil] at hd
        subst hd
        have e : w = wf := hq
        subst e
        have hlt : ¬ (d.length : Int) < d.length := by omega
        have hd0 : ¬ d = [] := fun e => by rw [e] at hg1; simp at hg1
        intro Z hZ; apply hZ
        cases hg : w.g with
        | true =>
          have h17 := hW.R (r24g (X := X) w hW.ok hg)
          simp -implicitDefEqProofs (maxSteps := 2000000) only [c18,hlt,decide_false,↓reduceIte,S0,s_exit,s_seqK_e,s_blkK_e,s_loopK_e,Nat.reduceEqDiff,PV.leaves]
          refine pcall_i h17 rfl rfl ?_
          simp -implicitDefEqProofs (maxSteps := 2000000) only [c18,↓reduceIte,S0,o_ext,v_ext0,v_ext1,Nat.reduceEqDiff,outV,ownsV,owns1,ownL,List.any_cons,List.any_nil,Bool.or_self,m_1l]
        | false =>
          have h17 := hW.R (r24 (X := X) w hW.ok hg (by rcases hy with h | h | h; exact absurd h hd0; rw [hg] at h; cases h; exact h))
          simp -implicitDefEqProofs (maxSteps := 2000000) only [c18,hlt,decide_false,↓reduceIte,S0,s_exit,s_seqK_e,s_blkK_e,s_loopK_e,Nat.reduceEqDiff,PV.leaves]
          refine pcall_i h17 rfl rfl ?_
          simp -implicitDefEqProofs (maxSteps := 2000000) only [c18,↓reduceIte,S0,o_ext,v_ext0,v_ext1,Nat.reduceEqDiff,outV,ownsV,owns1,ownL,List.any_cons,List.any_nil,Bool.or_self,m_1l,fc_u]
      | cons x q ih =>
        intro d cell w hd hW hy hq
        have hdl : d.length < g.length := by rw [← hd]; simp
        have hlt : (d.length : Int) < g.length := by omega
        have hmem : x ∈ g := by rw [← hd]; simp
        obtain ⟨hnm, hch⟩ := hrs x hmem
        obtain ⟨t, hb, hto, hts, hpl⟩ := chk_tree (hwf x hmem) hch
        have htk : toksP T x.bd = toks T t := by simp only [toksP, treeP, hb]
        have h16 := r23 (X := X) x.bd x.sp (by omega) t [] hb
        have hpat := pat_ok T t.size t (Nat.le_refl _) (by omega) hto
        have hihn := fun cell w => ih (d ++ [x]) cell w (by simp [← hd])
        have hgt : gT T (x :: q) = (if x.nm = ⟨#[]⟩ then [] else [x.nm ++ ⟨#[32, 60, 45, 32]⟩]) ++ toks T t ++ [⟨#[10]⟩] ++ gT T q := by
          simp only [gT, List.flatMap_cons, ruT, htk]
        rw [hgt, putsW_app, putsW_app, putsW_app] at hq
        obtain ⟨nm, bd, bsp⟩ := x
        have hx : (g.map Ru.c).getD ((d.length : Nat) : Int).toNat [] = [.str nm, .lst .ro 7 (bd.map Nd.c) bsp] := by
          rw [Int.toNat_natCast, List.getD_eq_getElem?_getD, List.getElem?_map, ← hd]; simp
        have wd : IntKind.i64.wrap ((d.length : Int) + 1) = ((d.length + 1 : Nat) : Int) := by rw [w64 (by omega) (by omega)]; omega
        have k7 := hW.k7
        simp only at hnm h16 hq
        intro Z hZ; apply hZ
        simp -implicitDefEqProofs (maxSteps := 2000000) only [c18,hlt,decide_true,hx,v_ld_e,k7,↓reduceIte,S0,v_sadd,v_sneq,v_part_t,o_al,o_st,v_st_p,v_stCK,Nat.reduceEqDiff,Nat.reduceAdd,PV.leaves,List.all_cons,List.all_nil,PV.cells,cellL,fillL,Nat.reduceBEq,Nat.zero_le,Nat.le_refl,List.take_zero,List.drop_zero,List.take_succ_cons,List.drop_succ_cons,List.drop_nil,List.take_nil,kc_b,kc_i,kc_s,kc_l,rl_l,st_b,ne_eq,ite_not,kc_t,kc_er,ta_s]
        refine ⟨⟨by omega, by rw [hml]; omega⟩, by rw [hml]; omega, ?_⟩
        with_reducible refine ite_pr (fun hn => ?_) (fun hn => ?_)
        · rw [if_pos hn] at hq
          (try simp only [putsW] at hq)
          have p1 := hW.R (hpat w hW.ok)
          have ok1 := putsW_ok (toks T t) hW.ok
          generalize putsW (toks T t) w = w1 at *
          have W1 : Wst w1.a w1 := .inr ⟨rfl, ok1⟩
          have p2 := W1.R (r32 (X := X) w1 ok1 ⟨#[10]⟩ (by decide))
          have hy2 : (putW ⟨#[10]⟩ w1).g = true ∨ 0 < (putW ⟨#[10]⟩ w1).y.length := by
            cases hg : (putW ⟨#[10]⟩ w1).g with
            | true => exact .inl rfl
            | false => rw [putW_y hg]; right; simp
          have ok2 := putW_ok (s := ⟨#[10]⟩) ok1
          (try simp only [putsW] at hq)
          generalize putW ⟨#[10]⟩ w1 = w2 at *
          have hA1 : w1.c.map (AM.fromC 14) = w1.a := rfl
          have hA2 : w2.c.map (AM.fromC 14) = w2.a := rfl
          refine wcall_down h16 rfl ?_
          simp -implicitDefEqProofs (maxSteps := 2000000) only [c18,↓reduceIte,S0,Nat.reduceEqDiff,St.clr,outV,ownsV,owns1,ownL,PV.leaves,ol_rp,ta_rp,dw_rp0]
          refine pcall_i p1 rfl rfl ?_
          simp -implicitDefEqProofs (maxSteps := 2000000) only [c18,hA1,↓reduceIte,S0,Nat.reduceEqDiff,outV,ownsV,List.any_nil,PV.leaves,ta_s,kl_rp]
          refine pcall_i p2 rfl rfl ?_
          simp -implicitDefEqProofs (maxSteps := 2000000) only [c18,hA2,wd,↓reduceIte,S0,Nat.reduceEqDiff,outV,ownsV,List.any_nil,kC_c,List.range_zero,pO_tt]
          have hz := hihn w2.a w2 (.inr ⟨rfl, ok2⟩) (.inr hy2) hq Z hZ
          simp only [List.length_append, List.length_cons, List.length_nil, Nat.zero_add] at hz
          exact hz
        · rw [if_neg hn] at hq
          have l4 : ByteArray.size ⟨#[32, 60, 45, 32]⟩ = 4 := rfl
          have p0 := hW.R (r32 (X := X) w hW.ok (nm ++ ⟨#[32, 60, 45, 32]⟩) (by simp only [ByteArray.size_append, l4]; omega))
          have ok0 := putW_ok (s := nm ++ ⟨#[32, 60, 45, 32]⟩) hW.ok
          (try simp only [putsW] at hq)
          generalize putW (nm ++ ⟨#[32, 60, 45, 32]⟩) w = wz at *
          have W0 : Wst wz.a wz := .inr ⟨rfl, ok0⟩
          have hA0 : wz.c.map (AM.fromC 14) = wz.a := rfl
          refine ⟨by omega, pcall_i p0 rfl rfl ?_⟩
          simp -implicitDefEqProofs (maxSteps := 2000000) only [c18,hA0,↓reduceIte,S0,Nat.reduceEqDiff,outV,ownsV,List.any_nil,PV.leaves,rl_l]
          have p1 := W0.R (hpat wz W0.ok)
          have ok1 := putsW_ok (toks T t) W0.ok
          generalize putsW (toks T t) wz = w1 at *
          have W1 : Wst w1.a w1 := .inr ⟨rfl, ok1⟩
          have p2 := W1.R (r32 (X := X) w1 ok1 ⟨#[10]⟩ (by decide))
          have hy2 : (putW ⟨#[10]⟩ w1).g = true ∨ 0 < (putW ⟨#[10]⟩ w1).y.length := by
            cases hg : (putW ⟨#[10]⟩ w1).g with
            | true => exact .inl rfl
            | false => rw [putW_y hg]; right; simp
          have ok2 := putW_ok (s := ⟨#[10]⟩) ok1
          (try simp only [putsW] at hq)
          generalize putW ⟨#[10]⟩ w1 = w2 at *
          have hA1 : w1.c.map (AM.fromC 14) = w1.a := rfl
          have hA2 : w2.c.map (AM.fromC 14) = w2.a := rfl
          refine wcall_down h16 rfl ?_
          simp -implicitDefEqProofs (maxSteps := 2000000) only [c18,↓reduceIte,S0,Nat.reduceEqDiff,St.clr,outV,ownsV,owns1,ownL,PV.leaves,ol_rp,ta_rp,dw_rp0]
          refine pcall_i p1 rfl rfl ?_
          simp -implicitDefEqProofs (maxSteps := 2000000) only [c18,hA1,↓reduceIte,S0,Nat.reduceEqDiff,outV,ownsV,List.any_nil,PV.leaves,ta_s,kl_rp]
          refine pcall_i p2 rfl rfl ?_
          simp -implicitDefEqProofs (maxSteps := 2000000) only [c18,hA2,wd,↓reduceIte,S0,Nat.reduceEqDiff,outV,ownsV,List.any_nil,kC_c,List.range_zero,pO_tt]
          have hz := hihn w2.a w2 (.inr ⟨rfl, ok2⟩) (.inr hy2) hq Z hZ
          simp only [List.length_append, List.length_cons, List.length_nil, Nat.zero_add] at hz
          exact hz
    exact key g [] c0 w0 rfl (.inl ⟨rfl, rfl⟩) (.inl rfl) hF
  · unfold showG
    rw [if_pos hr]
    simp -implicitDefEqProofs (maxSteps := 2000000) only [c18,↓reduceIte,S0,v_part_t,o_bx,St.init,enum,Nat.reduceEqDiff,PV.leaves,Nat.zero_le,Nat.le_refl,List.drop_zero,List.take_succ_cons,List.take_nil,kc_l,rl_l,v_bx_a]
    refine wcall_s h13 rfl rfl ?_
    simp -implicitDefEqProofs (maxSteps := 2000000) only [c18,hr,↓reduceIte,S0,v_neq,Nat.reduceEqDiff,St.clr,outV,ownsV,owns1,ownL,ne_eq,not_false_eq_true]
end Go.Proofs.YtdoefdmaecaacaaGreatDoor.S
