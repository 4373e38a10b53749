/- Contracts, part S5. -/
import Derived.Test.YtdoefdmaecaacaaGreatDoorS4
set_option linter.unusedVariables false
set_option linter.unusedSimpArgs false
namespace Go.Proofs.YtdoefdmaecaacaaGreatDoor.S
open Go Go.Proofs.YtdoefdmaecaacaaGreatDoor.AM
variable {X : Cx}
theorem ar_cases2 (op : Int) : op = 1 ∨ op = 2 ∨ op = 3 ∨ op = 4 ∨ op = 5 ∨ op = 6 ∨ op = 7 ∨ op = 8 ∨ op = 9 ∨ op = 10 ∨ op = 11 ∨ op = 12 ∨ op = 13 ∨ op = 14 ∨ op = 15 ∨ op = 16 ∨ op = 17 ∨ op = 18 ∨ op = 19 ∨ op = 20 ∨ op = 21 ∨ op = 22 ∨ op = 23 ∨ (¬ op = 1 ∧ ¬ op = 2 ∧ ¬ op = 3 ∧ ¬ op = 4 ∧ ¬ op = 5 ∧ ¬ op = 6 ∧ ¬ op = 7 ∧ ¬ op = 8 ∧ ¬ op = 9 ∧ ¬ op = 10 ∧ ¬ op = 11 ∧ ¬ op = 12 ∧ ¬ op = 13 ∧ ¬ op = 14 ∧ ¬ op = 15 ∧ ¬ op = 16 ∧ ¬ op = 17 ∧ ¬ op = 18 ∧ ¬ op = 19 ∧ ¬ op = 20 ∧ ¬ op = 21 ∧ ¬ op = 22 ∧ ¬ op = 23) := by omega
theorem r65 (op : Int) : R X Tryz.prog 65 [.lf (.int .i64 op)] [] (.lf (.int .i64 (arF op))) [] := by
  refine R_i [] [] c65_ok rfl (by simp) ?_
  simp -implicitDefEqProofs (maxSteps := 2000000) only [c65,↓reduceIte,S0,St.init,enum,Nat.reduceEqDiff,reduceCtorEq,Int.reduceNeg]
  rcases ar_cases2 op with rfl | rfl | rfl | rfl | rfl | rfl | rfl | rfl | rfl | rfl | rfl | rfl | rfl | rfl | rfl | rfl | rfl | rfl | rfl | rfl | rfl | rfl | rfl | h
  iterate 23
    · simp [arF]
  · obtain ⟨h1, h2, h3, h4, h5, h6, h7, h8, h9, h10, h11, h12, h13, h14, h15, h16, h17, h18, h19, h20, h21, h22, h23⟩ := h
    have ha : arF op = -1 := by unfold arF; (repeat' split) <;> omega
    simp [h1, h2, h3, h4, h5, h6, h7, h8, h9, h10, h11, h12, h13, h14, h15, h16, h17, h18, h19, h20, h21, h22, h23, ha]
abbrev b1 (sh : List (Int × Int)) : List (List L) := sh.map fun s => [.int .i64 s.1]
abbrev h1 (sh : List (Int × Int)) : List (List L) := sh.map fun s => [.int .i64 s.2]
abbrev rnS (p : List Nd) (sp : List (List L)) (sh : List (Int × Int)) (x : Nd) (i : Nat) (a k : Int) (s : Int × Int) (extra : List (Nat × PV)) : St :=
  { m := 0, tm := [(0, .lf (.lst .ro 7 (p.map Nd.c) sp)), (6, .lf (.lst (.own 768 3) 1 (b1 sh) [])), (7, .lf (.lst (.own 896 3) 1 (h1 sh) [])), (8, .lf (.int .i64 i)), (9, .lf (.ptr 9 0)), (10, .lf (.int .i64 a)),
      (11, .lf (.int .i64 s.1)), (12, .lf (.int .i64 s.2)), (13, .lf (.int .i64 k))] ++ extra, ce := [(9, x.c)] }
theorem rn_done (p : List Nd) (sp : List (List L)) (sh : List (Int × Int)) (x : Nd) (i : Nat) (a : Int) (s : Int × Int) (Q : Out → St → Prop) (hQ : Q .nrm (rnS p sp sh x i a 0 s [(38, .lf (.bool false))])) :
    LoopAt X Tryz.prog c42_21 [0, 6, 7, 8, 9, 10, 11, 12, 13] (blkK 2 Q) (rnS p sp sh x i a 0 s []) := by
  obtain ⟨b, e⟩ := s
  obtain ⟨op, n, t, s0, s1, s2, s3⟩ := x
  simp only [rnS, List.append_nil, List.cons_append, List.nil_append] at hQ ⊢
  have h : ¬ (0 : Int) < 0 := by decide
  intro Z hZ; apply hZ
  simp -implicitDefEqProofs (maxSteps := 2000000) only [c42,h,decide_false,↓reduceIte,S0,s_exit,s_seqK_e,s_blkK_e,s_loopK_e,v_gtr,Nat.reduceEqDiff,reduceCtorEq]
  exact hQ
theorem rn_step (p : List Nd) (sp : List (List L)) (sh : List (Int × Int)) (x : Nd) (i : Nat) (a k k' : Int) (s : Int × Int) (hk : (a = 1 ∧ k = 1 ∧ k' = 0) ∨ (a = 2 ∧ k = 2 ∧ k' = 0) ∨ (a = 2 ∧ k = 1 ∧ k' = 1)) (hI : ShI sh) (hs : (0 ≤ s.1 ∧ s.1 ≤ sh.length) ∧ 0 ≤ s.2 ∧ s.2 ≤ 60) (hsh : sh.length ≤ p.length) (hp : p.length ≤ 2048) (Q : Out → St → Prop)
    (hz0 : s.1 = 0 → Q .ret { m := 0, tm := [(2, .lf (.lst (.own 256 3) 1 [] [])), (3, .lf (.lst (.own 384 3) 1 [] [])), (4, .lf (.int .i64 i)), (5, .lf (.int .i64 42))], ce := [(9, x.c)] })
    (hz1 : ∀ s', prtC p x.op sh k' s = some s' → LoopAt X Tryz.prog c42_21 [0, 6, 7, 8, 9, 10, 11, 12, 13] (blkK 2 Q) (rnS p sp sh x i a (k - 1) s' [])) :
    LoopAt X Tryz.prog c42_21 [0, 6, 7, 8, 9, 10, 11, 12, 13] (blkK 2 Q) (rnS p sp sh x i a k s []) := by
  obtain ⟨b, e⟩ := s
  obtain ⟨op, n, t, s0, s1, s2, s3⟩ := x
  simp only [rnS, List.append_nil] at hz1 hz0 hs ⊢
  have wk : IntKind.i64.wrap (k - 1) = k - 1 := w64 (by omega) (by omega)
  have hk0 : (0 : Int) < k := by omega
  have wb : IntKind.i64.wrap (b - 1) = b - 1 := w64 (by omega) (by omega)
  have hml : (p.map Nd.c).length = p.length := List.length_map _
  have hbl : (b1 sh).length = sh.length := List.length_map _
  have hhl : (h1 sh).length = sh.length := List.length_map _
  intro Z hZ; apply hZ
  by_cases hb : b = 0
  · subst hb
    simp -implicitDefEqProofs (maxSteps := 2000000) only [c42,hk0,decide_true,↓reduceIte,S0,s_loopK_r,v_gtr,Nat.reduceEqDiff,reduceCtorEq,Nat.reduceMul,Nat.reduceBEq,kp_b,kp_s,kp_p,kp_lro,kp_lo,e_asg_n,plT]
    exact hz0 rfl
  · have hj : (b - 1).toNat < sh.length := by omega
    have hgI := hI.get hj
    have hz := hz1 _ (by unfold prtC; rw [if_neg hb])
    have hg1 : (b1 sh).getD (b - 1).toNat [] = [.int .i64 (sh.getD (b - 1).toNat (0, 0)).1] := by
      simp only [List.getD_eq_getElem?_getD, List.getElem?_map, List.getElem?_eq_getElem hj]; rfl
    have hg2 : (h1 sh).getD (b - 1).toNat [] = [.int .i64 (sh.getD (b - 1).toNat (0, 0)).2] := by
      simp only [List.getD_eq_getElem?_getD, List.getElem?_map, List.getElem?_eq_getElem hj]; rfl
    have hgp : (p.map Nd.c).getD (b - 1).toNat [] = (p.getD (b - 1).toNat nd0).c := by
      have hj2 : (b - 1).toNat < p.length := by omega
      simp only [List.getD_eq_getElem?_getD, List.getElem?_map, List.getElem?_eq_getElem hj2]; rfl
    have wh : IntKind.i64.wrap ((sh.getD (b - 1).toNat (0, 0)).2 - 1) = (sh.getD (b - 1).toNat (0, 0)).2 - 1 := w64 (by omega) (by omega)
    have b7 : (b - 1).toNat < p.length := by omega
    generalize (sh.getD (b - 1).toNat (0, 0)) = q at *
    generalize p.getD (b - 1).toNat nd0 = y at *
    simp only at hz
    have n01 : ((0 : Int) = 1) = False := by simp
    have n11 : ((1 : Int) = 1) = True := by simp
    have n12 : ((1 : Int) = 2) = False := by simp
    have n21 : ((2 : Int) = 1) = False := by simp
    have n22 : ((2 : Int) = 2) = True := by simp
    rcases hk with ⟨rfl, rfl, rfl⟩ | ⟨rfl, rfl, rfl⟩ | ⟨rfl, rfl, rfl⟩
    · simp only [n01, false_and, if_false] at hz
      simp -implicitDefEqProofs (maxSteps := 2000000) only [c42,hk0,decide_true,hb,decide_false,wb,hg1,hg2,v_ld_e,n11,n12,wk,↓reduceIte,S0,s_ops2,s_wopsqK,s_qnil,s_qcons,s_qguard,q_pk,v_sub,v_gtr,Nat.reduceEqDiff,reduceCtorEq,cond_true,Bool.not_true,kC_c,pO_p,List.range_zero,o_mm,v_mm]
      refine ⟨⟨by omega, by rw [hhl]; exact hj⟩, by rw [hhl]; exact hj, ⟨by omega, by rw [hbl]; exact hj⟩, by rw [hbl]; exact hj, ?_⟩
      exact hz Z hZ
    · simp only [n01, false_and, if_false] at hz
      simp -implicitDefEqProofs (maxSteps := 2000000) only [c42,hk0,decide_true,hb,decide_false,wb,hg1,hg2,v_ld_e,n21,wk,↓reduceIte,S0,s_ops2,s_wopsqK,s_qnil,s_qcons,s_qguard,q_pk,v_sub,v_gtr,Nat.reduceEqDiff,reduceCtorEq,Bool.not_true,kC_c,pO_p,List.range_zero,o_mm,v_mm]
      refine ⟨⟨by omega, by rw [hhl]; exact hj⟩, by rw [hhl]; exact hj, ⟨by omega, by rw [hbl]; exact hj⟩, by rw [hbl]; exact hj, ?_⟩
      exact hz Z hZ
    · simp only [n11, true_and] at hz
      by_cases hy : y.op = op
      · rw [if_pos hy] at hz
        simp -implicitDefEqProofs (maxSteps := 2000000) only [c42,hk0,decide_true,hb,decide_false,wb,hg1,hg2,hgp,v_ld_e,n11,n22,wk,wh,hy,↓reduceIte,S0,s_ops2,s_wopsqK,s_qnil,s_qcons,s_qguard,q_pk,q_fa,q_ia,q_ld,v_sub,v_gtr,v_fa_e,Nat.reduceEqDiff,reduceCtorEq,cond_true,kC_c,pO_p,List.range_zero,o_mm,v_mm]
        refine ⟨⟨by omega, by rw [hhl]; exact hj⟩, by rw [hhl]; exact hj, ⟨by omega, by rw [hml]; exact b7⟩, by rw [hml]; exact b7, ⟨by omega, by rw [hbl]; exact hj⟩, by rw [hbl]; exact hj, ?_⟩
        exact hz Z hZ
      · rw [if_neg hy] at hz
        simp -implicitDefEqProofs (maxSteps := 2000000) only [c42,hk0,decide_true,hb,decide_false,wb,hg1,hg2,hgp,v_ld_e,n11,n22,wk,wh,hy,↓reduceIte,S0,s_ops2,s_wopsqK,s_qnil,s_qcons,s_qguard,q_pk,q_fa,q_ia,q_ld,v_sub,v_gtr,v_fa_e,Nat.reduceEqDiff,reduceCtorEq,cond_true,kC_c,pO_p,List.range_zero,o_mm,v_mm]
        refine ⟨⟨by omega, by rw [hhl]; exact hj⟩, by rw [hhl]; exact hj, ⟨by omega, by rw [hml]; exact b7⟩, by rw [hml]; exact b7, ⟨by omega, by rw [hbl]; exact hj⟩, by rw [hbl]; exact hj, ?_⟩
        exact hz Z hZ
theorem rn_all (p : List Nd) (sp : List (List L)) (sh : List (Int × Int)) (x : Nd) (i : Nat) (a : Int) (ha : a = 0 ∨ a = 1 ∨ a = 2) (hI : ShI sh) (hi : sh.length = i) (hsh : sh.length ≤ p.length) (hp : p.length ≤ 2048) (Q : Out → St → Prop)
    (h1 : ∀ s, prts p x.op sh a ((i : Int), 0) = some s → ((0 ≤ s.1 ∧ s.1 ≤ i) ∧ 0 ≤ s.2 ∧ s.2 ≤ 60) → Q .nrm (rnS p sp sh x i a 0 s [(38, .lf (.bool false))]))
    (h0 : prts p x.op sh a ((i : Int), 0) = none → Q .ret { m := 0, tm := [(2, .lf (.lst (.own 256 3) 1 [] [])), (3, .lf (.lst (.own 384 3) 1 [] [])), (4, .lf (.int .i64 i)), (5, .lf (.int .i64 42))], ce := [(9, x.c)] }) :
    LoopAt X Tryz.prog c42_21 [0, 6, 7, 8, 9, 10, 11, 12, 13] (blkK 2 Q) (rnS p sp sh x i a a ((i : Int), 0) []) := by
  have b0 : (0 ≤ ((i : Int), (0 : Int)).1 ∧ ((i : Int), (0 : Int)).1 ≤ sh.length) ∧ 0 ≤ ((i : Int), (0 : Int)).2 ∧ ((i : Int), (0 : Int)).2 ≤ 60 := by simp only; omega
  rcases ha with rfl | rfl | rfl
  · exact rn_done p sp sh x i 0 _ Q (h1 _ (by simp [prts]) (by simp only; omega))
  · have e1 : ∀ s, prts p x.op sh 1 s = prtC p x.op sh 0 s := fun s => by simp [prts]
    refine rn_step p sp sh x i 1 1 0 _ (.inl ⟨rfl, rfl, rfl⟩) hI b0 hsh hp Q (fun h => h0 (by rw [e1]; unfold prtC; rw [if_pos h])) (fun s' hs' => ?_)
    have o1 := prtC_ok hI b0.1 b0.2 hs'
    exact rn_done p sp sh x i 1 s' Q (h1 s' (by rw [e1]; exact hs') (by simp only at o1; omega))
  · have e1 : ∀ s, prts p x.op sh 2 s = (prtC p x.op sh 0 s).bind (prtC p x.op sh 1) := fun s => by simp [prts]
    have en : ((i : Int), (0 : Int)).1 = 0 → prts p x.op sh 2 ((i : Int), 0) = none := fun h => by
      have : prtC p x.op sh 0 ((i : Int), 0) = none := by unfold prtC; rw [if_pos h]
      rw [e1, this]; rfl
    refine rn_step p sp sh x i 2 2 0 _ (.inr (.inl ⟨rfl, rfl, rfl⟩)) hI b0 hsh hp Q (fun h => h0 (en h)) (fun s' hs' => ?_)
    have o1 := prtC_ok hI b0.1 b0.2 hs'
    simp only at o1
    refine rn_step p sp sh x i 2 (2 - 1) 1 s' (.inr (.inr ⟨rfl, rfl, rfl⟩)) hI (by omega) hsh hp Q (fun h => h0 (by rw [e1, hs']; show prtC p x.op sh 1 s' = none; unfold prtC; rw [if_pos h])) (fun s2 hs2 => ?_)
    have o2 := prtC_ok hI (by omega) o1.2 hs2
    exact rn_done p sp sh x i 2 s2 Q (h1 s2 (by rw [e1, hs']; exact hs2) (by omega))
end Go.Proofs.YtdoefdmaecaacaaGreatDoor.S
set_option linter.unusedVariables false
set_option linter.unusedSimpArgs false
namespace Go.Proofs.YtdoefdmaecaacaaGreatDoor.S
open Go Go.Proofs.YtdoefdmaecaacaaGreatDoor.AM
variable {X : Cx}
abbrev frA (p : List Nd) : PV := .tp [.lf (.lst (.own 0 3) 1 (if (chkR p p 0 []).2.1 = 0 then b1 (chkR p p 0 []).2.2 else []) []), .lf (.lst (.own 2 3) 1 (if (chkR p p 0 []).2.1 = 0 then h1 (chkR p p 0 []).2.2 else []) []), .lf (.int .i64 (chkR p p 0 []).1), .lf (.int .i64 (chkR p p 0 []).2.1)]
theorem r42 (p : List Nd) (sp : List (List L)) (hp : p.length ≤ 2048) : R X Tryz.prog 42 [.lf (.lst .ro 7 (p.map Nd.c) sp)] [] (frA p) [] := by
  have hml : (p.map Nd.c).length = p.length := List.length_map _
  unfold frA
  generalize hE : chkR p p 0 [] = E
  refine R_i [(0, 256), (2, 384)] [] c42_ok rfl (by simp) ?_
  simp -implicitDefEqProofs (maxSteps := 2000000) only [c42,↓reduceIte,S0,s_loop,St.init,enum,Nat.reduceEqDiff,reduceCtorEq,Nat.reduceMul,Nat.reduceBEq,kp_lro,kp_lo,e_asg_n,List.range_zero,plT]
  have key : ∀ (q d : List Nd) (sh : List (Int × Int)), d ++ q = p → sh.length = d.length → ShI sh → chkR p q d.length sh = E →
      LoopAt X Tryz.prog c42_38 [0, 6, 7, 8] (blkK 0 (seqK X Tryz.prog c42_42 (retS [(0, 256), (2, 384)] [] 0 [RV.t 2, RV.t 3, RV.t 4, RV.t 5] (.tp [.lf (.lst (.own 0 3) 1 (if E.2.1 = 0 then b1 E.2.2 else []) []), .lf (.lst (.own 2 3) 1 (if E.2.1 = 0 then h1 E.2.2 else []) []), .lf (.int .i64 E.1), .lf (.int .i64 E.2.1)]) [])))
        { m := 0, tm := [(0, .lf (.lst .ro 7 (p.map Nd.c) sp)), (6, .lf (.lst (.own 768 3) 1 (b1 sh) [])), (7, .lf (.lst (.own 896 3) 1 (h1 sh) [])), (8, .lf (.int .i64 d.length))], ce := [] } := by
    intro q
    induction q with
    | nil =>
      intro d sh hd hl hI hc
      simp only [List.append_nil] at hd
      subst hd
      simp only [chkR] at hc
      subst hc
      have hlt : ¬ (d.length : Int) < d.length := by omega
      intro Z hZ; apply hZ
      simp -implicitDefEqProofs (maxSteps := 2000000) only [c42,hlt,decide_false,hml,↓reduceIte,S0,s_exit,s_seqK_e,s_blkK_e,s_loopK_e,o_len,v_len,Nat.reduceEqDiff,reduceCtorEq,Nat.reduceMul,Nat.reduceBEq,plT,true_or,or_true,implies_true]
    | cons x q ih =>
      intro d sh hd hl hI hc
      have hdl : d.length < p.length := by rw [← hd]; simp
      have hlt : (d.length : Int) < p.length := by omega
      have h33 := r65 (X := X) x.op
      obtain ⟨op, n, tx, s0, s1, s2, s3⟩ := x
      have hx : (p.map Nd.c).getD ((d.length : Nat) : Int).toNat [] = [.int .i64 op, .int .i64 n, .str tx, .int .u64 s0, .int .u64 s1, .int .u64 s2, .int .u64 s3] := by
        rw [Int.toNat_natCast, List.getD_eq_getElem?_getD, List.getElem?_map, ← hd]; simp
      intro Z hZ; apply hZ
      simp -implicitDefEqProofs (maxSteps := 2000000) only [c42,hlt,decide_true,hx,v_ld_e,hml,↓reduceIte,S0,v_part_t,o_al,o_st,v_st_p,v_stCK,o_len,v_len,Nat.reduceEqDiff,Nat.reduceAdd,reduceCtorEq,PV.leaves,List.all_cons,List.all_nil,PV.cells,cellL,fillL,Nat.zero_le,Nat.le_refl,List.take_zero,List.drop_zero,List.take_succ_cons,List.drop_succ_cons,List.drop_nil,List.take_nil,kc_b,kc_i,kc_s,kc_l,st_b,kc_er]
      intro _
      refine ⟨⟨by omega, by omega⟩, by omega, wcall_s h33 rfl rfl ?_⟩
      have h72 := r66 (X := X) ⟨op, n, tx, s0, s1, s2, s3⟩
      simp only [chkR] at hc
      have hE1 : ∀ (e : Int), (shC p d.length ⟨op, n, tx, s0, s1, s2, s3⟩ sh).1 = e → ¬ e = 0 → E = ((d.length : Int), e, sh) := by
        intro e he hne
        rw [if_neg (by rw [he]; exact hne), he] at hc
        exact hc.symm
      have hgo : ∀ s' : Int × Int, shC p d.length ⟨op, n, tx, s0, s1, s2, s3⟩ sh = (0, s') → ∀ Z : St → Prop, (∀ σ, awp X Tryz.prog c42_38 (loopK [0, 6, 7, 8] (blkK 0 (seqK X Tryz.prog c42_42 (retS [(0, 256), (2, 384)] [] 0 [RV.t 2, RV.t 3, RV.t 4, RV.t 5] (.tp [.lf (.lst (.own 0 3) 1 (if E.2.1 = 0 then b1 E.2.2 else []) []), .lf (.lst (.own 2 3) 1 (if E.2.1 = 0 then h1 E.2.2 else []) []), .lf (.int .i64 E.1), .lf (.int .i64 E.2.1)]) []))) Z) σ → Z σ) →
          Z { m := 0, tm := [(0, .lf (.lst .ro 7 (p.map Nd.c) sp)), (6, .lf (.lst (.own 768 3) 1 (b1 sh ++ [[.int .i64 s'.1]]) [])), (7, .lf (.lst (.own 896 3) 1 (h1 sh ++ [[.int .i64 s'.2]]) [])), (8, .lf (.int .i64 (d.length + 1 : Nat)))], ce := [] } := by
        intro s' he Z hZ
        have hk := shC_ok (p := p) (x := ⟨op, n, tx, s0, s1, s2, s3⟩) hI (by rw [hl, he])
        rw [hl, he] at hk
        rw [he] at hc
        simp only [if_true] at hc
        have := ih (d ++ [⟨op, n, tx, s0, s1, s2, s3⟩]) (sh ++ [s']) (by simp [← hd]) (by simp [hl]) hk (by rw [show ((((d ++ [(⟨op, n, tx, s0, s1, s2, s3⟩ : Nd)]).length : Nat)) : Int) = (d.length : Int) + 1 by simp]; exact hc) Z hZ
        simp only [b1, h1, List.map_append, List.map_cons, List.map_nil, List.length_append, List.length_cons, List.length_nil, Nat.zero_add] at this ⊢
        exact this
      unfold shC at hE1 hgo
      simp only at hE1 hgo
      rcases ar_cases op with ha | ha
      · rw [ha] at hE1 ⊢
        have hEe := hE1 40 (by simp) (by decide)
        have am : ((-1 : Int) < 0) = True := by simp
        have n40 : ((40 : Int) = 0) = False := by simp
        subst hEe
        simp -implicitDefEqProofs (maxSteps := 2000000) only [c42,am,decide_true,n40,↓reduceIte,S0,s_loopK_r,Nat.reduceEqDiff,reduceCtorEq,St.clr,outV,ownsV,owns1,ownL,Nat.reduceMul,Nat.reduceBEq,kp_b,kp_s,kp_p,kp_lro,kp_lo,e_asg_n,plT,Int.reduceNeg,true_or,or_true]
      · have hnn : ¬ arF op < 0 := by omega
        rw [if_neg hnn] at hE1
        simp -implicitDefEqProofs (maxSteps := 2000000) only [c42,hnn,decide_false,↓reduceIte,S0,v_part_t,Nat.reduceEqDiff,Nat.reduceAdd,reduceCtorEq,St.clr,outV,ownsV,owns1,ownL,PV.leaves,Nat.le_refl,List.drop_zero,List.take_succ_cons,List.take_nil,rl_s]
        refine wcall_s h72 rfl rfl ?_
        cases hf : fldB ⟨op, n, tx, s0, s1, s2, s3⟩ with
        | false =>
          rw [hf] at hE1
          have hEe := hE1 41 (by simp) (by decide)
          have n40 : ((41 : Int) = 0) = False := by simp
          subst hEe
          simp -implicitDefEqProofs (maxSteps := 2000000) only [c42,n40,↓reduceIte,S0,s_loopK_r,o_un,v_not,Nat.reduceEqDiff,reduceCtorEq,Bool.not_false,St.clr,outV,ownsV,owns1,ownL,Nat.reduceMul,Nat.reduceBEq,kp_b,kp_s,ol_b,kp_p,kp_lro,kp_lo,e_asg_n,plT,true_or,or_true]
        | true =>
          rw [hf] at hE1 hgo
          simp only [Bool.true_eq_false, if_false, if_neg hnn] at hE1 hgo
          simp -implicitDefEqProofs (maxSteps := 2000000) only [c42,↓reduceIte,S0,s_loop,o_un,v_not,Nat.reduceEqDiff,reduceCtorEq,Bool.not_true,St.clr,outV,ownsV,owns1,ownL,ol_b,kC_c,pO_p,List.range_zero]
          refine rn_all p sp sh ⟨op, n, tx, s0, s1, s2, s3⟩ d.length (arF op) ha hI hl (by omega) hp _ (fun s hs hb => ?_) (fun hs => ?_)
          · simp only [rnS, List.cons_append, List.nil_append, hs] at hE1 hgo ⊢
            obtain ⟨b, e⟩ := s
            simp only at hb hE1 hgo
            have we : IntKind.i64.wrap (e + 1) = e + 1 := w64 (by omega) (by omega)
            have wd : IntKind.i64.wrap ((d.length : Int) + 1) = ((d.length + 1 : Nat) : Int) := by rw [w64 (by omega) (by omega)]; omega
            by_cases he : 60 < e + 1
            · rw [if_pos he] at hE1
              have hEe := hE1 4 rfl (by decide)
              have n40 : ((4 : Int) = 0) = False := by simp
              subst hEe
              simp -implicitDefEqProofs (maxSteps := 2000000) only [c42,we,he,n40,↓reduceIte,S0,s_loopK_r,v_gtr,Nat.reduceEqDiff,reduceCtorEq,Nat.reduceMul,Nat.reduceBEq,kp_b,kp_s,kp_lro,kp_lo,e_asg_n,plT,true_or,or_true]
            · rw [if_neg he] at hE1 hgo
              simp -implicitDefEqProofs (maxSteps := 2000000) only [c42,we,he,wd,↓reduceIte,S0,v_gtr,o_bs,v_bsK,v_lit_n,v_lit_c,o_app,v_app_o,Nat.reduceEqDiff,reduceCtorEq,Bool.or_false,List.all_cons,List.all_nil,PV.cells,datL,Nat.reduceMul,Nat.reduceBEq,Nat.reduceLeDiff,kp_b,kp_s,kp_lro,kp_lo,List.range_zero,plT,lit_n,lit_c,List.reduceReplicate,List.set_cons_zero,Nat.lt_add_one,or_false,kp_lk,rk_lk,lp_b,lp_i,lp_s,lp_lr,lp_lo]
              refine ⟨by simp only [List.length_map]; omega, by simp only [List.length_map]; omega, ?_⟩
              exact hgo (b, e + 1) rfl Z hZ
          · rw [hs] at hE1
            have hEe := hE1 42 rfl (by decide)
            have n40 : ((42 : Int) = 0) = False := by simp
            subst hEe
            simp -implicitDefEqProofs (maxSteps := 2000000) only [c42,n40,↓reduceIte,S0,s_loopK_r,Nat.reduceEqDiff,reduceCtorEq,true_or,or_true]
  exact key p [] [] rfl rfl (fun j s h => by simp at h) hE
end Go.Proofs.YtdoefdmaecaacaaGreatDoor.S
set_option linter.unusedVariables false
set_option linter.unusedSimpArgs false
namespace Go.Proofs.YtdoefdmaecaacaaGreatDoor.S
open Go Go.Proofs.YtdoefdmaecaacaaGreatDoor.AM
variable {X : Cx}
theorem chkR_len {p : List Nd} : ∀ (q : List Nd) (i : Int) (sh : List (Int × Int)), (chkR p q i sh).2.1 = 0 → (chkR p q i sh).2.2.length = sh.length + q.length
  | [], _, _, _ => rfl
  | x :: q, i, sh, h => by
    simp only [chkR] at h ⊢
    split at h
    · rename_i h0
      rw [if_pos h0]
      rw [chkR_len q _ _ h]
      simp; omega
    · rename_i h0; exact absurd h h0
theorem r25 (p : List Nd) (sp : List (List L)) : R X Tryz.prog 25 [.lf (.lst .ro 7 (p.map Nd.c) sp)] [] (.tp [.lf (.int .i64 (chk p).1), .lf (.int .i64 (chk p).2)]) [] := by
  have hml : (p.map Nd.c).length = p.length := List.length_map _
  have h53 := r42 (X := X) p sp
  have hlen := chkR_len (p := p) p 0 []
  refine R_i [] [] c25_ok rfl (by simp) ?_
  generalize hE : chk p = E
  unfold chk at hE
  simp -implicitDefEqProofs (maxSteps := 2000000) only [c25,hml,↓reduceIte,S0,v_gtr,o_len,v_len,St.init,enum,Nat.reduceEqDiff,reduceCtorEq,PV.leaves,rl_l]
  intro _
  by_cases h : 2048 < p.length
  · have h' : (2048 : Int) < p.length := by omega
    rw [if_pos h] at hE
    subst hE
    simp -implicitDefEqProofs (maxSteps := 2000000) only [c25,h',↓reduceIte,S0]
  · have h' : ¬ (2048 : Int) < p.length := by omega
    rw [if_neg h] at hE
    unfold eachF at hE
    have h53' := h53 (by omega)
    unfold frA at h53'
    generalize chkR p p 0 [] = c at *
    simp -implicitDefEqProofs (maxSteps := 2000000) only [c25,h',↓reduceIte]
    refine wcall_down h53' rfl ?_
    by_cases hc : c.2.1 = 0
    · rw [if_pos hc] at hE
      have hl := hlen hc
      simp only [List.length_nil, Nat.zero_add] at hl
      rw [if_pos hc, if_pos hc]
      have hbl : (b1 c.2.2).length = c.2.2.length := List.length_map _
      by_cases h0 : p = []
      · rw [if_pos (.inl h0)] at hE
        have p0 : ((p.length : Int) = 0) = True := by simp [h0]
        subst hE
        simp -implicitDefEqProofs (maxSteps := 2000000) only [c25,hc,hml,p0,↓reduceIte,S0,q_ia,q_ld,q_len,v_sub,v_neq,o_ext,v_ext0,v_ext1,v_ext2,v_ext3,v_ld_m,o_len,v_len,Nat.reduceEqDiff,Nat.reduceAdd,reduceCtorEq,cond_false,Bool.not_false,Bool.true_eq_false,decide_eq_false_iff_not,St.clr,outV,ownsV,owns1,ownL,List.any_cons,List.any_nil,Bool.or_false,Bool.or_self,Nat.reduceMul,Nat.reduceBEq,m_1l,plT,ne_eq,or_false,implies_true,ite_not]
      · have hpos : 0 < p.length := List.length_pos_iff.2 h0
        have p0 : ((p.length : Int) = 0) = False := by simp; exact h0
        have wl : IntKind.i64.wrap ((p.length : Int) - 1) = (p.length : Int) - 1 := w64 (by omega) (by omega)
        have hj : ((p.length : Int) - 1).toNat = p.length - 1 := by omega
        simp -implicitDefEqProofs (maxSteps := 2000000) only [c25,hc,hml,p0,wl,↓reduceIte,S0,q_ia,q_ld,q_len,v_sub,v_neq,o_ext,v_ext0,v_ext1,v_ext2,v_ext3,v_ld_m,o_len,v_len,Nat.reduceEqDiff,Nat.reduceAdd,reduceCtorEq,cond_false,decide_eq_false_iff_not,St.clr,outV,ownsV,owns1,ownL,List.any_cons,List.any_nil,Bool.or_false,Bool.or_self,Nat.reduceMul,Nat.reduceBEq,m_1l,plT,ne_eq,not_false_eq_true,or_false,ite_not]
        intro _ _
        refine ⟨⟨by omega, by rw [hbl]; omega⟩, by omega, ?_⟩
        rw [hj]
        with_reducible refine ite_pr (fun g => ?_) (fun g => ?_)
        · rw [if_neg (by simp only [not_or, Decidable.not_not]; exact ⟨h0, g⟩)] at hE
          subst hE; exact ⟨rfl, rfl⟩
        · rw [if_pos (.inr g)] at hE
          subst hE; intro _; exact ⟨rfl, rfl⟩
    · rw [if_neg hc] at hE
      subst hE
      rw [if_neg hc, if_neg hc]
      simp -implicitDefEqProofs (maxSteps := 2000000) only [c25,hc,↓reduceIte,S0,v_neq,o_ext,v_ext0,v_ext1,v_ext2,v_ext3,Nat.reduceEqDiff,Nat.reduceAdd,reduceCtorEq,St.clr,outV,ownsV,owns1,ownL,List.any_cons,List.any_nil,Bool.or_false,Bool.or_self,Nat.reduceMul,Nat.reduceBEq,m_1l,plT,ne_eq,not_false_eq_true,or_false]
theorem r28 (p : List Nd) (sp : List (List L)) (h : (chk p).2 = 0) : R X Tryz.prog 28 [.lf (.lst .ro 7 (p.map Nd.c) sp)] [] (.lf (.lst (.own 0 3) 1 (b1 (chkR p p 0 []).2.2) [])) [] := by
  have hl : p.length ≤ 2048 := by
    unfold chk at h; split at h
    · cases h
    · omega
  have h53 := r42 (X := X) p sp hl
  have h0 : (chkR p p 0 []).2.1 = 0 := by
    unfold chk at h; rw [if_neg (by omega)] at h
    unfold eachF at h
    split at h
    · assumption
    · rename_i k; exact absurd h k
  unfold frA at h53
  rw [if_pos h0, if_pos h0] at h53
  refine R_i [(0, 256)] [] c28_ok rfl (by simp) ?_
  simp -implicitDefEqProofs (maxSteps := 2000000) only [c28,↓reduceIte,S0,St.init,enum,reduceCtorEq,PV.leaves,Nat.reduceMul,kp_lro,rl_l,e_asg_n,plT]
  refine wcall_down h53 rfl ?_
  simp -implicitDefEqProofs (maxSteps := 2000000) only [c28,↓reduceIte,S0,o_ext,v_ext0,v_ext1,v_ext2,v_ext3,Nat.reduceEqDiff,Nat.reduceAdd,St.clr,outV,ownsV,owns1,ownL,List.any_cons,List.any_nil,Bool.or_false,Bool.or_self,Nat.reduceMul,Nat.reduceBEq,m_1l,plT,true_or,or_true,or_false]
def kidsF (p : List Nd) (sh : List (Int × Int)) (at_ : Int) : List Int :=
  if arF (p.getD at_.toNat nd0).op = 1 then [at_ - 1] else if arF (p.getD at_.toNat nd0).op = 2 then [(sh.getD (at_ - 1).toNat (0, 0)).1 - 1, at_ - 1] else []
theorem r49 (p : List Nd) (sp sp2 : List (List L)) (sh : List (Int × Int)) (at_ : Int) (h0 : 0 ≤ at_) (h1' : at_ < p.length) (hp : p.length ≤ 2048) (hl : sh.length = p.length) (hI : ShI sh) (h2 : arF (p.getD at_.toNat nd0).op = 2 → 0 < at_) :
    R X Tryz.prog 49 [.lf (.lst .ro 7 (p.map Nd.c) sp), .lf (.lst .ro 1 (b1 sh) sp2), .lf (.int .i64 at_)] [] (.lf (.lst (.own 0 3) 1 ((kidsF p sh at_).map fun k => [.int .i64 k]) [])) [] := by
  have hml : (p.map Nd.c).length = p.length := List.length_map _
  have hbl : (b1 sh).length = sh.length := List.length_map _
  have hj : at_.toNat < p.length := by omega
  have hx : (p.map Nd.c).getD at_.toNat [] = (p.getD at_.toNat nd0).c := by
    simp only [List.getD_eq_getElem?_getD, List.getElem?_map, List.getElem?_eq_getElem hj]; rfl
  unfold kidsF
  generalize p.getD at_.toNat nd0 = x at *
  have h71 := r65 (X := X) x.op
  obtain ⟨op, n, t, s0, s1, s2, s3⟩ := x
  simp only at h71 h2 ⊢
  have w1 : IntKind.i64.wrap (at_ - 1) = at_ - 1 := w64 (by omega) (by omega)
  refine R_i [(0, 768)] [] c49_ok rfl (by simp) ?_
  generalize arF op = a at *
  by_cases a1 : a = 1
  · rw [if_pos a1]
    simp -implicitDefEqProofs (maxSteps := 2000000) only [c49,hx,v_ld_e,↓reduceIte,S0,v_fa_e,St.init,enum,Nat.reduceEqDiff,Nat.reduceAdd,reduceCtorEq,PV.leaves,Nat.reduceMul,kp_lro,e_asg_n,plT]
    refine ⟨⟨by omega, by rw [hml]; omega⟩, by rw [hml]; omega, wcall_s h71 rfl rfl ?_⟩
    simp -implicitDefEqProofs (maxSteps := 2000000) only [c49,a1,w1,↓reduceIte,S0,v_sub,o_bs,v_bsK,v_lit_n,v_lit_c,Nat.reduceEqDiff,reduceCtorEq,St.clr,outV,ownsV,owns1,ownL,List.all_cons,List.all_nil,PV.cells,datL,Nat.reduceMul,Nat.reduceBEq,Nat.reduceLeDiff,kp_b,kp_lro,plT,lit_n,lit_c,List.reduceReplicate,List.set_cons_zero,Nat.lt_add_one,true_or,or_true]
  · rw [if_neg a1]
    by_cases a2 : a = 2
    · rw [if_pos a2]
      have hp2 := h2 a2
      have hj2 : (at_ - 1).toNat < sh.length := by omega
      have hg := hI.get hj2
      have hb : (b1 sh).getD (at_ - 1).toNat [] = [.int .i64 (sh.getD (at_ - 1).toNat (0, 0)).1] := by
        simp only [List.getD_eq_getElem?_getD, List.getElem?_map, List.getElem?_eq_getElem hj2]; rfl
      generalize sh.getD (at_ - 1).toNat (0, 0) = q at *
      have w2 : IntKind.i64.wrap (q.1 - 1) = q.1 - 1 := w64 (by omega) (by omega)
      simp -implicitDefEqProofs (maxSteps := 2000000) only [c49,hx,v_ld_e,↓reduceIte,S0,v_fa_e,St.init,enum,Nat.reduceEqDiff,Nat.reduceAdd,reduceCtorEq,PV.leaves,Nat.reduceMul,kp_lro,e_asg_n,plT]
      refine ⟨⟨by omega, by rw [hml]; omega⟩, by rw [hml]; omega, wcall_s h71 rfl rfl ?_⟩
      simp -implicitDefEqProofs (maxSteps := 2000000) only [c49,a1,a2,w1,hb,v_ld_e,w2,↓reduceIte,S0,v_sub,o_bs,v_bsK,v_lit_n,v_lit_c,Nat.reduceEqDiff,Nat.reduceAdd,reduceCtorEq,St.clr,outV,ownsV,owns1,ownL,List.all_cons,List.all_nil,PV.cells,datL,Nat.reduceMul,Nat.reduceBEq,Nat.reduceLeDiff,kp_b,kp_lro,plT,lit_n,lit_c,List.reduceReplicate,List.set_cons_zero,List.set_cons_succ,Nat.reduceLT,Nat.lt_add_one,true_or,or_true,kp_er,rk_er]
      exact ⟨⟨by omega, by rw [hbl]; omega⟩, by rw [hbl]; omega⟩
    · rw [if_neg a2]
      simp -implicitDefEqProofs (maxSteps := 2000000) only [c49,hx,v_ld_e,↓reduceIte,S0,v_fa_e,St.init,enum,Nat.reduceEqDiff,Nat.reduceAdd,reduceCtorEq,PV.leaves,Nat.reduceMul,kp_lro,e_asg_n,plT]
      refine ⟨⟨by omega, by rw [hml]; omega⟩, by rw [hml]; omega, wcall_s h71 rfl rfl ?_⟩
      simp -implicitDefEqProofs (maxSteps := 2000000) only [c49,a1,a2,↓reduceIte,S0,Nat.reduceEqDiff,reduceCtorEq,St.clr,outV,ownsV,owns1,ownL,Nat.reduceMul,kp_b,kp_lro,e_asg_n,plT,true_or,or_true]
end Go.Proofs.YtdoefdmaecaacaaGreatDoor.S
set_option linter.unusedVariables false
set_option linter.unusedSimpArgs false
namespace Go.Proofs.YtdoefdmaecaacaaGreatDoor.S
open Go Go.Proofs.YtdoefdmaecaacaaGreatDoor.AM
variable {X : Cx}
abbrev tc (p : List Nd) (sp : List (List L)) (sh : List (Int × Int)) (sp2 : List (List L)) (g : Bool) : List L := [.lst .ro 7 (p.map Nd.c) sp, .lst .ro 1 (b1 sh) sp2, .bool g]
abbrev TS := List UInt8 × Bool
def putT (s : ByteArray) (q : TS) : TS := if q.2 = true ∨ 65536 < q.1.length + s.size then (q.1, true) else (q.1 ++ s.data.toList, false)
def putsT : List ByteArray → TS → TS
  | [], w => w
  | s :: r, w => putsT r (putT s w)
theorem putsT_app (a b : List ByteArray) (w : TS) : putsT (a ++ b) w = putsT b (putsT a w) := by
  induction a generalizing w with
  | nil => rfl
  | cons s r ih => exact ih _
theorem putT_ok {s : ByteArray} {q : TS} (h : q.1.length ≤ 70000) : (putT s q).1.length ≤ 70000 := by
  unfold putT
  split
  · exact h
  · rename_i h1
    simp only [not_or, Nat.not_lt] at h1
    have := h1.2
    simp only [List.length_append, Array.length_toList]
    have e : s.data.size = s.size := rfl
    omega
theorem putsT_ok : ∀ (l : List ByteArray) {q : TS}, q.1.length ≤ 70000 → (putsT l q).1.length ≤ 70000
  | [], _, h => h
  | s :: r, q, h => putsT_ok r (q := putT s q) (putT_ok h)
theorem r67 (op : Int) : R X Tryz.prog 67 [.lf (.int .i64 op)] [] (.lf (.int .i64 (hol op))) [] := by
  refine R_i [] [] c67_ok rfl (by simp) ?_
  unfold hol
  simp -implicitDefEqProofs (maxSteps := 2000000) only [c67,↓reduceIte,S0,St.init,enum,Nat.reduceEqDiff,reduceCtorEq]
  by_cases h8 : op = 8
  · subst h8; simp
  by_cases h7 : op = 7
  · subst h7; simp
  by_cases h12 : op = 12
  · subst h12; simp
  by_cases h13 : op = 13
  · subst h13; simp
  by_cases h9 : op = 9
  · subst h9; simp
  by_cases h10 : op = 10
  · subst h10; simp
  by_cases h11 : op = 11
  · subst h11; simp
  by_cases h14 : op = 14
  · subst h14; simp
  by_cases h15 : op = 15
  · subst h15; simp
  by_cases h16 : op = 16
  · subst h16; simp
  by_cases h22 : op = 22
  · subst h22; simp
  by_cases h23 : op = 23
  · subst h23; simp
  simp [h8, h7, h12, h13, h9, h10, h11, h14, h15, h16, h22, h23]
theorem r47 (p : List Nd) (sp : List (List L)) (sh : List (Int × Int)) (sp2 : List (List L)) (s : ByteArray) (hs : s.size ≤ 1073741824) (q : TS) (hq : q.1.length ≤ 70000) :
    R X Tryz.prog 47 [.lf (.ptr 0 0), .lf (.lst (.own 127 5) 1 (ub q.1) []), .lf (.str s)] [tc p sp sh sp2 q.2] (.lf (.lst (.own 0 5) 1 (ub (putT s q).1) [])) [tc p sp sh sp2 (putT s q).2] := by
  obtain ⟨y, g⟩ := q
  simp only at hq ⊢
  have w1 : IntKind.i64.wrap ((y.length : Int) + (s.size : Int)) = (y.length : Int) + (s.size : Int) := w64 (by omega) (by omega)
  have hyl : (ub y).length = y.length := List.length_map _
  refine R_i [(0, 768)] [] c47_ok rfl (by simp) ?_
  unfold putT
  simp -implicitDefEqProofs (maxSteps := 2000000) only [c47,w1,hyl,↓reduceIte,S0,v_gtr,o_st,v_st_p,v_stCK,v_nc_p,o_len,v_len,o_lns,v_lns,o_aps,v_aps_o,St.init,enum,Nat.reduceEqDiff,Nat.reduceAdd,reduceCtorEq,t_rr,List.all_cons,List.all_nil,PV.cells,cellL,fillL,Nat.reduceMul,Nat.reduceBEq,Nat.le_refl,List.take_zero,List.take_succ_cons,List.drop_succ_cons,List.drop_nil,kp_b,kp_s,kp_u,kp_p,kp_lro,kp_lo,e_asg_n,st_b1,plT,Nat.lt_add_one,true_or,or_true]
  by_cases h : 65536 < y.length + s.size
  · have h' : (65536 : Int) < (y.length : Int) + s.size := by omega
    simp -implicitDefEqProofs (maxSteps := 2000000) only [c47,h',h,↓reduceIte,S0,or_true,implies_true]
  · have h' : ¬ (65536 : Int) < (y.length : Int) + s.size := by omega
    simp -implicitDefEqProofs (maxSteps := 2000000) only [c47,h',h,↓reduceIte,Bool.or_false,or_false]
    cases g
    · simp -implicitDefEqProofs (maxSteps := 2000000) only [c47,↓reduceIte,S0]
      intro _
      exact ⟨by omega, by rw [bytesL_ub, ub_app]⟩
    · simp -implicitDefEqProofs (maxSteps := 2000000) only [c47,↓reduceIte,S0,implies_true]
end Go.Proofs.YtdoefdmaecaacaaGreatDoor.S
set_option linter.unusedVariables false
set_option linter.unusedSimpArgs false
namespace Go.Proofs.YtdoefdmaecaacaaGreatDoor.S
open Go Go.Proofs.YtdoefdmaecaacaaGreatDoor.AM
variable {X : Cx}
theorem putsT_g : ∀ (l : List ByteArray) (y : List UInt8), putsT l (y, true) = (y, true)
  | [], _ => rfl
  | s :: r, y => by
    have : putT s (y, true) = (y, true) := by simp [putT]
    simp only [putsT, this]; exact putsT_g r y
abbrev ow (q : TS) : PV := .lf (.lst (.own 127 5) 1 (ub q.1) [])
abbrev or0 (q : TS) : PV := .lf (.lst (.own 0 5) 1 (ub q.1) [])
def NodeOK (X : Cx) (p : List Nd) (sh : List (Int × Int)) (i : Nat) (ts : List ByteArray) : Prop :=
  ∀ (q : TS) (sp sp2 : List (List L)), q.1.length ≤ 70000 → R X Tryz.prog 68 [.lf (.ptr 0 0), ow q, .lf (.int .i64 i)] [tc p sp sh sp2 q.2] (or0 (putsT ts q)) [tc p sp sh sp2 (putsT ts q).2]
theorem r43 (p : List Nd) (sh : List (Int × Int)) (i : Nat) (ts : List ByteArray) (hn : NodeOK X p sh i ts) (hi : i < p.length) (hp : p.length ≤ 2048) (k : Int) (q : TS) (sp sp2 : List (List L)) (hq : q.1.length ≤ 70000) :
    R X Tryz.prog 43 [.lf (.ptr 0 0), ow q, .lf (.int .i64 i), .lf (.int .i64 k)] [tc p sp sh sp2 q.2] (or0 (putsT (round (hol (p.getD i nd0).op) k ts) q)) [tc p sp sh sp2 (putsT (round (hol (p.getD i nd0).op) k ts) q).2] := by
  have hml : (p.map Nd.c).length = p.length := List.length_map _
  have hx : (p.map Nd.c).getD ((i : Nat) : Int).toNat [] = (p.getD i nd0).c := by
    rw [Int.toNat_natCast]
    simp only [List.getD_eq_getElem?_getD, List.getElem?_map, List.getElem?_eq_getElem hi]; rfl
  generalize p.getD i nd0 = x at *
  have h54 := r67 (X := X) x.op
  generalize hh : hol x.op = hv at *
  obtain ⟨op, n, tx, s0, s1, s2, s3⟩ := x
  simp only at h54
  obtain ⟨y, g⟩ := q
  simp only at hq
  cases g with
  | true =>
    rw [putsT_g]
    refine R_i [(0, 1024)] [] c43_ok rfl (by simp) ?_
    simp -implicitDefEqProofs (maxSteps := 2000000) only [c43,↓reduceIte,S0,v_nc_p,St.init,enum,Nat.reduceEqDiff,Nat.reduceAdd,reduceCtorEq,t_rr,Nat.reduceMul,Nat.reduceBEq,kp_b,kp_p,kp_lro,kp_lo,e_asg_n,plT,Nat.lt_add_one,true_or,or_true]
  | false =>
    have h1 := r47 (X := X) p sp sh sp2 ⟨#[40]⟩ (by decide) (y, false) hq
    have ok1 := putT_ok (s := ⟨#[40]⟩) (q := (y, false)) hq
    by_cases hk : hv < k
    · have e : putsT (round hv k ts) (y, false) = putT ⟨#[41]⟩ (putsT ts (putT ⟨#[40]⟩ (y, false))) := by
        unfold round; rw [if_pos hk, putsT_app, putsT_app]; rfl
      have h2 := hn _ sp sp2 ok1
      have ok2 := putsT_ok ts ok1
      have h3 := r47 (X := X) p sp sh sp2 ⟨#[41]⟩ (by decide) _ ok2
      rw [e]
      refine R_i [(0, 1024)] [] c43_ok rfl (by simp) ?_
      generalize putT ⟨#[40]⟩ (y, false) = q1 at *
      generalize putsT ts q1 = q2 at *
      generalize putT ⟨#[41]⟩ q2 = q3 at *
      simp -implicitDefEqProofs (maxSteps := 2000000) only [c43,hx,v_ld_e,hml,↓reduceIte,S0,v_fa_e,v_nc_p,St.init,enum,Nat.reduceEqDiff,Nat.reduceAdd,reduceCtorEq,PV.leaves,Nat.reduceMul,Nat.reduceBEq,kp_b,kp_p,kp_lro,kp_lo,e_asg_n,plT]
      refine ⟨⟨by omega, by omega⟩, by omega, wcall_s h54 rfl rfl ?_⟩
      simp -implicitDefEqProofs (maxSteps := 2000000) only [c43,hk,decide_true,↓reduceIte,S0,Nat.reduceEqDiff,reduceCtorEq,St.clr,outV,ownsV,owns1,ownL,PV.leaves]
      refine wcallg_h 1 rfl rfl rfl ?_
      simp -implicitDefEqProofs (maxSteps := 2000000) only [c43,↓reduceIte,S0,Nat.reduceEqDiff,Nat.reduceAdd,Bool.not_true,PV.leaves,Nat.reduceMul,isC,cplc,Nat.reduceMod,Nat.reduceDiv,tg_s,nC_s]
      refine pcall_i h1 rfl rfl ?_
      simp -implicitDefEqProofs (maxSteps := 2000000) only [c43,↓reduceIte,S0,Nat.reduceEqDiff,Nat.reduceAdd,reduceCtorEq,outV,ownsV,owns1,ownL,PV.leaves,Nat.reduceMul,Nat.reduceBEq,plT,isC,Nat.reduceMod,Nat.reduceDiv]
      refine wcallg_g 1 rfl (by decide) rfl ?_
      simp -implicitDefEqProofs (maxSteps := 2000000) only [c43,↓reduceIte,S0,Nat.reduceEqDiff,Nat.reduceAdd,Bool.not_true,PV.leaves,Nat.reduceMul,Nat.reduceBEq,isC,cplc,Nat.reduceMod,Nat.reduceDiv,tg_i,nC_i,gv_0]
      refine pcall_i h2 rfl rfl ?_
      simp -implicitDefEqProofs (maxSteps := 2000000) only [c43,↓reduceIte,S0,Nat.reduceEqDiff,Nat.reduceAdd,reduceCtorEq,outV,ownsV,owns1,ownL,PV.leaves,Nat.reduceMul,Nat.reduceBEq,plT,isC,Nat.reduceMod,Nat.reduceDiv]
      refine wcallg_g 1 rfl (by decide) rfl ?_
      simp -implicitDefEqProofs (maxSteps := 2000000) only [c43,↓reduceIte,S0,Nat.reduceEqDiff,Nat.reduceAdd,Bool.not_true,PV.leaves,Nat.reduceMul,Nat.reduceBEq,isC,cplc,Nat.reduceMod,Nat.reduceDiv,tg_s,nC_s,gv_0]
      refine pcall_i h3 rfl rfl ?_
      simp -implicitDefEqProofs (maxSteps := 2000000) only [c43,↓reduceIte,S0,Nat.reduceAdd,t_rr,outV,ownsV,owns1,ownL,Nat.reduceMul,Nat.reduceBEq,plT,Nat.lt_add_one,true_or,or_true,isC,Nat.reduceMod,Nat.reduceDiv]
    · have e : putsT (round hv k ts) (y, false) = putsT ts (y, false) := by
        unfold round; rw [if_neg hk]
      have h2 := hn (y, false) sp sp2 hq
      rw [e]
      refine R_i [(0, 1024)] [] c43_ok rfl (by simp) ?_
      generalize putsT ts (y, false) = q2 at *
      simp -implicitDefEqProofs (maxSteps := 2000000) only [c43,hx,v_ld_e,hml,↓reduceIte,S0,v_fa_e,v_nc_p,St.init,enum,Nat.reduceEqDiff,Nat.reduceAdd,reduceCtorEq,PV.leaves,Nat.reduceMul,Nat.reduceBEq,kp_b,kp_p,kp_lro,kp_lo,e_asg_n,plT]
      refine ⟨⟨by omega, by omega⟩, by omega, wcall_s h54 rfl rfl ?_⟩
      simp -implicitDefEqProofs (maxSteps := 2000000) only [c43,hk,decide_false,↓reduceIte,S0,Nat.reduceEqDiff,reduceCtorEq,St.clr,outV,ownsV,owns1,ownL,PV.leaves]
      refine wcallg_h 1 rfl rfl rfl ?_
      simp -implicitDefEqProofs (maxSteps := 2000000) only [c43,↓reduceIte,S0,Nat.reduceEqDiff,Nat.reduceAdd,Bool.not_true,PV.leaves,Nat.reduceMul,isC,cplc,Nat.reduceMod,Nat.reduceDiv,tg_i,nC_i]
      refine pcall_i h2 rfl rfl ?_
      simp -implicitDefEqProofs (maxSteps := 2000000) only [c43,↓reduceIte,S0,Nat.reduceEqDiff,Nat.reduceAdd,reduceCtorEq,t_rr,outV,ownsV,owns1,ownL,Nat.reduceMul,Nat.reduceBEq,plT,Nat.lt_add_one,true_or,or_true,isC,Nat.reduceMod,Nat.reduceDiv]
theorem r94 (p : List Nd) (sh : List (Int × Int)) (i : Nat) (ts : List ByteArray) (hn : NodeOK X p sh i ts) (hi : i < p.length) (hp : p.length ≤ 2048) (o e : ByteArray) (ho : o.size ≤ 1073741824) (he : e.size ≤ 1073741824) (q : TS) (sp sp2 : List (List L)) (hq : q.1.length ≤ 70000) :
    R X Tryz.prog 94 [.lf (.ptr 0 0), ow q, .lf (.str o), .lf (.int .i64 (i + 1 : Nat)), .lf (.str e)] [tc p sp sh sp2 q.2] (or0 (putsT ([o] ++ round (hol (p.getD i nd0).op) 0 ts ++ [e]) q)) [tc p sp sh sp2 (putsT ([o] ++ round (hol (p.getD i nd0).op) 0 ts ++ [e]) q).2] := by
  have ee : putsT ([o] ++ round (hol (p.getD i nd0).op) 0 ts ++ [e]) q = putT e (putsT (round (hol (p.getD i nd0).op) 0 ts) (putT o q)) := by rw [putsT_app, putsT_app]; rfl
  have h1 := r47 (X := X) p sp sh sp2 o ho q hq
  have ok1 := putT_ok (s := o) (q := q) hq
  have h2 := r43 p sh i ts hn hi hp 0 _ sp sp2 ok1
  have ok2 := putsT_ok (round (hol (p.getD i nd0).op) 0 ts) ok1
  have h3 := r47 (X := X) p sp sh sp2 e he _ ok2
  have w1 : IntKind.i64.wrap (((i + 1 : Nat) : Int) - 1) = (i : Int) := by rw [w64 (by omega) (by omega)]; omega
  rw [ee]
  generalize putT o q = q1 at *
  generalize putsT (round (hol (p.getD i nd0).op) 0 ts) q1 = q2 at *
  generalize putT e q2 = q3 at *
  obtain ⟨y, g⟩ := q
  refine R_i [(0, 1280)] [] c94_ok rfl (by simp) ?_
  simp -implicitDefEqProofs (maxSteps := 2000000) only [c94,↓reduceIte,S0,St.init,enum,Nat.reduceEqDiff,Nat.reduceAdd,reduceCtorEq,PV.leaves,Nat.reduceMul,Nat.reduceBEq,kp_b,kp_s,kp_p,kp_lro,kp_lo,e_asg_n,plT]
  refine wcallg_h 1 rfl rfl rfl ?_
  simp -implicitDefEqProofs (maxSteps := 2000000) only [c94,↓reduceIte,S0,Nat.reduceEqDiff,Nat.reduceAdd,Bool.not_true,PV.leaves,Nat.reduceMul,isC,cplc,Nat.reduceMod,Nat.reduceDiv,tg_s,nC_s]
  refine pcall_i h1 rfl rfl ?_
  simp -implicitDefEqProofs (maxSteps := 2000000) only [c94,w1,↓reduceIte,S0,v_sub,Nat.reduceEqDiff,Nat.reduceAdd,reduceCtorEq,outV,ownsV,owns1,ownL,PV.leaves,Nat.reduceMul,kps_s,plT,isC,Nat.reduceMod,Nat.reduceDiv]
  refine wcallg_g 1 rfl (by decide) rfl ?_
  simp -implicitDefEqProofs (maxSteps := 2000000) only [c94,↓reduceIte,S0,Nat.reduceEqDiff,Nat.reduceAdd,Bool.not_true,PV.leaves,Nat.reduceMul,Nat.reduceBEq,isC,cplc,Nat.reduceMod,Nat.reduceDiv,tg_i,nC_i,gv_0]
  refine pcall_i h2 rfl rfl ?_
  simp -implicitDefEqProofs (maxSteps := 2000000) only [c94,↓reduceIte,S0,Nat.reduceEqDiff,Nat.reduceAdd,reduceCtorEq,outV,ownsV,owns1,ownL,PV.leaves,Nat.reduceMul,kps_s,plT,kl_u,isC,Nat.reduceMod,Nat.reduceDiv]
  refine wcallg_g 1 rfl (by decide) rfl ?_
  simp -implicitDefEqProofs (maxSteps := 2000000) only [c94,↓reduceIte,S0,Nat.reduceEqDiff,Nat.reduceAdd,Bool.not_true,PV.leaves,Nat.reduceMul,Nat.reduceBEq,isC,cplc,Nat.reduceMod,Nat.reduceDiv,tg_s,nC_s,gv_0]
  refine pcall_i h3 rfl rfl ?_
  simp -implicitDefEqProofs (maxSteps := 2000000) only [c94,↓reduceIte,S0,Nat.reduceAdd,t_rr,outV,ownsV,owns1,ownL,Nat.reduceMul,Nat.reduceBEq,kps_s,plT,Nat.lt_add_one,true_or,or_true,kl_u,isC,Nat.reduceMod,Nat.reduceDiv]
end Go.Proofs.YtdoefdmaecaacaaGreatDoor.S
set_option linter.unusedVariables false
set_option linter.unusedSimpArgs false
namespace Go.Proofs.YtdoefdmaecaacaaGreatDoor.S
open Go Go.Proofs.YtdoefdmaecaacaaGreatDoor.AM
variable {X : Cx}
section
variable (T : Txt X)
def preR (x : Nd) : List ByteArray := if x.op = 18 ∨ x.op = 19 ∨ x.op = 20 ∨ x.op = 21 ∨ x.op = 12 ∨ x.op = 13 then [(aro T x).1] else []
def postR (x : Nd) : List ByteArray := if x.op = 12 ∨ x.op = 13 then [] else [(aro T x).2.2]
def toksR : Tr → List ByteArray
  | .l0 x => [tok0 T x]
  | .l1 x a => preR T x ++ round (hol a.x.op) (aro T x).2.1 (toksR a) ++ postR T x
  | .l2 x a b => round (hol a.x.op) (rowK x.op).1 (toksR a) ++ [(rowK x.op).2] ++ round (hol b.x.op) ((rowK x.op).1 + 1) (toksR b)
end
inductive AtT (p : List Nd) (sh : List (Int × Int)) : Nat → Tr → Prop where
  | l0 {i : Nat} {x : Nd} (h0 : i < p.length) (h1 : p.getD i nd0 = x) (h2 : (sh.getD i (0, 0)).1 = (i : Int)) (ha : arF x.op = 0) : AtT p sh i (.l0 x)
  | l1 {i : Nat} {x : Nd} {a : Tr} (h0 : i + 1 < p.length) (h1 : p.getD (i + 1) nd0 = x) (h2 : (sh.getD (i + 1) (0, 0)).1 = (i : Int) + 1 - a.size) (ha : arF x.op = 1) (h : AtT p sh i a) : AtT p sh (i + 1) (.l1 x a)
  | l2 {i : Nat} {x : Nd} {a b : Tr} (h0 : i + 1 < p.length) (h1 : p.getD (i + 1) nd0 = x) (h2 : (sh.getD (i + 1) (0, 0)).1 = (i : Int) + 1 - b.size - a.size) (ha : arF x.op = 2) (h : AtT p sh i b) (hb : b.size ≤ i) (h' : AtT p sh (i - b.size) a) : AtT p sh (i + 1) (.l2 x a b)
theorem AtT.lt {p : List Nd} {sh : List (Int × Int)} {i : Nat} {t : Tr} (h : AtT p sh i t) : i < p.length := by cases h <;> assumption
theorem AtT.x {p : List Nd} {sh : List (Int × Int)} {i : Nat} {t : Tr} (h : AtT p sh i t) : p.getD i nd0 = t.x := by cases h <;> assumption
theorem AtT.b {p : List Nd} {sh : List (Int × Int)} {i : Nat} {t : Tr} (h : AtT p sh i t) : (sh.getD i (0, 0)).1 = (i : Int) + 1 - t.size := by
  cases h <;> simp only [Tr.size] <;> omega
theorem getC {p : List Nd} {i : Nat} {x : Nd} (h0 : i < p.length) (h1 : p.getD i nd0 = x) : (p.map Nd.c).getD ((i : Nat) : Int).toNat [] = x.c := by
  rw [← h1, Int.toNat_natCast]
  simp only [List.getD_eq_getElem?_getD, List.getElem?_map, List.getElem?_eq_getElem h0]; rfl
theorem n56_0 (T : Txt X) {p : List Nd} {sh : List (Int × Int)} {i : Nat} {x : Nd} (hx : x.ok) (h0 : i < p.length) (h1 : p.getD i nd0 = x) (ha : arF x.op = 0) (hp : p.length ≤ 2048) (hl : sh.length = p.length) (hI : ShI sh) : NodeOK X p sh i (toksR T (.l0 x)) := by
  intro q sp sp2 hq
  have hml : (p.map Nd.c).length = p.length := List.length_map _
  have hg := getC h0 h1
  have h73 := r49 (X := X) p sp sp2 sh (i : Int) (by omega) (by omega) hp hl hI (by rw [Int.toNat_natCast, h1, ha]; intro k; cases k)
  have hk : kidsF p sh (i : Int) = [] := by unfold kidsF; rw [Int.toNat_natCast, h1, ha]; rfl
  rw [hk] at h73
  have h55 := fun s hs => r47 (X := X) p sp sh sp2 s hs q hq
  clear h1 hk
  obtain ⟨op, n, tx, s0, s1, s2, s3⟩ := x
  have h74 := T.h74 n hx.n.1 hx.n.2
  have h75 := T.h75 tx hx.t
  have h76 := T.h76 s0 s1 s2 s3 hx.s0.1 hx.s0.2 hx.s1.1 hx.s1.2 hx.s2.1 hx.s2.2 hx.s3.1 hx.s3.2
  have l1 := T.lit_n tx hx.t
  have l2 := T.set_n s0 s1 s2 s3
  have l3 := hx.t
  simp only at ha l3
  obtain ⟨y, g⟩ := q
  simp only [toksR, tok0, putsT]
  refine R_i [(0, 768)] [] c68_ok rfl (by simp) ?_
  simp -implicitDefEqProofs (maxSteps := 2000000) only [c68,hg,v_ld_e,hml,↓reduceIte,S0,s_wopsqK,s_qnil,s_qcons,q_fa,q_ld,q_nc,v_part_t,o_al,o_st,v_st_p,v_stCK,v_nc_p,St.init,enum,Nat.reduceEqDiff,Nat.reduceAdd,reduceCtorEq,PV.leaves,List.all_cons,List.all_nil,PV.cells,cellL,fillL,Nat.reduceMul,Nat.reduceBEq,Nat.reduceLeDiff,Nat.le_refl,List.take_zero,List.drop_zero,List.take_succ_cons,List.drop_succ_cons,List.drop_nil,List.take_nil,kp_b,kc_b,kc_i,kc_s,kp_p,kp_lro,kc_p,kc_l,kp_lo,rl_l,e_asg_n,st_b,plT,kc_er,s_reg]
  refine ⟨⟨by omega, by omega⟩, by omega, ?_⟩
  have hcc : ([3328, 3330, 3332] : List Nat).contains 127 = false := rfl
  refine wcall_down h73 rfl ?_
  simp -implicitDefEqProofs (maxSteps := 2000000) only [c68,hcc,↓reduceIte,S0,Nat.reduceEqDiff,Nat.reduceAdd,reduceCtorEq,St.clr,outV,ownsV,owns1,ownL,PV.leaves,Nat.reduceMul,Nat.reduceBEq,kps_s,kps_lo,plT]
  refine wcall_s h74 rfl rfl ?_
  rcases ar0 ha with e | e | e | e | e | e | e
  case' inl => subst e
  case' inr.inl => subst e
  case' inr.inr.inl => subst e
  case' inr.inr.inr.inl => subst e
  iterate 4
    · simp -implicitDefEqProofs (maxSteps := 2000000) only [c68,Int.reduceEq,decide_true,decide_false,↓reduceIte,S0,Nat.reduceEqDiff,reduceCtorEq,St.clr,outV,ownsV,owns1,ownL,PV.leaves]
      refine wcallg_h 1 rfl rfl rfl ?_
      simp -implicitDefEqProofs (maxSteps := 2000000) only [c68,Int.reduceEq,decide_true,decide_false,↓reduceIte,S0,Nat.reduceEqDiff,Nat.reduceAdd,reduceCtorEq,Bool.not_true,PV.leaves,Nat.reduceMul,isC,cplc,Nat.reduceMod,Nat.reduceDiv,tg_s,nC_s]
      refine pcall_i (h55 _ ?_) rfl rfl ?_
      · first | decide | omega
      simp -implicitDefEqProofs (maxSteps := 2000000) only [c68,Int.reduceEq,decide_true,decide_false,↓reduceIte,S0,Nat.reduceAdd,reduceCtorEq,t_rr,outV,ownsV,owns1,ownL,Nat.reduceMul,Nat.reduceBEq,kps_s,kps_lo,plT,Nat.lt_add_one,true_or,or_true,isC,Nat.reduceMod,Nat.reduceDiv]
  · subst e
    simp -implicitDefEqProofs (maxSteps := 2000000) only [c68,Int.reduceEq,decide_true,decide_false,↓reduceIte,S0,Nat.reduceEqDiff,reduceCtorEq,St.clr,outV,ownsV,owns1,ownL,PV.leaves,rl_s]
    refine wcall_s h75 rfl rfl ?_
    simp -implicitDefEqProofs (maxSteps := 2000000) only [c68,Int.reduceEq,decide_true,decide_false,↓reduceIte,S0,Nat.reduceEqDiff,St.clr,outV,ownsV,owns1,ownL,PV.leaves]
    refine wcallg_h 1 rfl rfl rfl ?_
    simp -implicitDefEqProofs (maxSteps := 2000000) only [c68,Int.reduceEq,decide_true,decide_false,↓reduceIte,S0,Nat.reduceEqDiff,Nat.reduceAdd,reduceCtorEq,Bool.not_true,PV.leaves,Nat.reduceMul,isC,cplc,Nat.reduceMod,Nat.reduceDiv,tg_s,nC_s]
    refine pcall_i (h55 _ ?_) rfl rfl ?_
    · first | decide | omega
    simp -implicitDefEqProofs (maxSteps := 2000000) only [c68,Int.reduceEq,decide_true,decide_false,↓reduceIte,S0,Nat.reduceAdd,reduceCtorEq,t_rr,outV,ownsV,owns1,ownL,Nat.reduceMul,Nat.reduceBEq,kps_s,kps_lo,plT,Nat.lt_add_one,true_or,or_true,isC,Nat.reduceMod,Nat.reduceDiv]
  · subst e
    simp -implicitDefEqProofs (maxSteps := 2000000) only [c68,Int.reduceEq,decide_true,decide_false,↓reduceIte,S0,v_part_t,Nat.reduceEqDiff,Nat.reduceAdd,reduceCtorEq,St.clr,outV,ownsV,owns1,ownL,PV.leaves,Nat.le_refl,List.drop_zero,List.take_succ_cons,List.drop_succ_cons,List.take_nil]
    refine wcall_s h76 rfl rfl ?_
    simp -implicitDefEqProofs (maxSteps := 2000000) only [c68,Int.reduceEq,decide_true,decide_false,↓reduceIte,S0,Nat.reduceEqDiff,St.clr,outV,ownsV,owns1,ownL,PV.leaves]
    refine wcallg_h 1 rfl rfl rfl ?_
    simp -implicitDefEqProofs (maxSteps := 2000000) only [c68,Int.reduceEq,decide_true,decide_false,↓reduceIte,S0,Nat.reduceEqDiff,Nat.reduceAdd,reduceCtorEq,Bool.not_true,PV.leaves,Nat.reduceMul,isC,cplc,Nat.reduceMod,Nat.reduceDiv,tg_s,nC_s]
    refine pcall_i (h55 _ ?_) rfl rfl ?_
    · first | decide | omega
    simp -implicitDefEqProofs (maxSteps := 2000000) only [c68,Int.reduceEq,decide_true,decide_false,↓reduceIte,S0,Nat.reduceAdd,reduceCtorEq,t_rr,outV,ownsV,owns1,ownL,Nat.reduceMul,Nat.reduceBEq,kps_s,kps_lo,plT,Nat.lt_add_one,true_or,or_true,isC,Nat.reduceMod,Nat.reduceDiv]
  · subst e
    simp -implicitDefEqProofs (maxSteps := 2000000) only [c68,Int.reduceEq,decide_true,decide_false,↓reduceIte,S0,Nat.reduceEqDiff,reduceCtorEq,St.clr,outV,ownsV,owns1,ownL,PV.leaves]
    refine wcallg_h 1 rfl rfl rfl ?_
    simp -implicitDefEqProofs (maxSteps := 2000000) only [c68,Int.reduceEq,decide_true,decide_false,↓reduceIte,S0,Nat.reduceEqDiff,Nat.reduceAdd,reduceCtorEq,Bool.not_true,PV.leaves,Nat.reduceMul,isC,cplc,Nat.reduceMod,Nat.reduceDiv,tg_s,nC_s]
    refine pcall_i (h55 _ ?_) rfl rfl ?_
    · first | decide | omega
    simp -implicitDefEqProofs (maxSteps := 2000000) only [c68,Int.reduceEq,decide_true,decide_false,↓reduceIte,S0,Nat.reduceAdd,reduceCtorEq,t_rr,outV,ownsV,owns1,ownL,Nat.reduceMul,Nat.reduceBEq,kps_s,kps_lo,plT,Nat.lt_add_one,true_or,or_true,isC,Nat.reduceMod,Nat.reduceDiv]
end Go.Proofs.YtdoefdmaecaacaaGreatDoor.S
set_option linter.unusedVariables false
set_option linter.unusedSimpArgs false
namespace Go.Proofs.YtdoefdmaecaacaaGreatDoor.S
open Go Go.Proofs.YtdoefdmaecaacaaGreatDoor.AM
variable {X : Cx}
set_option maxHeartbeats 2000000 in
theorem n56_1 (T : Txt X) {p : List Nd} {sh : List (Int × Int)} {i : Nat} {x : Nd} {a : Tr} (hn : NodeOK X p sh i (toksR T a)) (hi : p.getD i nd0 = a.x) (hx : x.ok) (h0 : i + 1 < p.length) (h1 : p.getD (i + 1) nd0 = x) (ha : arF x.op = 1) (hp : p.length ≤ 2048) (hl : sh.length = p.length) (hI : ShI sh) : NodeOK X p sh (i + 1) (toksR T (.l1 x a)) := by
  intro q sp sp2 hq
  have hml : (p.map Nd.c).length = p.length := List.length_map _
  have hg := getC h0 h1
  have h73 := r49 (X := X) p sp sp2 sh ((i + 1 : Nat) : Int) (by omega) (by omega) hp hl hI (by rw [Int.toNat_natCast, h1, ha]; intro k; cases k)
  have hk : kidsF p sh ((i + 1 : Nat) : Int) = [(i : Int)] := by unfold kidsF; rw [Int.toNat_natCast, h1, ha, if_pos rfl]; congr 1; omega
  rw [hk] at h73
  simp only [List.map_cons, List.map_nil] at h73
  have h77 := fun o e ho he => r94 p sh i _ hn (by omega) hp o e ho he q sp sp2 hq
  have h38 := fun k => r43 p sh i _ hn (by omega) hp k q sp sp2 hq
  have h55a := fun s hs => r47 (X := X) p sp sh sp2 s hs q hq
  have ok1 : ∀ s, (putT s q).1.length ≤ 70000 := fun s => putT_ok hq
  have ok2 : ∀ l, (putsT l q).1.length ≤ 70000 := fun l => putsT_ok l hq
  have h38a := fun s k => r43 p sh i _ hn (by omega) hp k (putT s q) sp sp2 (ok1 s)
  have h55b := fun l s hs => r47 (X := X) p sp sh sp2 s hs (putsT l q) (ok2 l)
  rw [hi] at h77 h38 h38a
  clear h1 hk
  obtain ⟨op, n, tx, s0, s1, s2, s3⟩ := x
  have h74 := T.h74 n hx.n.1 hx.n.2
  have h75 := T.h75 tx hx.t
  have l1 := T.lit_n tx hx.t
  have l2 := T.dec_n n hx.n.1 hx.n.2
  have l3 := hx.t
  simp only at ha l3
  obtain ⟨y, g⟩ := q
  have hcc : ([3328, 3330, 3332] : List Nat).contains 127 = false := rfl
  have hge : ([[L.int .i64 (i : Int)]] : List (List L)).getD (Int.toNat 0) [] = [.int .i64 (i : Int)] := rfl
  refine R_i [(0, 768)] [] c68_ok rfl (by simp) ?_
  simp -implicitDefEqProofs (maxSteps := 2000000) only [c68,hg,v_ld_e,hml,↓reduceIte,S0,s_wopsqK,s_qnil,s_qcons,q_fa,q_ld,q_nc,v_part_t,o_al,o_st,v_st_p,v_stCK,v_nc_p,St.init,enum,Nat.reduceEqDiff,Nat.reduceAdd,reduceCtorEq,PV.leaves,List.all_cons,List.all_nil,PV.cells,cellL,fillL,Nat.reduceMul,Nat.reduceBEq,Nat.reduceLeDiff,Nat.le_refl,List.take_zero,List.drop_zero,List.take_succ_cons,List.drop_succ_cons,List.drop_nil,List.take_nil,kp_b,kc_b,kc_i,kc_s,kp_p,kp_lro,kc_p,kc_l,kp_lo,rl_l,e_asg_n,st_b,plT,kc_er,s_reg]
  refine ⟨⟨by omega, by omega⟩, by omega, ?_⟩
  refine wcall_down h73 rfl ?_
  simp -implicitDefEqProofs (maxSteps := 2000000) only [c68,hcc,↓reduceIte,S0,Nat.reduceEqDiff,Nat.reduceAdd,reduceCtorEq,St.clr,outV,ownsV,owns1,ownL,PV.leaves,Nat.reduceMul,Nat.reduceBEq,kps_s,kps_lo,plT]
  refine wcall_s h74 rfl rfl ?_
  rcases ar1 ha with e | e | e | e | e | e | e
  · subst e
    have e : toksR T (.l1 ⟨18, n, tx, s0, s1, s2, s3⟩ a) = [⟨#[123]⟩] ++ round (hol a.x.op) 0 (toksR T a) ++ [⟨#[125]⟩] := by simp [toksR, preR, postR, aro]
    rw [e]
    have h := h77 ⟨#[123]⟩ ⟨#[125]⟩ (by decide) (by decide)
    simp -implicitDefEqProofs (maxSteps := 2000000) only [c68,Int.reduceEq,decide_true,decide_false,↓reduceIte,S0,Nat.reduceEqDiff,reduceCtorEq,St.clr,outV,ownsV,owns1,ownL,PV.leaves]
    refine wcallg_h 1 rfl rfl rfl ?_
    simp -implicitDefEqProofs (maxSteps := 2000000) only [c68,↓reduceIte,S0,Nat.reduceEqDiff,Nat.reduceAdd,reduceCtorEq,Bool.not_true,PV.leaves,Nat.reduceMul,isC,cplc,Nat.reduceMod,Nat.reduceDiv,tg_i,tg_s,nC_i,nC_s]
    refine pcall_i h rfl rfl ?_
    simp -implicitDefEqProofs (maxSteps := 2000000) only [c68,↓reduceIte,S0,Nat.reduceAdd,reduceCtorEq,t_rr,outV,ownsV,owns1,ownL,Nat.reduceMul,Nat.reduceBEq,kps_s,kps_lo,plT,Nat.lt_add_one,true_or,or_true,isC,Nat.reduceMod,Nat.reduceDiv]
  · subst e
    have e : toksR T (.l1 ⟨20, n, tx, s0, s1, s2, s3⟩ a) = [⟨#[123, 124, 32]⟩] ++ round (hol a.x.op) 0 (toksR T a) ++ [⟨#[32, 124, 125]⟩] := by simp [toksR, preR, postR, aro]
    rw [e]
    have h := h77 ⟨#[123, 124, 32]⟩ ⟨#[32, 124, 125]⟩ (by decide) (by decide)
    simp -implicitDefEqProofs (maxSteps := 2000000) only [c68,Int.reduceEq,decide_true,decide_false,↓reduceIte,S0,Nat.reduceEqDiff,reduceCtorEq,St.clr,outV,ownsV,owns1,ownL,PV.leaves]
    refine wcallg_h 1 rfl rfl rfl ?_
    simp -implicitDefEqProofs (maxSteps := 2000000) only [c68,↓reduceIte,S0,Nat.reduceEqDiff,Nat.reduceAdd,reduceCtorEq,Bool.not_true,PV.leaves,Nat.reduceMul,isC,cplc,Nat.reduceMod,Nat.reduceDiv,tg_i,tg_s,nC_i,nC_s]
    refine pcall_i h rfl rfl ?_
    simp -implicitDefEqProofs (maxSteps := 2000000) only [c68,↓reduceIte,S0,Nat.reduceAdd,reduceCtorEq,t_rr,outV,ownsV,owns1,ownL,Nat.reduceMul,Nat.reduceBEq,kps_s,kps_lo,plT,Nat.lt_add_one,true_or,or_true,isC,Nat.reduceMod,Nat.reduceDiv]
  · subst e
    have e : toksR T (.l1 ⟨21, n, tx, s0, s1, s2, s3⟩ a) = [⟨#[123, 126, 32]⟩] ++ round (hol a.x.op) 0 (toksR T a) ++ [⟨#[32, 126, 125]⟩] := by simp [toksR, preR, postR, aro]
    rw [e]
    have h := h77 ⟨#[123, 126, 32]⟩ ⟨#[32, 126, 125]⟩ (by decide) (by decide)
    simp -implicitDefEqProofs (maxSteps := 2000000) only [c68,Int.reduceEq,decide_true,decide_false,↓reduceIte,S0,Nat.reduceEqDiff,reduceCtorEq,St.clr,outV,ownsV,owns1,ownL,PV.leaves]
    refine wcallg_h 1 rfl rfl rfl ?_
    simp -implicitDefEqProofs (maxSteps := 2000000) only [c68,↓reduceIte,S0,Nat.reduceEqDiff,Nat.reduceAdd,reduceCtorEq,Bool.not_true,PV.leaves,Nat.reduceMul,isC,cplc,Nat.reduceMod,Nat.reduceDiv,tg_i,tg_s,nC_i,nC_s]
    refine pcall_i h rfl rfl ?_
    simp -implicitDefEqProofs (maxSteps := 2000000) only [c68,↓reduceIte,S0,Nat.reduceAdd,reduceCtorEq,t_rr,outV,ownsV,owns1,ownL,Nat.reduceMul,Nat.reduceBEq,kps_s,kps_lo,plT,Nat.lt_add_one,true_or,or_true,isC,Nat.reduceMod,Nat.reduceDiv]
  · subst e
    have e : toksR T (.l1 ⟨12, n, tx, s0, s1, s2, s3⟩ a) = [⟨#[38]⟩] ++ round (hol a.x.op) 2 (toksR T a) := by simp [toksR, preR, postR, aro]
    rw [e, putsT_app]
    have g1 := h55a ⟨#[38]⟩ (by decide)
    have g2 := h38a ⟨#[38]⟩ 2
    simp -implicitDefEqProofs (maxSteps := 2000000) only [c68,Int.reduceEq,decide_true,decide_false,hge,v_ld_e,List.contains_cons,List.contains_nil,Nat.reduceBEq,Bool.or_self,Bool.false_or,Bool.or_false,↓reduceIte,S0,Nat.reduceEqDiff,reduceCtorEq,St.clr,outV,ownsV,owns1,ownL,PV.leaves,s_gdt,t_one,t_pot,t_alt]
    have e1 : putsT [⟨#[38]⟩] (y, g) = putT ⟨#[38]⟩ (y, g) := rfl
    rw [e1]
    generalize putsT (round (hol a.x.op) 2 (toksR T a)) (putT ⟨#[38]⟩ (y, g)) = q2 at *
    generalize putT ⟨#[38]⟩ (y, g) = q1 at *
    refine ⟨⟨by decide, by decide⟩, ?_, ?_⟩
    · refine wcallg_h 1 rfl rfl rfl ?_
      simp -implicitDefEqProofs (maxSteps := 2000000) only [c68,↓reduceIte,S0,Nat.reduceEqDiff,Nat.reduceAdd,reduceCtorEq,Bool.not_true,PV.leaves,Nat.reduceMul,isC,cplc,Nat.reduceMod,Nat.reduceDiv,tg_s,nC_s]
      refine pcall_i g1 rfl rfl ?_
      simp -implicitDefEqProofs (maxSteps := 2000000) only [c68,hge,v_ld_e,List.contains_cons,List.contains_nil,Nat.reduceBEq,Bool.or_self,Bool.false_or,Bool.or_false,↓reduceIte,S0,Nat.reduceEqDiff,Nat.reduceAdd,reduceCtorEq,outV,ownsV,owns1,ownL,Bool.or_self,PV.leaves,Nat.reduceMul,Nat.reduceBEq,kps_s,kps_lo,plT,kps_eo,kl_eo,isC,Nat.reduceMod,Nat.reduceDiv,t_one,t_pot]
      refine ⟨by decide, ?_⟩
      refine wcallg_g 1 rfl (by decide) rfl ?_
      simp -implicitDefEqProofs (maxSteps := 2000000) only [c68,↓reduceIte,S0,Nat.reduceEqDiff,Nat.reduceAdd,Bool.not_true,PV.leaves,Nat.reduceMul,Nat.reduceBEq,isC,cplc,Nat.reduceMod,Nat.reduceDiv,tg_i,nC_i,gv_0]
      refine pcall_i g2 rfl rfl ?_
      simp -implicitDefEqProofs (maxSteps := 2000000) only [c68,↓reduceIte,S0,Nat.reduceAdd,reduceCtorEq,t_rr,outV,ownsV,owns1,ownL,Nat.reduceMul,Nat.reduceBEq,kps_s,kps_lo,plT,Nat.lt_add_one,true_or,or_true,kl_u,isC,Nat.reduceMod,Nat.reduceDiv,t_nil,t_one,t_pot]
    · refine ⟨by decide, ?_⟩
      refine wcallg_h 1 rfl rfl rfl ?_
      simp -implicitDefEqProofs (maxSteps := 2000000) only [c68,↓reduceIte,S0,Nat.reduceEqDiff,Nat.reduceAdd,reduceCtorEq,Bool.not_true,PV.leaves,Nat.reduceMul,isC,cplc,Nat.reduceMod,Nat.reduceDiv,tg_s,nC_s]
      refine pcall_i g1 rfl rfl ?_
      simp -implicitDefEqProofs (maxSteps := 2000000) only [c68,↓reduceIte,S0,Nat.reduceEqDiff,Nat.reduceAdd,reduceCtorEq,outV,ownsV,owns1,ownL,PV.leaves,Nat.reduceMul,Nat.reduceBEq,kps_s,kps_lo,plT,kps_eo,kl_eo,isC,Nat.reduceMod,Nat.reduceDiv,t_one,t_pot]
      refine wcallg_g 1 rfl (by decide) rfl ?_
      simp -implicitDefEqProofs (maxSteps := 2000000) only [c68,↓reduceIte,S0,Nat.reduceEqDiff,Nat.reduceAdd,Bool.not_true,PV.leaves,Nat.reduceMul,Nat.reduceBEq,isC,cplc,Nat.reduceMod,Nat.reduceDiv,tg_i,nC_i,gv_0]
      refine pcall_i g2 rfl rfl ?_
      simp -implicitDefEqProofs (maxSteps := 2000000) only [c68,↓reduceIte,S0,Nat.reduceAdd,reduceCtorEq,t_rr,outV,ownsV,owns1,ownL,Nat.reduceMul,Nat.reduceBEq,kps_s,plT,Nat.lt_add_one,true_or,or_true,kl_u,isC,Nat.reduceMod,Nat.reduceDiv,t_nil,t_one,t_pot]
  · subst e
    have e : toksR T (.l1 ⟨13, n, tx, s0, s1, s2, s3⟩ a) = [⟨#[33]⟩] ++ round (hol a.x.op) 2 (toksR T a) := by simp [toksR, preR, postR, aro]
    rw [e, putsT_app]
    have g1 := h55a ⟨#[33]⟩ (by decide)
    have g2 := h38a ⟨#[33]⟩ 2
    simp -implicitDefEqProofs (maxSteps := 2000000) only [c68,Int.reduceEq,decide_true,decide_false,hge,v_ld_e,List.contains_cons,List.contains_nil,Nat.reduceBEq,Bool.or_self,Bool.false_or,Bool.or_false,↓reduceIte,S0,Nat.reduceEqDiff,reduceCtorEq,St.clr,outV,ownsV,owns1,ownL,PV.leaves,s_gdt,t_one,t_pot,t_alt]
    have e1 : putsT [⟨#[33]⟩] (y, g) = putT ⟨#[33]⟩ (y, g) := rfl
    rw [e1]
    generalize putsT (round (hol a.x.op) 2 (toksR T a)) (putT ⟨#[33]⟩ (y, g)) = q2 at *
    generalize putT ⟨#[33]⟩ (y, g) = q1 at *
    refine ⟨⟨by decide, by decide⟩, ?_, ?_⟩
    · refine wcallg_h 1 rfl rfl rfl ?_
      simp -implicitDefEqProofs (maxSteps := 2000000) only [c68,↓reduceIte,S0,Nat.reduceEqDiff,Nat.reduceAdd,reduceCtorEq,Bool.not_true,PV.leaves,Nat.reduceMul,isC,cplc,Nat.reduceMod,Nat.reduceDiv,tg_s,nC_s]
      refine pcall_i g1 rfl rfl ?_
      simp -implicitDefEqProofs (maxSteps := 2000000) only [c68,hge,v_ld_e,List.contains_cons,List.contains_nil,Nat.reduceBEq,Bool.or_self,Bool.false_or,Bool.or_false,↓reduceIte,S0,Nat.reduceEqDiff,Nat.reduceAdd,reduceCtorEq,outV,ownsV,owns1,ownL,Bool.or_self,PV.leaves,Nat.reduceMul,Nat.reduceBEq,kps_s,kps_lo,plT,kps_eo,kl_eo,isC,Nat.reduceMod,Nat.reduceDiv,t_one,t_pot]
      refine ⟨by decide, ?_⟩
      refine wcallg_g 1 rfl (by decide) rfl ?_
      simp -implicitDefEqProofs (maxSteps := 2000000) only [c68,↓reduceIte,S0,Nat.reduceEqDiff,Nat.reduceAdd,Bool.not_true,PV.leaves,Nat.reduceMul,Nat.reduceBEq,isC,cplc,Nat.reduceMod,Nat.reduceDiv,tg_i,nC_i,gv_0]
      refine pcall_i g2 rfl rfl ?_
      simp -implicitDefEqProofs (maxSteps := 2000000) only [c68,↓reduceIte,S0,Nat.reduceAdd,reduceCtorEq,t_rr,outV,ownsV,owns1,ownL,Nat.reduceMul,Nat.reduceBEq,kps_s,kps_lo,plT,Nat.lt_add_one,true_or,or_true,kl_u,isC,Nat.reduceMod,Nat.reduceDiv,t_nil,t_one,t_pot]
    · refine ⟨by decide, ?_⟩
      refine wcallg_h 1 rfl rfl rfl ?_
      simp -implicitDefEqProofs (maxSteps := 2000000) only [c68,↓reduceIte,S0,Nat.reduceEqDiff,Nat.reduceAdd,reduceCtorEq,Bool.not_true,PV.leaves,Nat.reduceMul,isC,cplc,Nat.reduceMod,Nat.reduceDiv,tg_s,nC_s]
      refine pcall_i g1 rfl rfl ?_
      simp -implicitDefEqProofs (maxSteps := 2000000) only [c68,↓reduceIte,S0,Nat.reduceEqDiff,Nat.reduceAdd,reduceCtorEq,outV,ownsV,owns1,ownL,PV.leaves,Nat.reduceMul,Nat.reduceBEq,kps_s,kps_lo,plT,kps_eo,kl_eo,isC,Nat.reduceMod,Nat.reduceDiv,t_one,t_pot]
      refine wcallg_g 1 rfl (by decide) rfl ?_
      simp -implicitDefEqProofs (maxSteps := 2000000) only [c68,↓reduceIte,S0,Nat.reduceEqDiff,Nat.reduceAdd,Bool.not_true,PV.leaves,Nat.reduceMul,Nat.reduceBEq,isC,cplc,Nat.reduceMod,Nat.reduceDiv,tg_i,nC_i,gv_0]
      refine pcall_i g2 rfl rfl ?_
      simp -implicitDefEqProofs (maxSteps := 2000000) only [c68,↓reduceIte,S0,Nat.reduceAdd,reduceCtorEq,t_rr,outV,ownsV,owns1,ownL,Nat.reduceMul,Nat.reduceBEq,kps_s,plT,Nat.lt_add_one,true_or,or_true,kl_u,isC,Nat.reduceMod,Nat.reduceDiv,t_nil,t_one,t_pot]
  · subst e
    have k4 : ByteArray.size ⟨#[123, 58]⟩ = 2 := rfl
    have k5 : ByteArray.size ⟨#[58, 32]⟩ = 2 := rfl
    by_cases ht : tx = ⟨#[]⟩
    · subst ht
      have e : toksR T (.l1 ⟨19, n, ⟨#[]⟩, s0, s1, s2, s3⟩ a) = [⟨#[123, 58, 32]⟩] ++ round (hol a.x.op) 0 (toksR T a) ++ [⟨#[32, 58, 125]⟩] := by simp [toksR, preR, postR, aro]; rfl
      rw [e]
      have h := h77 ⟨#[123, 58, 32]⟩ ⟨#[32, 58, 125]⟩ (by decide) (by decide)
      simp -implicitDefEqProofs (maxSteps := 2000000) only [c68,Int.reduceEq,decide_true,decide_false,↓reduceIte,S0,v_seql,Nat.reduceEqDiff,reduceCtorEq,St.clr,outV,ownsV,owns1,ownL,PV.leaves]
      refine wcallg_h 1 rfl rfl rfl ?_
      simp -implicitDefEqProofs (maxSteps := 2000000) only [c68,↓reduceIte,S0,Nat.reduceEqDiff,Nat.reduceAdd,reduceCtorEq,Bool.not_true,PV.leaves,Nat.reduceMul,isC,cplc,Nat.reduceMod,Nat.reduceDiv,tg_i,tg_s,nC_i,nC_s]
      refine pcall_i h rfl rfl ?_
      simp -implicitDefEqProofs (maxSteps := 2000000) only [c68,↓reduceIte,S0,Nat.reduceAdd,reduceCtorEq,t_rr,outV,ownsV,owns1,ownL,Nat.reduceMul,Nat.reduceBEq,kps_s,plT,Nat.lt_add_one,true_or,or_true,isC,Nat.reduceMod,Nat.reduceDiv]
    · have e : toksR T (.l1 ⟨19, n, tx, s0, s1, s2, s3⟩ a) = [⟨#[123, 58]⟩ ++ tx ++ ⟨#[58, 32]⟩] ++ round (hol a.x.op) 0 (toksR T a) ++ [⟨#[32, 58, 125]⟩] := by
        simp [toksR, preR, postR, aro, ht]
        rw [ByteArray.append_assoc, ByteArray.append_assoc, ByteArray.append_assoc]; rfl
      rw [e]
      have h := h77 (⟨#[123, 58]⟩ ++ tx ++ ⟨#[58, 32]⟩) ⟨#[32, 58, 125]⟩ (by simp only [ByteArray.size_append]; omega) (by decide)
      simp -implicitDefEqProofs (maxSteps := 2000000) only [c68,Int.reduceEq,decide_true,decide_false,ht,↓reduceIte,S0,v_sadd,v_seql,Nat.reduceEqDiff,Nat.reduceAdd,reduceCtorEq,St.clr,outV,ownsV,owns1,ownL,PV.leaves]
      refine ⟨by omega, ?_⟩
      refine ⟨by rw [ByteArray.size_append]; omega, ?_⟩
      refine wcallg_h 1 rfl rfl rfl ?_
      simp -implicitDefEqProofs (maxSteps := 2000000) only [c68,↓reduceIte,S0,Nat.reduceEqDiff,Nat.reduceAdd,reduceCtorEq,Bool.not_true,PV.leaves,Nat.reduceMul,isC,cplc,Nat.reduceMod,Nat.reduceDiv,tg_i,tg_s,nC_i,nC_s]
      refine pcall_i h rfl rfl ?_
      simp -implicitDefEqProofs (maxSteps := 2000000) only [c68,↓reduceIte,S0,Nat.reduceAdd,reduceCtorEq,t_rr,outV,ownsV,owns1,ownL,Nat.reduceMul,Nat.reduceBEq,kps_s,plT,Nat.lt_add_one,true_or,or_true,isC,Nat.reduceMod,Nat.reduceDiv]
  · rcases e with e | e | e | e | e | e | e | e
    · subst e
      have e : toksR T (.l1 ⟨9, n, tx, s0, s1, s2, s3⟩ a) = round (hol a.x.op) 3 (toksR T a) ++ [⟨#[42]⟩] := by simp [toksR, preR, postR, aro, sufF]
      rw [e, putsT_app]
      have e1 : ∀ q : TS, putsT [⟨#[42]⟩] q = putT (⟨#[42]⟩) q := fun _ => rfl
      rw [e1]
      have g1 := h38 3
      have g2 := h55b (round (hol a.x.op) 3 (toksR T a)) (⟨#[42]⟩) (by decide)
      simp -implicitDefEqProofs (maxSteps := 2000000) only [c68,Int.reduceEq,decide_true,decide_false,hge,v_ld_e,List.contains_cons,List.contains_nil,Nat.reduceBEq,Bool.or_self,Bool.false_or,Bool.or_false,↓reduceIte,S0,Nat.reduceEqDiff,reduceCtorEq,St.clr,outV,ownsV,owns1,ownL,PV.leaves]
      generalize putsT (round (hol a.x.op) 3 (toksR T a)) (y, g) = q1 at *
      generalize hq2 : putT (⟨#[42]⟩) q1 = q2 at *
      refine ⟨⟨by decide, by decide⟩, by decide, ?_⟩
      refine wcallg_h 1 rfl rfl rfl ?_
      simp -implicitDefEqProofs (maxSteps := 2000000) only [c68,↓reduceIte,S0,Nat.reduceEqDiff,Nat.reduceAdd,reduceCtorEq,Bool.not_true,PV.leaves,Nat.reduceMul,isC,cplc,Nat.reduceMod,Nat.reduceDiv,tg_i,nC_i]
      refine pcall_i g1 rfl rfl ?_
      simp -implicitDefEqProofs (maxSteps := 2000000) only [c68,↓reduceIte,S0,Nat.reduceEqDiff,Nat.reduceAdd,reduceCtorEq,outV,ownsV,owns1,ownL,PV.leaves,Nat.reduceMul,Nat.reduceBEq,kps_s,kps_lo,plT,kps_eo,kl_eo,isC,Nat.reduceMod,Nat.reduceDiv]
      refine wcallg_g 1 rfl (by decide) rfl ?_
      simp -implicitDefEqProofs (maxSteps := 2000000) only [c68,↓reduceIte,S0,Nat.reduceEqDiff,Nat.reduceAdd,Bool.not_true,PV.leaves,Nat.reduceMul,Nat.reduceBEq,isC,cplc,Nat.reduceMod,Nat.reduceDiv,tg_s,nC_s,gv_0]
      refine pcall_i g2 rfl rfl ?_
      simp -implicitDefEqProofs (maxSteps := 2000000) only [c68,↓reduceIte,S0,Nat.reduceAdd,reduceCtorEq,t_rr,outV,ownsV,owns1,ownL,Nat.reduceMul,Nat.reduceBEq,kps_s,plT,Nat.lt_add_one,true_or,or_true,kl_u,isC,Nat.reduceMod,Nat.reduceDiv]
    · subst e
      have e : toksR T (.l1 ⟨10, n, tx, s0, s1, s2, s3⟩ a) = round (hol a.x.op) 3 (toksR T a) ++ [⟨#[43]⟩] := by simp [toksR, preR, postR, aro, sufF]
      rw [e, putsT_app]
      have e1 : ∀ q : TS, putsT [⟨#[43]⟩] q = putT (⟨#[43]⟩) q := fun _ => rfl
      rw [e1]
      have g1 := h38 3
      have g2 := h55b (round (hol a.x.op) 3 (toksR T a)) (⟨#[43]⟩) (by decide)
      simp -implicitDefEqProofs (maxSteps := 2000000) only [c68,Int.reduceEq,decide_true,decide_false,hge,v_ld_e,List.contains_cons,List.contains_nil,Nat.reduceBEq,Bool.or_self,Bool.false_or,Bool.or_false,↓reduceIte,S0,Nat.reduceEqDiff,reduceCtorEq,St.clr,outV,ownsV,owns1,ownL,PV.leaves]
      generalize putsT (round (hol a.x.op) 3 (toksR T a)) (y, g) = q1 at *
      generalize hq2 : putT (⟨#[43]⟩) q1 = q2 at *
      refine ⟨⟨by decide, by decide⟩, by decide, ?_⟩
      refine wcallg_h 1 rfl rfl rfl ?_
      simp -implicitDefEqProofs (maxSteps := 2000000) only [c68,↓reduceIte,S0,Nat.reduceEqDiff,Nat.reduceAdd,reduceCtorEq,Bool.not_true,PV.leaves,Nat.reduceMul,isC,cplc,Nat.reduceMod,Nat.reduceDiv,tg_i,nC_i]
      refine pcall_i g1 rfl rfl ?_
      simp -implicitDefEqProofs (maxSteps := 2000000) only [c68,↓reduceIte,S0,Nat.reduceEqDiff,Nat.reduceAdd,reduceCtorEq,outV,ownsV,owns1,ownL,PV.leaves,Nat.reduceMul,Nat.reduceBEq,kps_s,kps_lo,plT,kps_eo,kl_eo,isC,Nat.reduceMod,Nat.reduceDiv]
      refine wcallg_g 1 rfl (by decide) rfl ?_
      simp -implicitDefEqProofs (maxSteps := 2000000) only [c68,↓reduceIte,S0,Nat.reduceEqDiff,Nat.reduceAdd,Bool.not_true,PV.leaves,Nat.reduceMul,Nat.reduceBEq,isC,cplc,Nat.reduceMod,Nat.reduceDiv,tg_s,nC_s,gv_0]
      refine pcall_i g2 rfl rfl ?_
      simp -implicitDefEqProofs (maxSteps := 2000000) only [c68,↓reduceIte,S0,Nat.reduceAdd,reduceCtorEq,t_rr,outV,ownsV,owns1,ownL,Nat.reduceMul,Nat.reduceBEq,kps_s,plT,Nat.lt_add_one,true_or,or_true,kl_u,isC,Nat.reduceMod,Nat.reduceDiv]
    · subst e
      have e : toksR T (.l1 ⟨11, n, tx, s0, s1, s2, s3⟩ a) = round (hol a.x.op) 3 (toksR T a) ++ [⟨#[63]⟩] := by simp [toksR, preR, postR, aro, sufF]
      rw [e, putsT_app]
      have e1 : ∀ q : TS, putsT [⟨#[63]⟩] q = putT (⟨#[63]⟩) q := fun _ => rfl
      rw [e1]
      have g1 := h38 3
      have g2 := h55b (round (hol a.x.op) 3 (toksR T a)) (⟨#[63]⟩) (by decide)
      simp -implicitDefEqProofs (maxSteps := 2000000) only [c68,Int.reduceEq,decide_true,decide_false,hge,v_ld_e,List.contains_cons,List.contains_nil,Nat.reduceBEq,Bool.or_self,Bool.false_or,Bool.or_false,↓reduceIte,S0,Nat.reduceEqDiff,reduceCtorEq,St.clr,outV,ownsV,owns1,ownL,PV.leaves]
      generalize putsT (round (hol a.x.op) 3 (toksR T a)) (y, g) = q1 at *
      generalize hq2 : putT (⟨#[63]⟩) q1 = q2 at *
      refine ⟨⟨by decide, by decide⟩, by decide, ?_⟩
      refine wcallg_h 1 rfl rfl rfl ?_
      simp -implicitDefEqProofs (maxSteps := 2000000) only [c68,↓reduceIte,S0,Nat.reduceEqDiff,Nat.reduceAdd,reduceCtorEq,Bool.not_true,PV.leaves,Nat.reduceMul,isC,cplc,Nat.reduceMod,Nat.reduceDiv,tg_i,nC_i]
      refine pcall_i g1 rfl rfl ?_
      simp -implicitDefEqProofs (maxSteps := 2000000) only [c68,↓reduceIte,S0,Nat.reduceEqDiff,Nat.reduceAdd,reduceCtorEq,outV,ownsV,owns1,ownL,PV.leaves,Nat.reduceMul,Nat.reduceBEq,kps_s,kps_lo,plT,kps_eo,kl_eo,isC,Nat.reduceMod,Nat.reduceDiv]
      refine wcallg_g 1 rfl (by decide) rfl ?_
      simp -implicitDefEqProofs (maxSteps := 2000000) only [c68,↓reduceIte,S0,Nat.reduceEqDiff,Nat.reduceAdd,Bool.not_true,PV.leaves,Nat.reduceMul,Nat.reduceBEq,isC,cplc,Nat.reduceMod,Nat.reduceDiv,tg_s,nC_s,gv_0]
      refine pcall_i g2 rfl rfl ?_
      simp -implicitDefEqProofs (maxSteps := 2000000) only [c68,↓reduceIte,S0,Nat.reduceAdd,reduceCtorEq,t_rr,outV,ownsV,owns1,ownL,Nat.reduceMul,Nat.reduceBEq,kps_s,plT,Nat.lt_add_one,true_or,or_true,kl_u,isC,Nat.reduceMod,Nat.reduceDiv]
    · subst e
      have e : toksR T (.l1 ⟨14, n, tx, s0, s1, s2, s3⟩ a) = round (hol a.x.op) 3 (toksR T a) ++ [⟨#[94]⟩ ++ T.dec n] := by simp [toksR, preR, postR, aro, sufF]
      rw [e, putsT_app]
      have e1 : ∀ q : TS, putsT [⟨#[94]⟩ ++ T.dec n] q = putT (⟨#[94]⟩ ++ T.dec n) q := fun _ => rfl
      rw [e1]
      have g1 := h38 3
      have g2 := h55b (round (hol a.x.op) 3 (toksR T a)) (⟨#[94]⟩ ++ T.dec n) (by rw [ByteArray.size_append]; have e1 : ByteArray.size ⟨#[94]⟩ = 1 := rfl; have e2 : ByteArray.size ⟨#[94, 43]⟩ = 2 := rfl; have e3 : ByteArray.size ⟨#[94, 45]⟩ = 2 := rfl; have e4 : ByteArray.size ⟨#[32, 45, 62, 32]⟩ = 4 := rfl; omega)
      simp -implicitDefEqProofs (maxSteps := 2000000) only [c68,Int.reduceEq,decide_true,decide_false,hge,v_ld_e,List.contains_cons,List.contains_nil,Nat.reduceBEq,Bool.or_self,Bool.false_or,Bool.or_false,↓reduceIte,S0,Nat.reduceEqDiff,reduceCtorEq,St.clr,outV,ownsV,owns1,ownL,PV.leaves]
      generalize putsT (round (hol a.x.op) 3 (toksR T a)) (y, g) = q1 at *
      generalize hq2 : putT (⟨#[94]⟩ ++ T.dec n) q1 = q2 at *
      refine ⟨⟨by decide, by decide⟩, by decide, ?_⟩
      refine wcallg_h 1 rfl rfl rfl ?_
      simp -implicitDefEqProofs (maxSteps := 2000000) only [c68,↓reduceIte,S0,Nat.reduceEqDiff,Nat.reduceAdd,reduceCtorEq,Bool.not_true,PV.leaves,Nat.reduceMul,isC,cplc,Nat.reduceMod,Nat.reduceDiv,tg_i,nC_i]
      refine pcall_i g1 rfl rfl ?_
      simp -implicitDefEqProofs (maxSteps := 2000000) only [c68,↓reduceIte,S0,v_sadd,Nat.reduceEqDiff,Nat.reduceAdd,reduceCtorEq,outV,ownsV,owns1,ownL,PV.leaves,Nat.reduceMul,Nat.reduceBEq,kps_s,kps_lo,plT,kps_eo,kl_eo,isC,Nat.reduceMod,Nat.reduceDiv]
      refine ⟨by omega, ?_⟩
      refine wcallg_g 1 rfl (by decide) rfl ?_
      simp -implicitDefEqProofs (maxSteps := 2000000) only [c68,↓reduceIte,S0,Nat.reduceEqDiff,Nat.reduceAdd,Bool.not_true,PV.leaves,Nat.reduceMul,Nat.reduceBEq,isC,cplc,Nat.reduceMod,Nat.reduceDiv,tg_s,nC_s,gv_0]
      refine pcall_i g2 rfl rfl ?_
      simp -implicitDefEqProofs (maxSteps := 2000000) only [c68,↓reduceIte,S0,Nat.reduceAdd,reduceCtorEq,t_rr,outV,ownsV,owns1,ownL,Nat.reduceMul,Nat.reduceBEq,kps_s,plT,Nat.lt_add_one,true_or,or_true,kl_u,isC,Nat.reduceMod,Nat.reduceDiv]
    · subst e
      have e : toksR T (.l1 ⟨15, n, tx, s0, s1, s2, s3⟩ a) = round (hol a.x.op) 3 (toksR T a) ++ [⟨#[94, 43]⟩ ++ T.dec n] := by simp [toksR, preR, postR, aro, sufF]
      rw [e, putsT_app]
      have e1 : ∀ q : TS, putsT [⟨#[94, 43]⟩ ++ T.dec n] q = putT (⟨#[94, 43]⟩ ++ T.dec n) q := fun _ => rfl
      rw [e1]
      have g1 := h38 3
      have g2 := h55b (round (hol a.x.op) 3 (toksR T a)) (⟨#[94, 43]⟩ ++ T.dec n) (by rw [ByteArray.size_append]; have e1 : ByteArray.size ⟨#[94]⟩ = 1 := rfl; have e2 : ByteArray.size ⟨#[94, 43]⟩ = 2 := rfl; have e3 : ByteArray.size ⟨#[94, 45]⟩ = 2 := rfl; have e4 : ByteArray.size ⟨#[32, 45, 62, 32]⟩ = 4 := rfl; omega)
      simp -implicitDefEqProofs (maxSteps := 2000000) only [c68,Int.reduceEq,decide_true,decide_false,hge,v_ld_e,List.contains_cons,List.contains_nil,Nat.reduceBEq,Bool.or_self,Bool.false_or,Bool.or_false,↓reduceIte,S0,Nat.reduceEqDiff,reduceCtorEq,St.clr,outV,ownsV,owns1,ownL,PV.leaves]
      generalize putsT (round (hol a.x.op) 3 (toksR T a)) (y, g) = q1 at *
      generalize hq2 : putT (⟨#[94, 43]⟩ ++ T.dec n) q1 = q2 at *
      refine ⟨⟨by decide, by decide⟩, by decide, ?_⟩
      refine wcallg_h 1 rfl rfl rfl ?_
      simp -implicitDefEqProofs (maxSteps := 2000000) only [c68,↓reduceIte,S0,Nat.reduceEqDiff,Nat.reduceAdd,reduceCtorEq,Bool.not_true,PV.leaves,Nat.reduceMul,isC,cplc,Nat.reduceMod,Nat.reduceDiv,tg_i,nC_i]
      refine pcall_i g1 rfl rfl ?_
      simp -implicitDefEqProofs (maxSteps := 2000000) only [c68,↓reduceIte,S0,v_sadd,Nat.reduceEqDiff,Nat.reduceAdd,reduceCtorEq,outV,ownsV,owns1,ownL,PV.leaves,Nat.reduceMul,Nat.reduceBEq,kps_s,kps_lo,plT,kps_eo,kl_eo,isC,Nat.reduceMod,Nat.reduceDiv]
      refine ⟨by omega, ?_⟩
      refine wcallg_g 1 rfl (by decide) rfl ?_
      simp -implicitDefEqProofs (maxSteps := 2000000) only [c68,↓reduceIte,S0,Nat.reduceEqDiff,Nat.reduceAdd,Bool.not_true,PV.leaves,Nat.reduceMul,Nat.reduceBEq,isC,cplc,Nat.reduceMod,Nat.reduceDiv,tg_s,nC_s,gv_0]
      refine pcall_i g2 rfl rfl ?_
      simp -implicitDefEqProofs (maxSteps := 2000000) only [c68,↓reduceIte,S0,Nat.reduceAdd,reduceCtorEq,t_rr,outV,ownsV,owns1,ownL,Nat.reduceMul,Nat.reduceBEq,kps_s,plT,Nat.lt_add_one,true_or,or_true,kl_u,isC,Nat.reduceMod,Nat.reduceDiv]
    · subst e
      have e : toksR T (.l1 ⟨16, n, tx, s0, s1, s2, s3⟩ a) = round (hol a.x.op) 3 (toksR T a) ++ [⟨#[94, 45]⟩ ++ T.dec n] := by simp [toksR, preR, postR, aro, sufF]
      rw [e, putsT_app]
      have e1 : ∀ q : TS, putsT [⟨#[94, 45]⟩ ++ T.dec n] q = putT (⟨#[94, 45]⟩ ++ T.dec n) q := fun _ => rfl
      rw [e1]
      have g1 := h38 3
      have g2 := h55b (round (hol a.x.op) 3 (toksR T a)) (⟨#[94, 45]⟩ ++ T.dec n) (by rw [ByteArray.size_append]; have e1 : ByteArray.size ⟨#[94]⟩ = 1 := rfl; have e2 : ByteArray.size ⟨#[94, 43]⟩ = 2 := rfl; have e3 : ByteArray.size ⟨#[94, 45]⟩ = 2 := rfl; have e4 : ByteArray.size ⟨#[32, 45, 62, 32]⟩ = 4 := rfl; omega)
      simp -implicitDefEqProofs (maxSteps := 2000000) only [c68,Int.reduceEq,decide_true,decide_false,hge,v_ld_e,List.contains_cons,List.contains_nil,Nat.reduceBEq,Bool.or_self,Bool.false_or,Bool.or_false,↓reduceIte,S0,Nat.reduceEqDiff,reduceCtorEq,St.clr,outV,ownsV,owns1,ownL,PV.leaves]
      generalize putsT (round (hol a.x.op) 3 (toksR T a)) (y, g) = q1 at *
      generalize hq2 : putT (⟨#[94, 45]⟩ ++ T.dec n) q1 = q2 at *
      refine ⟨⟨by decide, by decide⟩, by decide, ?_⟩
      refine wcallg_h 1 rfl rfl rfl ?_
      simp -implicitDefEqProofs (maxSteps := 2000000) only [c68,↓reduceIte,S0,Nat.reduceEqDiff,Nat.reduceAdd,reduceCtorEq,Bool.not_true,PV.leaves,Nat.reduceMul,isC,cplc,Nat.reduceMod,Nat.reduceDiv,tg_i,nC_i]
      refine pcall_i g1 rfl rfl ?_
      simp -implicitDefEqProofs (maxSteps := 2000000) only [c68,↓reduceIte,S0,v_sadd,Nat.reduceEqDiff,Nat.reduceAdd,reduceCtorEq,outV,ownsV,owns1,ownL,PV.leaves,Nat.reduceMul,Nat.reduceBEq,kps_s,kps_lo,plT,kps_eo,kl_eo,isC,Nat.reduceMod,Nat.reduceDiv]
      refine ⟨by omega, ?_⟩
      refine wcallg_g 1 rfl (by decide) rfl ?_
      simp -implicitDefEqProofs (maxSteps := 2000000) only [c68,↓reduceIte,S0,Nat.reduceEqDiff,Nat.reduceAdd,Bool.not_true,PV.leaves,Nat.reduceMul,Nat.reduceBEq,isC,cplc,Nat.reduceMod,Nat.reduceDiv,tg_s,nC_s,gv_0]
      refine pcall_i g2 rfl rfl ?_
      simp -implicitDefEqProofs (maxSteps := 2000000) only [c68,↓reduceIte,S0,Nat.reduceAdd,reduceCtorEq,t_rr,outV,ownsV,owns1,ownL,Nat.reduceMul,Nat.reduceBEq,kps_s,plT,Nat.lt_add_one,true_or,or_true,kl_u,isC,Nat.reduceMod,Nat.reduceDiv]
    · subst e
      have e : toksR T (.l1 ⟨22, n, tx, s0, s1, s2, s3⟩ a) = round (hol a.x.op) 3 (toksR T a) ++ [⟨#[32, 45, 62, 32]⟩ ++ T.lit tx] := by simp [toksR, preR, postR, aro, sufF]
      rw [e, putsT_app]
      have e1 : ∀ q : TS, putsT [⟨#[32, 45, 62, 32]⟩ ++ T.lit tx] q = putT (⟨#[32, 45, 62, 32]⟩ ++ T.lit tx) q := fun _ => rfl
      rw [e1]
      have g1 := h38 3
      have g2 := h55b (round (hol a.x.op) 3 (toksR T a)) (⟨#[32, 45, 62, 32]⟩ ++ T.lit tx) (by rw [ByteArray.size_append]; have e1 : ByteArray.size ⟨#[94]⟩ = 1 := rfl; have e2 : ByteArray.size ⟨#[94, 43]⟩ = 2 := rfl; have e3 : ByteArray.size ⟨#[94, 45]⟩ = 2 := rfl; have e4 : ByteArray.size ⟨#[32, 45, 62, 32]⟩ = 4 := rfl; omega)
      simp -implicitDefEqProofs (maxSteps := 2000000) only [c68,Int.reduceEq,decide_true,decide_false,hge,v_ld_e,List.contains_cons,List.contains_nil,Nat.reduceBEq,Bool.or_self,Bool.false_or,Bool.or_false,↓reduceIte,S0,Nat.reduceEqDiff,reduceCtorEq,St.clr,outV,ownsV,owns1,ownL,PV.leaves,s_gdt,t_one,t_pot,t_alt]
      generalize putsT (round (hol a.x.op) 3 (toksR T a)) (y, g) = q1 at *
      generalize hq2 : putT (⟨#[32, 45, 62, 32]⟩ ++ T.lit tx) q1 = q2 at *
      repeat' (with_reducible refine And.intro ?_ ?_)
      all_goals first
        | decide
        | skip
      all_goals
        refine wcallg_h 1 rfl rfl rfl ?_
        simp -implicitDefEqProofs (maxSteps := 2000000) only [c68,↓reduceIte,S0,Nat.reduceEqDiff,Nat.reduceAdd,reduceCtorEq,Bool.not_true,PV.leaves,Nat.reduceMul,isC,cplc,Nat.reduceMod,Nat.reduceDiv,tg_i,nC_i]
        refine pcall_i g1 rfl rfl ?_
        simp -implicitDefEqProofs (maxSteps := 2000000) only [c68,↓reduceIte,S0,Nat.reduceEqDiff,Nat.reduceAdd,reduceCtorEq,outV,ownsV,owns1,ownL,PV.leaves,Nat.reduceMul,Nat.reduceBEq,kps_s,rl_s,kps_lo,plT,kps_eo,kl_eo,isC,Nat.reduceMod,Nat.reduceDiv,t_one,t_pot]
        refine wcall_s h75 rfl rfl ?_
        simp -implicitDefEqProofs (maxSteps := 2000000) only [c68,↓reduceIte,S0,v_sadd,Nat.reduceEqDiff,Nat.reduceAdd,St.clr,outV,ownsV,owns1,ownL,PV.leaves,t_one,t_pot]
        refine ⟨by omega, ?_⟩
        refine wcallg_g 1 rfl (by decide) rfl ?_
        simp -implicitDefEqProofs (maxSteps := 2000000) only [c68,↓reduceIte,S0,Nat.reduceEqDiff,Nat.reduceAdd,Bool.not_true,PV.leaves,Nat.reduceMul,Nat.reduceBEq,isC,cplc,Nat.reduceMod,Nat.reduceDiv,tg_s,nC_s,gv_0]
        refine pcall_i g2 rfl rfl ?_
        simp -implicitDefEqProofs (maxSteps := 2000000) only [c68,↓reduceIte,S0,Nat.reduceAdd,reduceCtorEq,t_rr,outV,ownsV,owns1,ownL,Nat.reduceMul,Nat.reduceBEq,kps_s,plT,Nat.lt_add_one,true_or,or_true,kl_u,isC,Nat.reduceMod,Nat.reduceDiv,t_nil,t_one,t_pot]
    · subst e
      have e : toksR T (.l1 ⟨23, n, tx, s0, s1, s2, s3⟩ a) = round (hol a.x.op) 3 (toksR T a) ++ [⟨#[32, 45, 62, 32]⟩ ++ T.dec n] := by simp [toksR, preR, postR, aro, sufF]
      rw [e, putsT_app]
      have e1 : ∀ q : TS, putsT [⟨#[32, 45, 62, 32]⟩ ++ T.dec n] q = putT (⟨#[32, 45, 62, 32]⟩ ++ T.dec n) q := fun _ => rfl
      rw [e1]
      have g1 := h38 3
      have g2 := h55b (round (hol a.x.op) 3 (toksR T a)) (⟨#[32, 45, 62, 32]⟩ ++ T.dec n) (by rw [ByteArray.size_append]; have e1 : ByteArray.size ⟨#[94]⟩ = 1 := rfl; have e2 : ByteArray.size ⟨#[94, 43]⟩ = 2 := rfl; have e3 : ByteArray.size ⟨#[94, 45]⟩ = 2 := rfl; have e4 : ByteArray.size ⟨#[32, 45, 62, 32]⟩ = 4 := rfl; omega)
      simp -implicitDefEqProofs (maxSteps := 2000000) only [c68,Int.reduceEq,decide_true,decide_false,hge,v_ld_e,List.contains_cons,List.contains_nil,Nat.reduceBEq,Bool.or_self,Bool.false_or,Bool.or_false,↓reduceIte,S0,Nat.reduceEqDiff,reduceCtorEq,St.clr,outV,ownsV,owns1,ownL,PV.leaves]
      generalize putsT (round (hol a.x.op) 3 (toksR T a)) (y, g) = q1 at *
      generalize hq2 : putT (⟨#[32, 45, 62, 32]⟩ ++ T.dec n) q1 = q2 at *
      refine ⟨⟨by decide, by decide⟩, by decide, ?_⟩
      refine wcallg_h 1 rfl rfl rfl ?_
      simp -implicitDefEqProofs (maxSteps := 2000000) only [c68,↓reduceIte,S0,Nat.reduceEqDiff,Nat.reduceAdd,reduceCtorEq,Bool.not_true,PV.leaves,Nat.reduceMul,isC,cplc,Nat.reduceMod,Nat.reduceDiv,tg_i,nC_i]
      refine pcall_i g1 rfl rfl ?_
      simp -implicitDefEqProofs (maxSteps := 2000000) only [c68,↓reduceIte,S0,v_sadd,Nat.reduceEqDiff,Nat.reduceAdd,reduceCtorEq,outV,ownsV,owns1,ownL,PV.leaves,Nat.reduceMul,Nat.reduceBEq,kps_s,kps_lo,plT,kps_eo,kl_eo,isC,Nat.reduceMod,Nat.reduceDiv]
      refine ⟨by omega, ?_⟩
      refine wcallg_g 1 rfl (by decide) rfl ?_
      simp -implicitDefEqProofs (maxSteps := 2000000) only [c68,↓reduceIte,S0,Nat.reduceEqDiff,Nat.reduceAdd,Bool.not_true,PV.leaves,Nat.reduceMul,Nat.reduceBEq,isC,cplc,Nat.reduceMod,Nat.reduceDiv,tg_s,nC_s,gv_0]
      refine pcall_i g2 rfl rfl ?_
      simp -implicitDefEqProofs (maxSteps := 2000000) only [c68,↓reduceIte,S0,Nat.reduceAdd,reduceCtorEq,t_rr,outV,ownsV,owns1,ownL,Nat.reduceMul,Nat.reduceBEq,kps_s,plT,Nat.lt_add_one,true_or,or_true,kl_u,isC,Nat.reduceMod,Nat.reduceDiv]
end Go.Proofs.YtdoefdmaecaacaaGreatDoor.S
set_option linter.unusedVariables false
set_option linter.unusedSimpArgs false
namespace Go.Proofs.YtdoefdmaecaacaaGreatDoor.S
open Go Go.Proofs.YtdoefdmaecaacaaGreatDoor.AM
variable {X : Cx}
theorem rk_eo {q p r e i j : Nat} {sz : Nat} {xs sp : List (List L)} : renK q p (.ep (.own r e) sz xs sp i j) = if (r == p) = true then .undef else if (r == q) = true then .ep (.own p e) sz xs sp i j else .ep (.own r e) sz xs sp i j := by
  simp only [renK, killP, tagK]; by_cases h1 : (r == p) = true <;> by_cases h2 : (r == q) = true <;> simp [h1, h2, renP, tagR]
set_option maxHeartbeats 2000000 in
theorem n56_2 (T : Txt X) {p : List Nd} {sh : List (Int × Int)} {i j : Nat} {x : Nd} {a b : Tr} (hn : NodeOK X p sh j (toksR T a)) (hm : NodeOK X p sh i (toksR T b)) (hj : p.getD j nd0 = a.x) (hi : p.getD i nd0 = b.x) (hji : j < i) (hb : (sh.getD i (0, 0)).1 = (j : Int) + 1) (hx : x.ok) (h0 : i + 1 < p.length) (h1 : p.getD (i + 1) nd0 = x) (ha : arF x.op = 2) (hp : p.length ≤ 2048) (hl : sh.length = p.length) (hI : ShI sh) : NodeOK X p sh (i + 1) (toksR T (.l2 x a b)) := by
  intro q sp sp2 hq
  have hml : (p.map Nd.c).length = p.length := List.length_map _
  have hg := getC h0 h1
  have h73 := r49 (X := X) p sp sp2 sh ((i + 1 : Nat) : Int) (by omega) (by omega) hp hl hI (by intro _; omega)
  have hk : kidsF p sh ((i + 1 : Nat) : Int) = [(j : Int), (i : Int)] := by
    unfold kidsF; rw [Int.toNat_natCast, h1, ha, if_neg (by decide), if_pos rfl]
    rw [show (((i + 1 : Nat) : Int) - 1).toNat = i by omega, hb]
    congr 1
    · omega
    · congr 1; omega
  rw [hk] at h73
  simp only [List.map_cons, List.map_nil] at h73
  have h38a := fun k => r43 p sh j _ hn (by omega) hp k q sp sp2 hq
  have ok1 : ∀ l, (putsT l q).1.length ≤ 70000 := fun l => putsT_ok l hq
  have h55 := fun l s hs => r47 (X := X) p sp sh sp2 s hs (putsT l q) (ok1 l)
  have h38b := fun l s k => r43 p sh i _ hm (by omega) hp k (putT s (putsT l q)) sp sp2 (putT_ok (ok1 l))
  rw [hj] at h38a
  rw [hi] at h38b
  clear h1 hk hb
  obtain ⟨op, n, tx, s0, s1, s2, s3⟩ := x
  have h74 := T.h74 n hx.n.1 hx.n.2
  simp only at ha
  obtain ⟨y, g⟩ := q
  have hcc : ([3328, 3330, 3332] : List Nat).contains 127 = false := rfl
  have hge : ([[L.int .i64 (j : Int)], [L.int .i64 (i : Int)]] : List (List L)).getD (Int.toNat 0) [] = [.int .i64 (j : Int)] := rfl
  have hge2 : ([[L.int .i64 (j : Int)], [L.int .i64 (i : Int)]] : List (List L)).getD (Int.toNat 1) [] = [.int .i64 (i : Int)] := rfl
  refine R_i [(0, 768)] [] c68_ok rfl (by simp) ?_
  simp -implicitDefEqProofs (maxSteps := 2000000) only [c68,hg,v_ld_e,hml,↓reduceIte,S0,s_wopsqK,s_qnil,s_qcons,q_fa,q_ld,q_nc,v_part_t,o_al,o_st,v_st_p,v_stCK,v_nc_p,St.init,enum,Nat.reduceEqDiff,Nat.reduceAdd,reduceCtorEq,PV.leaves,List.all_cons,List.all_nil,PV.cells,cellL,fillL,Nat.reduceMul,Nat.reduceBEq,Nat.reduceLeDiff,Nat.le_refl,List.take_zero,List.drop_zero,List.take_succ_cons,List.drop_succ_cons,List.drop_nil,List.take_nil,kp_b,kc_b,kc_i,kc_s,kp_p,kp_lro,kc_p,kc_l,kp_lo,rl_l,e_asg_n,st_b,plT,kc_er,s_reg]
  refine ⟨⟨by omega, by omega⟩, by omega, ?_⟩
  refine wcall_down h73 rfl ?_
  simp -implicitDefEqProofs (maxSteps := 2000000) only [c68,hcc,↓reduceIte,S0,Nat.reduceEqDiff,Nat.reduceAdd,reduceCtorEq,St.clr,outV,ownsV,owns1,ownL,PV.leaves,Nat.reduceMul,Nat.reduceBEq,kps_s,kps_lo,plT]
  refine wcall_s h74 rfl rfl ?_
  rcases ar2 ha with e | e
  · subst e
    have e : toksR T (.l2 ⟨7, n, tx, s0, s1, s2, s3⟩ a b) = round (hol a.x.op) 1 (toksR T a) ++ [⟨#[32]⟩] ++ round (hol b.x.op) 2 (toksR T b) := by simp [toksR, rowK]
    rw [e, putsT_app, putsT_app]
    have e1 : ∀ q : TS, putsT [⟨#[32]⟩] q = putT ⟨#[32]⟩ q := fun _ => rfl
    rw [e1]
    have g1 := h38a 1
    have g2 := h55 (round (hol a.x.op) 1 (toksR T a)) ⟨#[32]⟩ (by decide)
    have g3 := h38b (round (hol a.x.op) 1 (toksR T a)) ⟨#[32]⟩ 2
    simp -implicitDefEqProofs (maxSteps := 2000000) only [c68,Int.reduceEq,decide_true,decide_false,hge,hge2,v_ld_e,List.contains_cons,List.contains_nil,Nat.reduceBEq,Bool.or_self,Bool.false_or,Bool.or_false,↓reduceIte,S0,Nat.reduceEqDiff,Nat.reduceAdd,reduceCtorEq,St.clr,outV,ownsV,owns1,ownL,PV.leaves,s_gdt,t_one,t_pot,t_alt]
    generalize putsT (round (hol a.x.op) 1 (toksR T a)) (y, g) = q1 at *
    generalize putT ⟨#[32]⟩ q1 = q2 at *
    generalize putsT (round (hol b.x.op) 2 (toksR T b)) q2 = q3 at *
    repeat' (with_reducible refine And.intro ?_ ?_)
    all_goals first
      | decide
      | skip
    all_goals
      refine wcallg_h 1 rfl rfl rfl ?_
      simp -implicitDefEqProofs (maxSteps := 2000000) only [c68,↓reduceIte,S0,Nat.reduceEqDiff,Nat.reduceAdd,reduceCtorEq,Bool.not_true,PV.leaves,Nat.reduceMul,isC,cplc,Nat.reduceMod,Nat.reduceDiv,tg_i,nC_i]
      refine pcall_i g1 rfl rfl ?_
      simp -implicitDefEqProofs (maxSteps := 2000000) only [c68,hge,hge2,v_ld_e,List.contains_cons,List.contains_nil,Nat.reduceBEq,Bool.or_self,Bool.false_or,Bool.or_false,↓reduceIte,S0,Nat.reduceEqDiff,Nat.reduceAdd,reduceCtorEq,outV,ownsV,owns1,ownL,Bool.or_self,PV.leaves,Nat.reduceMul,Nat.reduceBEq,kps_s,kps_lo,plT,kps_eo,kl_eo,isC,Nat.reduceMod,Nat.reduceDiv,t_one,t_pot,t_alt]
      repeat' (with_reducible refine And.intro ?_ ?_)
      all_goals first
        | decide
        | skip
      all_goals
        refine wcallg_g 1 rfl (by decide) rfl ?_
        simp -implicitDefEqProofs (maxSteps := 2000000) only [c68,rk_eo,Nat.reduceBEq,↓reduceIte,S0,Nat.reduceEqDiff,Nat.reduceAdd,Bool.not_true,PV.leaves,Nat.reduceMul,Nat.reduceBEq,isC,cplc,Nat.reduceMod,Nat.reduceDiv,tg_s,nC_s,gv_0]
        refine pcall_i g2 rfl rfl ?_
        simp -implicitDefEqProofs (maxSteps := 2000000) only [c68,hge,hge2,v_ld_e,List.contains_cons,List.contains_nil,Nat.reduceBEq,Bool.or_self,Bool.false_or,Bool.or_false,↓reduceIte,S0,Nat.reduceEqDiff,Nat.reduceAdd,reduceCtorEq,outV,ownsV,owns1,ownL,Bool.or_self,PV.leaves,Nat.reduceMul,Nat.reduceBEq,kps_s,kps_lo,plT,kps_eo,kl_u,kl_eo,isC,Nat.reduceMod,Nat.reduceDiv,t_one,t_pot]
        repeat' (with_reducible refine And.intro ?_ ?_)
        all_goals first
          | decide
          | skip
        all_goals
          refine wcallg_g 1 rfl (by decide) rfl ?_
          simp -implicitDefEqProofs (maxSteps := 2000000) only [c68,↓reduceIte,S0,Nat.reduceEqDiff,Nat.reduceAdd,Bool.not_true,PV.leaves,Nat.reduceMul,Nat.reduceBEq,isC,cplc,Nat.reduceMod,Nat.reduceDiv,tg_i,nC_i,gv_0]
          refine pcall_i g3 rfl rfl ?_
          simp -implicitDefEqProofs (maxSteps := 2000000) only [c68,↓reduceIte,S0,Nat.reduceAdd,reduceCtorEq,t_rr,outV,ownsV,owns1,ownL,Nat.reduceMul,Nat.reduceBEq,kps_s,kps_lo,plT,Nat.lt_add_one,true_or,or_true,kl_u,isC,Nat.reduceMod,Nat.reduceDiv,t_nil,t_one,t_pot]
  · subst e
    have e : toksR T (.l2 ⟨8, n, tx, s0, s1, s2, s3⟩ a b) = round (hol a.x.op) 0 (toksR T a) ++ [⟨#[32, 47, 32]⟩] ++ round (hol b.x.op) 1 (toksR T b) := by simp [toksR, rowK]
    rw [e, putsT_app, putsT_app]
    have e1 : ∀ q : TS, putsT [⟨#[32, 47, 32]⟩] q = putT ⟨#[32, 47, 32]⟩ q := fun _ => rfl
    rw [e1]
    have g1 := h38a 0
    have g2 := h55 (round (hol a.x.op) 0 (toksR T a)) ⟨#[32, 47, 32]⟩ (by decide)
    have g3 := h38b (round (hol a.x.op) 0 (toksR T a)) ⟨#[32, 47, 32]⟩ 1
    simp -implicitDefEqProofs (maxSteps := 2000000) only [c68,Int.reduceEq,decide_true,decide_false,hge,hge2,v_ld_e,List.contains_cons,List.contains_nil,Nat.reduceBEq,Bool.or_self,Bool.false_or,Bool.or_false,↓reduceIte,S0,Nat.reduceEqDiff,Nat.reduceAdd,reduceCtorEq,St.clr,outV,ownsV,owns1,ownL,PV.leaves,s_gdt,t_one,t_pot,t_alt]
    generalize putsT (round (hol a.x.op) 0 (toksR T a)) (y, g) = q1 at *
    generalize putT ⟨#[32, 47, 32]⟩ q1 = q2 at *
    generalize putsT (round (hol b.x.op) 1 (toksR T b)) q2 = q3 at *
    repeat' (with_reducible refine And.intro ?_ ?_)
    all_goals first
      | decide
      | skip
    all_goals
      refine wcallg_h 1 rfl rfl rfl ?_
      simp -implicitDefEqProofs (maxSteps := 2000000) only [c68,↓reduceIte,S0,Nat.reduceEqDiff,Nat.reduceAdd,reduceCtorEq,Bool.not_true,PV.leaves,Nat.reduceMul,isC,cplc,Nat.reduceMod,Nat.reduceDiv,tg_i,nC_i]
      refine pcall_i g1 rfl rfl ?_
      simp -implicitDefEqProofs (maxSteps := 2000000) only [c68,hge,hge2,v_ld_e,List.contains_cons,List.contains_nil,Nat.reduceBEq,Bool.or_self,Bool.false_or,Bool.or_false,↓reduceIte,S0,Nat.reduceEqDiff,Nat.reduceAdd,reduceCtorEq,outV,ownsV,owns1,ownL,Bool.or_self,PV.leaves,Nat.reduceMul,Nat.reduceBEq,kps_s,kps_lo,plT,kps_eo,kl_eo,isC,Nat.reduceMod,Nat.reduceDiv,t_one,t_pot,t_alt]
      repeat' (with_reducible refine And.intro ?_ ?_)
      all_goals first
        | decide
        | skip
      all_goals
        refine wcallg_g 1 rfl (by decide) rfl ?_
        simp -implicitDefEqProofs (maxSteps := 2000000) only [c68,rk_eo,Nat.reduceBEq,↓reduceIte,S0,Nat.reduceEqDiff,Nat.reduceAdd,Bool.not_true,PV.leaves,Nat.reduceMul,Nat.reduceBEq,isC,cplc,Nat.reduceMod,Nat.reduceDiv,tg_s,nC_s,gv_0]
        refine pcall_i g2 rfl rfl ?_
        simp -implicitDefEqProofs (maxSteps := 2000000) only [c68,hge,hge2,v_ld_e,List.contains_cons,List.contains_nil,Nat.reduceBEq,Bool.or_self,Bool.false_or,Bool.or_false,↓reduceIte,S0,Nat.reduceEqDiff,Nat.reduceAdd,reduceCtorEq,outV,ownsV,owns1,ownL,Bool.or_self,PV.leaves,Nat.reduceMul,Nat.reduceBEq,kps_s,kps_lo,plT,kps_eo,kl_u,kl_eo,isC,Nat.reduceMod,Nat.reduceDiv,t_one,t_pot]
        repeat' (with_reducible refine And.intro ?_ ?_)
        all_goals first
          | decide
          | skip
        all_goals
          refine wcallg_g 1 rfl (by decide) rfl ?_
          simp -implicitDefEqProofs (maxSteps := 2000000) only [c68,↓reduceIte,S0,Nat.reduceEqDiff,Nat.reduceAdd,Bool.not_true,PV.leaves,Nat.reduceMul,Nat.reduceBEq,isC,cplc,Nat.reduceMod,Nat.reduceDiv,tg_i,nC_i,gv_0]
          refine pcall_i g3 rfl rfl ?_
          simp -implicitDefEqProofs (maxSteps := 2000000) only [c68,↓reduceIte,S0,Nat.reduceAdd,reduceCtorEq,t_rr,outV,ownsV,owns1,ownL,Nat.reduceMul,Nat.reduceBEq,kps_s,kps_lo,plT,Nat.lt_add_one,true_or,or_true,kl_u,isC,Nat.reduceMod,Nat.reduceDiv,t_nil,t_one,t_pot]
end Go.Proofs.YtdoefdmaecaacaaGreatDoor.S
set_option linter.unusedVariables false
set_option linter.unusedSimpArgs false
namespace Go.Proofs.YtdoefdmaecaacaaGreatDoor.S
open Go Go.Proofs.YtdoefdmaecaacaaGreatDoor.AM
variable {X : Cx}
theorem getD_app {sh sh2 : List (Int × Int)} {i : Nat} (h : i < sh.length) : (sh ++ sh2).getD i (0, 0) = sh.getD i (0, 0) := by
  rw [List.getD_eq_getElem?_getD, List.getElem?_append_left h, ← List.getD_eq_getElem?_getD]
theorem AtT.mono {p : List Nd} {sh sh2 : List (Int × Int)} {i : Nat} {t : Tr} (h : AtT p sh i t) : i < sh.length → AtT p (sh ++ sh2) i t := by
  induction h with
  | l0 h0 h1 h2 ha => intro hi; exact .l0 h0 h1 (by rw [getD_app hi]; exact h2) ha
  | l1 h0 h1 h2 ha _ ih => intro hi; exact .l1 h0 h1 (by rw [getD_app hi]; exact h2) ha (ih (by omega))
  | l2 h0 h1 h2 ha _ hb _ ih ih' => intro hi; exact .l2 h0 h1 (by rw [getD_app hi]; exact h2) ha (ih (by omega)) hb (ih' (by omega))
def atS (p : List Nd) (sh : List (Int × Int)) : Nat → List Tr → Prop
  | _, [] => True
  | i, t :: r => AtT p sh (i - 1) t ∧ atS p sh (i - t.size) r
theorem atS_mono {p : List Nd} {sh sh2 : List (Int × Int)} {i : Nat} {st : List Tr} (hc : Chn p sh i st) : i ≤ sh.length → atS p sh i st → atS p (sh ++ sh2) i st := by
  induction hc with
  | nil => intro _ _; trivial
  | cons h0 h1 h2 h3 h ih =>
    intro hi ha
    exact ⟨ha.1.mono (by omega), ih (by omega) ha.2⟩
theorem Chn.inv {p : List Nd} {sh : List (Int × Int)} {i : Nat} {t : Tr} {r : List Tr} (h : Chn p sh i (t :: r)) : t.size ≤ i ∧ 0 < i := by
  cases h with
  | cons h0 h1 h2 h3 h => exact ⟨h0, h1⟩
theorem atS_step {p : List Nd} {x : Nd} {sh : List (Int × Int)} {s : Int × Int} {i : Nat} {st st' : List Tr} (hi : sh.length = i) (hip : i < p.length) (hx : p.getD i nd0 = x) (hc : Chn p sh i st) (ha : atS p sh i st) (hs : stepT x st = some st') (hc' : Chn p (sh ++ [s]) (i + 1) st') : atS p (sh ++ [s]) (i + 1) st' := by
  have ha' := atS_mono (sh2 := [s]) hc (by omega) ha
  unfold stepT at hs
  split at hs
  · rename_i a0
    cases hs
    cases hc' with
    | cons h0 h1 h2 h3 h =>
      refine ⟨.l0 (by simpa using hip) (by simpa using hx) ?_ a0, by simpa [Tr.size] using ha'⟩
      rw [h2]; simp only [Tr.size]; omega
  split at hs
  · rename_i a0
    split at hs
    · rename_i a r
      cases hs
      cases hc' with
      | cons h0 h1 h2 h3 h =>
        cases hc with
        | cons k0 k1 k2 k3 k =>
          obtain ⟨n, rfl⟩ : ∃ n, i = n + 1 := ⟨i - 1, by omega⟩
          refine ⟨.l1 (by simpa using hip) (by simpa using hx) ?_ a0 (by simpa using ha'.1), ?_⟩
          · simp only [Nat.add_sub_cancel] at h2 ⊢
            rw [h2]; simp only [Tr.size]; omega
          · rw [show n + 1 + 1 - (Tr.l1 x a).size = n + 1 - a.size by simp only [Tr.size]; omega]; exact ha'.2
    · cases hs
  split at hs
  · rename_i a0
    split at hs
    · rename_i b a r
      cases hs
      cases hc' with
      | cons h0 h1 h2 h3 h =>
        cases hc with
        | cons k0 k1 k2 k3 k =>
          · obtain ⟨m0, m1⟩ := k.inv
            obtain ⟨n, rfl⟩ : ∃ n, i = n + 1 := ⟨i - 1, by omega⟩
            refine ⟨.l2 (by simpa using hip) (by simpa using hx) ?_ a0 (by simpa using ha'.1) (by omega) ?_, ?_⟩
            · simp only [Nat.add_sub_cancel] at h2 ⊢
              rw [h2]; simp only [Tr.size]; omega
            · have := ha'.2.1
              rw [show n + 1 - b.size - 1 = n - b.size by omega] at this
              exact this
            · rw [show n + 1 + 1 - (Tr.l2 x a b).size = n + 1 - b.size - a.size by simp only [Tr.size]; omega]; exact ha'.2.2
    · cases hs
  · cases hs
theorem chkR_at {p : List Nd} (hw : ∀ x ∈ p, x.wf) : ∀ (q d : List Nd) (sh : List (Int × Int)) (st : List Tr), d ++ q = p → sh.length = d.length → Chn p sh d.length st → (∀ t ∈ st, t.ok) → atS p sh d.length st → ShI sh → (chkR p q d.length sh).2.1 = 0 →
    ∃ st', buildT q st = some st' ∧ atS p (chkR p q d.length sh).2.2 p.length st' ∧ ShI (chkR p q d.length sh).2.2
  | [], d, sh, st, hd, hl, hc, hok, ha, hI, _ => by
    simp only [List.append_nil] at hd
    subst hd
    exact ⟨st, rfl, ha, hI⟩
  | x :: q, d, sh, st, hd, hl, hc, hok, ha, hI, h => by
    have hx : p.getD d.length nd0 = x := by rw [← hd]; simp
    have hdl : d.length < p.length := by rw [← hd]; simp
    simp only [chkR] at h ⊢
    split at h
    · rename_i h0
      rw [if_pos h0]
      obtain ⟨st1, h1, h2, h3⟩ := step_ok (hw x (by rw [← hd]; simp)) hl hx hc hok h0
      have h4 := atS_step hl hdl hx hc ha h1 h2
      have hI2 : ShI (sh ++ [(shC p d.length x sh).2]) := by
        have := shC_ok (p := p) (x := x) hI (by rw [hl]; exact h0)
        rw [hl] at this; exact this
      have e : (((d ++ [x]).length : Nat) : Int) = (d.length : Int) + 1 := by simp
      rw [← e] at h ⊢
      obtain ⟨st', k1, k2, k3⟩ := chkR_at hw q (d ++ [x]) (sh ++ [(shC p d.length x sh).2]) st1 (by simp [← hd]) (by simp [hl]) (by simpa using h2) h3 (by simpa using h4) hI2 h
      exact ⟨st', by simp [buildT, h1, k1], k2, k3⟩
    · rename_i h0
      exact absurd h h0
abbrev shP (p : List Nd) : List (Int × Int) := (chkR p p 0 []).2.2
theorem at_tree {p : List Nd} (hw : ∀ x ∈ p, x.wf) (h : (chk p).2 = 0) : ∃ t : Tr, buildT p [] = some [t] ∧ t.ok ∧ t.size = p.length ∧ p.length ≤ 2048 ∧ 0 < p.length ∧ AtT p (shP p) (p.length - 1) t ∧ ShI (shP p) ∧ (shP p).length = p.length := by
  obtain ⟨t, h1, h2, h3, h4⟩ := chk_tree hw h
  have hpos := t.pos
  have h0 : (chkR p p 0 []).2.1 = 0 := by
    unfold chk at h; rw [if_neg (by omega)] at h
    unfold eachF at h
    split at h
    · assumption
    · rename_i k; exact absurd h k
  obtain ⟨st', k1, k2, k3⟩ := chkR_at hw p [] [] [] rfl rfl .nil (by simp) trivial (by intro j s hj; simp at hj) h0
  rw [h1] at k1
  cases k1
  have hl := chkR_len (p := p) p 0 [] h0
  refine ⟨t, h1, h2, h3, h4, by omega, k2.1, k3, by simpa using hl⟩
theorem node_ok (T : Txt X) {p : List Nd} {sh : List (Int × Int)} (hp : p.length ≤ 2048) (hl : sh.length = p.length) (hI : ShI sh) {i : Nat} {t : Tr} (h : AtT p sh i t) : t.ok → NodeOK X p sh i (toksR T t) := by
  induction h with
  | l0 h0 h1 h2 ha => intro hk; cases hk with | l0 hx _ => exact n56_0 T hx h0 h1 ha hp hl hI
  | l1 h0 h1 h2 ha h ih => intro hk; cases hk with | l1 hx _ hc => exact n56_1 T (ih hc) h.x hx h0 h1 ha hp hl hI
  | @l2 i x a b h0 h1 h2 ha h hb h' ih ih' =>
    intro hk
    cases hk with
    | l2 hx _ hc hd =>
      have hpos := b.pos
      refine n56_2 T (ih' hc) (ih hd) h'.x h.x (by omega) ?_ hx h0 h1 ha hp hl hI
      rw [h.b]; omega
end Go.Proofs.YtdoefdmaecaacaaGreatDoor.S
set_option linter.unusedVariables false
set_option linter.unusedSimpArgs false
namespace Go.Proofs.YtdoefdmaecaacaaGreatDoor.S
open Go Go.Proofs.YtdoefdmaecaacaaGreatDoor.AM
variable {X : Cx}
theorem hol_nn (op : Int) : ¬ hol op < 0 := by
  unfold hol; (repeat' split) <;> omega
theorem r26 (T : Txt X) {p : List Nd} (hw : ∀ x ∈ p, x.wf) (hc : (chk p).2 = 0) {t : Tr} (ht : buildT p [] = some [t]) (sp : List (List L)) (y : List UInt8) (hy : y.length ≤ 70000) :
    R X Tryz.prog 26 [.lf (.lst (.own 0 5) 1 (ub y) []), .lf (.lst .ro 7 (p.map Nd.c) sp)] [] (.tp [.lf (.lst (.own 0 5) 1 (ub (putsT (toksR T t) (y, false)).1) []), .lf (.bool (!(putsT (toksR T t) (y, false)).2))]) [] := by
  obtain ⟨t', h1, hok, hsz, hp, hpos, hat, hI, hl⟩ := at_tree hw hc
  rw [ht] at h1
  simp only [Option.some.injEq, List.cons.injEq, and_true] at h1
  subst h1
  have hml : (p.map Nd.c).length = p.length := List.length_map _
  have h37 := r28 (X := X) p sp hc
  have hn := node_ok T hp hl hI hat hok
  have h38 := fun sp2 => r43 p (shP p) (p.length - 1) _ hn (by omega) hp 0 (y, false) sp sp2 hy
  have e : ∀ h ts, ¬ h < 0 → round h 0 ts = ts := fun h ts k => by unfold round; rw [if_neg k]
  rw [e _ _ (hol_nn _)] at h38
  have w1 : IntKind.i64.wrap ((p.length : Int) - 1) = ((p.length - 1 : Nat) : Int) := by rw [w64 (by omega) (by omega)]; omega
  refine R_i [(0, 512)] [] c26_ok rfl (by simp) ?_
  generalize putsT (toksR T t) (y, false) = q at *
  simp -implicitDefEqProofs (maxSteps := 2000000) only [c26,↓reduceIte,S0,St.init,enum,Nat.reduceEqDiff,reduceCtorEq,PV.leaves,Nat.reduceMul,Nat.reduceBEq,kp_lro,kp_lo,rl_l,e_asg_n,plT]
  refine wcall_down h37 rfl ?_
  simp -implicitDefEqProofs (maxSteps := 2000000) only [c26,hml,w1,List.contains_cons,List.contains_nil,Nat.reduceBEq,Bool.or_self,Bool.false_or,Bool.or_false,↓reduceIte,S0,v_sub,o_bx,o_bd,v_agK,v_bd_n,v_bd_c,o_len,v_len,Nat.reduceEqDiff,Nat.reduceAdd,reduceCtorEq,St.clr,outV,ownsV,owns1,ownL,Bool.or_self,PV.leaves,List.all_cons,List.all_nil,PV.cells,cellL,fillL,Nat.reduceMul,Nat.reduceBEq,Nat.reduceLeDiff,Nat.zero_le,List.take_zero,List.drop_zero,List.take_succ_cons,List.drop_succ_cons,kc_b,kc_l,kps_lo,e_asg_p,plT,ne_eq,not_false_eq_true,v_bx_a]
  intro _
  have hgv : gvP 11 = 1535 := rfl
  refine wcallg_g 1 rfl (by decide) rfl ?_
  simp -implicitDefEqProofs (maxSteps := 2000000) only [c26,hgv,List.contains_cons,List.contains_nil,Nat.reduceBEq,Bool.or_self,Bool.false_or,Bool.or_false,↓reduceIte,S0,Nat.reduceEqDiff,Nat.reduceAdd,Bool.not_true,Bool.not_false,PV.leaves,Nat.reduceMul,Nat.reduceBEq,ro_b,ro_i,ro_p,ro_lro,ro_lo,dw_lo,isC,cplc,Nat.reduceMod,Nat.reduceDiv,tg_i,nC_i]
  refine pcall_i (h38 _) rfl rfl ?_
  simp -implicitDefEqProofs (maxSteps := 2000000) only [c26,List.contains_cons,List.contains_nil,Nat.reduceBEq,Bool.or_self,Bool.false_or,Bool.or_false,↓reduceIte,S0,o_un,v_not,v_nc_p,Nat.reduceEqDiff,Nat.reduceAdd,reduceCtorEq,outV,ownsV,owns1,ownL,Nat.reduceMul,Nat.reduceBEq,plT,true_or,or_true,isC,Nat.reduceMod,Nat.reduceDiv,s_gdt,t_nil,t_one,t_pot,t_alt]
  trace_state
end Go.Proofs.YtdoefdmaecaacaaGreatDoor.S
set_option linter.unusedVariables false
set_option linter.unusedSimpArgs false
namespace Go.Proofs.YtdoefdmaecaacaaGreatDoor.S
open Go Go.Proofs.YtdoefdmaecaacaaGreatDoor.AM
variable {X : Cx}
def W.pr (w : W) : TS := (w.y, w.g)
theorem pr_put (s : ByteArray) (w : W) : (putW s w).pr = putT s w.pr := by
  unfold putW putT W.pr
  simp only
  split <;> rfl
theorem pr_puts : ∀ (l : List ByteArray) (w : W), (putsW l w).pr = putsT l w.pr
  | [], _ => rfl
  | s :: r, w => by simp only [putsW, putsT]; rw [pr_puts r, pr_put]
theorem putT_e {q : TS} (h : q.1.length ≤ 65536) : putT ⟨#[]⟩ q = q := by
  obtain ⟨y, g⟩ := q
  have e : ByteArray.size ⟨#[]⟩ = 0 := rfl
  simp only at h
  unfold putT
  cases g
  · simp [e, h]
  · simp
theorem putT_l {s : ByteArray} {q : TS} (h : q.1.length ≤ 65536) : (putT s q).1.length ≤ 65536 := by
  unfold putT
  split
  · exact h
  · rename_i h1
    simp only [not_or, Nat.not_lt] at h1
    have e : s.data.size = s.size := rfl
    simp only [List.length_append, Array.length_toList]
    omega
theorem putsT_l : ∀ (l : List ByteArray) {q : TS}, q.1.length ≤ 65536 → (putsT l q).1.length ≤ 65536
  | [], _, h => h
  | s :: r, q, h => putsT_l r (putT_l h)
theorem putsT_round {a b : List ByteArray} (h : ∀ q : TS, q.1.length ≤ 65536 → putsT a q = putsT b q) (x k : Int) {q : TS} (hq : q.1.length ≤ 65536) : putsT (round x k a) q = putsT (round x k b) q := by
  unfold round
  split
  · rw [putsT_app, putsT_app, putsT_app, putsT_app, h _ (putsT_l _ hq)]
  · exact h q hq
theorem toks_R (T : Txt X) : ∀ (t : Tr), t.ok → ∀ q : TS, q.1.length ≤ 65536 → putsT (toks T t) q = putsT (toksR T t) q
  | .l0 x, _, q, _ => rfl
  | .l1 x a, hk, q, hq => by
    cases hk with
    | l1 hx ha hc =>
      have ih := toks_R T a hc
      have e1 : putsT [(aro T x).1] q = putsT (preR T x) q := by
        unfold preR
        split
        · rfl
        · rename_i h
          simp only [not_or] at h
          have : (aro T x).1 = ⟨#[]⟩ := by unfold aro; rw [if_neg h.1, if_neg h.2.1, if_neg h.2.2.1, if_neg h.2.2.2.1, if_neg h.2.2.2.2.1, if_neg h.2.2.2.2.2]
          rw [this]; exact putT_e hq
      have e2 : ∀ q : TS, q.1.length ≤ 65536 → putsT [(aro T x).2.2] q = putsT (postR T x) q := by
        intro q hq
        unfold postR
        split
        · rename_i h
          have : (aro T x).2.2 = ⟨#[]⟩ := by
            unfold aro
            rcases h with h | h <;> rw [h] <;> rfl
          rw [this]; exact putT_e hq
        · rfl
      simp only [toks, toksR]
      rw [putsT_app, putsT_app, putsT_app, putsT_app, e1, putsT_round ih _ _ (putsT_l _ hq), e2 _ (putsT_l _ (putsT_l _ hq))]
  | .l2 x a b, hk, q, hq => by
    cases hk with
    | l2 hx ha hc hd =>
      simp only [toks, toksR]
      rw [putsT_app, putsT_app, putsT_app, putsT_app, putsT_round (toks_R T a hc) _ _ hq, putsT_round (toks_R T b hd) _ _ (putsT_l _ (putsT_l _ hq))]
end Go.Proofs.YtdoefdmaecaacaaGreatDoor.S
