/- Contracts, part S3. -/
import Derived.Test.YtdoefdmaecaacaaGreatDoorS2
import Derived.Test.YtdoefdmaecaacaaGreatDoorS1
set_option linter.unusedVariables false
set_option linter.unusedSimpArgs false
namespace Go.Proofs.YtdoefdmaecaacaaGreatDoor.SL
open Go Go.Proofs.YtdoefdmaecaacaaGreatDoor.AM Go.Proofs.YtdoefdmaecaacaaGreatDoor.S
variable {X : Cx}
def stepN (acc : List (Nat × Nat)) (b : Nat) : List (Nat × Nat) :=
  match acc.getLast? with
  | some (lo, hi) => if hi + 1 = b then acc.dropLast ++ [(lo, b)] else acc ++ [(b, b)]
  | none => [(b, b)]
def spN (xs : List Nat) : List (Nat × Nat) := xs.foldl stepN []
theorem stepN_map (acc : List (Nat × Nat)) (b : Nat) : stepS (acc.map fun p => ((p.1 : Int), (p.2 : Int))) (b : Int) = (stepN acc b).map fun p => ((p.1 : Int), (p.2 : Int)) := by
  unfold stepS stepN
  rw [List.getLast?_map]
  cases h : acc.getLast? with
  | none => simp
  | some p =>
    obtain ⟨lo, hi⟩ := p
    simp only [Option.map_some]
    by_cases e : hi + 1 = b
    · rw [if_pos (show (hi : Int) = (b : Int) - 1 by omega), if_pos e]
      simp [List.map_dropLast]
    · rw [if_neg (show ¬ (hi : Int) = (b : Int) - 1 by omega), if_neg e]
      simp
theorem spN_map (xs : List Nat) : spansF (xs.map fun (t : Nat) => (t : Int)) = (spN xs).map fun p => ((p.1 : Int), (p.2 : Int)) := by
  have gen : ∀ (xs : List Nat) (acc : List (Nat × Nat)), (xs.map fun (t : Nat) => (t : Int)).foldl stepS (acc.map fun p => ((p.1 : Int), (p.2 : Int))) = (xs.foldl stepN acc).map fun p => ((p.1 : Int), (p.2 : Int)) := by
    intro xs
    induction xs with
    | nil => intro acc; rfl
    | cons x xs ih => intro acc; simp only [List.map_cons, List.foldl_cons]; rw [stepN_map, ih]
  exact gen xs []
theorem spN_snoc (xs : List Nat) (b : Nat) : spN (xs ++ [b]) = stepN (spN xs) b := by simp [spN]
theorem stepN_last (acc : List (Nat × Nat)) (b : Nat) : ((stepN acc b).getLast?).map (·.2) = some b := by
  unfold stepN
  split
  · split <;> simp
  · simp
theorem spN_last (xs : List Nat) : ((spN xs).getLast?).map (·.2) = xs.getLast? := by
  rcases List.eq_nil_or_concat xs with h | ⟨m, b, h⟩
  · subst h; rfl
  · rw [h, List.concat_eq_append, spN_snoc, stepN_last]; simp
def rowP (p : Nat × Nat) : List L := [.int .i64 (p.1 : Int), .int .i64 (p.2 : Int)]
def memsB (s0 s1 s2 s3 b : Nat) : List Nat := (List.range b).filter (hasN s0 s1 s2 s3)
theorem memsB_s (s0 s1 s2 s3 b : Nat) : memsB s0 s1 s2 s3 (b + 1) = if hasN s0 s1 s2 s3 b = true then memsB s0 s1 s2 s3 b ++ [b] else memsB s0 s1 s2 s3 b := by
  unfold memsB
  rw [List.range_succ, List.filter_append]
  split <;> rename_i h <;> simp [h]
theorem spN_bound (xs : List Nat) (n : Nat) (h : ∀ x ∈ xs, x < n) : ∀ p ∈ spN xs, p.1 < n ∧ p.2 < n := by
  have gen : ∀ (xs : List Nat) (acc : List (Nat × Nat)), (∀ x ∈ xs, x < n) → (∀ p ∈ acc, p.1 < n ∧ p.2 < n) → ∀ p ∈ xs.foldl stepN acc, p.1 < n ∧ p.2 < n := by
    intro xs
    induction xs with
    | nil => intro acc _ h; exact h
    | cons x xs ih =>
      intro acc hx ha
      refine ih _ (fun y hy => hx y (List.mem_cons_of_mem _ hy)) ?_
      have hxn := hx x (List.mem_cons_self ..)
      intro p hp
      unfold stepN at hp
      split at hp
      · rename_i lo hi hl
        have hm := List.mem_of_getLast? hl
        split at hp
        · rcases List.mem_append.1 hp with hp | hp
          · exact ha p (List.dropLast_subset _ hp)
          · simp at hp; subst hp; exact ⟨(ha _ hm).1, hxn⟩
        · rcases List.mem_append.1 hp with hp | hp
          · exact ha p hp
          · simp at hp; subst hp; exact ⟨hxn, hxn⟩
      · simp at hp; subst hp; exact ⟨hxn, hxn⟩
  exact gen xs [] h (fun _ h => by cases h)
theorem spC_get : ∀ (l : List (Int × Int)) (i : Nat) (p : Int × Int), l[i]? = some p → (spC l)[i * 2 + 0]? = some (.int .i64 p.1) ∧ (spC l)[i * 2 + 1]? = some (.int .i64 p.2)
  | [], i, p, h => by simp at h
  | q :: l, 0, p, h => by
    simp at h; subst h; simp [spC]
  | q :: l, i + 1, p, h => by
    have := spC_get l i p (by simpa using h)
    simp only [spC, List.flatMap_cons] at this ⊢
    rw [show (i + 1) * 2 + 0 = (i * 2 + 0) + 2 by omega, show (i + 1) * 2 + 1 = (i * 2 + 1) + 2 by omega]
    simpa using this
theorem r62 (hX : X.G 2 = some deBL) (a b c d : Nat) (ha : a < 18446744073709551616) (hb : b < 18446744073709551616) (hc : c < 18446744073709551616) (hd : d < 18446744073709551616) :
    R X Tryz.prog 62 [.ag [.int .u64 a, .int .u64 b, .int .u64 c, .int .u64 d]] [] (.lf (.lst (.own 0 118) 2 ((spN (mems a b c d)).map rowP) [])) [] := by
  intro E w vs hC hI _ hargs _
  obtain ⟨h3, hT⟩ := deB_tab hX hC
  cases hargs with
  | cons a1 a2 =>
    cases a2
    obtain ⟨us, rfl, hall⟩ := a1
    have hus : us = [.int .u64 a, .int .u64 b, .int .u64 c, .int .u64 d] := by
      cases hall with
      | cons q1 q2 => cases q2 with
        | cons q3 q4 => cases q4 with
          | cons q5 q6 => cases q6 with
            | cons q7 q8 => cases q8; cases q1; cases q3; cases q5; cases q7; rfl
    subst hus
    have hlen : (restL4 a b c d 0).length ≤ 256 := by rw [mems_eq ha hb hc hd, List.length_map]; exact mems_len a b c d
    refine (callsIn_wide.1 (spans_in Fence.wide 3 trivial trivial trivial trivial rfl (Nat.le_refl _) a b c d ha hb hc hd (fun m x w hx hT => callsIn_wide.2 (tz89 x hx w (fun _ => hT))) hlen w h3 hT)).mono ?_
    rintro e w' ⟨v, rfl, hrow, _, hB⟩
    rw [mems_eq ha hb hc hd, spN_map] at hrow
    have hU : Unch (fun _ => False) w w' := ⟨hB.os, hB.tape, hB.output, hB.size, fun k hk _ => hB.block k hk⟩
    generalize spN (mems a b c d) = sp at hrow ⊢
    rcases hrow.2 with ⟨rfl, h0⟩ | ⟨g, cap, cur, rfl, hg, hh, hcap, hmx, hsz, htk⟩
    · have : sp = [] := by simpa using h0
      subst this
      exact ⟨_, E, rfl, (ext_step hI hU).1, ⟨none, 0, rfl, .inl ⟨rfl, rfl, rfl, rfl⟩⟩, fun c cs h => by simp at h⟩
    · have hlt : g < w'.heap.size := (Array.getElem?_eq_some_iff.1 hh).1
      refine ⟨_, E.own 0 g, rfl, (own_step hI hU hg hlt).1, ⟨some ⟨g, 0, none⟩, cap, by simp, .inr ⟨g, cur, rfl, by simp [Env.own, upd], hh, by simpa using hcap, hmx, hsz, ?_⟩⟩, fun c cs h => by simp at h⟩
      intro i x hx
      rw [List.append_nil, List.getElem?_map] at hx
      obtain ⟨p, hp, rfl⟩ := Option.map_eq_some_iff.1 hx
      refine ⟨rfl, fun j cc hj => ?_⟩
      obtain ⟨g1, g2⟩ := spC_get _ i ((p.1 : Int), (p.2 : Int)) (by rw [List.getElem?_map, hp]; rfl)
      rw [← htk] at g1 g2
      have up : ∀ k u, (cur.toList.take ((sp.map fun p => ((p.1 : Int), (p.2 : Int))).length * 2))[k]? = some u → cur.toList[k]? = some u := fun k u h => by
        rw [List.getElem?_take] at h
        split at h
        · exact h
        · cases h
      match j, hj with
      | 0, hj => simp [rowP] at hj; subst hj; exact ⟨_, up _ _ g1, .int _ _⟩
      | 1, hj => simp [rowP] at hj; subst hj; exact ⟨_, up _ _ g2, .int _ _⟩
      | j + 2, hj => simp [rowP] at hj
end Go.Proofs.YtdoefdmaecaacaaGreatDoor.SL
set_option linter.unusedVariables false
set_option linter.unusedSimpArgs false
namespace Go.Proofs.YtdoefdmaecaacaaGreatDoor.SL
open Go Go.Proofs.YtdoefdmaecaacaaGreatDoor.AM Go.Proofs.YtdoefdmaecaacaaGreatDoor.S
variable {X : Cx}
theorem r59m (a b c d : Nat) : R X Tryz.prog 129 [.ag [.int .u64 a, .int .u64 b, .int .u64 c, .int .u64 d], .lf (.int .i64 (-1))] [] (.lf (.bool false)) [] := by
  have g0 : ¬ (0 : Int) ≤ -1 := by decide
  refine R_i [] [] c129_ok rfl (by simp) ?_
  simp -implicitDefEqProofs (maxSteps := 2000000) only [c129,g0,decide_false,↓reduceIte,S0,v_geq,o_bx,St.init,enum,Nat.reduceEqDiff,reduceCtorEq,Bool.not_true,Nat.zero_le,kc_i,Int.reduceNeg,v_bx_a]
  done
theorem last_hi {acc : List (Nat × Nat)} {xs : List Nat} (h : acc = spN xs) {b : Nat} (hb : xs.getLast? = some b) : ∃ M lo, acc = M ++ [(lo, b)] := by
  have h1 := spN_last xs
  rw [← h, hb] at h1
  rcases List.eq_nil_or_concat acc with e | ⟨M, ⟨lo, hi⟩, e⟩
  · rw [e] at h1; simp at h1
  · rw [List.concat_eq_append] at e
    rw [e] at h1
    simp at h1
    exact ⟨M, lo, by rw [e, h1]⟩
theorem modify_last {α : Type} (f : α → α) : ∀ (l : List α) (x : α), (l ++ [x]).modify l.length f = l ++ [f x]
  | [], x => rfl
  | y :: l, x => by
    have := modify_last f l x
    simp only [List.cons_append, List.length_cons, List.modify_succ_cons, this]
theorem row_set (M : List (Nat × Nat)) (lo hi b : Nat) : wrX M.length 1 [L.int .i64 (b : Int)] ((M ++ [(lo, hi)]).map rowP) = (M ++ [(lo, b)]).map rowP := by
  unfold wrX
  rw [List.map_append, List.map_append, show M.length = (M.map rowP).length by simp]
  exact modify_last _ _ _
theorem r104 (a b c d : Nat) (ha : a < 2 ^ 64) (hb : b < 2 ^ 64) (hc : c < 2 ^ 64) (hd : d < 2 ^ 64) :
    R X Tryz.prog 104 [.ag [.int .u64 a, .int .u64 b, .int .u64 c, .int .u64 d]] [] (.lf (.lst (.own 0 118) 2 ((spN (mems a b c d)).map rowP) [])) [] := by
  have h57 := fun k hk => r129 (X := X) a b c d ha hb hc hd k hk
  have key : ∀ (n k : Nat) (xs : List (List L)), k + n = 256 → xs = (spN (memsB a b c d k)).map rowP → LoopAt X Tryz.prog c104_9 [1, 3, 4] (blkK 0 (seqK X Tryz.prog c104_13 (retS [(0, 256)] [] 0 [RV.t 2] (.lf (.lst (.own 0 118) 2 ((spN (mems a b c d)).map rowP) [])) [])))
      { m := 0, tm := [(1, PV.lf (L.ptr 1 0)), (3, PV.lf (L.lst (Tag.own 384 118) 2 xs [])), (4, PV.lf (L.int IntKind.i64 (k : Int)))],
        ce := [(1, [.int .u64 a, .int .u64 b, .int .u64 c, .int .u64 d])] } := by
    intro n
    induction n with
    | zero =>
      intro k xs hk hxs
      obtain rfl : k = 256 := by omega
      intro Z hZ; apply hZ
      have hn : ¬ ((256 : Nat) : Int) ≤ 255 := by omega
      simp -implicitDefEqProofs (maxSteps := 2000000) only [c104,hn,decide_false,↓reduceIte,S0,s_exit,s_seqK_e,s_blkK_e,s_loopK_e,v_leq,Nat.reduceEqDiff,Nat.reduceMul,Nat.reduceBEq,plT,true_or,or_true]
      rw [hxs]
      rfl
    | succ n ih =>
      intro k xs hk hxs
      have hn : (k : Int) ≤ 255 := by omega
      have w1 : IntKind.i64.wrap ((k : Int) + 1) = ((k + 1 : Nat) : Int) := by rw [w64 (by omega) (by omega)]; omega
      have hbd : ∀ x ∈ memsB a b c d k, x < k := by
        intro x hx
        have := (List.mem_filter.1 hx).1
        simpa using this
      have hsl : (spN (memsB a b c d k)).length ≤ 256 := by
        have h1 : (spansF ((memsB a b c d k).map fun (t : Nat) => (t : Int))).length ≤ ((memsB a b c d k).map fun (t : Nat) => (t : Int)).length := spansF_len _
        rw [spN_map, List.length_map, List.length_map] at h1
        have h2 := List.length_filter_le (hasN a b c d) (List.range k)
        simp only [List.length_range] at h2
        have h3 : (memsB a b c d k).length = ((List.range k).filter (hasN a b c d)).length := rfl
        omega
      have hxl : xs.length ≤ 256 := by rw [hxs, List.length_map]; exact hsl
      intro Z hZ; apply hZ
      simp -implicitDefEqProofs (maxSteps := 2000000) only [c104,hn,decide_true,↓reduceIte,S0,v_leq,v_part_t,Nat.reduceEqDiff,Nat.reduceAdd,PV.leaves,Nat.le_refl,List.drop_zero,List.take_succ_cons,List.take_nil]
      refine wcall_s (h57 k (by omega)) rfl rfl ?_
      have hs := memsB_s a b c d k
      cases hh : hasN a b c d k with
      | false =>
        rw [hh] at hs
        simp -implicitDefEqProofs (maxSteps := 2000000) only [c104,w1,Bool.not_false,↓reduceIte,S0,s_exit,s_seqK_e,s_blkK_e,o_un,v_not,Nat.reduceEqDiff,Bool.not_false,St.clr,outV,ownsV,owns1,ownL,ol_b,kC_c,pO_p,List.range_zero]
        exact ih (k + 1) xs (by omega) (by rw [hxs, hs]; simp) Z hZ
      | true =>
        rw [hh] at hs
        rw [if_pos rfl] at hs
        simp -implicitDefEqProofs (maxSteps := 2000000) only [c104,w1,Bool.not_true,↓reduceIte,S0,v_sub,o_un,v_not,v_part_t,Nat.reduceEqDiff,Nat.reduceAdd,Bool.not_true,St.clr,outV,ownsV,owns1,ownL,PV.leaves,Nat.le_refl,List.drop_zero,List.take_succ_cons,List.take_nil,ol_b]
        by_cases hk0 : k = 0
        · subst hk0
          have w2 : IntKind.i64.wrap (((0 : Nat) : Int) - 1) = -1 := by decide
          rw [w2]
          refine wcall_s (r59m a b c d) rfl rfl ?_
          simp -implicitDefEqProofs (maxSteps := 2000000) only [c104,w1,↓reduceIte,S0,o_bd,v_agK,v_bd_n,v_bd_c,o_bs,v_bsK,v_lit_n,v_lit_c,o_app,v_app_o,Nat.reduceEqDiff,Nat.reduceAdd,reduceCtorEq,St.clr,outV,ownsV,owns1,ownL,Bool.or_false,List.all_cons,List.all_nil,PV.cells,cellL,datL,fillL,Nat.reduceMul,Nat.reduceBEq,Nat.reduceLeDiff,Nat.le_refl,List.take_zero,List.drop_zero,List.take_succ_cons,List.drop_succ_cons,List.drop_nil,kp_b,ol_b,kp_p,kp_lo,kC_c,pO_p,List.range_zero,plT,ne_eq,not_false_eq_true,Int.reduceNeg,lit_n,lit_c,List.reduceReplicate,List.set_cons_zero,Nat.lt_add_one,or_false,kp_lk,rk_lk,lp_b,lp_i,lp_p,lp_lo]
          refine ⟨by omega, ih 1 _ (by omega) ?_ Z hZ⟩
          rw [hxs, hs]
          simp [memsB, spN, stepN, rowP]
        · have w2 : IntKind.i64.wrap ((k : Int) - 1) = ((k - 1 : Nat) : Int) := by rw [w64 (by omega) (by omega)]; omega
          rw [w2]
          refine wcall_s (h57 (k - 1) (by omega)) rfl rfl ?_
          have hs1 := memsB_s a b c d (k - 1)
          rw [show k - 1 + 1 = k by omega] at hs1
          generalize hacc : spN (memsB a b c d k) = acc at *
          cases hp : hasN a b c d (k - 1) with
          | true =>
            rw [hp, if_pos rfl] at hs1
            obtain ⟨M, lo, hM⟩ := last_hi (acc := acc) hacc.symm (b := k - 1) (by rw [hs1]; simp)
            have hlm : xs.length = M.length + 1 := by rw [hxs, hM]; simp
            have w3 : IntKind.i64.wrap ((xs.length : Int) - 1) = (M.length : Int) := by rw [w64 (by omega) (by omega)]; omega
            simp -implicitDefEqProofs (maxSteps := 2000000) only [c104,w1,w3,↓reduceIte,S0,v_sub,v_fa_e,o_st,v_st_e,o_len,v_len,Nat.reduceEqDiff,Nat.reduceAdd,St.clr,outV,ownsV,owns1,ownL,List.all_cons,List.all_nil,PV.cells,cellL,datL,placeOf,Nat.le_refl,wr_b,wr_i,ol_b,wr_p,wr_lo,kC_c,pO_p,List.range_zero,ne_eq]
            intro _
            refine ⟨⟨by omega, by omega⟩, by simp, ?_⟩
            rw [Int.toNat_natCast]
            have e1 : wrX M.length 1 [L.int IntKind.i64 (k : Int)] xs = (M ++ [(lo, k)]).map rowP := by rw [hxs, hM]; exact row_set M lo (k - 1) k
            have e2 : wrS M.length 1 [L.int IntKind.i64 (k : Int)] xs.length [] = ([] : List (List L)) := by unfold wrS; rw [if_pos (by omega)]
            rw [e1, e2]
            refine ih (k + 1) _ (by omega) ?_ Z hZ
            rw [hs, spN_snoc, hacc, hM]
            have : stepN (M ++ [(lo, k - 1)]) k = M ++ [(lo, k)] := by simp [stepN, show k - 1 + 1 = k by omega]
            rw [this]
          | false =>
            rw [hp] at hs1
            have hnl : ∀ h, (memsB a b c d k).getLast? = some h → ¬ h + 1 = k := by
              intro h hl e
              have := (List.mem_filter.1 (List.mem_of_getLast? hl)).2
              rw [show h = k - 1 by omega, hp] at this
              cases this
            simp -implicitDefEqProofs (maxSteps := 2000000) only [c104,w1,↓reduceIte,S0,o_bd,v_agK,v_bd_n,v_bd_c,o_bs,v_bsK,v_lit_n,v_lit_c,o_app,v_app_o,Nat.reduceEqDiff,Nat.reduceAdd,reduceCtorEq,St.clr,outV,ownsV,owns1,ownL,Bool.or_false,List.all_cons,List.all_nil,PV.cells,cellL,datL,fillL,Nat.reduceMul,Nat.reduceBEq,Nat.reduceLeDiff,Nat.le_refl,List.take_zero,List.drop_zero,List.take_succ_cons,List.drop_succ_cons,List.drop_nil,kp_b,ol_b,kp_p,kp_lo,kC_c,pO_p,List.range_zero,plT,ne_eq,not_false_eq_true,lit_n,lit_c,List.reduceReplicate,List.set_cons_zero,Nat.lt_add_one,or_false,kp_lk,rk_lk,lp_b,lp_i,lp_p,lp_lo]
            refine ⟨by omega, ?_⟩
            refine ih (k + 1) _ (by omega) ?_ Z hZ
            rw [hs, spN_snoc, hacc, hxs]
            have : stepN acc k = acc ++ [(k, k)] := by
              unfold stepN
              split
              · rename_i lo hi hl
                have h1 := spN_last (memsB a b c d k)
                rw [hacc, hl] at h1
                rw [if_neg (hnl hi h1.symm)]
              · rename_i hl
                rw [List.getLast?_eq_none_iff.1 hl]; rfl
            rw [this]
            simp [rowP]
  refine R_i [(0, 256)] [] c104_ok rfl (by simp) ?_
  simp -implicitDefEqProofs (maxSteps := 2000000) only [c104,↓reduceIte,S0,s_loop,o_bx,St.init,enum,Nat.reduceEqDiff,Nat.reduceMul,Nat.zero_le,kc_i,kp_p,e_asg_n,kC_c,pO_p,List.range_zero,plT,v_bx_a]
  exact key 256 0 _ rfl rfl
def pieceL (p : Nat × Nat) : List UInt8 := itemL (UInt8.ofNat p.1) ++ (if p.1 + 1 < p.2 then [45] else []) ++ (if p.1 < p.2 then itemL (UInt8.ofNat p.2) else [])
def showL (a b c d : Nat) : List UInt8 := if fullN a b c d = true then [91, 94, 93] else 91 :: ((spN (mems a b c d)).flatMap pieceL ++ [93])
theorem pieceL_len (p : Nat × Nat) : (pieceL p).length ≤ 9 := by
  have h1 := (itemL_len (UInt8.ofNat p.1)).2
  have h2 := (itemL_len (UInt8.ofNat p.2)).2
  unfold pieceL
  split <;> split <;> simp only [List.length_append, List.length_cons, List.length_nil] <;> omega
theorem pieces_len : ∀ l : List (Nat × Nat), (l.flatMap pieceL).length ≤ 9 * l.length
  | [] => by simp
  | p :: l => by
    have := pieces_len l
    have := pieceL_len p
    simp only [List.flatMap_cons, List.length_append, List.length_cons]; omega
theorem sp_ok (a b c d : Nat) : (spN (mems a b c d)).length ≤ 256 ∧ ∀ p ∈ spN (mems a b c d), p.1 < 256 ∧ p.2 < 256 := by
  constructor
  · have h1 : (spansF ((mems a b c d).map fun (t : Nat) => (t : Int))).length ≤ ((mems a b c d).map fun (t : Nat) => (t : Int)).length := spansF_len _
    rw [spN_map, List.length_map, List.length_map] at h1
    have := mems_len a b c d
    omega
  · exact spN_bound _ 256 fun x hx => by
      have := (List.mem_filter.1 hx).1
      simpa using this
theorem of8 {n : Nat} (h : n < 256) : ((UInt8.ofNat n).toNat : Int) = (n : Int) := by rw [UInt8.toNat_ofNat']; omega
theorem flat_rows (l : List (Nat × Nat)) : Flat (.lf (.lst (.own 0 118) 2 (l.map rowP) [])) := by
  refine ⟨fun x hx c hc => ?_, rfl⟩
  obtain ⟨y, _, rfl⟩ := List.mem_map.1 hx
  simp [rowP] at hc
  rcases hc with rfl | rfl <;> rfl
theorem r36 (hX : X.G 2 = some deBL) (a b c d : Nat) (ha : a < 2 ^ 64) (hb : b < 2 ^ 64) (hc : c < 2 ^ 64) (hd : d < 2 ^ 64) :
    R X Tryz.prog 36 [.ag [.int .u64 a, .int .u64 b, .int .u64 c, .int .u64 d]] [] (.lf (.str ⟨(showL a b c d).toArray⟩)) [] := by
  refine R_i [] [] c36_ok rfl (by simp) ?_
  unfold showL
  obtain ⟨hsl, hsb⟩ := sp_ok a b c d
  simp -implicitDefEqProofs (maxSteps := 2000000) only [c36,↓reduceIte,S0,v_part_t,o_bx,St.init,enum,Nat.reduceEqDiff,Nat.reduceAdd,PV.leaves,Nat.zero_le,Nat.le_refl,List.drop_zero,List.take_succ_cons,List.take_nil,kc_i,v_bx_a]
  refine wcall_s (r61 a b c d ha hb hc hd) rfl rfl ?_
  cases hf : fullN a b c d with
  | true => simp -implicitDefEqProofs (maxSteps := 2000000) only [c36,↓reduceIte,S0,Nat.reduceEqDiff,St.clr,outV,ownsV,owns1,ownL,ol_b]
  | false =>
    simp -implicitDefEqProofs (maxSteps := 2000000) only [c36,↓reduceIte,S0,Nat.reduceEqDiff,St.clr,outV,ownsV,owns1,ownL,PV.leaves,Nat.reduceBEq,Nat.zero_le,kc_b,kc_i,ol_b,kc_p,ta_s,o_alt]
    refine pcall_i (r58 _ (Or.inl rfl) [] _ (by simp [ByteArray.size])) rfl rfl ?_
    simp -implicitDefEqProofs (maxSteps := 2000000) only [c36,↓reduceIte,S0,v_part_t,Nat.reduceEqDiff,Nat.reduceAdd,outV,ownsV,owns1,ownL,List.any_cons,List.any_nil,Bool.or_self,PV.leaves,Nat.reduceMul,Nat.le_refl,List.drop_zero,List.take_succ_cons,List.take_nil,ol_ni,m_1l,fc_lo,fc_t,kl_np,isC,cplc,Nat.reduceMod,Nat.reduceDiv]
    refine wcall_flat (r62 hX a b c d ha hb hc hd) rfl (flat_rows _) ?_
    have kc : [1280, 1282, 1284].contains 387 = false := by decide
    have h75 : ∀ n : Nat, n < 256 → R X Tryz.prog 63 [.lf (.int .i64 (n : Int))] [] (.lf (.str ⟨(itemL (UInt8.ofNat n)).toArray⟩)) [] := fun n hn => by
      have := r63 (X := X) (UInt8.ofNat n)
      rwa [of8 hn] at this
    generalize spN (mems a b c d) = sp at hsl hsb ⊢
    have key : ∀ (q : List (Nat × Nat)) (i : Nat) (y : List UInt8), sp.drop i = q → i ≤ sp.length → y ++ q.flatMap pieceL ++ [93] = 91 :: (sp.flatMap pieceL ++ [93]) → LoopAt X Tryz.prog c36_14 [3, 10, 11, 12]
      (blkK 0 (seqK X Tryz.prog c36_19 (retS [] [] 0 [RV.t 2] (PV.lf (L.str { data := (91 :: (sp.flatMap pieceL ++ [93])).toArray })) [])))
      { m := 0, tm := [(3, PV.lf (L.tptr 3 0 56)), (10, PV.lf (L.lst (Tag.own 1280 118) 2 (sp.map rowP) [])), (11, PV.lf (L.int IntKind.i64 sp.length)), (12, PV.lf (L.int IntKind.i64 (i : Int)))],
        ce := [(3, [L.tptr 3 0 56, L.lst (Tag.own 387 5) 1 (ub y) []])] } := by
      intro q
      induction q with
      | nil =>
        intro i y hq hil hy
        have hi : sp.length ≤ i := by simpa using hq
        have hn : ¬ (i : Int) < (sp.length : Int) := by omega
        intro Z hZ; apply hZ
        have hyl : y.length ≤ 3000 := by
          have h1 := congrArg List.length hy
          have h2 := pieces_len sp
          simp only [List.length_append, List.length_cons, List.length_nil] at h1
          omega
        simp -implicitDefEqProofs (maxSteps := 2000000) only [c36,hn,decide_false,↓reduceIte,S0,s_exit,s_seqK_e,s_blkK_e,s_loopK_e,Nat.reduceEqDiff,PV.leaves,ta_s]
        refine pcall_i (r58 _ (Or.inr rfl) y _ (by simp [ByteArray.size]; omega)) rfl rfl ?_
        simp -implicitDefEqProofs (maxSteps := 2000000) only [c36,↓reduceIte,S0,Nat.reduceEqDiff,Nat.reduceAdd,outV,ownsV,owns1,ownL,List.any_cons,List.any_nil,Bool.or_self,PV.leaves,Nat.reduceMul,Nat.reduceBEq,ol_ni,m_1l,fc_lo,fc_t,isC,cplc,Nat.reduceMod,Nat.reduceDiv]
        refine pcall_i (r41 _ (Or.inr rfl) _ (by simp)) rfl rfl ?_
        simp -implicitDefEqProofs (maxSteps := 2000000) only [c36,↓reduceIte,S0,outV,ownsV,owns1,ownL,fc_u,fc_t,isC,Nat.reduceMod,Nat.reduceDiv]
        rw [← hy]
        simp
      | cons p q ih =>
        intro i y hq hil hy
        have hi : i < sp.length := by
          rcases Nat.lt_or_ge i sp.length with h | h
          · exact h
          · rw [List.drop_eq_nil_of_le h] at hq; cases hq
        have hx : sp[i]? = some p := by rw [← List.head?_drop, hq]; rfl
        have hq' : sp.drop (i + 1) = q := by rw [← List.tail_drop, hq]; rfl
        obtain ⟨lo, hi'⟩ := p
        obtain ⟨b1, b2⟩ := hsb _ (List.mem_of_getElem? hx)
        simp only at b1 b2
        have hlt : (i : Int) < (sp.length : Int) := by omega
        have hget : (sp.map rowP).getD i [] = [.int .i64 (lo : Int), .int .i64 (hi' : Int)] := by rw [List.getD_eq_getElem?_getD, List.getElem?_map, hx]; rfl
        have w1 : IntKind.i64.wrap ((i : Int) + 1) = ((i + 1 : Nat) : Int) := by rw [w64 (by omega) (by omega)]; omega
        have w2 : IntKind.i64.wrap ((lo : Int) + 1) = ((lo + 1 : Nat) : Int) := by rw [w64 (by omega) (by omega)]; omega
        have hyl : y.length ≤ 3000 := by
          have h1 := congrArg List.length hy
          have h2 := pieces_len sp
          simp only [List.length_append, List.length_cons, List.length_nil] at h1
          omega
        have il1 := (itemL_len (UInt8.ofNat lo)).2
        have il2 := (itemL_len (UInt8.ofNat hi')).2
        intro Z hZ; apply hZ
        simp -implicitDefEqProofs (maxSteps := 2000000) only [c36,hlt,decide_true,v_ld_e,hget,Int.toNat_natCast,↓reduceIte,S0,v_part_t,o_al,o_st,v_st_p,v_stCK,Nat.reduceEqDiff,Nat.reduceAdd,PV.leaves,List.all_cons,List.all_nil,PV.cells,cellL,fillL,Nat.reduceBEq,Nat.zero_le,Nat.le_refl,List.take_zero,List.drop_zero,List.take_succ_cons,List.drop_succ_cons,List.drop_nil,List.take_nil,kc_b,kc_i,kc_l,st_b,kc_t,kc_eo]
        refine ⟨⟨by omega, by simpa using hi⟩, by simpa using hi, ?_⟩
        refine wcall_s (h75 lo b1) rfl rfl ?_
        simp -implicitDefEqProofs (maxSteps := 2000000) only [c36,↓reduceIte,S0,Nat.reduceEqDiff,St.clr,outV,ownsV,owns1,ownL,PV.leaves,ta_s]
        refine pcall_i (r58 _ (Or.inr rfl) y _ (by simp [ByteArray.size]; omega)) rfl rfl ?_
        simp -implicitDefEqProofs (maxSteps := 2000000) only [c36,w2,↓reduceIte,S0,v_gtr,Nat.reduceEqDiff,Nat.reduceAdd,outV,ownsV,owns1,ownL,List.any_cons,List.any_nil,Bool.or_self,PV.leaves,Nat.reduceMul,Nat.reduceBEq,ol_ni,m_1l,kC_c,List.range_zero,ta_s,fc_lo,fc_t,pO_tt,isC,cplc,Nat.reduceMod,Nat.reduceDiv]
        have fin : ∀ y' : List UInt8, y' = y ++ pieceL (lo, hi') → Z { m := 0, tm := [(3, PV.lf (L.tptr 3 0 56)), (10, PV.lf (L.lst (Tag.own 1280 118) 2 (sp.map rowP) [])), (11, PV.lf (L.int IntKind.i64 sp.length)), (12, PV.lf (L.int IntKind.i64 ((i + 1 : Nat) : Int)))], ce := [(3, [L.tptr 3 0 56, L.lst (Tag.own 387 5) 1 (ub y') []])] } := fun y' e => ih (i + 1) y' hq' (by omega) (by rw [e, ← hy]; simp) Z hZ
        clear ih hy
        by_cases c1 : lo + 1 < hi'
        · have c1' : ((lo + 1 : Nat) : Int) < (hi' : Int) := by omega
          have c2' : (lo : Int) < (hi' : Int) := by omega
          simp -implicitDefEqProofs (maxSteps := 2000000) only [c36,c1',c2',decide_true,↓reduceIte]
          refine pcall_i (r58 _ (Or.inr rfl) _ _ (by simp [ByteArray.size]; omega)) rfl rfl ?_
          simp -implicitDefEqProofs (maxSteps := 2000000) only [c36,c1',c2',decide_true,↓reduceIte,S0,v_gtr,Nat.reduceEqDiff,Nat.reduceAdd,outV,ownsV,owns1,ownL,List.any_cons,List.any_nil,Bool.or_self,PV.leaves,Nat.reduceMul,Nat.reduceBEq,ol_ni,m_1l,fc_lo,fc_t,isC,cplc,Nat.reduceMod,Nat.reduceDiv]
          refine wcall_s (h75 hi' b2) rfl rfl ?_
          simp -implicitDefEqProofs (maxSteps := 2000000) only [c36,↓reduceIte,S0,Nat.reduceEqDiff,St.clr,outV,ownsV,owns1,ownL,PV.leaves,ta_s]
          refine pcall_i (r58 _ (Or.inr rfl) _ _ (by simp [ByteArray.size]; omega)) rfl rfl ?_
          simp -implicitDefEqProofs (maxSteps := 2000000) only [c36,w1,↓reduceIte,S0,Nat.reduceEqDiff,Nat.reduceAdd,outV,ownsV,owns1,ownL,List.any_cons,List.any_nil,Bool.or_self,Nat.reduceMul,Nat.reduceBEq,ol_ni,m_1l,kC_c,List.range_zero,fc_lo,fc_t,pO_tt,isC,cplc,Nat.reduceMod,Nat.reduceDiv]
          exact fin _ (by simp [pieceL, c1, show lo < hi' by omega])
        · have c1' : ¬ ((lo + 1 : Nat) : Int) < (hi' : Int) := by omega
          by_cases c2 : lo < hi'
          · have c2' : (lo : Int) < (hi' : Int) := by omega
            simp -implicitDefEqProofs (maxSteps := 2000000) only [c36,c1',c2',decide_true,decide_false,↓reduceIte]
            refine wcall_s (h75 hi' b2) rfl rfl ?_
            simp -implicitDefEqProofs (maxSteps := 2000000) only [c36,↓reduceIte,S0,Nat.reduceEqDiff,St.clr,outV,ownsV,owns1,ownL,PV.leaves,ta_s]
            refine pcall_i (r58 _ (Or.inr rfl) _ _ (by simp [ByteArray.size]; omega)) rfl rfl ?_
            simp -implicitDefEqProofs (maxSteps := 2000000) only [c36,w1,↓reduceIte,S0,Nat.reduceEqDiff,Nat.reduceAdd,outV,ownsV,owns1,ownL,List.any_cons,List.any_nil,Bool.or_self,Nat.reduceMul,Nat.reduceBEq,ol_ni,m_1l,kC_c,List.range_zero,fc_lo,fc_t,pO_tt,isC,cplc,Nat.reduceMod,Nat.reduceDiv]
            exact fin _ (by simp [pieceL, c1, c2])
          · have c2' : ¬ (lo : Int) < (hi' : Int) := by omega
            simp -implicitDefEqProofs (maxSteps := 2000000) only [c36,c1',c2',decide_true,decide_false,w1,↓reduceIte]
            exact fin _ (by simp [pieceL, c1, c2])
    simp -implicitDefEqProofs (maxSteps := 2000000) only [c36,List.length_map,kc,↓reduceIte,S0,s_loop,o_len,v_len,Nat.reduceEqDiff,Nat.reduceAdd,St.clr,outV,ownsV,owns1,ownL,Nat.reduceMul,kps_lo,kC_c,List.range_zero,plT,kps_t,pO_tt]
    intro _
    exact key sp 0 [91] rfl (Nat.zero_le _) (by simp)
end Go.Proofs.YtdoefdmaecaacaaGreatDoor.SL
set_option linter.unusedVariables false
set_option linter.unusedSimpArgs false
namespace Go.Proofs.YtdoefdmaecaacaaGreatDoor.SL
open Go Go.Proofs.YtdoefdmaecaacaaGreatDoor.AM Go.Proofs.YtdoefdmaecaacaaGreatDoor.S
variable {X : Cx}
theorem full_count (a b c d : Nat) (ha : a < 2 ^ 64) (hb : b < 2 ^ 64) (hc : c < 2 ^ 64) (hd : d < 2 ^ 64) : fullN a b c d = decide (((mems a b c d).length : Int) = 256) := by
  have all : ∀ w : Nat, w < 2 ^ 64 → ((∀ t, t < 64 → w.testBit t = true) ↔ w = 18446744073709551615) := by
    intro w hw
    constructor
    · intro h
      apply Nat.eq_of_testBit_eq
      intro t
      have e : (18446744073709551615 : Nat) = 2 ^ 64 - 1 := rfl
      rw [e, Nat.testBit_two_pow_sub_one]
      by_cases ht : t < 64
      · rw [h t ht]; simp [ht]
      · simp only [ht, decide_false]
        exact Nat.testBit_lt_two_pow (Nat.lt_of_lt_of_le hw (Nat.pow_le_pow_right (by decide) (by omega)))
    · rintro rfl t ht
      have e : (18446744073709551615 : Nat) = 2 ^ 64 - 1 := rfl
      rw [e, Nat.testBit_two_pow_sub_one]; simp [ht]
  have hl : (mems a b c d).length = 256 ↔ ∀ k, k < 256 → hasN a b c d k = true := by
    have e : (mems a b c d).length = (List.range 256).countP (hasN a b c d) := by
      unfold mems; rw [List.countP_eq_length_filter]
    rw [e]
    have := List.countP_eq_length (p := hasN a b c d) (l := List.range 256)
    rw [List.length_range] at this
    rw [this]
    simp only [List.mem_range]
  have hb2 : ∀ k, hasN a b c d k = (wd a b c d (k / 64)).testBit (k % 64) := fun k => by unfold hasN; rw [Nat.testBit_eq_decide_div_mod_eq]
  rw [Bool.eq_iff_iff]
  simp only [fullN, decide_eq_true_eq]
  rw [show ((mems a b c d).length : Int) = 256 ↔ (mems a b c d).length = 256 by omega, hl]
  constructor
  · rintro ⟨h1, h2, h3, h4⟩ k hk
    rw [hb2]
    unfold wd
    rcases (show k / 64 = 0 ∨ k / 64 = 1 ∨ k / 64 = 2 ∨ k / 64 = 3 by omega) with e | e | e | e <;> rw [e] <;> simp only [if_true, if_false, Nat.reduceEqDiff]
    · exact (all a ha).2 h1 _ (by omega)
    · exact (all b hb).2 h2 _ (by omega)
    · exact (all c hc).2 h3 _ (by omega)
    · exact (all d hd).2 h4 _ (by omega)
  · intro h
    refine ⟨(all a ha).1 fun t ht => ?_, (all b hb).1 fun t ht => ?_, (all c hc).1 fun t ht => ?_, (all d hd).1 fun t ht => ?_⟩
    · have := h t (by omega); rw [hb2, show t / 64 = 0 by omega, show t % 64 = t by omega] at this; exact this
    · have := h (64 + t) (by omega); rw [hb2, show (64 + t) / 64 = 1 by omega, show (64 + t) % 64 = t by omega] at this; exact this
    · have := h (128 + t) (by omega); rw [hb2, show (128 + t) / 64 = 2 by omega, show (128 + t) % 64 = t by omega] at this; exact this
    · have := h (192 + t) (by omega); rw [hb2, show (192 + t) / 64 = 3 by omega, show (192 + t) % 64 = t by omega] at this; exact this
theorem r76 (a b c d : Nat) (ha : a < 2 ^ 64) (hb : b < 2 ^ 64) (hc : c < 2 ^ 64) (hd : d < 2 ^ 64) :
    R X Tryz.prog 76 [.ag [.int .u64 a, .int .u64 b, .int .u64 c, .int .u64 d]] [] (.lf (.str ⟨(showL a b c d).toArray⟩)) [] := by
  refine R_i [] [] c76_ok rfl (by simp) ?_
  have hfc := full_count a b c d ha hb hc hd
  have h79 : ∀ n : Nat, n < 256 → R X Tryz.prog 105 [.lf (.int .i64 (n : Int))] [] (.lf (.str ⟨(itemL (UInt8.ofNat n)).toArray⟩)) [] := fun n hn => by
    have := r105 (X := X) (UInt8.ofNat n)
    rwa [of8 hn] at this
  unfold showL
  obtain ⟨hsl, hsb⟩ := sp_ok a b c d
  simp -implicitDefEqProofs (maxSteps := 2000000) only [c76,↓reduceIte,S0,v_part_t,o_bx,St.init,enum,Nat.reduceEqDiff,Nat.reduceAdd,PV.leaves,Nat.zero_le,Nat.le_refl,List.drop_zero,List.take_succ_cons,List.take_nil,kc_i,v_bx_a]
  refine wcall_s (r103 a b c d ha hb hc hd) rfl rfl ?_
  rw [hfc]
  by_cases hf : ((mems a b c d).length : Int) = 256
  · simp -implicitDefEqProofs (maxSteps := 2000000) only [c76,hf,decide_true,↓reduceIte,S0,Nat.reduceEqDiff,St.clr,outV,ownsV,owns1,ownL]
  · simp -implicitDefEqProofs (maxSteps := 2000000) only [c76,hf,decide_false,Bool.false_eq_true,↓reduceIte,S0,v_part_t,Nat.reduceEqDiff,Nat.reduceAdd,St.clr,outV,ownsV,owns1,ownL,PV.leaves,Nat.le_refl,List.drop_zero,List.take_succ_cons,List.take_nil]
    refine wcall_flat (r104 a b c d ha hb hc hd) rfl (flat_rows _) ?_
    generalize spN (mems a b c d) = sp at hsl hsb ⊢
    have key : ∀ (q : List (Nat × Nat)) (i : Nat) (s : ByteArray), sp.drop i = q → i ≤ sp.length → s.data.toList ++ q.flatMap pieceL ++ [93] = 91 :: (sp.flatMap pieceL ++ [93]) → LoopAt X Tryz.prog c76_13 [3, 4, 5]
      (blkK 0 (seqK X Tryz.prog c76_17 (retS [] [] 0 [RV.t 2] (PV.lf (L.str { data := (91 :: (sp.flatMap pieceL ++ [93])).toArray })) [])))
      { m := 0, tm := [(3, PV.lf (L.lst (Tag.own 384 118) 2 (sp.map rowP) [])), (4, PV.lf (L.str s)), (5, PV.lf (L.int IntKind.i64 (i : Int)))], ce := [] } := by
      intro q
      induction q with
      | nil =>
        intro i s hq hil hy
        have hi : sp.length ≤ i := by simpa using hq
        have hn : ¬ (i : Int) < (sp.length : Int) := by omega
        have hyl : s.size ≤ 3000 := by
          have h1 := congrArg List.length hy
          have h2 := pieces_len sp
          simp only [List.length_append, List.length_cons, List.length_nil, size_len] at h1
          omega
        intro Z hZ; apply hZ
        simp -implicitDefEqProofs (maxSteps := 2000000) only [c76,hn,decide_false,List.length_map,↓reduceIte,S0,s_exit,s_seqK_e,s_blkK_e,s_loopK_e,v_sadd,o_len,v_len,Nat.reduceEqDiff]
        intro _
        have e93 : (ByteArray.mk #[93]).size = 1 := rfl
        refine ⟨by omega, ?_⟩
        apply ByteArray.ext
        apply Array.toList_inj.1
        rw [← hy]
        simp
      | cons p q ih =>
        intro i s hq hil hy
        have hi : i < sp.length := by
          rcases Nat.lt_or_ge i sp.length with h | h
          · exact h
          · rw [List.drop_eq_nil_of_le h] at hq; cases hq
        have hx : sp[i]? = some p := by rw [← List.head?_drop, hq]; rfl
        have hq' : sp.drop (i + 1) = q := by rw [← List.tail_drop, hq]; rfl
        obtain ⟨lo, hi'⟩ := p
        obtain ⟨b1, b2⟩ := hsb _ (List.mem_of_getElem? hx)
        simp only at b1 b2
        have hlt : (i : Int) < (sp.length : Int) := by omega
        have hget : (sp.map rowP).getD i [] = [.int .i64 (lo : Int), .int .i64 (hi' : Int)] := by rw [List.getD_eq_getElem?_getD, List.getElem?_map, hx]; rfl
        have w1 : IntKind.i64.wrap ((i : Int) + 1) = ((i + 1 : Nat) : Int) := by rw [w64 (by omega) (by omega)]; omega
        have w2 : IntKind.i64.wrap ((lo : Int) + 1) = ((lo + 1 : Nat) : Int) := by rw [w64 (by omega) (by omega)]; omega
        have hyl : s.size ≤ 3000 := by
          have h1 := congrArg List.length hy
          have h2 := pieces_len sp
          simp only [List.length_append, List.length_cons, List.length_nil, size_len] at h1
          omega
        have il1 := (itemL_len (UInt8.ofNat lo)).2
        have il2 := (itemL_len (UInt8.ofNat hi')).2
        intro Z hZ; apply hZ
        have fin : ∀ s' : ByteArray, s'.data.toList = s.data.toList ++ pieceL (lo, hi') → Z { m := 0, tm := [(3, PV.lf (L.lst (Tag.own 384 118) 2 (sp.map rowP) [])), (4, PV.lf (L.str s')), (5, PV.lf (L.int IntKind.i64 ((i + 1 : Nat) : Int)))], ce := [] } := fun s' e => ih (i + 1) s' hq' (by omega) (by rw [e, ← hy]; simp) Z hZ
        clear ih hy hZ
        have e45 : (ByteArray.mk #[45]).size = 1 := rfl
        have z1 : (ByteArray.mk (itemL (UInt8.ofNat lo)).toArray).size ≤ 4 := by rw [ba_size]; exact il1
        have z2 : (ByteArray.mk (itemL (UInt8.ofNat hi')).toArray).size ≤ 4 := by rw [ba_size]; exact il2
        have sa : ∀ (x y : ByteArray), (x ++ y).size = x.size + y.size := fun x y => ByteArray.size_append
        simp -implicitDefEqProofs (maxSteps := 2000000) only [c76,hlt,decide_true,v_ld_e,hget,Int.toNat_natCast,List.length_map,↓reduceIte,S0,v_fa_e,o_len,v_len,Nat.reduceEqDiff,PV.leaves]
        intro _
        refine ⟨⟨by omega, hi⟩, hi, ?_⟩
        refine wcall_s (h79 lo b1) rfl rfl ?_
        by_cases c1 : lo + 1 < hi'
        · have c1' : ((lo + 1 : Nat) : Int) < (hi' : Int) := by omega
          have c2' : (lo : Int) < (hi' : Int) := by omega
          simp -implicitDefEqProofs (maxSteps := 2000000) only [c76,c1',c2',w2,hlt,decide_true,v_ld_e,hget,Int.toNat_natCast,List.length_map,↓reduceIte,S0,s_ops2,s_wopsqK,s_qnil,s_qcons,q_fa,q_ia,q_ld,v_gtr,v_sadd,v_fa_e,Nat.reduceEqDiff,St.clr,outV,ownsV,owns1,ownL,PV.leaves]
          refine ⟨by omega, ⟨by omega, hi⟩, hi, ⟨by omega, hi⟩, hi, by rw [sa]; omega, ⟨by omega, hi⟩, hi, ⟨by omega, hi⟩, hi, ⟨by omega, hi⟩, hi, ?_⟩
          refine wcall_s (h79 hi' b2) rfl rfl ?_
          simp -implicitDefEqProofs (maxSteps := 2000000) only [c76,w1,↓reduceIte,S0,v_sadd,Nat.reduceEqDiff,St.clr,outV,ownsV,owns1,ownL,pO_s,List.range_zero]
          refine ⟨by rw [sa, sa]; omega, fin _ (by simp [pieceL, c1, show lo < hi' by omega])⟩
        · have c1' : ¬ ((lo + 1 : Nat) : Int) < (hi' : Int) := by omega
          by_cases c2 : lo < hi'
          · have c2' : (lo : Int) < (hi' : Int) := by omega
            simp -implicitDefEqProofs (maxSteps := 2000000) only [c76,c1',c2',w2,hlt,decide_true,decide_false,v_ld_e,hget,Int.toNat_natCast,List.length_map,↓reduceIte,S0,s_ops2,s_wopsqK,s_qnil,s_qcons,q_fa,q_ia,q_ld,v_gtr,v_sadd,v_fa_e,Nat.reduceEqDiff,St.clr,outV,ownsV,owns1,ownL,PV.leaves]
            refine ⟨by omega, ⟨by omega, hi⟩, hi, ⟨by omega, hi⟩, hi, ⟨by omega, hi⟩, hi, ⟨by omega, hi⟩, hi, ⟨by omega, hi⟩, hi, ?_⟩
            refine wcall_s (h79 hi' b2) rfl rfl ?_
            simp -implicitDefEqProofs (maxSteps := 2000000) only [c76,w1,↓reduceIte,S0,v_sadd,Nat.reduceEqDiff,St.clr,outV,ownsV,owns1,ownL,pO_s,List.range_zero]
            refine ⟨by rw [sa]; omega, fin _ (by simp [pieceL, c1, c2])⟩
          · have c2' : ¬ (lo : Int) < (hi' : Int) := by omega
            simp -implicitDefEqProofs (maxSteps := 2000000) only [c76,c1',c2',w1,w2,hlt,decide_true,decide_false,v_ld_e,hget,Int.toNat_natCast,List.length_map,↓reduceIte,S0,s_ops2,s_wopsqK,s_qnil,s_qcons,q_fa,q_ia,q_ld,v_gtr,v_sadd,v_fa_e,Nat.reduceEqDiff,St.clr,outV,ownsV,owns1,ownL,pO_s,List.range_zero]
            refine ⟨by omega, ⟨by omega, hi⟩, hi, ⟨by omega, hi⟩, hi, ⟨by omega, hi⟩, hi, ⟨by omega, hi⟩, hi, fin _ (by simp [pieceL, c1, c2])⟩
    simp -implicitDefEqProofs (maxSteps := 2000000) only [c76,↓reduceIte,S0,s_loop,Nat.reduceEqDiff,Nat.reduceAdd,St.clr,outV,ownsV,owns1,ownL,Nat.reduceMul,Nat.reduceBEq,pO_s,List.range_zero,plT]
    exact key sp 0 ⟨#[91]⟩ rfl (Nat.zero_le _) (by simp)
end Go.Proofs.YtdoefdmaecaacaaGreatDoor.SL
set_option linter.unusedVariables false
set_option linter.unusedSimpArgs false
namespace Go.Proofs.YtdoefdmaecaacaaGreatDoor.S
open Go Go.Proofs.YtdoefdmaecaacaaGreatDoor.AM
variable {X : Cx}
abbrev bs (l : List UInt8) : ByteArray := ⟨l.toArray⟩
structure Txt (X : Cx) where
  lit : ByteArray → ByteArray
  dec : Int → ByteArray
  set : Int → Int → Int → Int → ByteArray
  lit_n : ∀ s, s.size ≤ 255 → (lit s).size ≤ 65536
  dec_n : ∀ n, 0 ≤ n → n ≤ 50 → (dec n).size ≤ 65536
  set_n : ∀ a b c d, (set a b c d).size ≤ 65536
  h28 : ∀ s, s.size ≤ 255 → R X Tryz.prog 35 [.lf (.str s)] [] (.lf (.str (lit s))) []
  h44 : ∀ n, 0 ≤ n → n ≤ 50 → R X Tryz.prog 46 [.lf (.int .i64 n)] [] (.lf (.str (dec n))) []
  h29 : ∀ a b c d : Int, 0 ≤ a → a ≤ 18446744073709551615 → 0 ≤ b → b ≤ 18446744073709551615 → 0 ≤ c → c ≤ 18446744073709551615 → 0 ≤ d → d ≤ 18446744073709551615 →
    R X Tryz.prog 36 [.ag [.int .u64 a, .int .u64 b, .int .u64 c, .int .u64 d]] [] (.lf (.str (set a b c d))) []
  h75 : ∀ s, s.size ≤ 255 → R X Tryz.prog 75 [.lf (.str s)] [] (.lf (.str (lit s))) []
  h74 : ∀ n, 0 ≤ n → n ≤ 50 → R X Tryz.prog 77 [.lf (.int .i64 n), .lf (.int .i64 10)] [] (.lf (.str (dec n))) []
  h76 : ∀ a b c d : Int, 0 ≤ a → a ≤ 18446744073709551615 → 0 ≤ b → b ≤ 18446744073709551615 → 0 ≤ c → c ≤ 18446744073709551615 → 0 ≤ d → d ≤ 18446744073709551615 →
    R X Tryz.prog 76 [.ag [.int .u64 a, .int .u64 b, .int .u64 c, .int .u64 d]] [] (.lf (.str (set a b c d))) []
def hol (op : Int) : Int := if op = 8 then 0 else if op = 7 then 1 else if op = 12 ∨ op = 13 then 2 else if op = 9 ∨ op = 10 ∨ op = 11 ∨ op = 14 ∨ op = 15 ∨ op = 16 ∨ op = 22 ∨ op = 23 then 3 else 4
structure Nd.ok (x : Nd) : Prop where
  op : 1 ≤ x.op ∧ x.op ≤ 23
  n : 0 ≤ x.n ∧ x.n ≤ 50
  t : x.t.size ≤ 255
  s0 : 0 ≤ x.s0 ∧ x.s0 ≤ 18446744073709551615
  s1 : 0 ≤ x.s1 ∧ x.s1 ≤ 18446744073709551615
  s2 : 0 ≤ x.s2 ∧ x.s2 ≤ 18446744073709551615
  s3 : 0 ≤ x.s3 ∧ x.s3 ≤ 18446744073709551615
inductive Tr.ok : Tr → Prop where
  | l0 {x} : x.ok → arF x.op = 0 → Tr.ok (.l0 x)
  | l1 {x a} : x.ok → arF x.op = 1 → Tr.ok a → Tr.ok (.l1 x a)
  | l2 {x a b} : x.ok → arF x.op = 2 → Tr.ok a → Tr.ok b → Tr.ok (.l2 x a b)
def round (h k : Int) (ts : List ByteArray) : List ByteArray := if h < k then [⟨#[40]⟩] ++ ts ++ [⟨#[41]⟩] else ts
section
variable (T : Txt X)
def tok0 (x : Nd) : ByteArray :=
  if x.op = 1 then ⟨#[37, 101]⟩ else if x.op = 2 then ⟨#[37, 102]⟩ else if x.op = 3 then ⟨#[46]⟩ else if x.op = 17 then ⟨#[123, 125]⟩ else if x.op = 4 then T.lit x.t else if x.op = 5 then T.set x.s0 x.s1 x.s2 x.s3 else x.t
def sufF (x : Nd) : ByteArray :=
  if x.op = 9 then ⟨#[42]⟩ else if x.op = 10 then ⟨#[43]⟩ else if x.op = 11 then ⟨#[63]⟩ else if x.op = 14 then ⟨#[94]⟩ ++ T.dec x.n else if x.op = 15 then ⟨#[94, 43]⟩ ++ T.dec x.n else if x.op = 16 then ⟨#[94, 45]⟩ ++ T.dec x.n
  else if x.op = 22 then ⟨#[32, 45, 62, 32]⟩ ++ T.lit x.t else ⟨#[32, 45, 62, 32]⟩ ++ T.dec x.n
def aro (x : Nd) : ByteArray × Int × ByteArray :=
  if x.op = 18 then (⟨#[123]⟩, 0, ⟨#[125]⟩) else if x.op = 19 then (⟨#[123, 58]⟩ ++ (if x.t = ⟨#[]⟩ then ⟨#[]⟩ else x.t ++ ⟨#[58]⟩) ++ ⟨#[32]⟩, 0, ⟨#[32, 58, 125]⟩)
  else if x.op = 20 then (⟨#[123, 124, 32]⟩, 0, ⟨#[32, 124, 125]⟩) else if x.op = 21 then (⟨#[123, 126, 32]⟩, 0, ⟨#[32, 126, 125]⟩)
  else if x.op = 12 then (⟨#[38]⟩, 2, ⟨#[]⟩) else if x.op = 13 then (⟨#[33]⟩, 2, ⟨#[]⟩) else (⟨#[]⟩, 3, sufF T x)
def rowK (op : Int) : Int × ByteArray := if op = 7 then (1, ⟨#[32]⟩) else (0, ⟨#[32, 47, 32]⟩)
def toks : Tr → List ByteArray
  | .l0 x => [tok0 T x]
  | .l1 x a => [(aro T x).1] ++ round (hol a.x.op) (aro T x).2.1 (toks a) ++ [(aro T x).2.2]
  | .l2 x a b => round (hol a.x.op) (rowK x.op).1 (toks a) ++ [(rowK x.op).2] ++ round (hol b.x.op) ((rowK x.op).1 + 1) (toks b)
end
abbrev bt : PV := .lf (.tptr 0 0 58)
theorem tr_c (t : Tr) : ∃ l, t.c = t.x.c ++ [l] := by
  cases t <;> exact ⟨_, rfl⟩
theorem r91 (t : Tr) : R X Tryz.prog 91 [.lf (.rp t.c 0)] [] (.lf (.int .i64 (hol t.x.op))) [] := by
  refine R_i [] [] c91_ok rfl (by simp) ?_
  obtain ⟨l, hl⟩ := tr_c t
  rw [hl]
  unfold hol
  simp -implicitDefEqProofs (maxSteps := 2000000) only [c91,↓reduceIte,S0,St.init,enum,Nat.reduceEqDiff,reduceCtorEq,v_fa_r,v_ld_r,v_nc_r]
  generalize t.x.op = o
  by_cases h8 : o = 8
  · subst h8; simp
  by_cases h7 : o = 7
  · subst h7; simp
  by_cases h12 : o = 12
  · subst h12; simp
  by_cases h13 : o = 13
  · subst h13; simp
  by_cases h9 : o = 9
  · subst h9; simp
  by_cases h10 : o = 10
  · subst h10; simp
  by_cases h11 : o = 11
  · subst h11; simp
  by_cases h14 : o = 14
  · subst h14; simp
  by_cases h15 : o = 15
  · subst h15; simp
  by_cases h16 : o = 16
  · subst h16; simp
  by_cases h22 : o = 22
  · subst h22; simp
  by_cases h23 : o = 23
  · subst h23; simp
  simp [h8, h7, h12, h13, h9, h10, h11, h14, h15, h16, h22, h23]
theorem r39 (T : Txt X) (t : Tr) (h : t.x.ok) (ho : t.x.op = 9 ∨ t.x.op = 10 ∨ t.x.op = 11 ∨ t.x.op = 14 ∨ t.x.op = 15 ∨ t.x.op = 16 ∨ t.x.op = 22 ∨ t.x.op = 23) : R X Tryz.prog 39 [.lf (.rp t.c 0)] [] (.lf (.str (sufF T t.x))) [] := by
  refine R_i [] [] c39_ok rfl (by simp) ?_
  obtain ⟨l, hl⟩ := tr_c t
  rw [hl]
  generalize t.x = x at *
  obtain ⟨op, n, tx, s0, s1, s2, s3⟩ := x
  have h44 := T.h44 n h.n.1 h.n.2
  have h28 := T.h28 tx h.t
  have hd := T.dec_n n h.n.1 h.n.2
  have hl2 := T.lit_n tx h.t
  simp only at ho
  simp -implicitDefEqProofs (maxSteps := 2000000) only [c39,↓reduceIte,S0,St.init,enum,reduceCtorEq,PV.leaves,v_fa_r,v_ld_r,v_nc_r]
  refine wcall_s h44 rfl rfl ?_
  rcases ho with rfl | rfl | rfl | rfl | rfl | rfl | rfl | rfl
  all_goals
    simp -implicitDefEqProofs (maxSteps := 2000000) only [c39,↓reduceIte,S0,v_sadd,Nat.reduceEqDiff,Nat.reduceAdd,reduceCtorEq,St.clr,outV,ownsV,owns1,ownL,PV.leaves,rl_s,v_fa_r,v_ld_r,v_nc_r]
    try (refine wcall_s h28 rfl rfl ?_; simp -implicitDefEqProofs (maxSteps := 2000000) only [c39,↓reduceIte,S0,v_sadd,Nat.reduceAdd,St.clr,outV,ownsV,owns1,ownL])
    first | (simp [sufF]; done) | (simp [sufF]; omega)
def PatOK (T : Txt X) (t : Tr) : Prop := ∀ w : W, w.ok → R X Tryz.prog 22 [bt, .lf (.rp t.c 0)] [w.c] (.tp []) [(putsW (toks T t) w).c]
theorem fn91 : fnOK Tryz.prog 91 = true := by kernel_rfl
theorem fn32 : fnOK Tryz.prog 32 = true := by kernel_rfl
theorem r64 (T : Txt X) {t : Tr} (h : PatOK T t) (k : Int) (w : W) (hw : w.ok) : R X Tryz.prog 64 [bt, .lf (.rp t.c 0), .lf (.int .i64 k)] [w.c] (.tp []) [(putsW (round (hol t.x.op) k (toks T t)) w).c] := by
  have h1 := r32 (X := X) w hw ⟨#[40]⟩ (by decide)
  have ok1 := putW_ok (s := ⟨#[40]⟩) hw
  have h2 := h _ ok1
  have ok2 := putsW_ok (toks T t) ok1
  have h3 := r32 (X := X) _ ok2 ⟨#[41]⟩ (by decide)
  have ok3 := putW_ok (s := ⟨#[41]⟩) ok2
  have h4 := h w hw
  have ok4 := putsW_ok (toks T t) hw
  have e : putsW ([⟨#[40]⟩] ++ toks T t ++ [⟨#[41]⟩]) w = putW ⟨#[41]⟩ (putsW (toks T t) (putW ⟨#[40]⟩ w)) := by rw [putsW_app, putsW_app]; rfl
  generalize hh : hol t.x.op = hv
  have h68 := r91 (X := X) t
  rw [hh] at h68
  have e2 : putsW (round hv k (toks T t)) w = if hv < k then putW ⟨#[41]⟩ (putsW (toks T t) (putW ⟨#[40]⟩ w)) else putsW (toks T t) w := by
    unfold round
    split
    · exact e
    · rfl
  rw [e2]
  clear e e2
  refine R_i [(3, 3)] [] c64_ok rfl (by simp) ?_
  generalize putW ⟨#[40]⟩ w = w1 at *
  generalize putsW (toks T t) w1 = w2 at *
  generalize putsW (toks T t) w = w4 at *
  generalize putW ⟨#[41]⟩ w2 = w3 at *
  simp -implicitDefEqProofs (maxSteps := 2000000) only [c64,↓reduceIte,S0,St.init,enum,Nat.reduceEqDiff,Nat.reduceAdd,reduceCtorEq,PV.leaves,e_asg_fn,o_cald,rl_rp]
  refine wcald_i fn91 rfl h68 rfl ?_
  simp -implicitDefEqProofs (maxSteps := 2000000) only [c64,↓reduceIte,S0,Nat.reduceEqDiff,reduceCtorEq,St.clr,outV,ownsV,owns1,ownL,PV.leaves,ta_s,ta_rp,dw_rp0]
  with_reducible refine ite_pr (fun g => ?_) (fun g => ?_)
  · rw [if_pos g]
    refine pcall_i h1 (W.toC hw) rfl ?_
    simp -implicitDefEqProofs (maxSteps := 2000000) only [c64,W.fromC ok1,↓reduceIte,S0,Nat.reduceEqDiff,reduceCtorEq,outV,ownsV,List.any_nil,PV.leaves,ta_rp,kl_rp,dw_rp0]
    refine pcall_i h2 (W.toC ok1) rfl ?_
    simp -implicitDefEqProofs (maxSteps := 2000000) only [c64,W.fromC ok2,↓reduceIte,S0,reduceCtorEq,outV,ownsV,List.any_nil,PV.leaves,ta_s,kl_rp]
    refine pcall_i h3 (W.toC ok2) rfl ?_
    simp -implicitDefEqProofs (maxSteps := 2000000) only [c64,W.fromC ok3,↓reduceIte,S0,outV,ownsV,List.any_nil,Nat.lt_add_one,one_0]
    exact W.to ok3
  · rw [if_neg g]
    refine pcall_i h4 (W.toC hw) rfl ?_
    simp -implicitDefEqProofs (maxSteps := 2000000) only [c64,W.fromC ok4,↓reduceIte,S0,s_ret_n,outV,ownsV,List.any_nil,Nat.lt_add_one,one_0,kl_rp]
    exact W.to ok4
theorem r37 (T : Txt X) {x : Nd} {a : Tr} (h : PatOK T a) (o e : ByteArray) (ho : o.size ≤ 1073741824) (he : e.size ≤ 1073741824) (k : Int) (w : W) (hw : w.ok) :
    R X Tryz.prog 37 [bt, .lf (.str o), .lf (.rp (Tr.l1 x a).c 0), .lf (.int .i64 k), .lf (.str e)] [w.c] (.tp []) [(putsW ([o] ++ round (hol a.x.op) k (toks T a) ++ [e]) w).c] := by
  have h1 := r32 (X := X) w hw o ho
  have ok1 := putW_ok (s := o) hw
  have h2 := r64 T h k _ ok1
  have ok2 := putsW_ok (round (hol a.x.op) k (toks T a)) ok1
  have h3 := r32 (X := X) _ ok2 e he
  have ok3 := putW_ok (s := e) ok2
  have ee : putsW ([o] ++ round (hol a.x.op) k (toks T a) ++ [e]) w = putW e (putsW (round (hol a.x.op) k (toks T a)) (putW o w)) := by rw [putsW_app, putsW_app]; rfl
  refine R_i [(3, 3)] [] c37_ok rfl (by simp) ?_
  rw [ee]
  generalize putW o w = w1 at *
  generalize putsW (round (hol a.x.op) k (toks T a)) w1 = w2 at *
  generalize putW e w2 = w3 at *
  simp only [Tr.c, List.cons_append, List.nil_append]
  simp -implicitDefEqProofs (maxSteps := 2000000) only [c37,↓reduceIte,S0,St.init,enum,Nat.reduceEqDiff,Nat.reduceAdd,reduceCtorEq,PV.leaves,ta_s]
  refine pcall_i h1 (W.toC hw) rfl ?_
  have hg : ([[L.rp a.c 0]] : List (List L)).getD (Int.toNat 0) [] = [.rp a.c 0] := rfl
  simp -implicitDefEqProofs (maxSteps := 2000000) only [c37,W.fromC ok1,v_ld_e,hg,↓reduceIte,S0,Nat.reduceEqDiff,reduceCtorEq,outV,ownsV,List.any_nil,PV.leaves,ta_i,ta_rp,kl_rp,dw_rp0,v_fa_r,v_ld_r,v_nc_r]
  refine ⟨⟨by decide, by decide⟩, by decide, pcall_i h2 (W.toC ok1) rfl ?_⟩
  simp -implicitDefEqProofs (maxSteps := 2000000) only [c37,W.fromC ok2,↓reduceIte,S0,Nat.reduceEqDiff,reduceCtorEq,outV,ownsV,List.any_nil,PV.leaves,ta_s,kl_er,kl_rp]
  refine pcall_i h3 (W.toC ok2) rfl ?_
  simp -implicitDefEqProofs (maxSteps := 2000000) only [c37,W.fromC ok3,↓reduceIte,S0,s_ret_n,outV,ownsV,List.any_nil,Nat.lt_add_one,one_0]
  exact W.to ok3
def Tr.size : Tr → Nat
  | .l0 _ => 1
  | .l1 _ a => a.size + 1
  | .l2 _ a b => a.size + b.size + 1
section
variable (T : Txt X) (bet : ByteArray) (k : Int)
def tailT (r : List Tr) : List ByteArray := r.reverse.flatMap fun b => bet :: round (hol b.x.op) (k + 1) (toks T b)
end
theorem tailT_snoc (T : Txt X) (bet : ByteArray) (k : Int) (r : List Tr) (d : Tr) : tailT T bet k (r ++ [d]) = bet :: round (hol d.x.op) (k + 1) (toks T d) ++ tailT T bet k r := by
  simp [tailT]
theorem r38 (T : Txt X) {x : Nd} {a b : Tr} (h : ∀ t : Tr, t.size < (Tr.l2 x a b).size → t.ok → PatOK T t) (hok : (Tr.l2 x a b).ok) (bet : ByteArray) (k : Int) (hk : rowK x.op = (k, bet)) (hx : x.op = 7 ∨ x.op = 8) (hsz : (Tr.l2 x a b).size < 1000000000) (w : W) (hw : w.ok) :
    R X Tryz.prog 38 [bt, .lf (.rp (Tr.l2 x a b).c 0), .lf (.int .i64 k), .lf (.str bet)] [w.c] (.tp []) [(putsW (toks T (.l2 x a b)) w).c] := by
  have hk01 : (k = 0 ∨ k = 1) ∧ bet.size ≤ 100 ∧ ¬ hol x.op < k := by
    rcases hx with e | e
    · rw [e] at hk ⊢; simp only [rowK] at hk; cases hk; decide
    · rw [e] at hk ⊢; simp [rowK] at hk; obtain ⟨rfl, rfl⟩ := hk; decide
  obtain ⟨hk0, hb, hnr⟩ := hk01
  have wk : IntKind.i64.wrap (k + 1) = k + 1 := w64 (by omega) (by omega)
  have stop : ∀ y : Nd, (arF y.op = 0 ∨ arF y.op = 1) → ¬ y.op = x.op := by
    intro y hy e
    rw [e] at hy
    rcases hx with e | e <;> rw [e] at hy <;> revert hy <;> decide
  refine R_i [(3, 3)] [] c38_ok rfl (by simp) ?_
  have k1 := W.killP hw (p := 1024) rfl
  generalize hF : putsW (toks T (.l2 x a b)) w = wf
  simp only [Tr.c, List.cons_append, List.nil_append]
  simp -implicitDefEqProofs (maxSteps := 2000000) only [c38,k1,↓reduceIte,S0,s_loop,St.init,enum,Nat.reduceEqDiff,Nat.reduceAdd,reduceCtorEq,Nat.reduceMul,kp_s,e_asg_n,kC_c,pO_s,plT,kp_t,pO_tt,rg_1,kp_rp,pO_r,e_asg_rp]
  -- the second loop
  have key2 : ∀ (j : Nat) (r : List Tr) (w' : W), w'.ok → j ≤ r.length → r.length < 1000000000000 → (∀ q ∈ r, q.ok ∧ q.size < (Tr.l2 x a b).size) → putsW (tailT T bet k (r.take j)) w' = wf → 
      LoopAt X Tryz.prog c38_12 [0, 2, 3, 8, 10] (blkK 2 (retS [(3, 3)] [] 1 [] (PV.tp []) [wf.c]))
        { m := 1, tm := [(0, PV.lf (L.tptr 0 0 58)), (2, PV.lf (L.int IntKind.i64 k)), (3, PV.lf (L.str bet)), (8, PV.lf (L.lst (Tag.own 1024 60) 1 (r.map Tr.r) [])), (10, PV.lf (L.int IntKind.i64 ((j : Int) - 1)))], ce := [(0, w'.c), (0, w'.c)] } := by
    intro j
    induction j with
    | zero =>
      intro r w' hok' hj hlen hr hput
      have e : w' = wf := hput
      subst e
      have hlt : ¬ (0 : Int) ≤ ((0 : Nat) : Int) - 1 := by decide
      intro Z hZ; apply hZ
      simp -implicitDefEqProofs (maxSteps := 2000000) only [c38,hlt,decide_false,↓reduceIte,S0,s_exit,s_seqK_e,s_blkK_e,s_loopK_e,v_geq,Nat.reduceEqDiff,reduceCtorEq,s_ret_n,Nat.lt_add_one,one_0]
      exact W.to hok'
    | succ j ih =>
      intro r w' hok' hj hlen hr hput
      have hjl : j < r.length := by omega
      have hq := hr r[j] (List.getElem_mem hjl)
      have ht : r.take (j + 1) = r.take j ++ [r[j]] := by rw [List.take_add_one, List.getElem?_eq_getElem hjl]; rfl
      have hget : (r.map Tr.r).getD ((((j + 1 : Nat) : Int) - 1)).toNat [] = [.rp (r[j]).c 0] := by
        have e : ((((j + 1 : Nat) : Int) - 1)).toNat = j := by omega
        rw [e, List.getD_eq_getElem?_getD, List.getElem?_map, List.getElem?_eq_getElem hjl]; rfl
      rw [ht, tailT_snoc] at hput
      generalize r[j] = q at *
      have h14 := r32 (X := X) w' hok' bet (by omega)
      have ok1 := putW_ok (s := bet) hok'
      have h50 := r64 T (h q hq.2 hq.1) (k + 1) _ ok1
      have ok2 := putsW_ok (round (hol q.x.op) (k + 1) (toks T q)) ok1
      simp only [List.cons_append, putsW] at hput
      rw [putsW_app] at hput
      generalize putW bet w' = w1 at *
      generalize putsW (round (hol q.x.op) (k + 1) (toks T q)) w1 = w2 at *
      have ihj := ih r w2 ok2 (by omega) hlen hr hput
      have hge : (0 : Int) ≤ ((j + 1 : Nat) : Int) - 1 := by omega
      have wd : IntKind.i64.wrap ((((j + 1 : Nat) : Int) - 1) - 1) = (j : Int) - 1 := by rw [w64 (by omega) (by omega)]; omega
      intro Z hZ; apply hZ
      simp -implicitDefEqProofs (maxSteps := 2000000) only [c38,hge,decide_true,↓reduceIte,S0,v_geq,Nat.reduceEqDiff,reduceCtorEq,PV.leaves,ta_s]
      refine pcall_i h14 (W.toC hok') rfl ?_
      simp -implicitDefEqProofs (maxSteps := 2000000) only [c38,W.fromC ok1,hget,v_ld_e,wk,↓reduceIte,S0,Nat.reduceEqDiff,reduceCtorEq,outV,ownsV,List.any_nil,PV.leaves,Nat.reduceBEq,ta_i,isC,Nat.reduceMod,Nat.reduceDiv,ta_rp,dw_rp0]
      refine ⟨⟨by omega, by simp only [List.length_map]; omega⟩, by simp only [List.length_map]; omega, pcall_i h50 (W.toC ok1) rfl ?_⟩
      simp -implicitDefEqProofs (maxSteps := 2000000) only [c38,W.fromC ok2,wd,↓reduceIte,S0,v_sub,Nat.reduceEqDiff,reduceCtorEq,outV,ownsV,List.any_nil,Nat.reduceBEq,kC_c,pO_s,kl_eo,pO_tt,isC,Nat.reduceMod,Nat.reduceDiv,rg_1,kl_rp]
      exact ihj Z hZ
  have key1 : ∀ (f : Tr) (r : List Tr), f.ok → (f.size < (Tr.l2 x a b).size ∨ (f.size ≤ (Tr.l2 x a b).size ∧ f.x.op = x.op)) → r.length + f.size < 1000000000000 → (∀ q ∈ r, q.ok ∧ q.size < (Tr.l2 x a b).size) → putsW (round (hol f.x.op) k (toks T f) ++ tailT T bet k r) w = wf →
      LoopAt X Tryz.prog c38_4 [0, 1, 2, 3, 8, 9] (blkK 0 (seqK X Tryz.prog c38_16 (retS [(3, 3)] [] 1 [] (PV.tp []) [wf.c])))
        { m := 1, tm := [(0, PV.lf (L.tptr 0 0 58)), (1, PV.lf (L.rp [L.int IntKind.i64 x.op, L.int IntKind.i64 x.n, L.str x.t, L.int IntKind.u64 x.s0, L.int IntKind.u64 x.s1, L.int IntKind.u64 x.s2, L.int IntKind.u64 x.s3, L.lst Tag.ro 1 [[L.rp a.c 0], [L.rp b.c 0]] []] 0)),
          (2, PV.lf (L.int IntKind.i64 k)), (3, PV.lf (L.str bet)), (8, PV.lf (L.lst (Tag.own 1024 60) 1 (r.map Tr.r) [])), (9, PV.lf (L.rp f.c 0))], ce := [(0, w.c), (0, w.c)] } := by
    have exit : ∀ (f : Tr) (r : List Tr), f.ok → f.size < (Tr.l2 x a b).size → ¬ f.x.op = x.op → r.length + f.size < 1000000000000 → (∀ q ∈ r, q.ok ∧ q.size < (Tr.l2 x a b).size) → putsW (round (hol f.x.op) k (toks T f) ++ tailT T bet k r) w = wf →
      LoopAt X Tryz.prog c38_4 [0, 1, 2, 3, 8, 9] (blkK 0 (seqK X Tryz.prog c38_16 (retS [(3, 3)] [] 1 [] (PV.tp []) [wf.c])))
        { m := 1, tm := [(0, PV.lf (L.tptr 0 0 58)), (1, PV.lf (L.rp [L.int IntKind.i64 x.op, L.int IntKind.i64 x.n, L.str x.t, L.int IntKind.u64 x.s0, L.int IntKind.u64 x.s1, L.int IntKind.u64 x.s2, L.int IntKind.u64 x.s3, L.lst Tag.ro 1 [[L.rp a.c 0], [L.rp b.c 0]] []] 0)),
          (2, PV.lf (L.int IntKind.i64 k)), (3, PV.lf (L.str bet)), (8, PV.lf (L.lst (Tag.own 1024 60) 1 (r.map Tr.r) [])), (9, PV.lf (L.rp f.c 0))], ce := [(0, w.c), (0, w.c)] } := by
      intro f r hfo hfs hne hlen hr hput
      obtain ⟨l, hl⟩ := tr_c f
      have h50 := r64 T (h f hfs hfo) k w hw
      have ok1 := putsW_ok (round (hol f.x.op) k (toks T f)) hw
      rw [putsW_app] at hput
      generalize putsW (round (hol f.x.op) k (toks T f)) w = w1 at *
      have hml : (r.map Tr.r).length = r.length := List.length_map _
      have k2 := key2 r.length r w1 ok1 (Nat.le_refl _) (by omega) hr (by rw [List.take_length]; exact hput)
      have wm : IntKind.i64.wrap ((r.length : Int) - 1) = (r.length : Int) - 1 := w64 (by omega) (by omega)
      intro Z hZ; apply hZ
      rw [hl] at h50 ⊢
      simp only [List.cons_append, List.nil_append] at h50 ⊢
      simp -implicitDefEqProofs (maxSteps := 2000000) only [c38,hne,decide_false,↓reduceIte,S0,s_exit,s_ops2,s_seqK_e,s_blkK_e,s_loopK_e,s_wopsqK,s_qnil,s_qcons,q_fa,q_ld,q_nc,Nat.reduceEqDiff,reduceCtorEq,PV.leaves,ta_i,ta_rp,dw_rp0,v_fa_r,v_ld_r,v_nc_r]
      refine pcall_i h50 (W.toC hw) rfl ?_
      simp -implicitDefEqProofs (maxSteps := 2000000) only [c38,W.fromC ok1,hml,wm,↓reduceIte,S0,s_loop,v_sub,o_len,v_len,Nat.reduceEqDiff,reduceCtorEq,outV,ownsV,List.any_nil,Nat.reduceBEq,kC_c,pO_s,pO_tt,isC,Nat.reduceMod,Nat.reduceDiv,rg_1,kl_rp]
      intro _
      exact k2
    intro f
    induction f with
    | l0 y =>
      intro r hfo hfs hlen hr hput
      cases hfo with
      | l0 hy ha =>
        have hne := stop y (.inl ha)
        exact exit (.l0 y) r (.l0 hy ha) (hfs.resolve_right (fun e => hne e.2)) hne hlen hr hput
    | l1 y c _ =>
      intro r hfo hfs hlen hr hput
      cases hfo with
      | l1 hy ha hc =>
        have hne := stop y (.inr ha)
        exact exit (.l1 y c) r (.l1 hy ha hc) (hfs.resolve_right (fun e => hne e.2)) hne hlen hr hput
    | l2 y c d ihc _ =>
      intro r hfo hfs hlen hr hput
      by_cases hne : y.op = x.op
      · cases hfo with
        | l2 hy ha hc hd =>
          have hsz : (Tr.l2 y c d).size ≤ (Tr.l2 y c d).size := Nat.le_refl _
          have hc1 : c.size < (Tr.l2 y c d).size := by simp only [Tr.size]; omega
          have hd1 : d.size < (Tr.l2 y c d).size := by simp only [Tr.size]; omega
          have hle : (Tr.l2 y c d).size ≤ (Tr.l2 x a b).size := by rcases hfs with h | h; omega; exact h.1
          have ih := ihc (r ++ [d]) hc (.inl (by omega)) (by simp only [List.length_append, List.length_cons, List.length_nil, Tr.size] at *; omega) (fun q hq => by
            simp only [List.mem_append, List.mem_singleton] at hq
            rcases hq with hq | rfl
            · exact hr q hq
            · exact ⟨hd, by omega⟩) (by
            rw [← hput, tailT_snoc]
            have e1 : toks T (Tr.l2 y c d) = round (hol c.x.op) k (toks T c) ++ [bet] ++ round (hol d.x.op) (k + 1) (toks T d) := by simp only [toks, hne, hk]
            have e2 : round (hol (Tr.l2 y c d).x.op) k (toks T (Tr.l2 y c d)) = toks T (Tr.l2 y c d) := by
              unfold round
              rw [if_neg (by show ¬ hol y.op < k; rw [hne]; exact hnr)]
            rw [e2, e1]
            simp)
          have hg1 : ([[L.rp c.c 0], [L.rp d.c 0]] : List (List L)).getD (Int.toNat 1) [] = [.rp d.c 0] := rfl
          have hg0 : ([[L.rp c.c 0], [L.rp d.c 0]] : List (List L)).getD (Int.toNat 0) [] = [.rp c.c 0] := rfl
          have k3 := W.killP hw (p := 3840) rfl
          intro Z hZ; apply hZ
          simp only [Tr.c, List.cons_append, List.nil_append]
          simp -implicitDefEqProofs (maxSteps := 2000000) only [c38,hne,decide_true,hg1,hg0,v_ld_e,k1,↓reduceIte,S0,s_ops2,s_wopsqK,s_qnil,s_qcons,q_fa,q_ld,q_nc,Nat.reduceEqDiff,Nat.reduceAdd,reduceCtorEq,v_fa_r,v_ld_r,v_nc_r,o_bsf]
          refine ⟨⟨by decide, by decide⟩, by decide, wbsf_n ?_⟩
          have k4 := W.killP hw (p := 3968) rfl
          have k5 := W.renK hw (q := 3968) (p := 1024) rfl rfl
          have k6 := W.lnP hw (p := 1024) rfl
          simp -implicitDefEqProofs (maxSteps := 2000000) only [c38,hg1,hg0,v_ld_e,k1,k3,k4,k5,k6,↓reduceIte,S0,v_bsK,v_lit_n,v_lit_c,o_app,v_app_o,Nat.reduceEqDiff,Nat.reduceAdd,reduceCtorEq,Bool.or_false,List.all_cons,List.all_nil,PV.cells,datL,Nat.reduceMul,Nat.reduceBEq,Nat.reduceLeDiff,kp_b,kp_s,kp_lro,kp_lo,kC_c,pO_s,plT,lit_n,lit_c,List.reduceReplicate,List.set_cons_zero,Nat.lt_add_one,or_false,kp_t,kp_er,rk_t,rk_er,pO_tt,rg_1,kp_rp,rk_rp,rl_rp,pO_r,e_asg_rp,dw_rp0,v_fa_r,v_ld_r,v_nc_r,s_bsC,kp_lk,rk_lk,lp_b,lp_i,lp_s,lp_lr,lp_lo,lp_rp,lp_t,lp_er]
          refine ⟨by simp only [List.length_map]; omega, ⟨by decide, by decide⟩, by decide, ?_⟩
          have hz := ih Z hZ
          simp only [List.map_append, List.map_cons, List.map_nil, Tr.r] at hz
          exact hz
      · exact exit (.l2 y c d) r hfo (hfs.resolve_right (fun e => hne e.2)) hne hlen hr hput
  exact key1 (.l2 x a b) [] hok (.inr ⟨Nat.le_refl _, rfl⟩) (by simp only [List.length_nil]; omega) (fun q hq => by simp at hq) (by
    rw [← hF]
    unfold round
    rw [if_neg (by show ¬ hol x.op < k; exact hnr)]
    simp [tailT])
end Go.Proofs.YtdoefdmaecaacaaGreatDoor.S
set_option linter.unusedVariables false
set_option linter.unusedSimpArgs false
namespace Go.Proofs.YtdoefdmaecaacaaGreatDoor.SL
open Go Go.Proofs.YtdoefdmaecaacaaGreatDoor.AM Go.Proofs Go.Proofs.YtdoefdmaecaacaaGreatDoor.S
variable {X : Cx}
theorem decF_it (n : Int) (h0 : 0 ≤ n) (h1 : n ≤ 50) : (⟨(Lib.decDigits n.toNat).toArray⟩ : ByteArray) = decF n := by
  unfold decF
  by_cases h : n < 10
  · rw [if_pos h, Lib.decDigits_one (by omega)]; rfl
  · rw [if_neg h, Lib.decDigits_two (by omega) (by omega)]
    unfold dgF
    rw [show (n / 10).toNat = n.toNat / 10 by omega, show (n % 10).toNat = n.toNat % 10 by omega]
theorem decF_n (n : Int) : (decF n).size ≤ 65536 := by
  unfold decF
  split <;> (show _ ≤ 65536; simp [ByteArray.size])
theorem r46 (n : Int) (h0 : 0 ≤ n) (h1 : n ≤ 50) : R X Tryz.prog 46 [.lf (.int .i64 n)] [] (.lf (.str (decF n))) [] := by
  refine R_grow rfl fun E w vs hC ha => ?_
  cases ha with
  | cons a1 a2 =>
    cases a2
    cases a1
    have h := itoa44 n.toNat (by omega) w
    rw [show ((n.toNat : Nat) : Int) = n by omega] at h
    refine h.mono ?_
    rintro e w' ⟨rfl, rfl⟩
    refine ⟨by rw [decF_it n h0 h1], rfl, rfl, rfl, Nat.le_refl _, fun b hb _ => rfl⟩
def setF (a b c d : Int) : ByteArray := ⟨(showL a.toNat b.toNat c.toNat d.toNat).toArray⟩
theorem setF_n (a b c d : Int) : (setF a b c d).size ≤ 65536 := by
  have h := sp_ok a.toNat b.toNat c.toNat d.toNat
  have h2 := pieces_len (spN (mems a.toNat b.toNat c.toNat d.toNat))
  show (showL a.toNat b.toNat c.toNat d.toNat).toArray.size ≤ _
  unfold showL
  split
  · simp
  · simp only [List.size_toArray, List.length_cons, List.length_append, List.length_nil]; omega
def txt (hX : X.G 2 = some deBL) : Txt X where
  lit := litF
  dec := decF
  set := setF
  lit_n := litF_n
  dec_n := fun n _ _ => decF_n n
  set_n := setF_n
  h28 := fun s _ => r35 s
  h44 := r46
  h29 := fun a b c d a0 a1 b0 b1 c0 c1 d0 d1 => by
    have := r36 hX a.toNat b.toNat c.toNat d.toNat (by omega) (by omega) (by omega) (by omega)
    rwa [Int.toNat_of_nonneg a0, Int.toNat_of_nonneg b0, Int.toNat_of_nonneg c0, Int.toNat_of_nonneg d0] at this
  h75 := r75
  h74 := r77
  h76 := fun a b c d a0 a1 b0 b1 c0 c1 d0 d1 => by
    have := r76 (X := X) a.toNat b.toNat c.toNat d.toNat (by omega) (by omega) (by omega) (by omega)
    rwa [Int.toNat_of_nonneg a0, Int.toNat_of_nonneg b0, Int.toNat_of_nonneg c0, Int.toNat_of_nonneg d0] at this
end Go.Proofs.YtdoefdmaecaacaaGreatDoor.SL
