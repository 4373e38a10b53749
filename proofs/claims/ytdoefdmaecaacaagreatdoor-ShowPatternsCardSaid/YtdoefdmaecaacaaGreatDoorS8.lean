/- Contracts, part S8. -/
import Derived.Test.YtdoefdmaecaacaaGreatDoorS7
set_option linter.unusedVariables false
set_option linter.unusedSimpArgs false
namespace Go.Proofs.YtdoefdmaecaacaaGreatDoor.S
open Go Go.Proofs.YtdoefdmaecaacaaGreatDoor.AM Go.Proofs
variable {X : Cx}
abbrev sp2B : ByteArray := ⟨#[32, 32]⟩
def TreOK (X : Cx) (p : List Nd) (sh : List (Int × Int)) (i d : Nat) (ts : List ByteArray) : Prop :=
  ∀ (q : TS) (sp sp2 : List (List L)), q.1.length ≤ 70000 → R X Tryz.prog 29 [.lf (.ptr 0 0), ow q, .lf (.int .i64 i), .lf (.int .i64 d)] [tc p sp sh sp2 q.2] (or0 (putsT ts q)) [tc p sp sh sp2 (putsT ts q).2]
theorem putsT_rep (d : Nat) (s : ByteArray) (q : TS) : putsT (List.replicate (d + 1) s) q = putsT (List.replicate d s) (putT s q) := rfl
theorem tre1 (T : Txt X) {p : List Nd} {sh : List (Int × Int)} {i d : Nat} {x : Nd} (hd : d ≤ 3000) (kl : List (Nat × List ByteArray)) (hkf : kidsF p sh (i : Int) = kl.map fun k => (k.1 : Int)) (hlen : kl.length ≤ 2)
    (hkl : ∀ k ∈ kl, TreOK X p sh k.1 (d + 1) k.2) (hx : x.ok) (h0 : i < p.length) (h1 : p.getD i nd0 = x) (h2 : arF x.op = 2 → 0 < i) (hp : p.length ≤ 2048) (hl : sh.length = p.length) (hI : ShI sh) :
    TreOK X p sh i d (List.replicate d sp2B ++ ([lineR T x ++ ⟨#[10]⟩] ++ kl.flatMap fun k => k.2)) := by
  intro q sp sp2 hq
  have hml : (p.map Nd.c).length = p.length := List.length_map _
  have hg := getC h0 h1
  have h73 := r49 (X := X) p sp sp2 sh (i : Int) (by omega) (by omega) hp hl hI (by rw [Int.toNat_natCast, h1]; intro k; have := h2 k; omega)
  rw [hkf, List.map_map] at h73
  have h48 := r48 T x hx
  have hln := lineR_n T hx
  have h55 := fun s hs q hq => r47 (X := X) p sp sh sp2 s hs q hq
  have lc : ByteArray.size ⟨#[10]⟩ = 1 := rfl
  have lns : (lineR T x ++ ⟨#[10]⟩ : ByteArray).size ≤ 1073741824 := by rw [ByteArray.size_append]; omega
  have wd : IntKind.i64.wrap ((d : Int) + 1) = ((d + 1 : Nat) : Int) := by rw [w64 (by omega) (by omega)]; omega
  generalize hF : putsT (List.replicate d sp2B ++ ([lineR T x ++ ⟨#[10]⟩] ++ kl.flatMap fun k => k.2)) q = F
  rw [putsT_app, putsT_app] at hF
  -- the kids
  have key2 : ∀ (a b : List (Nat × List ByteArray)) (q' : TS), b ++ a = kl → q'.1.length ≤ 70000 → putsT (a.flatMap fun k => k.2) q' = F →
      LoopAt X Tryz.prog c29_12 [0, 1, 3, 10, 11] (blkK 2 (seqK X Tryz.prog c29_16 (retS [(0, 1024)] [] 1 [RV.t 8] (or0 F) [tc p sp sh sp2 F.2])))
        { m := 1, tm := [(0, PV.lf (L.ptr 0 0)), (1, PV.lf (L.lst (Tag.own 128 5) 1 (ub q'.1) [])), (3, PV.lf (L.int IntKind.i64 (d : Nat))), (10, PV.lf (L.lst (Tag.own 1280 3) 1 (kl.map fun k => [L.int .i64 (k.1 : Int)]) [])), (11, PV.lf (L.int IntKind.i64 (b.length : Nat)))],
          ce := [(0, tc p sp sh sp2 q'.2), (0, tc p sp sh sp2 q'.2)] } := by
    intro a
    induction a with
    | nil =>
      intro b q' hb hq' hput
      have e : q' = F := hput
      subst e
      simp only [List.append_nil] at hb
      have hlt : ¬ (b.length : Int) < (kl.length : Int) := by rw [hb]; omega
      intro Z hZ; apply hZ
      simp -implicitDefEqProofs (maxSteps := 2000000) only [c29,hlt,decide_false,List.length_map,↓reduceIte,S0,s_exit,s_seqK_e,s_blkK_e,s_loopK_e,o_len,v_len,Nat.reduceEqDiff,reduceCtorEq,Bool.not_true,t_rr,Nat.reduceMul,Nat.reduceBEq,plT,Nat.lt_add_one,true_or,or_true,implies_true]
    | cons k a ih =>
      intro b q' hb hq' hput
      have hbl : b.length < kl.length := by rw [← hb]; simp
      have hlt : (b.length : Int) < (kl.length : Int) := by omega
      have hget : (kl.getD ((b.length : Nat) : Int).toNat default) = k := by
        rw [Int.toNat_natCast, List.getD_eq_getElem?_getD, ← hb]; simp
      have hk := hkl k (by rw [← hb]; simp) q' sp sp2 hq'
      have okk := putsT_ok k.2 hq'
      simp only [List.flatMap_cons] at hput
      rw [putsT_app] at hput
      have wb : IntKind.i64.wrap ((b.length : Int) + 1) = ((b.length + 1 : Nat) : Int) := by rw [w64 (by omega) (by omega)]; omega
      obtain ⟨y', g'⟩ := q'
      intro Z hZ; apply hZ
      cases g' with
      | true =>
        rw [putsT_g, putsT_g] at hput
        subst hput
        simp -implicitDefEqProofs (maxSteps := 2000000) only [c29,hlt,decide_true,List.length_map,↓reduceIte,S0,s_exit,s_seqK_e,s_blkK_e,s_loopK_e,q_un,q_fa,q_ld,q_nc,o_un,v_not,v_nc_p,o_len,v_len,Nat.reduceEqDiff,reduceCtorEq,cond_false,Bool.not_true,t_rr,Nat.reduceMul,Nat.reduceBEq,plT,Nat.lt_add_one,true_or,or_true,implies_true]
      | false =>
        have hih := ih (b ++ [k]) (putsT k.2 (y', false)) (by simp [← hb]) okk hput Z hZ
        generalize putsT k.2 (y', false) = z at *
        simp only [List.length_append, List.length_cons, List.length_nil, Nat.zero_add] at hih
        simp -implicitDefEqProofs (maxSteps := 2000000) only [c29,hlt,decide_true,List.length_map,hget,wd,↓reduceIte,S0,q_un,q_fa,q_ld,q_nc,o_un,v_not,v_ld_m,v_nc_p,o_len,v_len,Nat.reduceEqDiff,reduceCtorEq,cond_false,Bool.not_false,PV.leaves]
        intro _
        refine ⟨⟨by omega, by omega⟩, by omega, ?_⟩
        refine wcallg_g 1 rfl (by decide) rfl ?_
        simp -implicitDefEqProofs (maxSteps := 2000000) only [c29,↓reduceIte,S0,Nat.reduceEqDiff,Nat.reduceAdd,Bool.not_true,PV.leaves,Nat.reduceMul,Nat.reduceBEq,isC,cplc,Nat.reduceMod,Nat.reduceDiv,tg_i,nC_i,gv_0]
        refine pcall_i hk rfl rfl ?_
        simp -implicitDefEqProofs (maxSteps := 2000000) only [c29,wb,↓reduceIte,S0,Nat.reduceEqDiff,Nat.reduceAdd,reduceCtorEq,outV,ownsV,owns1,ownL,Nat.reduceMul,Nat.reduceBEq,kps_lo,kC_c,pO_p,plT,isC,Nat.reduceMod,Nat.reduceDiv,rg_1]
        exact hih
  have key1 : ∀ (n m pl : Nat) (q' : TS), n + m = d → (pl = 127 ∨ pl = 128) → q'.1.length ≤ 70000 → putsT (kl.flatMap fun k => k.2) (putsT [lineR T x ++ ⟨#[10]⟩] (putsT (List.replicate n sp2B) q')) = F →
      LoopAt X Tryz.prog c29_4 [0, 1, 2, 3, 9] (blkK 0 (seqK X Tryz.prog c29_19 (retS [(0, 1024)] [] 1 [RV.t 8] (or0 F) [tc p sp sh sp2 F.2])))
        { m := 1, tm := [(0, PV.lf (L.ptr 0 0)), (1, PV.lf (L.lst (Tag.own pl 5) 1 (ub q'.1) [])), (2, PV.lf (L.int IntKind.i64 (i : Nat))), (3, PV.lf (L.int IntKind.i64 (d : Nat))), (9, PV.lf (L.int IntKind.i64 (m : Nat)))],
          ce := [(0, tc p sp sh sp2 q'.2), (0, tc p sp sh sp2 q'.2)] } := by
    intro n
    induction n with
    | zero =>
      intro m pl q' hm hpl hq' hput
      have hlt : ¬ (m : Int) < (d : Int) := by omega
      have hput : putsT (kl.flatMap fun k => k.2) (putT (lineR T x ++ ⟨#[10]⟩) q') = F := hput
      have h1 := h55 _ lns q' hq'
      have ok1 := putT_ok (s := lineR T x ++ ⟨#[10]⟩) hq'
      generalize putT (lineR T x ++ ⟨#[10]⟩) q' = z at *
      intro Z hZ; apply hZ
      rcases hpl with rfl | rfl
      all_goals
        simp -implicitDefEqProofs (maxSteps := 2000000) only [c29,hlt,decide_false,hg,v_ld_e,hml,↓reduceIte,S0,s_exit,s_seqK_e,s_blkK_e,s_loopK_e,v_part_t,v_nc_p,Nat.reduceEqDiff,Nat.reduceAdd,reduceCtorEq,PV.leaves,Nat.le_refl,List.drop_zero,List.take_succ_cons,List.take_nil,rl_s]
        refine ⟨⟨by omega, by omega⟩, by omega, wcall_s h48 rfl rfl ?_⟩
        simp -implicitDefEqProofs (maxSteps := 2000000) only [c29,↓reduceIte,S0,v_sadd,Nat.reduceEqDiff,St.clr,outV,ownsV,owns1,ownL,PV.leaves]
        refine ⟨by omega, ?_⟩
        first | refine wcallg_h 1 rfl rfl rfl ?_ | refine wcallg_g 1 rfl (by decide) rfl ?_
        simp -implicitDefEqProofs (maxSteps := 2000000) only [c29,↓reduceIte,S0,Nat.reduceEqDiff,Nat.reduceAdd,Bool.not_true,PV.leaves,Nat.reduceMul,Nat.reduceBEq,rk_er,isC,cplc,Nat.reduceMod,Nat.reduceDiv,tg_s,nC_s,gv_0]
        refine pcall_i h1 rfl rfl ?_
        simp -implicitDefEqProofs (maxSteps := 2000000) only [c29,↓reduceIte,S0,s_wopsqK,s_qnil,s_qcons,q_fa,q_ld,q_nc,v_nc_p,Nat.reduceEqDiff,Nat.reduceAdd,reduceCtorEq,outV,ownsV,owns1,ownL,PV.leaves,Nat.reduceMul,Nat.reduceBEq,kps_s,rl_l,plT,kps_er,rk_er,kl_er,s_reg,isC,Nat.reduceMod,Nat.reduceDiv]
        refine wcall_down h73 rfl ?_
        simp -implicitDefEqProofs (maxSteps := 2000000) only [c29,List.contains_cons,List.contains_nil,Nat.reduceBEq,Bool.or_self,Bool.false_or,Bool.or_false,↓reduceIte,S0,s_loop,Nat.reduceEqDiff,Nat.reduceAdd,reduceCtorEq,St.clr,outV,ownsV,owns1,ownL,Bool.or_self,Nat.reduceMul,Nat.reduceBEq,kps_lo,kC_c,pO_p,plT,rg_1]
        exact key2 kl [] z rfl ok1 hput
    | succ n ih =>
      intro m pl q' hm hpl hq' hput
      have hlt : (m : Int) < (d : Int) := by omega
      rw [putsT_rep] at hput
      have h1 := h55 sp2B (by decide) q' hq'
      have ok1 := putT_ok (s := sp2B) hq'
      have hih := ih (m + 1) 128 (putT sp2B q') (by omega) (.inr rfl) ok1 hput
      generalize putT sp2B q' = z at *
      have wm : IntKind.i64.wrap ((m : Int) + 1) = ((m + 1 : Nat) : Int) := by rw [w64 (by omega) (by omega)]; omega
      intro Z hZ; apply hZ
      have hz := hih Z hZ
      rcases hpl with rfl | rfl
      all_goals
        simp -implicitDefEqProofs (maxSteps := 2000000) only [c29,hlt,decide_true,↓reduceIte,S0,Nat.reduceEqDiff,reduceCtorEq,PV.leaves]
        first | refine wcallg_h 1 rfl rfl rfl ?_ | refine wcallg_g 1 rfl (by decide) rfl ?_
        simp -implicitDefEqProofs (maxSteps := 2000000) only [c29,↓reduceIte,S0,Nat.reduceEqDiff,Nat.reduceAdd,Bool.not_true,PV.leaves,Nat.reduceMul,Nat.reduceBEq,isC,cplc,Nat.reduceMod,Nat.reduceDiv,tg_s,nC_s,gv_0]
        refine pcall_i h1 rfl rfl ?_
        simp -implicitDefEqProofs (maxSteps := 2000000) only [c29,wm,↓reduceIte,S0,Nat.reduceEqDiff,Nat.reduceAdd,reduceCtorEq,outV,ownsV,owns1,ownL,Nat.reduceMul,Nat.reduceBEq,kC_c,pO_p,plT,isC,Nat.reduceMod,Nat.reduceDiv,rg_1]
        exact hz
  refine R_i [(0, 1024)] [] c29_ok rfl (by simp) ?_
  simp -implicitDefEqProofs (maxSteps := 2000000) only [c29,↓reduceIte,S0,s_loop,St.init,enum,Nat.reduceEqDiff,Nat.reduceAdd,reduceCtorEq,Nat.reduceMul,Nat.reduceBEq,kp_b,kp_p,kp_lro,kp_lo,e_asg_n,kC_c,pO_p,plT,rg_1]
  exact key1 d 0 127 q (by omega) (.inl rfl) hq hF
section
variable (T : Txt X)
def treeTR : Tr → Nat → List ByteArray
  | .l0 x, d => List.replicate d sp2B ++ ([lineR T x ++ ⟨#[10]⟩] ++ [])
  | .l1 x a, d => List.replicate d sp2B ++ ([lineR T x ++ ⟨#[10]⟩] ++ (treeTR a (d + 1) ++ []))
  | .l2 x a b, d => List.replicate d sp2B ++ ([lineR T x ++ ⟨#[10]⟩] ++ (treeTR a (d + 1) ++ (treeTR b (d + 1) ++ [])))
end
theorem tre_ok (T : Txt X) {p : List Nd} {sh : List (Int × Int)} (hp : p.length ≤ 2048) (hl : sh.length = p.length) (hI : ShI sh) {i : Nat} {t : Tr} (h : AtT p sh i t) : ∀ d : Nat, d + t.size ≤ 3000 → t.ok → TreOK X p sh i d (treeTR T t d) := by
  induction h with
  | @l0 i x h0 h1 h2 ha =>
    intro d hd hk
    cases hk with
    | l0 hx _ =>
      have hkf : kidsF p sh (i : Int) = [] := by unfold kidsF; rw [Int.toNat_natCast, h1, ha]; rfl
      exact tre1 T (by omega) [] hkf (by simp) (by simp) hx h0 h1 (fun k => by omega) hp hl hI
  | @l1 i x a h0 h1 h2 ha h ih =>
    intro d hd hk
    simp only [Tr.size] at hd
    cases hk with
    | l1 hx _ hc =>
      have hkf : kidsF p sh ((i + 1 : Nat) : Int) = [(i : Int)] := by unfold kidsF; rw [Int.toNat_natCast, h1, ha, if_pos rfl]; congr 1; omega
      refine tre1 T (by omega) [(i, treeTR T a (d + 1))] hkf (by simp) ?_ hx h0 h1 (fun k => by omega) hp hl hI
      intro k hk
      simp only [List.mem_singleton] at hk
      subst hk
      exact ih (d + 1) (by omega) hc
  | @l2 i x a b h0 h1 h2 ha h hb h' ih ih' =>
    intro d hd hk
    simp only [Tr.size] at hd
    cases hk with
    | l2 hx _ hc hcd =>
      have hpos := b.pos
      have hpos2 := a.pos
      have hbb := h.b
      have hkf : kidsF p sh ((i + 1 : Nat) : Int) = [((i - b.size : Nat) : Int), (i : Int)] := by
        unfold kidsF; rw [Int.toNat_natCast, h1, ha, if_neg (by decide), if_pos rfl]
        rw [show (((i + 1 : Nat) : Int) - 1).toNat = i by omega, hbb]
        congr 1
        · omega
        · congr 1; omega
      refine tre1 T (by omega) [(i - b.size, treeTR T a (d + 1)), (i, treeTR T b (d + 1))] hkf (by simp) ?_ hx h0 h1 (fun _ => by omega) hp hl hI
      intro k hk
      simp only [List.mem_cons, List.not_mem_nil, or_false] at hk
      rcases hk with rfl | rfl
      · exact ih' (d + 1) (by omega) hc
      · exact ih (d + 1) (by omega) hcd
theorem lineR_b (T : Txt X) (x : Nd) : (lineR T x ++ ⟨#[10]⟩ : ByteArray).data.toList = (wordB x.op ++ sfxB T x) ++ [10] := by
  have e2 : (SL.wordF x.op).data.toList = wordB x.op := rfl
  have e3 : (⟨#[32]⟩ : ByteArray).data.toList = [32] := rfl
  have e4 : (⟨#[10]⟩ : ByteArray).data.toList = [10] := rfl
  unfold lineR sfxB
  rw [bapp, e4]
  (repeat' split) <;> simp only [bapp, e2, e3, List.append_assoc, List.cons_append, List.nil_append, List.append_nil]
theorem rep_b (d : Nat) : (List.replicate d sp2B).flatMap (fun s => s.data.toList) = List.replicate (2 * d) 32 := by
  induction d with
  | zero => rfl
  | succ d ih =>
    rw [List.replicate_succ, List.flatMap_cons, ih, show 2 * (d + 1) = 2 * d + 1 + 1 by omega, List.replicate_succ, List.replicate_succ]
    rfl
theorem treeTR_b (T : Txt X) : ∀ (t : Tr) (d : Nat), (treeTR T t d).flatMap (fun s => s.data.toList) = linB T t (2 * d)
  | .l0 x, d => by
    rw [linB0]
    simp only [treeTR, List.flatMap_append, List.flatMap_cons, List.flatMap_nil, List.append_nil, rep_b, lineR_b, List.append_assoc]
  | .l1 x a, d => by
    rw [linB1, show 2 * d + 2 = 2 * (d + 1) by omega, ← treeTR_b T a (d + 1)]
    simp only [treeTR, List.flatMap_append, List.flatMap_cons, List.flatMap_nil, List.append_nil, rep_b, lineR_b, List.append_assoc, List.cons_append, List.nil_append]
  | .l2 x a b, d => by
    rw [linB2, show 2 * d + 2 = 2 * (d + 1) by omega, ← treeTR_b T a (d + 1), ← treeTR_b T b (d + 1)]
    simp only [treeTR, List.flatMap_append, List.flatMap_cons, List.flatMap_nil, List.append_nil, rep_b, lineR_b, List.append_assoc, List.cons_append, List.nil_append]
theorem putsT_sum : ∀ (l : List ByteArray) (y : List UInt8), y.length ≤ 65536 → (putsT l (y, false) = (y ++ l.flatMap (fun s => s.data.toList), false) ∧ (y ++ l.flatMap (fun s => s.data.toList)).length ≤ 65536) ∨ ((putsT l (y, false)).2 = true ∧ 65536 < (y ++ l.flatMap (fun s => s.data.toList)).length)
  | [], y, h => by
    left
    exact ⟨by simp [putsT], by simpa using h⟩
  | s :: r, y, h => by
    have e : s.data.toList.length = s.size := by rw [Array.length_toList]; rfl
    by_cases h1 : 65536 < y.length + s.size
    · right
      have e1 : putT s (y, false) = (y, true) := by unfold putT; rw [if_pos (.inr h1)]
      simp only [putsT]
      rw [e1, putsT_g]
      refine ⟨rfl, ?_⟩
      simp only [List.flatMap_cons, List.length_append]
      omega
    · have e1 : putT s (y, false) = (y ++ s.data.toList, false) := by
        unfold putT
        rw [if_neg (by simp only [Bool.false_eq_true, false_or]; exact h1)]
      simp only [putsT]
      rw [e1, List.flatMap_cons, ← List.append_assoc]
      exact putsT_sum r (y ++ s.data.toList) (by simp only [List.length_append]; omega)
theorem puts_same {a b : List ByteArray} (h : a.flatMap (fun s => s.data.toList) = b.flatMap (fun s => s.data.toList)) : (putsT a ([], false)).2 = (putsT b ([], false)).2 ∧ ((putsT a ([], false)).2 = false → (putsT a ([], false)).1 = (putsT b ([], false)).1) := by
  rcases putsT_sum a [] (by simp) with ⟨h1, h2⟩ | ⟨h1, h2⟩ <;> rcases putsT_sum b [] (by simp) with ⟨h3, h4⟩ | ⟨h3, h4⟩
  · rw [h1, h3, h]; exact ⟨rfl, fun _ => rfl⟩
  · rw [h] at h2; omega
  · rw [h] at h2; omega
  · rw [h1, h3]; exact ⟨rfl, fun h => by cases h⟩
section
variable (T : Txt X)
def refT (p : List Nd) : ByteArray × Int :=
  if ¬ (chk p).2 = 0 then (⟨#[]⟩, (chk p).2) else
  match treeP p with
  | some t => if (putsT (treeTR T t 0) ([], false)).2 = true then (⟨#[]⟩, 2) else (⟨(putsT (treeTR T t 0) ([], false)).1.toArray⟩, 0)
  | none => (⟨#[]⟩, 0)
end
theorem refT_tree (T : Txt X) (p : List Nd) (hwf : ∀ x ∈ p, x.wf) : refT T p = treeG T p := by
  unfold refT treeG
  by_cases hc : (chk p).2 = 0
  · have hc' : ¬ ¬ (chk p).2 = 0 := fun h => h hc
    rw [if_neg hc', if_neg hc']
    obtain ⟨t, hb, hto, hts, hpl⟩ := chk_tree hwf hc
    have h0 : treeP p = some t := by simp only [treeP, hb]
    have h1 : linP T p = linesT T t 0 := by simp only [linP, treeP, hb]
    have h4 := pr_puts (linesT T t 0) w0
    have h5 : w0.pr = (([] : List UInt8), false) := rfl
    rw [h5] at h4
    have h6 : (treeTR T t 0).flatMap (fun s => s.data.toList) = (linesT T t 0).flatMap (fun s => s.data.toList) := treeTR_b T t 0
    obtain ⟨a1, a2⟩ := puts_same h6
    rw [h0, h1]
    simp only
    rw [← h4] at a1 a2
    have b1 : (putsW (linesT T t 0) w0).pr.2 = (putsW (linesT T t 0) w0).g := rfl
    have b2 : (putsW (linesT T t 0) w0).pr.1 = (putsW (linesT T t 0) w0).y := rfl
    rw [b1] at a1
    rw [b2] at a2
    rw [a1]
    split
    · rfl
    · rename_i hg
      rw [a2 (by rw [a1]; simpa using hg)]
  · rw [if_pos hc, if_pos hc]
theorem R_nl2 {P : Program} {f n e p : Nat} {a : PV} {args : List PV} {cs cs' : List (List L)} {r : PV} (h : R X P f (a :: .lf (.lst (.own p e) n [] []) :: args) cs r cs') : R X P f (a :: .lf (.lst .nl n [] []) :: args) cs r cs' := by
  intro E w vs hX hI hk ha hC
  cases ha with
  | cons h1 h2 => cases h2 with
    | cons h3 h4 => exact h E w _ hX hI hk (.cons h1 (.cons (nl_own h3) h4)) hC
theorem r11z (T : Txt X) (p : List Nd) (sp : List (List L)) (hwf : ∀ x ∈ p, x.wf) :
    R X Tryz.prog 11 [.lf (.lst .ro 7 (p.map Nd.c) sp)] [] (.tp [.lf (.str (refT T p).1), .lf (.int .i64 (refT T p).2)]) [] := by
  have h36 := r25 (X := X) p sp
  have hml : (p.map Nd.c).length = p.length := List.length_map _
  refine R_i [] [] c11_ok rfl (by simp) ?_
  by_cases hc : (chk p).2 = 0
  · obtain ⟨t, hb, hto, hts, hpl, hpos, hat, hI, hl⟩ := at_tree hwf hc
    have h0 : treeP p = some t := by simp only [treeP, hb]
    have h37 := r28 (X := X) p sp hc
    have hn := tre_ok T hpl hl hI hat 0 (by omega) hto
    have h29 := fun sp2 => hn ([], false) sp sp2 (by simp)
    have w1 : IntKind.i64.wrap ((p.length : Int) - 1) = ((p.length - 1 : Nat) : Int) := by rw [w64 (by omega) (by omega)]; omega
    rw [hc] at h36
    unfold refT
    rw [if_neg (fun h => h hc), h0]
    simp only
    generalize putsT (treeTR T t 0) ([], false) = z at *
    obtain ⟨zy, zg⟩ := z
    simp -implicitDefEqProofs (maxSteps := 2000000) only [c11,↓reduceIte,S0,St.init,enum,reduceCtorEq,PV.leaves,rl_l]
    refine wcall_s h36 rfl rfl ?_
    simp -implicitDefEqProofs (maxSteps := 2000000) only [c11,↓reduceIte,S0,v_neq,o_ext,v_ext0,v_ext1,Nat.reduceEqDiff,reduceCtorEq,St.clr,outV,ownsV,owns1,ownL,List.any_cons,List.any_nil,Bool.or_self,PV.leaves,rl_l,m_1l,ne_eq,ite_not]
    refine wcall_down h37 rfl ?_
    simp -implicitDefEqProofs (maxSteps := 2000000) only [c11,hml,w1,List.contains_cons,List.contains_nil,Nat.reduceBEq,Bool.or_self,Bool.false_or,Bool.or_false,↓reduceIte,S0,v_sub,o_bx,o_bd,v_agK,v_bd_n,v_bd_c,o_len,v_len,Nat.reduceEqDiff,Nat.reduceAdd,reduceCtorEq,St.clr,outV,ownsV,owns1,ownL,PV.leaves,List.all_cons,List.all_nil,PV.cells,cellL,fillL,Nat.reduceMul,Nat.reduceLeDiff,Nat.zero_le,List.take_zero,List.drop_zero,List.take_succ_cons,List.drop_succ_cons,kc_b,kc_i,kc_l,e_asg_p,plT,ne_eq,not_false_eq_true,v_bx_a]
    intro _
    refine wcallg_n 1 rfl rfl ?_
    simp -implicitDefEqProofs (maxSteps := 2000000) only [c11,List.contains_cons,List.contains_nil,Nat.reduceBEq,Bool.or_self,Bool.false_or,Bool.or_false,↓reduceIte,S0,Nat.reduceEqDiff,Bool.not_false,PV.leaves,Nat.reduceBEq,ro_b,ro_i,ro_p,ro_lro,ro_lo,dw_ln,dw_lo,isC,Nat.reduceMod,Nat.reduceDiv,tg_i,tg_ln,nC_i,nC_ln]
    refine pcall_i (R_nl2 (h29 _)) rfl rfl ?_
    simp -implicitDefEqProofs (maxSteps := 2000000) only [c11,↓reduceIte,S0,o_cbs,v_nc_p,Nat.reduceEqDiff,Nat.reduceAdd,reduceCtorEq,outV,ownsV,owns1,ownL,Nat.reduceMul,Nat.reduceBEq,plT,v_cbs_ub]
    cases zg with
    | true =>
      simp -implicitDefEqProofs (maxSteps := 2000000) only [c11,↓reduceIte,S0]
    | false =>
      simp -implicitDefEqProofs (maxSteps := 2000000) only [c11,↓reduceIte,S0]
  · unfold refT
    rw [if_pos hc]
    simp -implicitDefEqProofs (maxSteps := 2000000) only [c11,↓reduceIte,S0,St.init,enum,reduceCtorEq,PV.leaves,rl_l]
    refine wcall_s h36 rfl rfl ?_
    simp -implicitDefEqProofs (maxSteps := 2000000) only [c11,hc,↓reduceIte,S0,v_neq,o_ext,v_ext0,v_ext1,Nat.reduceEqDiff,reduceCtorEq,St.clr,outV,ownsV,owns1,ownL,List.any_cons,List.any_nil,Bool.or_self,m_1l,ne_eq,not_false_eq_true]
end Go.Proofs.YtdoefdmaecaacaaGreatDoor.S
set_option linter.unusedVariables false
set_option linter.unusedSimpArgs false
namespace Go.Proofs.YtdoefdmaecaacaaGreatDoor.S
open Go Go.Proofs.YtdoefdmaecaacaaGreatDoor.AM Go.Proofs
variable {X : Cx}
theorem r3z (hA : X.G 0 = some SL.asciiL) (T : Txt X) (P : TxP T) (ha : T.lit ⟨#[97]⟩ = ⟨#[39, 97, 39]⟩) (hb : T.lit ⟨#[98]⟩ = ⟨#[39, 98, 39]⟩) (p : List Nd) (sp : List (List L)) (hwf : ∀ x ∈ p, x.wf) (hp : p.length ≤ 2199023255488) :
    R X Tryz.prog 3 [.lf (.lst .ro 7 (p.map Nd.c) sp)] [] (.lf (.bool true)) [] := by
  have h7 := r7 (X := X) p sp hp
  have h8 := rA_21 T P p [mkN] hwf
  have h9 := r9z T p sp hwf
  have h10 := r10 hA T p [mkN] hwf
  have h11 := r11z T p sp hwf
  have h12 := r12 (X := X) p sp hp
  have h13 := r13 T ha hb
  rw [refP_show T p hwf] at h9
  rw [refT_tree T p hwf] at h11
  generalize showP T p = a at *
  generalize treeG T p = b at *
  obtain ⟨x, e⟩ := a
  obtain ⟨s, g⟩ := b
  refine R_i [] [] c3_ok rfl (by simp) ?_
  simp -implicitDefEqProofs (maxSteps := 2000000) only [c3,↓reduceIte,S0,St.init,enum,reduceCtorEq,PV.leaves,rl_l]
  refine wcall_down h7 rfl ?_
  simp -implicitDefEqProofs (maxSteps := 2000000) only [c3,↓reduceIte,S0,Nat.reduceAdd,reduceCtorEq,St.clr,outV,ownsV,owns1,ownL,PV.leaves,Nat.reduceMul,Nat.reduceBEq,rl_l,plT]
  refine wcall_down h8 rfl ?_
  simp -implicitDefEqProofs (maxSteps := 2000000) only [c3,↓reduceIte,S0,o_ext,v_ext0,v_ext1,Nat.reduceEqDiff,reduceCtorEq,St.clr,outV,ownsV,owns1,ownL,List.any_cons,List.any_nil,Bool.or_self,PV.leaves,ro_lro,ro_lo,rl_l,m_1l,dw_lo]
  refine wcall_down h9 rfl ?_
  simp -implicitDefEqProofs (maxSteps := 2000000) only [c3,↓reduceIte,S0,o_ext,v_ext0,v_ext1,Nat.reduceEqDiff,reduceCtorEq,St.clr,outV,ownsV,owns1,ownL,List.any_cons,List.any_nil,Bool.or_self,PV.leaves,rl_l,m_1l]
  refine wcall_down h10 rfl ?_
  simp -implicitDefEqProofs (maxSteps := 2000000) only [c3,↓reduceIte,S0,o_ext,v_ext0,v_ext1,Nat.reduceEqDiff,reduceCtorEq,St.clr,outV,ownsV,owns1,ownL,List.any_cons,List.any_nil,Bool.or_self,PV.leaves,rl_l,m_1l]
  refine wcall_down h11 rfl ?_
  simp -implicitDefEqProofs (maxSteps := 2000000) only [c3,↓reduceIte,S0,q_call,v_seql,o_ext,v_ext0,v_ext1,Nat.reduceEqDiff,reduceCtorEq,cond_false,St.clr,outV,ownsV,owns1,ownL,List.any_cons,List.any_nil,Bool.or_self,PV.leaves,rl_l,m_1l]
  refine wcall_s h12 rfl rfl ?_
  simp -implicitDefEqProofs (maxSteps := 2000000) only [c3,↓reduceIte,S0,q_call,Nat.reduceEqDiff,cond_false,St.clr,outV,ownsV,owns1,ownL,PV.leaves,ol_b]
  refine wcall_s h13 rfl rfl ?_
  simp -implicitDefEqProofs (maxSteps := 2000000) only [c3,↓reduceIte,S0,Nat.reduceEqDiff,St.clr,outV,ownsV,owns1,ownL,ol_b]
theorem txP (hX : X.G 2 = some SL.deBL) : TxP (SL.txt hX) where
  lit := fun s hs => by
    show 0 < (SL.litF s).size
    have := congrArg List.length (SL.lit_b hs)
    rw [Array.length_toList] at this
    have e : (SL.litF s).data.size = (SL.litF s).size := rfl
    simp only [List.length_cons] at this
    omega
  set := fun a b c d => by
    show 0 < (SL.showL a.toNat b.toNat c.toNat d.toNat).toArray.size
    rw [List.size_toArray]
    unfold SL.showL
    split <;> simp
def cxT : Cx := ⟨fun g => if g = 2 then some SL.deBL else if g = 0 then some SL.asciiL else none⟩
theorem cxT_2 : cxT.G 2 = some SL.deBL := rfl
theorem cxT_0 : cxT.G 0 = some SL.asciiL := rfl
set_option maxRecDepth 100000 in
theorem asc_glob {w : World} {fuel : Nat} {cs : Array Value} {ps : List MemPlace} {d : DataW Unit} (hv : w.var? Tryz.prog "strings.asciiSpace" = some cs)
    (h : DataW.trod (fun _ => ()) Tryz.prog w 0 (fun _ => true) false fuel 150 cs.toList = some (d, ps)) (hd : d = .agg (Lib.asciiSpaceTab.map fun n => .lit (.int .u8 n))) : GlobOK w 0 SL.asciiL := by
  subst hd
  exact glob_ints (by kernel_rfl) hv (table_ints Tryz.underlying150 Tryz.underlying5 (by kernel_rfl) (by kernel_rfl) h) (by decide +kernel)
theorem r3S (p : List Nd) (sp : List (List L)) (hwp : ∀ x ∈ p, x.wf) (hp : p.length ≤ 2199023255488) : R cxT Tryz.prog 3 [.lf (.lst .ro 7 (p.map Nd.c) sp)] [] (.lf (.bool true)) [] :=
  r3z cxT_0 (SL.txt cxT_2) (txP cxT_2) (by decide +kernel) (by decide +kernel) p sp hwp hp
end Go.Proofs.YtdoefdmaecaacaaGreatDoor.S
