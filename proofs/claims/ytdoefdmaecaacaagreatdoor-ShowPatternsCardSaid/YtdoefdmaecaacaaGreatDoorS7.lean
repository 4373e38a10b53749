/- Contracts, part S7. -/
import Derived.Test.YtdoefdmaecaacaaGreatDoorS6
import Derived.Test.YtdoefdmaecaacaaGreatDoorS4
import Derived.Test.YtdoefdmaecaacaaGreatDoorS3
import Derived.Test.YtdoefdmaecaacaaGreatDoorAmLaid
import Derived.Test.YtdoefdmaecaacaaGreatDoorS5
set_option linter.unusedVariables false
set_option linter.unusedSimpArgs false
namespace Go.Proofs.YtdoefdmaecaacaaGreatDoor.S
open Go Go.Proofs.YtdoefdmaecaacaaGreatDoor.AM Go.Proofs
variable {X : Cx}
structure Nd.ri (x : Nd) : Prop where
  wf : x.wf
  ar : ¬ arF x.op < 0
  fl : fldB x = true
theorem chkR_fl {p : List Nd} : ∀ (q : List Nd) (i : Int) (sh : List (Int × Int)), (chkR p q i sh).2.1 = 0 → ∀ x ∈ q, ¬ arF x.op < 0 ∧ fldB x = true
  | [], _, _, _, x, hx => by simp at hx
  | y :: q, i, sh, h, x, hx => by
    simp only [chkR] at h
    split at h
    · rename_i h0
      have h1 := chkR_fl q (i + 1) _ h
      rcases List.mem_cons.1 hx with rfl | hx
      · unfold shC at h0
        split at h0
        · cases h0
        · rename_i ha
          split at h0
          · cases h0
          · rename_i hf
            exact ⟨ha, by simpa using hf⟩
      · exact h1 x hx
    · rename_i h0
      exact absurd h h0
theorem chk_fl {p : List Nd} (hw : ∀ x ∈ p, x.wf) (h : (chk p).2 = 0) : ∀ x ∈ p, x.ri := by
  unfold chk at h
  split at h
  · cases h
  unfold eachF at h
  split at h
  · rename_i h0
    intro x hx
    obtain ⟨h1, h2⟩ := chkR_fl p 0 [] h0 x hx
    exact ⟨hw x hx, h1, h2⟩
  · rename_i h0
    exact absurd h h0
def Tr.post : Tr → List Nd
  | .l0 x => [x]
  | .l1 x a => a.post ++ [x]
  | .l2 x a b => a.post ++ b.post ++ [x]
theorem build_post : ∀ (p : List Nd) (st st' : List Tr), buildT p st = some st' → st.reverse.flatMap Tr.post ++ p = st'.reverse.flatMap Tr.post
  | [], st, st', h => by cases h; simp
  | x :: p, st, st', h => by
    simp only [buildT] at h
    cases hs : stepT x st with
    | none => rw [hs] at h; cases h
    | some s1 =>
      rw [hs] at h
      have h2 := build_post p s1 st' h
      rw [← h2]
      rcases step_cases hs with ⟨_, rfl⟩ | ⟨a, r, _, rfl, rfl⟩ | ⟨a, b, r, _, rfl, rfl⟩ <;> simp [Tr.post]
theorem tree_post {p : List Nd} {t : Tr} (h : buildT p [] = some [t]) : p = t.post := by
  have := build_post p [] [t] h
  simpa using this
section
variable (T : Txt X)
def wordB (op : Int) : List UInt8 := SL.wordsL.getD op.toNat []
def sfxB (x : Nd) : List UInt8 :=
  if x.op = 4 ∨ x.op = 22 then 32 :: (T.lit x.t).data.toList else if x.op = 5 then 32 :: (T.set x.s0 x.s1 x.s2 x.s3).data.toList else if x.op = 6 then 32 :: x.t.data.toList
  else if x.op = 19 then (if x.t = ⟨#[]⟩ then [] else 32 :: x.t.data.toList) else if x.op = 14 ∨ x.op = 15 ∨ x.op = 16 ∨ x.op = 23 then 32 :: (T.dec x.n).data.toList else []
theorem bapp (a b : ByteArray) : (a ++ b).data.toList = a.data.toList ++ b.data.toList := by rw [ByteArray.data_append, Array.toList_append]
theorem lnT_b (x : Nd) (i : Nat) : (lnT T x i).data.toList = List.replicate i 32 ++ (wordB x.op ++ sfxB T x) ++ [10] := by
  have e1 : (SL.sps i).data.toList = List.replicate i 32 := rfl
  have e2 : (SL.wordF x.op).data.toList = wordB x.op := rfl
  have e3 : (⟨#[32]⟩ : ByteArray).data.toList = [32] := rfl
  have e4 : (⟨#[10]⟩ : ByteArray).data.toList = [10] := rfl
  unfold lnT lnS sfxB
  rw [bapp, e4]
  (repeat' split) <;> simp only [bapp, e1, e2, e3, List.append_assoc, List.cons_append, List.nil_append, List.append_nil]
def linB (t : Tr) (i : Nat) : List UInt8 := (linesT T t i).flatMap fun s => s.data.toList
theorem linB0 (x : Nd) (i : Nat) : linB T (.l0 x) i = (List.replicate i 32 ++ (wordB x.op ++ sfxB T x)) ++ [10] := by
  simp only [linB, linesT, List.flatMap_cons, List.flatMap_nil, List.append_nil, lnT_b]
theorem linB1 (x : Nd) (a : Tr) (i : Nat) : linB T (.l1 x a) i = (List.replicate i 32 ++ (wordB x.op ++ sfxB T x)) ++ 10 :: linB T a (i + 2) := by
  simp only [linB, linesT, List.flatMap_cons, lnT_b]
  simp
theorem linB2 (x : Nd) (a b : Tr) (i : Nat) : linB T (.l2 x a b) i = (List.replicate i 32 ++ (wordB x.op ++ sfxB T x)) ++ 10 :: (linB T a (i + 2) ++ linB T b (i + 2)) := by
  simp only [linB, linesT, List.flatMap_cons, List.flatMap_append, lnT_b]
  simp
end
theorem txt_of {x : Nd} (h : fldB x = true) : txtB x.op x.t = true := by
  simp only [fldB, Bool.and_eq_true] at h; exact h.2
theorem t_name {x : Nd} (h : fldB x = true) (h6 : x.op = 6) : nameP x.t := by
  have := txt_of h
  unfold txtB at this
  rw [if_neg (by omega), if_pos h6, decide_eq_true_eq] at this
  exact this
end Go.Proofs.YtdoefdmaecaacaaGreatDoor.S
set_option linter.unusedVariables false
set_option linter.unusedSimpArgs false
namespace Go.Proofs.YtdoefdmaecaacaaGreatDoor.SL
open Go Go.Proofs.YtdoefdmaecaacaaGreatDoor.AM Go.Proofs Go.Proofs.YtdoefdmaecaacaaGreatDoor.S
variable {X : Cx}
theorem lit_b {s : ByteArray} (h : s.size ≤ 255) : (litF s).data.toList = 39 :: (body s.data.toList ++ [39]) := by
  unfold litF
  rw [quo_s h]
  rfl
end Go.Proofs.YtdoefdmaecaacaaGreatDoor.SL
set_option linter.unusedVariables false
set_option linter.unusedSimpArgs false
namespace Go.Proofs.YtdoefdmaecaacaaGreatDoor.S
open Go Go.Proofs.YtdoefdmaecaacaaGreatDoor.AM Go.Proofs
theorem deB_glob {w : World} {fuel : Nat} {cs : Array Value} {ps : List MemPlace} {d : DataW Unit} (hv : w.var? Tryz.prog "math/bits.deBruijn64tab" = some cs)
    (h : DataW.trod (fun _ => ()) Tryz.prog w 0 (fun _ => true) false fuel 181 cs.toList = some (d, ps)) (hd : d = .agg (Lib.deBruijn64tab.map fun n => .lit (.int .u8 (n : Nat)))) : GlobOK w 2 SL.deBL := by
  have e : SL.deBL = (Lib.deBruijn64tab.map fun n => ((n : Nat) : Int)).map (L.int .u8) := by rw [List.map_map]; rfl
  have e2 : d = .agg ((Lib.deBruijn64tab.map fun n => ((n : Nat) : Int)).map fun n => .lit (.int .u8 n)) := by rw [hd, List.map_map]; rfl
  subst e2
  rw [e]
  exact glob_ints (by kernel_rfl) hv (table_ints Tryz.underlying181 Tryz.underlying5 (by kernel_rfl) (by kernel_rfl) h) (by decide)
theorem wfu64 {n : Int} (h : (Lit.int .u64 n).wf = true) : 0 ≤ n ∧ n ≤ 18446744073709551615 := by
  simp only [Lit.wf, IntKind.min, IntKind.max, Bool.and_eq_true] at h; simp [IntKind.bits, IntKind.signed] at h; omega
theorem nd_of {l : List L} (h : WT Tryz.prog 49 l) : ∃ x : Nd, l = x.c ∧ x.wf := by
  obtain ⟨lss, rfl, m0⟩ := h.inv_struct Tryz.underlying49
  obtain ⟨e0, es0, rfl, m1, n1⟩ := All2.cons_inv m0
  obtain ⟨e1, es1, rfl, m2, n2⟩ := All2.cons_inv n1
  obtain ⟨e2, es2, rfl, m3, n3⟩ := All2.cons_inv n2
  obtain ⟨e3, es3, rfl, m4, n4⟩ := All2.cons_inv n3
  obtain rfl := All2.nil_inv n4
  obtain ⟨op, rfl, w1⟩ := m1.inv_int Tryz.underlying3
  obtain ⟨n, rfl, w2⟩ := m2.inv_int Tryz.underlying3
  obtain ⟨t, rfl, w3⟩ := m3.inv_str Tryz.underlying9
  obtain ⟨ss, rfl, hn, hs⟩ := m4.inv_array Tryz.underlying47
  match ss, hn, hs with
  | [z0, z1, z2, z3], _, hs =>
    obtain ⟨s0, rfl, q0⟩ := (hs 0 z0 rfl).inv_int Tryz.underlying45
    obtain ⟨s1, rfl, q1⟩ := (hs 1 z1 rfl).inv_int Tryz.underlying45
    obtain ⟨s2, rfl, q2⟩ := (hs 2 z2 rfl).inv_int Tryz.underlying45
    obtain ⟨s3, rfl, q3⟩ := (hs 3 z3 rfl).inv_int Tryz.underlying45
    exact ⟨⟨op, n, t, s0, s1, s2, s3⟩, rfl, ⟨wfu64 q0, wfu64 q1, wfu64 q2, wfu64 q3⟩⟩
theorem list_of {α : Type} {c : α → List L} {ok : α → Prop} : ∀ (xs : List (List L)), (∀ x ∈ xs, ∃ y : α, x = c y ∧ ok y) → ∃ g : List α, xs = g.map c ∧ ∀ y ∈ g, ok y
  | [], _ => ⟨[], rfl, fun y h => by simp at h⟩
  | x :: xs, h => by
    obtain ⟨y, rfl, h1⟩ := h x (by simp)
    obtain ⟨g, rfl, h2⟩ := list_of xs (fun z hz => h z (by simp [hz]))
    refine ⟨y :: g, rfl, fun z hz => ?_⟩
    simp only [List.mem_cons] at hz
    rcases hz with rfl | hz
    · exact h1
    · exact h2 z hz
theorem elems_of {P : Program} {e : TypeId} {xs sp : List (List L)} (hx : ∀ (i : Nat) (x : List L), (xs ++ sp)[i]? = some x → WT P e x) : ∀ x ∈ xs, WT P e x := by
  intro x h
  obtain ⟨i, hi⟩ := List.getElem?_of_mem h
  exact hx i x (by rw [List.getElem?_append_left (List.getElem?_eq_some_iff.1 hi).1]; exact hi)
theorem pat_of {ls : List L} (h : WT Tryz.prog 23 ls) : ∃ (p : List Nd) (sp : List (List L)), ls = [.lst .ro 7 (p.map Nd.c) sp] ∧ (∀ x ∈ p, x.wf) ∧ p.length ≤ 2199023255488 := by
  obtain ⟨xs, sp, rfl, hb, hm, hx⟩ := h.inv_lst Tryz.underlying23
  obtain ⟨p, rfl, hc⟩ := list_of (c := Nd.c) (ok := Nd.wf) xs (fun x h => nd_of (elems_of hx x h))
  have h9 : Tryz.prog.cellsOf 49 = 7 := by kernel_rfl
  have hbb : Tryz.prog.bytesOf 49 = 64 := by kernel_rfl
  rw [hbb] at hb
  refine ⟨p, sp, by rw [h9], hc, ?_⟩
  simp only [List.length_map] at hb
  omega
end Go.Proofs.YtdoefdmaecaacaaGreatDoor.S
set_option linter.unusedVariables false
set_option linter.unusedSimpArgs false
namespace Go.Proofs.YtdoefdmaecaacaaGreatDoor.S
open Go Go.Proofs.YtdoefdmaecaacaaGreatDoor.AM Go.Proofs
variable {X : Cx}
section
variable (T : Txt X)
def showP (p : List Nd) : ByteArray × Int :=
  if ¬ (chk p).2 = 0 then (⟨#[]⟩, (chk p).2) else
  if (putsW (toksP T p) w0).g = true then (⟨#[]⟩, 2) else (⟨(putsW (toksP T p) w0).y.toArray⟩, 0)
end
structure TxP (T : Txt X) : Prop where
  lit : ∀ s : ByteArray, s.size ≤ 255 → 0 < (T.lit s).size
  set : ∀ a b c d : Int, 0 < (T.set a b c d).size
def tot (l : List ByteArray) : Nat := (l.flatMap fun s => s.data.toList).length
theorem tot_app (a b : List ByteArray) : tot (a ++ b) = tot a + tot b := by simp [tot]
theorem tot1 (s : ByteArray) : tot [s] = s.size := by
  simp only [tot, List.flatMap_cons, List.flatMap_nil, List.append_nil]
  rw [Array.length_toList]; rfl
theorem tot_round (h k : Int) (l : List ByteArray) : tot l ≤ tot (round h k l) := by
  unfold round
  split
  · rw [tot_app, tot_app]; omega
  · exact Nat.le_refl _
theorem toks_pos (T : Txt X) (P : TxP T) : ∀ t : Tr, t.ok → (∀ x ∈ t.post, x.ri) → 0 < tot (toks T t)
  | .l0 x, ho, hr => by
    have hx := hr x (by simp [Tr.post])
    have hk := nd_ok hx.wf hx.ar hx.fl
    cases ho with
    | l0 h1 ha =>
      simp only [toks, tot1]
      unfold tok0
      split
      · decide
      split
      · decide
      split
      · decide
      split
      · decide
      split
      · exact P.lit _ hk.t
      split
      · exact P.set _ _ _ _
      · have h6 : x.op = 6 := by rcases ar0 ha with e | e | e | e | e | e | e <;> first | (exfalso; omega) | exact e
        exact (t_name hx.fl h6).1
  | .l1 x a, ho, hr => by
    cases ho with
    | l1 h1 ha hc =>
      have ih := toks_pos T P a hc (fun z hz => hr z (by simp [Tr.post, hz]))
      have h2 := tot_round (hol a.x.op) (aro T x).2.1 (toks T a)
      simp only [toks, tot_app]
      omega
  | .l2 x a b, ho, hr => by
    cases ho with
    | l2 h1 ha hc hd =>
      have ih := toks_pos T P a hc (fun z hz => hr z (by simp [Tr.post, hz]))
      have h2 := tot_round (hol a.x.op) (rowK x.op).1 (toks T a)
      simp only [toks, tot_app]
      omega
theorem rA_21 (T : Txt X) (P : TxP T) (p : List Nd) (sp : List (List L)) (hwf : ∀ x ∈ p, x.wf) :
    R X Tryz.prog 8 [.lf (.lst .ro 7 (p.map Nd.c) sp)] [] (.tp [.lf (.str (showP T p).1), .lf (.int .i64 (showP T p).2)]) [] := by
  have h22 := r21 (X := X) p sp
  refine R_i [] [] c8_ok rfl (by simp) ?_
  by_cases hc : (chk p).2 = 0
  · rw [hc] at h22
    obtain ⟨t, hb, hto, hts, hpl⟩ := chk_tree hwf hc
    have hri : ∀ x ∈ t.post, x.ri := by rw [← tree_post hb]; exact chk_fl hwf hc
    have htk : toksP T p = toks T t := by simp only [toksP, treeP, hb]
    have h16 := r23 (X := X) p sp (by omega) t [] hb
    have hpat := R_nlc nl_w0 (pat_ok T t.size t (Nat.le_refl _) (by omega) hto w0 w0_ok)
    have hpos : (putsW (toks T t) w0).g = false → 0 < (putsW (toks T t) w0).y.length := fun h => by
      have := toks_pos T P t hto hri
      rw [puts_y _ h]
      unfold tot at this
      simp only [List.length_append]
      omega
    have ok1 := putsW_ok (toks T t) w0_ok
    unfold showP
    rw [if_neg (fun h => h hc), htk]
    generalize putsW (toks T t) w0 = w at *
    cases hg : w.g with
    | true =>
      have h17 := r24g (X := X) w ok1 hg
      rw [← W.b_toC ok1] at h17
      simp -implicitDefEqProofs (maxSteps := 2000000) only [c8,↓reduceIte,S0,St.init,enum,reduceCtorEq,PV.leaves,rl_l]
      refine wcall_s h22 rfl rfl ?_
      simp -implicitDefEqProofs (maxSteps := 2000000) only [c8,↓reduceIte,S0,v_neq,o_ext,v_ext0,v_ext1,o_bd,v_agK,v_bd_n,Nat.reduceEqDiff,reduceCtorEq,St.clr,outV,ownsV,owns1,ownL,List.any_cons,List.any_nil,Bool.or_self,PV.leaves,Nat.zero_le,kc_b,kc_i,kc_np,kc_l,rl_l,m_1l,ne_eq,ite_not,e_asg_t,o_bxt,v_bxt]
      refine wcall_down h16 rfl ?_
      simp -implicitDefEqProofs (maxSteps := 2000000) only [c8,↓reduceIte,S0,Nat.reduceEqDiff,St.clr,outV,ownsV,owns1,ownL,PV.leaves,ol_rp,ta_rp,dw_rp0]
      refine pcall_i hpat rfl rfl ?_
      simp -implicitDefEqProofs (maxSteps := 2000000) only [c8,↓reduceIte,S0,Nat.reduceEqDiff,reduceCtorEq,outV,ownsV,List.any_nil,PV.leaves,kl_np,kl_ln,kl_rp]
      refine pcall_i h17 rfl rfl ?_
      simp -implicitDefEqProofs (maxSteps := 2000000) only [c8,↓reduceIte,S0,o_ext,v_ext0,v_ext1,Nat.reduceEqDiff,outV,ownsV,owns1,ownL,List.any_cons,List.any_nil,Bool.or_self,m_1l]
    | false =>
      have h17 := r24 (X := X) w ok1 hg (hpos hg)
      rw [← W.b_toC ok1] at h17
      simp -implicitDefEqProofs (maxSteps := 2000000) only [c8,↓reduceIte,S0,St.init,enum,reduceCtorEq,PV.leaves,rl_l]
      refine wcall_s h22 rfl rfl ?_
      simp -implicitDefEqProofs (maxSteps := 2000000) only [c8,↓reduceIte,S0,v_neq,o_ext,v_ext0,v_ext1,o_bd,v_agK,v_bd_n,Nat.reduceEqDiff,reduceCtorEq,St.clr,outV,ownsV,owns1,ownL,List.any_cons,List.any_nil,Bool.or_self,PV.leaves,Nat.zero_le,kc_b,kc_i,kc_np,kc_l,rl_l,m_1l,ne_eq,ite_not,e_asg_t,o_bxt,v_bxt]
      refine wcall_down h16 rfl ?_
      simp -implicitDefEqProofs (maxSteps := 2000000) only [c8,↓reduceIte,S0,Nat.reduceEqDiff,St.clr,outV,ownsV,owns1,ownL,PV.leaves,ol_rp,ta_rp,dw_rp0]
      refine pcall_i hpat rfl rfl ?_
      simp -implicitDefEqProofs (maxSteps := 2000000) only [c8,↓reduceIte,S0,Nat.reduceEqDiff,reduceCtorEq,outV,ownsV,List.any_nil,PV.leaves,kl_np,kl_ln,kl_rp]
      refine pcall_i h17 rfl rfl ?_
      simp -implicitDefEqProofs (maxSteps := 2000000) only [c8,↓reduceIte,S0,o_ext,v_ext0,v_ext1,Nat.reduceEqDiff,outV,ownsV,owns1,ownL,List.any_cons,List.any_nil,Bool.or_self,m_1l,fc_u]
  · unfold showP
    rw [if_pos hc]
    simp -implicitDefEqProofs (maxSteps := 2000000) only [c8,↓reduceIte,S0,St.init,enum,reduceCtorEq,PV.leaves,rl_l]
    refine wcall_s h22 rfl rfl ?_
    simp -implicitDefEqProofs (maxSteps := 2000000) only [c8,hc,↓reduceIte,S0,v_neq,o_ext,v_ext0,v_ext1,Nat.reduceEqDiff,reduceCtorEq,St.clr,outV,ownsV,owns1,ownL,List.any_cons,List.any_nil,Bool.or_self,m_1l,ne_eq,not_false_eq_true]
end Go.Proofs.YtdoefdmaecaacaaGreatDoor.S
set_option linter.unusedVariables false
set_option linter.unusedSimpArgs false
namespace Go.Proofs.YtdoefdmaecaacaaGreatDoor.S
open Go Go.Proofs.YtdoefdmaecaacaaGreatDoor.AM Go.Proofs
variable {X : Cx}
theorem flat_tub (l : List UInt8) (b : Bool) : Flat (.tp [.lf (.lst (.own 0 5) 1 (ub l) []), .lf (.bool b)]) := by
  intro v hv
  simp only [List.mem_cons, List.mem_nil_iff, or_false] at hv
  rcases hv with rfl | rfl
  · refine ⟨fun x hx c hc => ?_, rfl⟩
    obtain ⟨a, _, rfl⟩ := List.mem_map.1 hx
    simp only [List.mem_cons, List.mem_nil_iff, or_false] at hc
    subst hc; rfl
  · rfl
section
variable (T : Txt X)
def toksQ (p : List Nd) : List ByteArray :=
  match treeP p with
  | some t => toksR T t
  | none => []
def refP (p : List Nd) : ByteArray × Int :=
  if ¬ (chk p).2 = 0 then (⟨#[]⟩, (chk p).2) else
  if (putsT (toksQ T p) ([], false)).2 = true then (⟨#[]⟩, 2) else (⟨(putsT (toksQ T p) ([], false)).1.toArray⟩, 0)
end
theorem refP_show (T : Txt X) (p : List Nd) (hwf : ∀ x ∈ p, x.wf) : refP T p = showP T p := by
  unfold refP showP
  by_cases hc : (chk p).2 = 0
  · have hc' : ¬ ¬ (chk p).2 = 0 := fun h => h hc
    rw [if_neg hc', if_neg hc']
    obtain ⟨t, hb, hto, hts, hpl⟩ := chk_tree hwf hc
    have h1 : toksP T p = toks T t := by simp only [toksP, treeP, hb]
    have h2 : toksQ T p = toksR T t := by simp only [toksQ, treeP, hb]
    have h3 := toks_R T t hto ([], false) (by simp)
    have h4 := pr_puts (toks T t) w0
    rw [h1, h2, ← h3]
    have h5 : w0.pr = (([] : List UInt8), false) := rfl
    rw [h5] at h4
    rw [← h4]
    rfl
  · rw [if_pos hc, if_pos hc]
theorem r9z (T : Txt X) (p : List Nd) (sp : List (List L)) (hwf : ∀ x ∈ p, x.wf) :
    R X Tryz.prog 9 [.lf (.lst .ro 7 (p.map Nd.c) sp)] [] (.tp [.lf (.str (refP T p).1), .lf (.int .i64 (refP T p).2)]) [] := by
  have h36 := r25 (X := X) p sp
  refine R_i [] [] c9_ok rfl (by simp) ?_
  by_cases hc : (chk p).2 = 0
  · obtain ⟨t, hb, hto, hts, hpl⟩ := chk_tree hwf hc
    have hQ : toksQ T p = toksR T t := by simp only [toksQ, treeP, hb]
    have h19 := r26 T hwf hc hb sp [] (by decide)
    rw [hc] at h36
    unfold refP
    rw [if_neg (fun h => h hc), hQ]
    generalize putsT (toksR T t) ([], false) = z at *
    obtain ⟨zy, zg⟩ := z
    simp -implicitDefEqProofs (maxSteps := 2000000) only [c9,↓reduceIte,S0,St.init,enum,reduceCtorEq,PV.leaves,rl_l]
    refine wcall_s h36 rfl rfl ?_
    simp -implicitDefEqProofs (maxSteps := 2000000) only [c9,↓reduceIte,S0,v_neq,o_ext,v_ext0,v_ext1,Nat.reduceEqDiff,reduceCtorEq,St.clr,outV,ownsV,owns1,ownL,List.any_cons,List.any_nil,Bool.or_self,PV.leaves,rl_l,m_1l,ne_eq,ite_not]
    refine wcall_mn [] 0 0 5 rfl rfl h19 rfl rfl (flat_tub _ _) ?_
    cases zg with
    | true => simp -implicitDefEqProofs (maxSteps := 2000000) only [c9,↓reduceIte,S0,o_un,v_not,o_ext,v_ext0,v_ext1,Nat.reduceEqDiff,Nat.reduceAdd,Bool.not_true,Bool.not_false,St.clr,outV,ownsV,owns1,ownL,List.any_cons,List.any_nil,Bool.or_false,Bool.or_self,Nat.reduceMul,Nat.reduceBEq,kp_b,ol_b,kp_lro,m_1l,plT,or_false]
    | false =>
      simp -implicitDefEqProofs (maxSteps := 2000000) only [c9,↓reduceIte,S0,o_un,v_not,o_cbs,o_ext,v_ext0,v_ext1,Nat.reduceEqDiff,Nat.reduceAdd,Bool.not_true,Bool.not_false,St.clr,outV,ownsV,owns1,ownL,List.any_cons,List.any_nil,Bool.or_false,Bool.or_self,Nat.reduceMul,Nat.reduceBEq,kp_b,ol_b,kp_lro,m_1l,plT,or_false,v_cbs_ub]
  · unfold refP
    rw [if_pos hc]
    simp -implicitDefEqProofs (maxSteps := 2000000) only [c9,↓reduceIte,S0,St.init,enum,reduceCtorEq,PV.leaves,rl_l]
    refine wcall_s h36 rfl rfl ?_
    simp -implicitDefEqProofs (maxSteps := 2000000) only [c9,hc,↓reduceIte,S0,v_neq,o_ext,v_ext0,v_ext1,Nat.reduceEqDiff,reduceCtorEq,St.clr,outV,ownsV,owns1,ownL,List.any_cons,List.any_nil,Bool.or_self,m_1l,ne_eq,not_false_eq_true]
end Go.Proofs.YtdoefdmaecaacaaGreatDoor.S
set_option linter.unusedVariables false
set_option linter.unusedSimpArgs false
namespace Go.Proofs.YtdoefdmaecaacaaGreatDoor.S
open Go Go.Proofs.YtdoefdmaecaacaaGreatDoor.AM Go.Proofs
variable {X : Cx}
theorem r74 (op : Int) (h0 : 1 ≤ op) (h1 : op ≤ 23) : R X Tryz.prog 74 [.lf (.int .i64 op)] [] (.lf (.str (SL.wordF op))) [] := by
  refine R_i [] [] c74_ok rfl (by simp) ?_
  rcases (show op = 1 ∨ op = 2 ∨ op = 3 ∨ op = 4 ∨ op = 5 ∨ op = 6 ∨ op = 7 ∨ op = 8 ∨ op = 9 ∨ op = 10 ∨ op = 11 ∨ op = 12 ∨ op = 13 ∨ op = 14 ∨ op = 15 ∨ op = 16 ∨ op = 17 ∨ op = 18 ∨ op = 19 ∨ op = 20 ∨ op = 21 ∨ op = 22 ∨ op = 23 by omega) with rfl | rfl | rfl | rfl | rfl | rfl | rfl | rfl | rfl | rfl | rfl | rfl | rfl | rfl | rfl | rfl | rfl | rfl | rfl | rfl | rfl | rfl | rfl
  all_goals
    simp -implicitDefEqProofs (maxSteps := 2000000) only [c74,Int.reduceToNat,Nat.mul_one,List.getElem?_cons_zero,List.getElem?_cons_succ,↓reduceIte,S0,o_al,o_iaa,v_iaa_p,o_st,v_st_p,v_stCK,o_bd,v_agK,v_bd_n,v_bd_c,St.init,enum,Nat.reduceEqDiff,Nat.reduceAdd,reduceCtorEq,List.all_cons,List.all_nil,PV.cells,cellL,fillL,Nat.reduceLeDiff,Nat.zero_le,Nat.le_refl,List.take_zero,List.drop_zero,List.take_succ_cons,List.drop_succ_cons,List.drop_nil,kc_i,kc_s,st_b,ne_eq,not_false_eq_true]
    exact ⟨by omega, rfl⟩
section
variable (T : Txt X)
def lineR (x : Nd) : ByteArray :=
  if x.op = 4 ∨ x.op = 22 then SL.wordF x.op ++ ⟨#[32]⟩ ++ T.lit x.t else if x.op = 5 then SL.wordF x.op ++ ⟨#[32]⟩ ++ T.set x.s0 x.s1 x.s2 x.s3 else if x.op = 6 then SL.wordF x.op ++ ⟨#[32]⟩ ++ x.t
  else if x.op = 19 then (if x.t = ⟨#[]⟩ then SL.wordF x.op else SL.wordF x.op ++ ⟨#[32]⟩ ++ x.t) else if x.op = 14 ∨ x.op = 15 ∨ x.op = 16 ∨ x.op = 23 then SL.wordF x.op ++ ⟨#[32]⟩ ++ T.dec x.n else SL.wordF x.op
end
theorem lineR_n (T : Txt X) {x : Nd} (hx : x.ok) : (lineR T x).size ≤ 70000 := by
  have l1 := T.lit_n x.t hx.t
  have l2 := T.dec_n x.n hx.n.1 hx.n.2
  have l3 := T.set_n x.s0 x.s1 x.s2 x.s3
  have l4 := hx.t
  have l5 := wordF_n x.op
  have l6 : ByteArray.size ⟨#[32]⟩ = 1 := rfl
  unfold lineR
  (repeat' split) <;> first | omega | (simp only [ByteArray.size_append]; omega)
theorem r48 (T : Txt X) (x : Nd) (hx : x.ok) : R X Tryz.prog 48 [.ag x.c] [] (.lf (.str (lineR T x))) [] := by
  have h74 := r74 (X := X) x.op hx.op.1 hx.op.2
  obtain ⟨op, n, tx, s0, s1, s2, s3⟩ := x
  have h75 := T.h75 tx hx.t
  have h77 := T.h74 n hx.n.1 hx.n.2
  have h76 := T.h76 s0 s1 s2 s3 hx.s0.1 hx.s0.2 hx.s1.1 hx.s1.2 hx.s2.1 hx.s2.2 hx.s3.1 hx.s3.2
  have l1 := T.lit_n tx hx.t
  have l2 := T.dec_n n hx.n.1 hx.n.2
  have l3 := T.set_n s0 s1 s2 s3
  have l4 := hx.t
  have l5 := wordF_n op
  have l6 : ByteArray.size ⟨#[32]⟩ = 1 := rfl
  simp only at h74 l4
  refine R_i [] [] c48_ok rfl (by simp) ?_
  unfold lineR
  simp only
  simp -implicitDefEqProofs (maxSteps := 2000000) only [c48,↓reduceIte,S0,o_bx,St.init,enum,Nat.reduceEqDiff,PV.leaves,Nat.zero_le,kc_i,kc_s,v_bx_a]
  refine wcall_s h74 rfl rfl ?_
  generalize SL.wordF op = s at *
  simp -implicitDefEqProofs (maxSteps := 2000000) only [c48,↓reduceIte,S0,v_sadd,v_sneq,v_part_t,Nat.reduceEqDiff,Nat.reduceAdd,St.clr,outV,ownsV,owns1,ownL,PV.leaves,Nat.le_refl,List.drop_zero,List.take_succ_cons,List.drop_succ_cons,List.take_nil,rl_s,ne_eq,ite_not]
  have sz : ∀ r : ByteArray, r.size ≤ 70000 → (s ++ ⟨#[32]⟩ : ByteArray).size ≤ 7 ∧ (s ++ ⟨#[32]⟩ ++ r : ByteArray).size ≤ 80000 := fun r hr => by
    simp only [ByteArray.size_append]; omega
  by_cases h4 : op = 4
  · subst h4
    simp only [true_or, if_true]
    have := sz (T.lit tx) (by omega)
    refine ⟨by omega, wcall_s h75 rfl rfl ?_⟩
    simp -implicitDefEqProofs (maxSteps := 2000000) only [c48,↓reduceIte,S0,v_sadd,Nat.reduceEqDiff,St.clr,outV,ownsV,owns1,ownL]
    omega
  rw [if_neg h4]
  by_cases h22 : op = 22
  · subst h22
    rw [if_pos rfl, if_pos (.inr rfl)]
    have := sz (T.lit tx) (by omega)
    simp -implicitDefEqProofs (maxSteps := 2000000) only [c48,↓reduceIte]
    refine ⟨by omega, wcall_s h75 rfl rfl ?_⟩
    simp -implicitDefEqProofs (maxSteps := 2000000) only [c48,↓reduceIte,S0,v_sadd,Nat.reduceEqDiff,St.clr,outV,ownsV,owns1,ownL]
    omega
  rw [if_neg h22, if_neg (fun h => Or.elim h h4 h22)]
  by_cases h5 : op = 5
  · subst h5
    simp only [if_true]
    have := sz (T.set s0 s1 s2 s3) (by omega)
    refine ⟨by omega, wcall_s h76 rfl rfl ?_⟩
    simp -implicitDefEqProofs (maxSteps := 2000000) only [c48,↓reduceIte,S0,v_sadd,Nat.reduceEqDiff,St.clr,outV,ownsV,owns1,ownL]
    omega
  rw [if_neg h5, if_neg h5]
  by_cases h6 : op = 6
  · subst h6
    simp only [if_true]
    have := sz tx (by omega)
    have e := ByteArray.size_append (a := s ++ ⟨#[32]⟩) (b := tx)
    exact ⟨by omega, by omega, trivial⟩
  rw [if_neg h6, if_neg h6]
  by_cases h19 : op = 19
  · subst h19
    simp only [if_true]
    by_cases ht : tx = ⟨#[]⟩
    · simp only [if_pos ht]
    · simp only [if_neg ht]
      have := sz tx (by omega)
      have e := ByteArray.size_append (a := s ++ ⟨#[32]⟩) (b := tx)
      exact ⟨by omega, by omega, trivial⟩
  rw [if_neg h19, if_neg h19]
  by_cases h14 : op = 14
  · subst h14
    simp only [if_true, true_or, or_true]
    have := sz (T.dec n) (by omega)
    refine ⟨by omega, wcall_s h77 rfl rfl ?_⟩
    simp -implicitDefEqProofs (maxSteps := 2000000) only [c48,↓reduceIte,S0,v_sadd,Nat.reduceEqDiff,St.clr,outV,ownsV,owns1,ownL]
    omega
  rw [if_neg h14]
  by_cases h15 : op = 15
  · subst h15
    simp only [if_true, true_or, or_true]
    have := sz (T.dec n) (by omega)
    refine ⟨by omega, wcall_s h77 rfl rfl ?_⟩
    simp -implicitDefEqProofs (maxSteps := 2000000) only [c48,↓reduceIte,S0,v_sadd,Nat.reduceEqDiff,St.clr,outV,ownsV,owns1,ownL]
    omega
  rw [if_neg h15]
  by_cases h16 : op = 16
  · subst h16
    simp only [if_true, true_or, or_true]
    have := sz (T.dec n) (by omega)
    refine ⟨by omega, wcall_s h77 rfl rfl ?_⟩
    simp -implicitDefEqProofs (maxSteps := 2000000) only [c48,↓reduceIte,S0,v_sadd,Nat.reduceEqDiff,St.clr,outV,ownsV,owns1,ownL]
    omega
  rw [if_neg h16]
  by_cases h23 : op = 23
  · subst h23
    simp only [if_true, true_or, or_true]
    have := sz (T.dec n) (by omega)
    refine ⟨by omega, wcall_s h77 rfl rfl ?_⟩
    simp -implicitDefEqProofs (maxSteps := 2000000) only [c48,↓reduceIte,S0,v_sadd,Nat.reduceEqDiff,St.clr,outV,ownsV,owns1,ownL]
    omega
  rw [if_neg h23]
  rw [if_neg (by omega)]
end Go.Proofs.YtdoefdmaecaacaaGreatDoor.S
