/- The abstract machine, part Ret. -/
import Derived.Test.YthcpaohmajjopaaGreatDoorAmSim
set_option linter.unusedVariables false
set_option linter.unusedSimpArgs false
namespace Go.Proofs.YthcpaohmajjopaaGreatDoor.AM
open Go
variable {X:Cx}
def partV (cs:List L) (o sz:Nat) (agg:Bool):Option PV:=if agg then (if o + sz ≤ cs.length then some (.ag ((cs.drop o).take sz)) else none) else (cs[o]?).map .lf
def cellV (σ:St) (sz:Nat) (agg:Bool):PV → Option PV
 | .lf (.ptr c o)=>(get σ.ce c).bind fun cs=>partV cs o sz agg
 | _=>none
def consO:Option PV → Option (List PV) → Option (List PV)
 | some x,some xs=>some (x :: xs)
 | _,_=>none
def resV (σ:St):List RV → Option (List PV)
 | []=>some []
 | .t n :: r=>consO (some (σ.ev (.t n))) (resV σ r)
 | .c n sz agg :: r=>consO (cellV σ sz agg (σ.ev (.t n))) (resV σ r)
theorem wpart_of {cs:List L} {o sz:Nat} {agg:Bool} {v:PV} (h:partV cs o sz agg = some v) {K:PV → Prop} (hK:K v):wpart cs o sz agg K:=by
 unfold partV at h
 unfold wpart
 split
 ·rename_i ha
  simp only [ha,if_true] at h
  split at h
  ·cases h;exact ⟨by assumption,hK⟩
  ·cases h
 ·rename_i ha
  simp only [ha,if_false,Bool.false_eq_true] at h
  obtain ⟨c,h1,rfl⟩:=Option.map_eq_some_iff.1 h
  exact ⟨c,h1,hK⟩
theorem resOf_of {σ:St}:∀ {rs:List RV} {l:List PV} {K:List PV → Prop},resV σ rs = some l → K l → resOf σ rs K
 | [],l,K,h,hK=>by
  simp only [resV,Option.some.injEq] at h
  subst h;exact hK
 | .t n :: r,l,K,h,hK=>by
  simp only [resV] at h
  cases h2:resV σ r with
  | none=>rw [h2] at h;cases h
  | some xs =>
   rw [h2] at h
   cases h
   exact resOf_of (K:=fun l=>K (σ.ev (.t n) :: l)) h2 hK
 | .c n sz agg :: r,l,K,h,hK=>by
  simp only [resV] at h
  cases h2:resV σ r with
  | none=>rw [h2] at h;cases h3:cellV σ sz agg (σ.ev (.t n))<;>rw [h3] at h<;>cases h
  | some xs =>
   rw [h2] at h
   cases h3:cellV σ sz agg (σ.ev (.t n)) with
   | none=>rw [h3] at h;cases h
   | some v =>
    rw [h3] at h
    cases h
    simp only [resOf]
    unfold cellV at h3
    split at h3
    ·rename_i c o hp
     rw [hp]
     obtain ⟨cs,h4,h5⟩:=Option.bind_eq_some_iff.1 h3
     exact ⟨cs,h4,wpart_of h5 (resOf_of (K:=fun l=>K (v :: l)) h2 hK)⟩
    ·cases h3
def retX (ρ:List (Nat × Nat)) (dn:List Nat) (m:Nat) (l:Option (List PV)) (r:PV) (cs':List (List L)) (σ:St):Prop :=
 match l with
 | some l=>σ.m = m ∧ pvTo m ρ dn (oneOf l) r ∧ cellsTo ρ dn m σ 0 cs'
 | none=>False
def retS (ρ:List (Nat × Nat)) (dn:List Nat) (m:Nat) (rs:List RV) (r:PV) (cs':List (List L)) (o:Out) (σ:St):Prop :=
 match o with
 | .ex _=>False
 | _=>retX ρ dn m (resV σ rs) r cs' σ
theorem s_ret_r {ρ:List (Nat × Nat)} {dn:List Nat} {m:Nat} {rs:List RV} {r:PV} {cs':List (List L)} {σ:St}:retS ρ dn m rs r cs' .ret σ = retX ρ dn m (resV σ rs) r cs' σ:=rfl
theorem s_ret_n {ρ:List (Nat × Nat)} {dn:List Nat} {m:Nat} {rs:List RV} {r:PV} {cs':List (List L)} {σ:St}:retS ρ dn m rs r cs' .nrm σ = retX ρ dn m (resV σ rs) r cs' σ:=rfl
theorem s_retX {ρ:List (Nat × Nat)} {dn:List Nat} {m m':Nat} {l:List PV} {r:PV} {cs':List (List L)} {tm:List (Nat × PV)} {ce:List (Nat × List L)}:retX ρ dn m (some l) r cs' ⟨m',tm,ce⟩ = (m' = m ∧ pvTo m ρ dn (oneOf l) r ∧ cellsTo ρ dn m ⟨m',tm,ce⟩ 0 cs'):=rfl
theorem s_cells_n {ρ:List (Nat × Nat)} {dn:List Nat} {m j:Nat} {σ:St}:cellsTo ρ dn m σ j [] = True:=rfl
theorem retS_Q {ρ:List (Nat × Nat)} {dn:List Nat} (hρ:rhoOK dn ρ = true) {m:Nat} {rs:List RV} {r:PV} {cs':List (List L)} (o:Out) (σ:St) (h:retS ρ dn m rs r cs' o σ):retQ m rs r cs' o σ:=by
 have gen:retX ρ dn m (resV σ rs) r cs' σ → retQ m rs r cs' .ret σ:=by
  intro h
  cases hl:resV σ rs with
  | none=>rw [hl] at h;exact h.elim
  | some l =>
   rw [hl] at h
   exact ⟨h.1,resOf_of hl ⟨ρ,dn,hρ,h.2⟩⟩
 cases o with
 | nrm=>exact gen h
 | ret=>exact gen h
 | ex i=>exact h.elim
def leavesTo? (m:Nat) (ρ:List (Nat × Nat)) (dn:List Nat):Option (List L) → List L → Prop
 | some g,c=>leavesTo m ρ dn g c
 | none,_=>False
theorem R_i (ρ:List (Nat × Nat)) (dn:List Nat) {P:Program} {f nt:Nat} {ac:AC} {rs:List RV} (hc:compileFn P f = some (nt,ac.strip,rs)) {args:List PV} {cs:List (List L)} {r:PV} {cs':List (List L)} (hρ:rhoOK dn ρ = true) (hn:args.length ≤ nt)
  (h:awp X P ac (retS ρ dn cs.length rs r cs') (St.init args cs)):R X P f args cs r cs':=R_intro hc hn (retS_Q hρ) h
section
variable {m:Nat} {ρ:List (Nat × Nat)} {dn:List Nat}
theorem t_p {c o c' o':Nat}:leafTo m ρ dn (.ptr c o) (.ptr c' o') = (c = c' ∧ o = o' ∧ c < m):=rfl
theorem t_tr {c o T c' o' T':Nat}:leafTo m ρ dn (.tptr c o T) (.tptr c' o' T') = (c = c' ∧ o = o' ∧ T = T' ∧ c < m):=rfl
theorem t_g {g o g' o':Nat}:leafTo m ρ dn (.gl g o) (.gl g' o') = (g = g' ∧ o = o'):=by simp [leafTo,datL]
theorem t_f {f f':Nat} {a b a' b':List L}:leafTo m ρ dn (.fn f a b) (.fn f' a' b') = (pureL a b = true ∧ f = f' ∧ a = a' ∧ b = b'):=by simp [leafTo,datL]
theorem s_cells_c {j:Nat} {σ:St} {c:List L} {cs:List (List L)}:cellsTo ρ dn m σ j (c :: cs) = (j < m ∧ leavesTo? m ρ dn (get σ.ce j) c ∧ cellsTo ρ dn m σ (j + 1) cs):=by
 simp only [cellsTo,leavesTo?]
 cases get σ.ce j<;>simp
theorem t_some {g c:List L}:leavesTo? m ρ dn (some g) c = leavesTo m ρ dn g c:=rfl
theorem t_tp {xs ys:List PV}:pvTo m ρ dn (.tp xs) (.tp ys) = pv1sTo m ρ dn xs ys:=rfl
theorem t_lf {x y:L}:pvTo m ρ dn (.lf x) (.lf y) = leafTo m ρ dn x y:=rfl
theorem t_ag {xs ys:List L}:pvTo m ρ dn (.ag xs) (.ag ys) = leavesTo m ρ dn xs ys:=rfl
theorem t_n:pv1sTo m ρ dn [] [] = True:=rfl
theorem t_c {x y:PV} {xs ys:List PV}:pv1sTo m ρ dn (x :: xs) (y :: ys) = (pv1To m ρ dn x y ∧ pv1sTo m ρ dn xs ys):=rfl
theorem t_1l {x y:L}:pv1To m ρ dn (.lf x) (.lf y) = leafTo m ρ dn x y:=rfl
theorem t_1a {xs ys:List L}:pv1To m ρ dn (.ag xs) (.ag ys) = leavesTo m ρ dn xs ys:=rfl
theorem t_ln:leavesTo m ρ dn [] [] = True:=rfl
theorem t_lc {x y:L} {xs ys:List L}:leavesTo m ρ dn (x :: xs) (y :: ys) = (leafTo m ρ dn x y ∧ leavesTo m ρ dn xs ys):=rfl
theorem t_b {a b:Bool}:leafTo m ρ dn (.bool a) (.bool b) = (a = b):=by simp [leafTo,datL]
theorem t_i {k:IntKind} {a b:Int}:leafTo m ρ dn (.int k a) (.int k b) = (a = b):=by simp [leafTo,datL]
theorem t_s {a b:ByteArray}:leafTo m ρ dn (.str a) (.str b) = (a = b):=by simp [leafTo,datL]
theorem t_np:leafTo m ρ dn .nilp .nilp = True:=by simp [leafTo,datL]
theorem t_ni:leafTo m ρ dn .nili .nili = True:=by simp [leafTo,datL]
theorem t_if {t:Nat} {x y:L}:leafTo m ρ dn (.iface t x) (.iface t y) = (x = y):=by simp [leafTo,datL]
theorem t_u {x:L}:leafTo m ρ dn x .undef = True:=by cases x<;>rfl
theorem t_l {t t':Tag} {sz sz':Nat} {xs sp xs' sp':List (List L)}:leafTo m ρ dn (.lst t sz xs sp) (.lst t' sz' xs' sp') = (xs = xs' ∧ (sz = sz' ∨ (xs' = [] ∧ sp' = [] ∧ ownT t = false)) ∧ (sp' = [] ∨ sp' = sp) ∧ tagTo ρ dn xs' t t'):=rfl
theorem t_oo {q e p e':Nat} {xs:List (List L)}:tagTo ρ dn xs (.own q e) (.own p e') = (e = e' ∧ get ρ p = some q):=rfl
theorem t_no {p e:Nat} {xs:List (List L)}:tagTo ρ dn xs .nl (.own p e) = (xs = []):=rfl
theorem t_nn {xs:List (List L)}:tagTo ρ dn xs .nl .nl = True:=rfl
theorem t_nr {xs:List (List L)}:tagTo ρ dn xs .nl .ro = True:=rfl
theorem t_rr {xs:List (List L)}:tagTo ρ dn xs .ro .ro = True:=rfl
theorem t_or {q e:Nat} {xs:List (List L)}:tagTo ρ dn xs (.own q e) .ro = (dn.contains q = true):=rfl
theorem t_vr {q:Nat} {xs:List (List L)}:tagTo ρ dn xs (.vw q) .ro = (dn.contains q = true):=rfl
end
theorem r_n {σ:St}:resV σ [] = some []:=rfl
theorem r_t {σ:St} {n:Nat} {r:List RV}:resV σ (.t n :: r) = consO (some (σ.ev (.t n))) (resV σ r):=rfl
theorem r_c {σ:St} {n sz:Nat} {agg:Bool} {r:List RV}:resV σ (.c n sz agg :: r) = consO (cellV σ sz agg (σ.ev (.t n))) (resV σ r):=rfl
theorem r_cons {x:PV} {xs:List PV}:consO (some x) (some xs) = some (x :: xs):=rfl
theorem r_cell {σ:St} {sz:Nat} {agg:Bool} {c o:Nat}:cellV σ sz agg (.lf (.ptr c o)) = (get σ.ce c).bind fun cs=>partV cs o sz agg:=rfl
theorem r_part_t {cs:List L} {o sz:Nat}:partV cs o sz true = if o + sz ≤ cs.length then some (.ag ((cs.drop o).take sz)) else none:=rfl
theorem r_part_f {cs:List L} {o sz:Nat}:partV cs o sz false = (cs[o]?).map .lf:=rfl
theorem one_1 {x:PV}:oneOf [x] = x:=rfl
theorem one_2 {x y:PV} {xs:List PV}:oneOf (x :: y :: xs) = .tp (x :: y :: xs):=rfl
theorem flatL_1 {x:L} (h:flatL x = true):Flat1 x:=by
 cases x<;>first | exact h | (simp [flatL] at h)
theorem flat1B_1 {v:PV} (h:flat1B v = true):Flat1V v:=by
 cases v with
 | lf x=>exact flatL_1 h
 | ag cs=>exact fun c hc=>flatL_1 (List.all_eq_true.1 h c hc)
 | tp _=>cases h
theorem flatB_F {v:PV} (h:flatB v = true):Flat v:=by
 cases v with
 | lf x=>exact flat1B_1 (v:=.lf x) h
 | ag cs=>exact flat1B_1 (v:=.ag cs) h
 | tp vs=>exact fun c hc=>flat1B_1 (List.all_eq_true.1 h c hc)
theorem wcall_s {P:Program} {σ:St} {d:Option Nat} {K:St → Prop} {f:Nat} {args:List PV} {ls:List L} {evs:List PV} {aos:List AO} {r:PV} (h:R X P f args [] r []) (h1:resOK r = true) (h2:flatB r = true) (h3:K ((σ.clr d r).put d (outV d r))):wcall X P f args ls evs aos σ d K:=wcall_flat h h1 (flatB_F h2) h3
end Go.Proofs.YthcpaohmajjopaaGreatDoor.AM
