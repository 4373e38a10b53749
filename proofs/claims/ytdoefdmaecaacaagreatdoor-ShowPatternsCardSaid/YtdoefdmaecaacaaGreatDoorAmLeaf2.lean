/- The abstract machine, part Leaf2. -/
import Derived.Test.YtdoefdmaecaacaaGreatDoorAmLeaf
set_option linter.unusedVariables false
set_option linter.unusedSimpArgs false
namespace Go.Proofs.YtdoefdmaecaacaaGreatDoor.AM
open Go
variable {X : Cx}
theorem kp_rp {p : Nat} {cs0 : List L} {o : Nat} : killP p (.rp cs0 o) = (.rp cs0 o) := rfl
theorem kp_lk {p : Nat} {n0 : Nat} : killP p (.ln n0) = (.ln n0) := rfl
theorem kp_t {p : Nat} {c0 o T : Nat} : killP p (.tptr c0 o T) = (.tptr c0 o T) := rfl
theorem kp_fn {p : Nat} {f0 : Nat} {a b : List L} : killP p (.fn f0 a b) = (.fn f0 a b) := rfl
theorem kp_er {p : Nat} {z j o : Nat} {xs sp : List (List L)} : killP p (.ep .ro z xs sp j o) = (.ep .ro z xs sp j o) := rfl
theorem kp_eo {p : Nat} {q0 e z j o : Nat} {xs sp : List (List L)} : killP p (.ep (.own q0 e) z xs sp j o) = if (q0 == p) = true then .undef else (.ep (.own q0 e) z xs sp j o) := rfl
theorem kps_t {ps : List Nat} {c0 o T : Nat} : killPs ps (.tptr c0 o T) = (.tptr c0 o T) := rfl
theorem kps_er {ps : List Nat} {z j o : Nat} {xs sp : List (List L)} : killPs ps (.ep .ro z xs sp j o) = (.ep .ro z xs sp j o) := rfl
theorem kps_eo {ps : List Nat} {q0 e z j o : Nat} {xs sp : List (List L)} : killPs ps (.ep (.own q0 e) z xs sp j o) = if (ps.contains q0) = true then .undef else (.ep (.own q0 e) z xs sp j o) := rfl
theorem kc_t {c : Nat} {c0 o T : Nat} : killC c (.tptr c0 o T) = if (c0 == c) = true then .undef else (.tptr c0 o T) := rfl
theorem kc_fn {c : Nat} {f0 : Nat} {a b : List L} : killC c (.fn f0 a b) = if (a.any (isPtrC c) || b.any (isPtrC c)) = true then .undef else (.fn f0 a b) := rfl
theorem kc_er {c : Nat} {z j o : Nat} {xs sp : List (List L)} : killC c (.ep .ro z xs sp j o) = (.ep .ro z xs sp j o) := rfl
theorem kc_eo {c : Nat} {q0 e z j o : Nat} {xs sp : List (List L)} : killC c (.ep (.own q0 e) z xs sp j o) = (.ep (.own q0 e) z xs sp j o) := rfl
theorem rk_rp {q p : Nat} {cs0 : List L} {o : Nat} : renK q p (.rp cs0 o) = (.rp cs0 o) := rfl
theorem rk_lk {q p : Nat} {n0 : Nat} : renK q p (.ln n0) = (.ln n0) := rfl
theorem rk_t {q p : Nat} {c0 o T : Nat} : renK q p (.tptr c0 o T) = (.tptr c0 o T) := rfl
theorem rk_fn {q p : Nat} {f0 : Nat} {a b : List L} : renK q p (.fn f0 a b) = (.fn f0 a b) := rfl
theorem rk_er {q p : Nat} {z j o : Nat} {xs sp : List (List L)} : renK q p (.ep .ro z xs sp j o) = (.ep .ro z xs sp j o) := rfl
theorem rl_rp  {cs0 : List L} {o : Nat} : roL (.rp cs0 o) = (.rp cs0 o) := rfl
theorem rl_fn  {f0 : Nat} {a b : List L} : roL (.fn f0 a b) = if pureL a b = true then (.fn f0 a b) else .undef := rfl
theorem ol_rp {d : Nat} {cs0 : List L} {o : Nat} : outL d (.rp cs0 o) = (.rp cs0 o) := rfl
theorem ta_i {c : Nat} {k : IntKind} {n : Int} : toA c (.int k n) = (.int k n) := rfl
theorem ta_s {c : Nat} {s : ByteArray} : toA c (.str s) = (.str s) := rfl
theorem ta_rp {c : Nat} {cs0 : List L} {o : Nat} : toA c (.rp cs0 o) = (.rp cs0 o) := rfl
theorem ta_t {c : Nat} {c0 o T : Nat} : toA c (.tptr c0 o T) = if c0 = c then .tptr 0 o T else .undef := rfl
theorem tc_np {c : Nat}  : toC c .nilp = .nilp := rfl
theorem tc_t {c : Nat} {c0 o T : Nat} : toC c (.tptr c0 o T) = if c0 = c then .tptr 0 o T else .undef := rfl
theorem fc_b {c : Nat} {b : Bool} : fromC c (.bool b) = (.bool b) := rfl
theorem fc_np {c : Nat}  : fromC c .nilp = .nilp := rfl
theorem fc_u {c : Nat}  : fromC c .undef = .undef := rfl
theorem fc_lr {c : Nat} {z : Nat} {xs sp : List (List L)} : fromC c (.lst .ro z xs sp) = (.lst .ro z xs sp) := rfl
theorem fc_lo {c : Nat} {q0 e z : Nat} {xs sp : List (List L)} : fromC c (.lst (.own q0 e) z xs sp) = if isC 0 q0 = true then .lst (.own (cplc c q0) e) z xs sp else .undef := rfl
theorem fc_t {c : Nat} {c0 o T : Nat} : fromC c (.tptr c0 o T) = if c0 = 0 then .tptr c o T else .undef := rfl
theorem kl_b {c : Nat} {b : Bool} : killCl c (.bool b) = (.bool b) := rfl
theorem kl_i {c : Nat} {k : IntKind} {n : Int} : killCl c (.int k n) = (.int k n) := rfl
theorem kl_s {c : Nat} {s : ByteArray} : killCl c (.str s) = (.str s) := rfl
theorem kl_np {c : Nat}  : killCl c .nilp = .nilp := rfl
theorem kl_u {c : Nat}  : killCl c .undef = .undef := rfl
theorem kl_p {c : Nat} {c0 o : Nat} : killCl c (.ptr c0 o) = (.ptr c0 o) := rfl
theorem kl_lr {c : Nat} {z : Nat} {xs sp : List (List L)} : killCl c (.lst .ro z xs sp) = (.lst .ro z xs sp) := rfl
theorem kl_ln {c : Nat} {z : Nat} {xs sp : List (List L)} : killCl c (.lst .nl z xs sp) = (.lst .nl z xs sp) := rfl
theorem kl_lo {c : Nat} {q0 e z : Nat} {xs sp : List (List L)} : killCl c (.lst (.own q0 e) z xs sp) = if isC c q0 = true then .undef else (.lst (.own q0 e) z xs sp) := rfl
theorem kl_rp {c : Nat} {cs0 : List L} {o : Nat} : killCl c (.rp cs0 o) = (.rp cs0 o) := rfl
theorem kl_t {c : Nat} {c0 o T : Nat} : killCl c (.tptr c0 o T) = (.tptr c0 o T) := rfl
theorem kl_fn {c : Nat} {f0 : Nat} {a b : List L} : killCl c (.fn f0 a b) = (.fn f0 a b) := rfl
theorem kl_er {c : Nat} {z j o : Nat} {xs sp : List (List L)} : killCl c (.ep .ro z xs sp j o) = (.ep .ro z xs sp j o) := rfl
theorem kl_eo {c : Nat} {q0 e z j o : Nat} {xs sp : List (List L)} : killCl c (.ep (.own q0 e) z xs sp j o) = if isC c q0 = true then .undef else (.ep (.own q0 e) z xs sp j o) := rfl
theorem rc_t  {c0 o T : Nat} : roC (.tptr c0 o T) = (.tptr c0 o T) := rfl
theorem fz_i {c : Nat} {cs : List L} {k : IntKind} {n : Int} : frzL c cs (.int k n) = (.int k n) := rfl
theorem fz_s {c : Nat} {cs : List L} {s : ByteArray} : frzL c cs (.str s) = (.str s) := rfl
theorem fz_p {c : Nat} {cs : List L} {c0 o : Nat} : frzL c cs (.ptr c0 o) = if (c0 == c) = true then .rp cs o else (.ptr c0 o) := rfl
theorem fz_lr {c : Nat} {cs : List L} {z : Nat} {xs sp : List (List L)} : frzL c cs (.lst .ro z xs sp) = (.lst .ro z xs sp) := rfl
theorem fz_lo {c : Nat} {cs : List L} {q0 e z : Nat} {xs sp : List (List L)} : frzL c cs (.lst (.own q0 e) z xs sp) = (.lst (.own q0 e) z xs sp) := rfl
theorem tg_i {c : Nat} {k : IntKind} {n : Int} : toG c (.int k n) = (.int k n) := rfl
theorem tg_s {c : Nat} {s : ByteArray} : toG c (.str s) = (.str s) := rfl
theorem tg_p {c : Nat} {c0 o : Nat} : toG c (.ptr c0 o) = if c0 = c then .ptr 0 o else .undef := rfl
theorem tg_ln {c : Nat} {z : Nat} {xs sp : List (List L)} : toG c (.lst .nl z xs sp) = .lst .nl z xs sp := rfl
theorem tg_lo {c : Nat} {q0 e z : Nat} {xs sp : List (List L)} : toG c (.lst (.own q0 e) z xs sp) = if isC c q0 = true then .lst (.own (cplc 0 q0) e) z xs sp else .lst .ro z xs sp := rfl
theorem nC_b {c : Nat} {b : Bool} : noC c (.bool b) = true := rfl
theorem nC_i {c : Nat} {k : IntKind} {n : Int} : noC c (.int k n) = true := rfl
theorem nC_s {c : Nat} {s : ByteArray} : noC c (.str s) = true := rfl
theorem nC_p {c : Nat} {c0 o : Nat} : noC c (.ptr c0 o) = true := rfl
theorem nC_lr {c : Nat} {z : Nat} {xs sp : List (List L)} : noC c (.lst .ro z xs sp) = true := rfl
theorem nC_ln {c : Nat} {z : Nat} {xs sp : List (List L)} : noC c (.lst .nl z xs sp) = true := rfl
theorem nC_lo {c : Nat} {q0 e z : Nat} {xs sp : List (List L)} : noC c (.lst (.own q0 e) z xs sp) = !isC c q0 := rfl
theorem fD_i  {k : IntKind} {n : Int} : frzD (.int k n) = true := rfl
theorem fD_s  {s : ByteArray} : frzD (.str s) = true := rfl
theorem fD_lr  {z : Nat} {xs sp : List (List L)} : frzD (.lst .ro z xs sp) = true := rfl
theorem lp_b {p : Nat} {b : Bool} : lnP p (.bool b) = (.bool b) := rfl
theorem lp_i {p : Nat} {k : IntKind} {n : Int} : lnP p (.int k n) = (.int k n) := rfl
theorem lp_s {p : Nat} {s : ByteArray} : lnP p (.str s) = (.str s) := rfl
theorem lp_p {p : Nat} {c0 o : Nat} : lnP p (.ptr c0 o) = (.ptr c0 o) := rfl
theorem lp_lr {p : Nat} {z : Nat} {xs sp : List (List L)} : lnP p (.lst .ro z xs sp) = (.lst .ro z xs sp) := rfl
theorem lp_lo {p : Nat} {q0 e z : Nat} {xs sp : List (List L)} : lnP p (.lst (.own q0 e) z xs sp) = if (q0 == p) = true then .ln xs.length else (.lst (.own q0 e) z xs sp) := rfl
theorem lp_rp {p : Nat} {cs0 : List L} {o : Nat} : lnP p (.rp cs0 o) = (.rp cs0 o) := rfl
theorem lp_lk {p : Nat} {n0 : Nat} : lnP p (.ln n0) = (.ln n0) := rfl
theorem lp_t {p : Nat} {c0 o T : Nat} : lnP p (.tptr c0 o T) = (.tptr c0 o T) := rfl
theorem lp_fn {p : Nat} {f0 : Nat} {a b : List L} : lnP p (.fn f0 a b) = (.fn f0 a b) := rfl
theorem lp_er {p : Nat} {z j o : Nat} {xs sp : List (List L)} : lnP p (.ep .ro z xs sp j o) = (.ep .ro z xs sp j o) := rfl
theorem kf_s {c t : Nat} {r : PV} {x : L} : kf c (some t) r x = if ownsV r = true then killPs [plT t 0, plT t 1, plT t 2] (killCl c x) else killCl c x := rfl
theorem cp_st {m : Nat} {tm : List (Nat × PV)} {ce : List (Nat × List L)} {c : Nat} {cs : List L} {d : Option Nat} {r : PV} : callpSt ⟨m, tm, ce⟩ c cs d r = ⟨m, mapSnd (mapL (kf c d r)) tm, (c, cs.map (fromC c)) :: del (mapSnd (List.map (kf c d r)) ce) c⟩ := rfl
theorem pl_nn  : pureL [] [] = true := rfl
theorem pO_tt {t c o T : Nat} {r : List (Nat × PV)} : ptrsOf ((t, .lf (.tptr c o T)) :: r) = c :: ptrsOf r := rfl
theorem pO_r {t o : Nat} {cs : List L} {r : List (Nat × PV)} : ptrsOf ((t, .lf (.rp cs o)) :: r) = ptrsOf r := rfl
theorem pO_fn {t f : Nat} {a b : List L} {r : List (Nat × PV)} : ptrsOf ((t, .lf (.fn f a b)) :: r) = ptrsOf r := rfl
theorem e_asg_rp {m : Nat} {tm : List (Nat × PV)} {ce : List (Nat × List L)} {e n d : Nat} {cs0 : List L} {o : Nat} : St.asg ⟨m, tm, ce⟩ e n (some d) (.lf (.rp cs0 o)) = ⟨m, (d, .lf (.rp cs0 o)) :: tm, ce⟩ := rfl
theorem dw_rp0 {σ : St} {r : List L} {cs0 : List L} {o : Nat} : St.down σ ((.rp cs0 o) :: r) = St.down σ r := rfl
theorem e_asg_t {m : Nat} {tm : List (Nat × PV)} {ce : List (Nat × List L)} {e n d : Nat} {c0 o T : Nat} : St.asg ⟨m, tm, ce⟩ e n (some d) (.lf (.tptr c0 o T)) = ⟨m, (d, .lf (.tptr c0 o T)) :: tm, ce⟩ := rfl
theorem st_t1 {m : Nat} {tm : List (Nat × PV)} {ce : List (Nat × List L)} {c off : Nat} {cs : List L} {c0 o T : Nat} : St.stC ⟨m, tm, ce⟩ c off cs (.lf (.tptr c0 o T)) = ⟨m, tm, (c, fillL cs off [(.tptr c0 o T)]) :: del ce c⟩ := rfl
theorem dw_t0 {σ : St} {r : List L} {c0 o T : Nat} : St.down σ ((.tptr c0 o T) :: r) = St.down σ r := rfl
theorem e_asg_fn {m : Nat} {tm : List (Nat × PV)} {ce : List (Nat × List L)} {e n d : Nat} {f0 : Nat} {a b : List L} : St.asg ⟨m, tm, ce⟩ e n (some d) (.lf (.fn f0 a b)) = ⟨m, (d, .lf (.fn f0 a b)) :: tm, ce⟩ := rfl
theorem pc_rp {cs0 : List L} {o : Nat} : ptrC (.lf (.rp cs0 o)) = none := rfl
theorem pc_p {c o : Nat} : ptrC (.lf (.ptr c o)) = some c := rfl
theorem pc_t {c o T : Nat} : ptrC (.lf (.tptr c o T)) = some c := rfl
section
variable {P : Program} {σ : St} {K : St → Prop} {d : Option Nat}
theorem o_alt {c T : Nat} {zero : List L} : wop X P σ (some c) (.alt T zero) K = (σ.m ≤ c ∧ K { m := σ.m, tm := (c, .lf (.tptr c 0 T)) :: (σ.mapAll (killC c)).tm, ce := (c, zero) :: del (σ.mapAll (killC c)).ce c }) := rfl
def peqK (neg : Bool) (K : PV → Prop) (x y : PV) : Prop :=
  match x, y with
  | .lf .nilp, .lf .nilp => K (.lf (.bool !neg))
  | .lf (.tptr _ _ _), .lf .nilp => K (.lf (.bool neg))
  | .lf (.ptr _ _), .lf .nilp => K (.lf (.bool neg))
  | .lf (.tptr c o _), .lf (.tptr c' o' _) => c = c' ∧ o = o' ∧ K (.lf (.bool !neg))
  | _, _ => False
theorem o_peq {neg : Bool} {x y : AO} : wop X P σ d (.peq neg x y) K = peqK neg (putK σ d K) (σ.ev x) (σ.ev y) := rfl
theorem v_peq_nn {neg : Bool} {K : PV → Prop} : peqK neg K (.lf .nilp) (.lf .nilp) = K (.lf (.bool !neg)) := rfl
theorem v_peq_tn {neg : Bool} {c o T : Nat} {K : PV → Prop} : peqK neg K (.lf (.tptr c o T)) (.lf .nilp) = K (.lf (.bool neg)) := rfl
theorem v_peq_tt {neg : Bool} {c o T c' o' T' : Nat} {K : PV → Prop} : peqK neg K (.lf (.tptr c o T)) (.lf (.tptr c' o' T')) = (c = c' ∧ o = o' ∧ K (.lf (.bool !neg))) := rfl
def p2uK (o : Nat) (K : PV → Prop) (v : PV) : Option (List L) → Prop
  | some cs => o < cs.length ∧ K v
  | none => False
def p2uX (σ : St) (K : PV → Prop) (x : PV) : Prop :=
  match x with
  | .lf (.tptr c o T) => p2uK o K (.lf (.tptr c o T)) (get σ.ce c)
  | _ => False
theorem o_p2u {x : AO} : wop X P σ d (.p2u x) K = p2uX σ (putK σ d K) (σ.ev x) := by
  simp only [wop, p2uX]
  generalize σ.ev x = v
  split
  · rename_i c o T
    cases h : Go.Proofs.YtdoefdmaecaacaaGreatDoor.AM.get σ.ce c <;> simp [p2uK, h, putK]
  · rename_i h
    split
    · exact absurd rfl (h _ _ _)
    · rfl
theorem v_p2u {c o T : Nat} {K : PV → Prop} : p2uX σ K (.lf (.tptr c o T)) = p2uK o K (.lf (.tptr c o T)) (get σ.ce c) := rfl
theorem v_p2uK {o : Nat} {K : PV → Prop} {v : PV} {cs : List L} : p2uK o K v (some cs) = (o < cs.length ∧ K v) := rfl
def u2pK (P : Program) (T o u : Nat) (K : PV → Prop) (v : PV) : Option (List L) → Prop
  | some cs => liesAt P P.depth T (cs.length / P.cellsOf T) o u 1 = true ∧ K v
  | none => False
def u2pX (P : Program) (u : Nat) (σ : St) (K : PV → Prop) (x : PV) : Prop :=
  match x with
  | .lf (.tptr c o T) => u2pK P T o u K (.lf (.tptr c o T)) (get σ.ce c)
  | _ => False
theorem o_u2p {u : Nat} {x : AO} : wop X P σ d (.u2p u x) K = u2pX P u σ (putK σ d K) (σ.ev x) := by
  simp only [wop, u2pX]
  generalize σ.ev x = v
  split
  · rename_i c o T
    cases h : Go.Proofs.YtdoefdmaecaacaaGreatDoor.AM.get σ.ce c <;> simp [u2pK, h, putK]
  · rename_i h
    split
    · exact absurd rfl (h _ _ _)
    · rfl
theorem v_u2p {c o T u : Nat} {K : PV → Prop} : u2pX P u σ K (.lf (.tptr c o T)) = u2pK P T o u K (.lf (.tptr c o T)) (get σ.ce c) := rfl
theorem v_u2pK {T o u : Nat} {K : PV → Prop} {v : PV} {cs : List L} : u2pK P T o u K v (some cs) = (liesAt P P.depth T (cs.length / P.cellsOf T) o u 1 = true ∧ K v) := rfl
def exK (K : PV → Prop) : Option PV → Prop
  | some v => K v
  | none => False
theorem o_ex {k : Nat} {args : List AO} : wop X P σ d (.ex k args) K = exK (putK σ d K) (exV k (args.map σ.ev)) := by
  simp only [wop]
  cases exV k (args.map σ.ev) <;> simp [exK, putK]
theorem v_exK {K : PV → Prop} {v : PV} : exK K (some v) = K v := rfl
theorem v_ex0 {x : PV} : exV 0 [x] = some x := rfl
def usdK (K : PV → Prop) (x : PV) : Prop :=
  match x with
  | .lf (.lst t sz xs sp) => 0 < xs.length ∧ K (.lf (.ep t sz xs sp 0 0))
  | _ => False
theorem o_usd {x : AO} : wop X P σ d (.usd x) K = usdK (putK σ d K) (σ.ev x) := rfl
theorem v_usd {t : Tag} {sz : Nat} {xs sp : List (List L)} {K : PV → Prop} : usdK K (.lf (.lst t sz xs sp)) = (0 < xs.length ∧ K (.lf (.ep t sz xs sp 0 0))) := rfl
def ub (l : List UInt8) : List (List L) := l.map fun b => [.int .u8 b.toNat]
theorem ub_len {l : List UInt8} : (ub l).length = l.length := by simp [ub]
theorem ub_app {a b : List UInt8} : ub a ++ ub b = ub (a ++ b) := by simp [ub]
theorem ub_snoc {a : List UInt8} {b : UInt8} : ub a ++ [[.int .u8 b.toNat]] = ub (a ++ [b]) := by simp [ub]
theorem strOfNums_ub (l : List UInt8) : strOfNums (l.map fun b => (b.toNat : Int)) = ⟨l.toArray⟩ := by
  have : (l.map fun b => (b.toNat : Int)).map (fun n => UInt8.ofNat n.toNat) = l := by
    rw [List.map_map]
    conv => rhs; rw [← List.map_id l]
    apply List.map_congr_left
    intro b _
    simp
  simp only [strOfNums, this]
theorem v_cbs_ub {t : Tag} {sz : Nat} {l : List UInt8} {sp : List (List L)} {K : PV → Prop} : cbsK K (.lf (.lst t sz (ub l) sp)) = K (.lf (.str ⟨l.toArray⟩)) := by
  have : ub l = u8s (l.map fun b => (b.toNat : Int)) := by simp [ub, u8s]
  rw [this, v_cbs8, strOfNums_ub]
def ustK (σ : St) (e : Nat) (d : Option Nat) (K : St → Prop) (x n : PV) : Prop :=
  match x, n with
  | .lf (.ep (.own p e') 1 xs _ 0 0), .lf (.int .i64 n) => e' = e ∧ n = xs.length ∧ ∃ ns : List Int, xs = ns.map (fun n => [.int .u8 n]) ∧ (∀ n ∈ ns, 0 ≤ n ∧ n ≤ 255) ∧ K ((σ.mapAll (killP p)).put d (.lf (.str (strOfNums ns))))
  | _, _ => False
theorem o_ust {e : Nat} {x n : AO} : wop X P σ d (.ust e x n) K = ustK σ e d K (σ.ev x) (σ.ev n) := rfl
theorem v_ust {e p e' : Nat} {l : List UInt8} {sp : List (List L)} {n : Int} : ustK σ e d K (.lf (.ep (.own p e') 1 (ub l) sp 0 0)) (.lf (.int .i64 n)) = (e' = e ∧ n = (l.length : Int) ∧ K ((σ.mapAll (killP p)).put d (.lf (.str ⟨l.toArray⟩)))) := by
  simp only [ustK, ub_len]
  apply propext
  refine and_congr_right fun _ => and_congr_right fun _ => ?_
  constructor
  · rintro ⟨ns, h1, h2, h3⟩
    have : ns = l.map fun b => (b.toNat : Int) := by
      have h4 : ub l = u8s (l.map fun b => (b.toNat : Int)) := by simp [ub, u8s]
      rw [h4] at h1
      exact (u8s_inj (ys := ns) h1).symm
    rw [this, strOfNums_ub] at h3
    exact h3
  · intro h
    refine ⟨l.map fun b => (b.toNat : Int), by simp [ub], fun n hn => ?_, by rw [strOfNums_ub]; exact h⟩
    obtain ⟨b, _, rfl⟩ := List.mem_map.1 hn
    have := b.toNat_lt
    omega
def mmK (mx : Bool) (K : PV → Prop) (x y : PV) : Prop :=
  match x, y with
  | .lf (.int k a), .lf (.int k' b) => k = k' ∧ K (.lf (.int k (if mx then max a b else min a b)))
  | _, _ => False
theorem o_mm {mx : Bool} {x y : AO} : wop X P σ d (.mm mx x y) K = mmK mx (putK σ d K) (σ.ev x) (σ.ev y) := rfl
theorem v_mm {mx : Bool} {k k' : IntKind} {a b : Int} {K : PV → Prop} : mmK mx K (.lf (.int k a)) (.lf (.int k' b)) = (k = k' ∧ K (.lf (.int k (if mx = true then max a b else min a b)))) := rfl
def wmkf (σ : St) (K : St → Prop) : Prop := ∃ fz, wfrz σ K fz
theorem wmkf_n {σ : St} {K : St → Prop} (h : K σ) : wmkf σ K := ⟨[], h⟩
theorem e_frz {m : Nat} {tm : List (Nat × PV)} {ce : List (Nat × List L)} {c : Nat} {cs : List L} : St.frz ⟨m, tm, ce⟩ c cs = ⟨m, mapSnd (mapL (frzL c cs)) tm, mapSnd (List.map (frzL c cs)) (del ce c)⟩ := rfl
def mkfK (σ : St) (f : Nat) (d : Option Nat) (K : St → Prop) (x y : Option (List L)) : Prop :=
  match x, y with
  | some as, some bs => as.all capL = true ∧ bs.all capL = true ∧ wmkf ((σ.down (as ++ bs)).put d (.lf (.fn f (as.map roC) (bs.map roC)))) K
  | _, _ => False
theorem o_mkf {f : Nat} {a b : List AO} : wop X P σ d (.mkf f a b) K = mkfK σ f d K (leafs1 (a.map σ.ev)) (leafs1 (b.map σ.ev)) := by
  simp only [wop]
  cases leafs1 (a.map σ.ev) <;> cases leafs1 (b.map σ.ev) <;> simp [mkfK, wmkf]
theorem v_mkf {f : Nat} {as bs : List L} : mkfK σ f d K (some as) (some bs) = (as.all capL = true ∧ bs.all capL = true ∧ wmkf ((σ.down (as ++ bs)).put d (.lf (.fn f (as.map roC) (bs.map roC)))) K) := rfl
theorem v_lf_n : leafs1 [] = some [] := rfl
theorem v_lf_c {x : L} {r : List PV} : leafs1 (.lf x :: r) = (leafs1 r).map fun l => x :: l := rfl
def wcald (X : Cx) (P : Program) (x : PV) (args : List PV) (ls : List L) (evs : List PV) (σ : St) (d : Option Nat) (K : St → Prop) : Prop :=
  match x with
  | .lf (.fn f a b) => fnOK P f = true ∧ ((pureL a b = true ∧ ((∃ ip c : Nat, ((evs[ip]?).bind ptrC) = some c ∧ ∃ cs, get (σ.down ls).ce c = some cs ∧ ∃ r cs', R X P f (a.map (fun x => .lf x) ++ (evs.map fun x => mapL (toA c) x) ++ b.map (fun x => .lf x)) [cs.map (toC c)] r [cs'] ∧ resOK r = true ∧ K ((callpSt (σ.down ls) c cs' d r).put d (outV d r))) ∨
      ∃ r, R X P f (a.map (fun x => .lf x) ++ args ++ b.map (fun x => .lf x)) [] r [] ∧ resOK r = true ∧ K (((σ.down ls).clr d r).put d (outV d r)))) ∨
      ∃ c : Nat, ∃ cs, get (σ.down ls).ce c = some cs ∧ ∃ r cs', R X P f (a.map (fun x => .lf (capA c x)) ++ (evs.map fun x => mapL (toA c) x) ++ b.map (fun x => .lf (capA c x))) [cs.map (toC c)] r [cs'] ∧ resOK r = true ∧ K ((callpSt (σ.down ls) c cs' d r).put d (outV d r)))
  | _ => False
theorem o_cald {x : AO} {args : List AO} : wop X P σ d (.cald x args) K = wcald X P (σ.ev x) (args.map fun x => mapL roL (σ.ev x)) (args.flatMap fun x => (σ.ev x).leaves) (args.map fun x => σ.ev x) σ d K := by
  have e : ∀ ip : Nat, (((args.map fun x => σ.ev x)[ip]?).bind ptrC) = ((args[ip]?).bind fun x => ptrC (σ.ev x)) := fun ip => by rw [List.getElem?_map]; cases args[ip]? <;> rfl
  simp only [wop, wcald, wcaldP, wcaldC, e, List.map_map]
  rfl
theorem wcald_i {P : Program} {σ : St} {d : Option Nat} {K : St → Prop} {f : Nat} {a b : List L} {args : List PV} {ls : List L} {evs : List PV} {r : PV} (hf : fnOK P f = true) (hp : pureL a b = true) (h : R X P f (a.map (fun x => .lf x) ++ args ++ b.map (fun x => .lf x)) [] r []) (h1 : resOK r = true) (h3 : K (((σ.down ls).clr d r).put d (outV d r))) :
    wcald X P (.lf (.fn f a b)) args ls evs σ d K := ⟨hf, .inl ⟨hp, .inr ⟨r, h, h1, h3⟩⟩⟩
theorem wcald_c {P : Program} {σ : St} {d : Option Nat} {K : St → Prop} {f : Nat} {a b : List L} {args : List PV} {ls : List L} {evs : List PV} {r : PV} {cs cs0 cs' : List L} {as : List PV} (hf : fnOK P f = true) (c : Nat) (hcs : get (σ.down ls).ce c = some cs) (h : R X P f as [cs0] r [cs'])
    (ea : (a.map (fun x => PV.lf (capA c x)) ++ (evs.map fun x => mapL (toA c) x) ++ b.map (fun x => PV.lf (capA c x))) = as) (ec : cs.map (toC c) = cs0) (h1 : resOK r = true) (h3 : K ((callpSt (σ.down ls) c cs' d r).put d (outV d r))) : wcald X P (.lf (.fn f a b)) args ls evs σ d K :=
  ⟨hf, .inr ⟨c, cs, hcs, r, cs', ea ▸ ec ▸ h, h1, h3⟩⟩
theorem v_callpn {P : Program} {σ : St} {d : Option Nat} {K : St → Prop} {f : Nat} {args : List AO} {ls : List L} : wcallp X P f σ args ls d K none = wcallA X P σ d f args K := rfl
def wcn (X : Cx) (P : Program) (f : Nat) (args : List PV) (ls : List L) (σ : St) (d : Option Nat) (K : St → Prop) : Prop :=
  ∃ r, R X P f args [] r [] ∧ resOK r = true ∧ ((Flat r ∧ K ((σ.clr d r).put d (outV d r))) ∨ K (((σ.down ls).clr d r).put d (outV d r)))
theorem v_callA {P : Program} {σ : St} {d : Option Nat} {K : St → Prop} {f : Nat} {args : List AO} : wcallA X P σ d f args K = wcn X P f (args.map fun x => mapL roL (σ.ev x)) (args.flatMap fun x => (σ.ev x).leaves) σ d K := rfl
theorem wcn_down {P : Program} {σ : St} {d : Option Nat} {K : St → Prop} {f : Nat} {args : List PV} {ls : List L} {r : PV} (h : R X P f args [] r []) (h1 : resOK r = true) (h3 : K (((σ.down ls).clr d r).put d (outV d r))) : wcn X P f args ls σ d K := ⟨r, h, h1, .inr h3⟩
def wcallg (X : Cx) (P : Program) (f ip : Nat) (σ : St) (args : List AO) (ls : List L) (d : Option Nat) (K : St → Prop) (p : Option Nat) : Prop := wcallp X P f σ args ls d K p ∨ wcallG X P σ d f ip args K
theorem o_callg {P : Program} {σ : St} {d : Option Nat} {K : St → Prop} {f ip : Nat} {args : List AO} : wop X P σ d (.callg f ip args) K = wcallg X P f ip σ args (args.flatMap fun x => (σ.ev x).leaves) d K ((args[ip]?).bind fun x => ptrC (σ.ev x)) := by
  have h := o_callp (X := X) (P := P) (σ := σ) (d := d) (K := K) (f := f) (ip := ip) (args := args)
  simp only [wop] at h
  simp only [wop, wcallg, h]
def gS (X : Cx) (P : Program) (f : Nat) (args : List AO) (c : Nat) (d : Option Nat) (K : St → Prop) (σ : St) : Prop :=
  pcall X P f (args.map fun x => mapL (toG c) (σ.ev x)) (σ.down (((args.flatMap fun x => (σ.ev x).leaves) ++ cellO (get σ.ce c)).filter (noC c))) c d K (get (σ.down (((args.flatMap fun x => (σ.ev x).leaves) ++ cellO (get σ.ce c)).filter (noC c))).ce c)
theorem gS_st {P : Program} {f : Nat} {args : List AO} {c : Nat} {d : Option Nat} {K : St → Prop} {m : Nat} {tm : List (Nat × PV)} {ce : List (Nat × List L)} : gS X P f args c d K ⟨m, tm, ce⟩ =
  pcall X P f (args.map fun x => mapL (toG c) (St.ev ⟨m, tm, ce⟩ x)) (St.down ⟨m, tm, ce⟩ (((args.flatMap fun x => (St.ev ⟨m, tm, ce⟩ x).leaves) ++ cellO (get ce c)).filter (noC c))) c d K (get (St.down ⟨m, tm, ce⟩ (((args.flatMap fun x => (St.ev ⟨m, tm, ce⟩ x).leaves) ++ cellO (get ce c)).filter (noC c))).ce c) := rfl
theorem co_s {l : List L} : cellO (some l) = l := rfl
theorem wcallg_g {P : Program} {σ : St} {d : Option Nat} {K : St → Prop} {f ip : Nat} {args : List AO} {ls : List L} {c p e sz : Nat} {xs sp : List (List L)} (jp : Nat) (hj : ((args[jp]?).map σ.ev) = some (.lf (.lst (.own p e) sz xs sp))) (hp : p ≠ gvP c) (hip : ((args[ip]?).bind fun x => ptrC (σ.ev x)) = some c) (h : gS X P f args c d K (σ.mapAll (renK p (gvP c)))) : wcallg X P f ip σ args ls d K (some c) := by
  unfold gS pcall at h
  cases hcs : get ((σ.mapAll (renK p (gvP c))).down (((args.flatMap fun x => ((σ.mapAll (renK p (gvP c))).ev x).leaves) ++ cellO (get (σ.mapAll (renK p (gvP c))).ce c)).filter (noC c))).ce c with
  | none => rw [hcs] at h; exact h.elim
  | some cs =>
    rw [hcs] at h
    exact .inr ⟨c, jp, p, e, sz, xs, sp, _, .inl hj, .inr ⟨hp, rfl⟩, hip, cs, hcs, h⟩
theorem wcallg_h {P : Program} {σ : St} {d : Option Nat} {K : St → Prop} {f ip : Nat} {args : List AO} {ls : List L} {c p e sz : Nat} {xs sp : List (List L)} (jp : Nat) (hj : ((args[jp]?).map σ.ev) = some (.lf (.lst (.own p e) sz xs sp))) (hp : p = gvP c) (hip : ((args[ip]?).bind fun x => ptrC (σ.ev x)) = some c) (h : gS X P f args c d K σ) : wcallg X P f ip σ args ls d K (some c) := by
  unfold gS pcall at h
  cases hcs : get (σ.down (((args.flatMap fun x => (σ.ev x).leaves) ++ cellO (get σ.ce c)).filter (noC c))).ce c with
  | none => rw [hcs] at h; exact h.elim
  | some cs =>
    rw [hcs] at h
    exact .inr ⟨c, jp, p, e, sz, xs, sp, _, .inl hj, .inl ⟨hp, rfl⟩, hip, cs, hcs, h⟩
theorem wcallg_n {P : Program} {σ : St} {d : Option Nat} {K : St → Prop} {f ip : Nat} {args : List AO} {ls : List L} {c sz : Nat} {xs sp : List (List L)} (jp : Nat) (hj : ((args[jp]?).map σ.ev) = some (.lf (.lst .nl sz xs sp))) (hip : ((args[ip]?).bind fun x => ptrC (σ.ev x)) = some c) (h : gS X P f args c d K σ) : wcallg X P f ip σ args ls d K (some c) := by
  unfold gS pcall at h
  cases hcs : get (σ.down (((args.flatMap fun x => (σ.ev x).leaves) ++ cellO (get σ.ce c)).filter (noC c))).ce c with
  | none => rw [hcs] at h; exact h.elim
  | some cs =>
    rw [hcs] at h
    exact .inr ⟨c, jp, gvP c, 0, sz, xs, sp, _, .inr hj, .inl ⟨rfl, rfl⟩, hip, cs, hcs, h⟩
theorem fl_n {c : Nat} : List.filter (noC c) [] = [] := rfl
def consB (b : Bool) (x : L) (r : List L) : List L := if b = true then x :: r else r
theorem fl_c {c : Nat} {x : L} {r : List L} : List.filter (noC c) (x :: r) = consB (noC c x) x (List.filter (noC c) r) := by
  simp only [List.filter, consB]; cases noC c x <;> rfl
theorem cB_t {x : L} {r : List L} : consB true x r = x :: r := rfl
theorem cB_f {x : L} {r : List L} : consB false x r = r := rfl
theorem gv_0 : gvP 0 = 127 := rfl
def bxtK (σ : St) (c T : Nat) (K : St → Prop) (v : PV) : Prop :=
  match v with
  | .ag vs => σ.m ≤ c ∧ K { m := σ.m, tm := (c, .lf (.tptr c 0 T)) :: (σ.mapAll (killC c)).tm, ce := (c, vs.map (killC c)) :: del (σ.mapAll (killC c)).ce c }
  | _ => False
theorem o_bxt {c T : Nat} {x : AO} {σ : St} {K : St → Prop} {P : Program} : wop X P σ (some c) (.bxt T x) K = bxtK σ c T K (σ.ev x) := by
  simp only [wop, bxtK]
  generalize σ.ev x = v
  cases v <;> rfl
theorem v_bxt {c T : Nat} {σ : St} {K : St → Prop} {vs : List L} : bxtK σ c T K (.ag vs) = (σ.m ≤ c ∧ K { m := σ.m, tm := (c, .lf (.tptr c 0 T)) :: (σ.mapAll (killC c)).tm, ce := (c, vs.map (killC c)) :: del (σ.mapAll (killC c)).ce c }) := rfl
theorem nl_own {E : Env} {w : World} {n e p : Nat} {v : Value} (h : LeafV E w (.lst .nl n [] []) v) : LeafV E w (.lst (.own p e) n [] []) v := by
  obtain ⟨A, cap, h1, h2, h3, _, _⟩ := h
  exact ⟨A, cap, h1, .inl ⟨h2, h3, rfl, rfl⟩⟩
inductive NlC : List L → List L → Prop where
  | nil : NlC [] []
  | same {x : L} {a b : List L} : NlC a b → NlC (x :: a) (x :: b)
  | nl {n e p : Nat} {a b : List L} : NlC a b → NlC (.lst .nl n [] [] :: a) (.lst (.own p e) n [] [] :: b)
theorem NlC.all {E : Env} {w : World} {a b : List L} {us : List Value} (h : NlC a b) (ha : All2 (LeafV E w) a us) : All2 (LeafV E w) b us := by
  induction h generalizing us with
  | nil => exact ha
  | same _ ih => cases ha with | cons h1 h2 => exact .cons h1 (ih h2)
  | nl _ ih => cases ha with | cons h1 h2 => exact .cons (nl_own h1) (ih h2)
theorem R_nlc {P : Program} {f : Nat} {args : List PV} {cs0 cs cs' : List L} {r : PV} (hn : NlC cs0 cs) (h : R X P f args [cs] r [cs']) : R X P f args [cs0] r [cs'] := by
  intro E w vs hX hI hk ha hC
  refine h E w vs hX hI hk ha (fun c x hx => ?_)
  cases c with
  | succ c => simp at hx
  | zero =>
    simp only [List.getElem?_cons_zero, Option.some.injEq] at hx
    subst hx
    obtain ⟨b, u, T, h1, h2, h3⟩ := hC 0 cs0 rfl
    exact ⟨b, u, T, h1, h2, hn.all h3⟩
def wbsf (σ : St) (K : St → Prop) : Prop := ∃ fz, wfrzd σ K fz
def bsC (d : Option Nat) (e n len : Nat) (zero : List L) (ps : List (Nat × AO)) (K : St → Prop) (σ : St) : Prop := wbs σ d e n len zero ps K
theorem o_bsf {e n len : Nat} {zero : List L} {ps : List (Nat × AO)} {σ : St} {d : Option Nat} {K : St → Prop} {P : Program} : wop X P σ d (.bsf e n len zero ps) K = wbsf σ (bsC d e n len zero ps K) := rfl
theorem wbsf_n {σ : St} {K : St → Prop} (h : K σ) : wbsf σ K := ⟨[], h⟩
theorem wbsf_f {σ : St} {K : St → Prop} (fz : List Nat) (h : wfrzd σ K fz) : wbsf σ K := ⟨fz, h⟩
def wfdQ (σ : St) (K : St → Prop) (r : List Nat) (c : Nat) : Option (List L) → Prop
  | some cs => σ.m ≤ c ∧ cs.all frzD = true ∧ wfrzd (σ.frz c cs) K r
  | none => False
def wfdP (K : St → Prop) (r : List Nat) (c : Nat) (σ : St) : Prop := wfdQ σ K r c (get σ.ce c)
def wfdO (σ : St) (K : St → Prop) (r : List Nat) (c : Nat) : Option (List L) → Prop
  | some cs0 => wfdP K r c (σ.down cs0)
  | none => False
theorem down_m : ∀ (l : List L) (σ : St), (σ.down l).m = σ.m
  | [], _ => rfl
  | x :: l, σ => by
    simp only [St.down]
    cases placeOf x with
    | none => exact down_m l σ
    | some p => exact down_m l _
theorem wfd_n {σ : St} {K : St → Prop} : wfrzd σ K [] = K σ := rfl
theorem wfd_c {σ : St} {K : St → Prop} {c : Nat} {r : List Nat} : wfrzd σ K (c :: r) = wfdO σ K r c (get σ.ce c) := by
  simp only [wfrzd, wfdO]
  cases get σ.ce c with
  | none => simp
  | some cs0 =>
    simp only [wfdP, Option.some.injEq, exists_and_left, exists_eq_left', wfdQ]
    cases get (σ.down cs0).ce c with
    | none => simp
    | some cs => simp [down_m]
theorem wfd_o {σ : St} {K : St → Prop} {c : Nat} {r : List Nat} {cs : List L} : wfdO σ K r c (some cs) = wfdP K r c (σ.down cs) := rfl
theorem wfd_p {K : St → Prop} {c : Nat} {r : List Nat} {m : Nat} {tm : List (Nat × PV)} {ce : List (Nat × List L)} : wfdP K r c ⟨m, tm, ce⟩ = wfdQ ⟨m, tm, ce⟩ K r c (get ce c) := rfl
theorem wfd_q {σ : St} {K : St → Prop} {c : Nat} {r : List Nat} {cs : List L} : wfdQ σ K r c (some cs) = (σ.m ≤ c ∧ cs.all frzD = true ∧ wfrzd (σ.frz c cs) K r) := rfl
theorem s_bsC {t e n len : Nat} {zero : List L} {ps : List (Nat × AO)} {σ : St} {K : St → Prop} : bsC (some t) e n len zero ps K σ = (len * n ≤ 16777216 ∧ zero.length = n ∧ wlit σ n (List.replicate len zero) ps (bsK σ e n t (litLeaves σ ps) K)) := rfl
theorem one_0 : oneOf [] = .tp [] := rfl
theorem ba_size {l : List UInt8} : (ByteArray.mk l.toArray).size = l.length := by simp [ByteArray.size]
theorem size_len (t : ByteArray) : t.data.toList.length = t.size := by simp
theorem v_bx_a {σ : St} {c : Nat} {K : St → Prop} {vs : List L} : bxK σ c K (.ag vs) = (σ.m ≤ c ∧ K { m := σ.m, tm := (c, .lf (.ptr c 0)) :: (σ.mapAll (killC c)).tm, ce := (c, vs.map (killC c)) :: del (σ.mapAll (killC c)).ce c }) := rfl
theorem rg_1 : List.range 1 = [0] := rfl
def rowK (X : Cx) (P : Program) (σ0 : St) (ts : List Nat) (os : List AOper) (K : St → Prop) (σ : St) : Prop := σ.m = σ0.m ∧ keepS σ0 σ ts ∧ wopsr X P σ0 ts os σ K
theorem s_gdt {Q : Out → St → Prop} {t : OT} {keep : List Nat} : awp X P (.gdt t keep) Q σ = wpot X P t σ (opsK keep Q) := rfl
def potK (X : Cx) (P : Program) (t : OT) (K : St → Prop) (σ : St) : Prop := wpot X P t σ K
theorem t_nil : wpot X P .nil σ K = K σ := rfl
theorem t_one {op : AOp} {g : Option (Nat × Bool)} {t : OT} : wpot X P (.one ⟨d, op, g⟩ t) σ K = wop X P σ d op (potK X P t K) := rfl
theorem t_pot {t : OT} : potK X P t K σ = wpot X P t σ K := rfl
theorem t_alt {a b : OT} : wpot X P (.alt a b) σ K = (wpot X P a σ K ∧ wpot X P b σ K) := rfl
end
section
variable {m : Nat} {ρ : List (Nat × Nat)} {dn : List Nat}
theorem t_rp {cs cs' : List L} {o o' : Nat} : leafTo m ρ dn (.rp cs o) (.rp cs' o') = (cs = cs' ∧ o = o') := by simp [leafTo, datL]
end
section
variable {P : Program} {σ : St} {K : St → Prop} {d : Option Nat} {m : Nat}
def gqK (X : Cx) (P : Program) (os : List AOper) (K : St → Prop) (σ : St) : Prop := wopsh X P os σ K
def gqE (X : Cx) (P : Program) (m : Nat) (tl : List AOper) (K : St → Prop) (σ : St) : Prop := wopst X P m tl σ K
def gqF (m : Nat) (K : St → Prop) (σ : St) : Prop := σ.m = m ∧ K σ
def gqT (X : Cx) (P : Program) (m : Nat) (os : List AOper) (K : St → Prop) (σ : St) : Prop := σ.m = m ∧ wopst X P m os σ K
theorem s_gdq {Q : Out → St → Prop} {hd tl : List AOper} {keep : List Nat} : awp X P (.gdq hd tl keep) Q σ = wopsh X P hd σ (gqE X P σ.m tl (opsK keep Q)) := rfl
theorem s_gqn : wopsh X P [] σ K = K σ := rfl
theorem s_gqc {op : AOp} {g : Option (Nat × Bool)} {os : List AOper} : wopsh X P (⟨d, op, g⟩ :: os) σ K = (ldOK σ op = true ∧ wop X P σ d op (gqK X P os K)) := rfl
theorem s_gqK {os : List AOper} : gqK X P os K σ = wopsh X P os σ K := rfl
theorem s_gqE {tl : List AOper} : gqE X P m tl K σ = wopst X P m tl σ K := rfl
theorem s_gq1 {op : AOp} {g : Option (Nat × Bool)} : wopst X P m [⟨d, op, g⟩] σ K = wop X P σ d op (gqF m K) := rfl
theorem s_gq2 {op : AOp} {g : Option (Nat × Bool)} {o : AOper} {os : List AOper} : wopst X P m (⟨d, op, g⟩ :: o :: os) σ K = (notSl σ op = true ∧ wop X P σ d op (gqT X P m (o :: os) K)) := rfl
theorem s_gqF {m' : Nat} {tm : List (Nat × PV)} {ce : List (Nat × List L)} : gqF m K ⟨m', tm, ce⟩ = (m' = m ∧ K ⟨m', tm, ce⟩) := rfl
theorem s_gqT {m' : Nat} {tm : List (Nat × PV)} {ce : List (Nat × List L)} {os : List AOper} : gqT X P m os K ⟨m', tm, ce⟩ = (m' = m ∧ wopst X P m os ⟨m', tm, ce⟩ K) := rfl
theorem pv_p {c o : Nat} : ptrV (.lf (.ptr c o)) = true := rfl
theorem sv_l {t : Tag} {z : Nat} {xs sp : List (List L)} : slV (.lf (.lst t z xs sp)) = false := rfl
theorem lk_mv {x : AO} : ldOK σ (.mv x) = true := rfl
theorem lk_fa {x : AO} {o : Nat} : ldOK σ (.fa x o) = true := rfl
theorem ns_fa {x : AO} {o : Nat} : notSl σ (.fa x o) = true := rfl
theorem lk_nc {x : AO} : ldOK σ (.nc x) = true := rfl
theorem ns_nc {x : AO} : notSl σ (.nc x) = true := rfl
theorem lk_ld {x : AO} {n : Nat} {b : Bool} : ldOK σ (.ld x n b) = ptrV (σ.ev x) := rfl
theorem ns_app {e n b : Nat} {x y : AO} : notSl σ (.app e n b x y) = !slV (σ.ev x) := rfl
end
section
variable {P : Program} {σ : St} {K : St → Prop} {d : Option Nat} {m : Nat} {ls : List (Nat × Nat × Nat)}
end
abbrev tyOf {p : Prop} (_ : p) : Prop := p
theorem S0 : tyOf (And.intro @e_get (And.intro @e_t (And.intro @Option.getD_some.{0} (And.intro @e_put (And.intro @s_wopsK (And.intro @s_cons (And.intro @m_lf (And.intro @s_opsK (And.intro @e_res (And.intro @e_keep_n (And.intro @s_nil (And.intro @s_seqK_n (And.intro @e_keep_c (And.intro @e_keep1_s (And.intro @Bool.false_eq_true (And.intro @List.map_nil.{0,0} (And.intro @e_k (And.intro @List.map_cons.{0,0} (And.intro @s_ops0 (And.intro @s_putK (And.intro @List.append_nil.{0} (And.intro @o_as (And.intro @s_seq (And.intro @o_mv (And.intro @Nat.zero_add (And.intro @List.flatMap_nil.{0,0} (And.intro @List.flatMap_cons.{0,0} (And.intro @true_and (And.intro @Bool.true_and (And.intro @m_n (And.intro @m_c (And.intro @List.nil_append.{0} (And.intro @o_bin (And.intro @List.cons_append.{0} (And.intro @List.length_nil.{0} (And.intro @List.getElem?_cons_zero.{0} (And.intro @Nat.add_zero (And.intro @s_cond (And.intro @s_cnd (And.intro @and_true (And.intro @Bool.and_true (And.intro @s_retX (And.intro @s_cells_n (And.intro @r_n (And.intro @Bool.and_self (And.intro @m_all (And.intro @s_ret (And.intro @s_ret_r (And.intro @d_n (And.intro @BEq.rfl.{0} (And.intro @r_cons (And.intro @r_t (And.intro @dw_n (And.intro @List.length_cons.{0} (And.intro @o_ld (And.intro @e_asg_i (And.intro @d_c (And.intro @v_part_f (And.intro @v_atK (And.intro @e_asg_s (And.intro @s_skip (And.intro @v_ldC (And.intro @o_fa (And.intro @s_block (And.intro @one_1 (And.intro @t_lf (And.intro @s_seqK_r (And.intro @Option.bind_some.{0,0} (And.intro @kf_s (And.intro @cp_st (And.intro @o_call (And.intro @rk_lo (And.intro @v_ld_p (And.intro @e_asg_b (And.intro @rk_i (And.intro @decide_eq_true_eq (And.intro @rk_lro (And.intro @s_blkK_n (And.intro @rk_b (And.intro @kl_b (And.intro @m_tp (And.intro @kl_i (And.intro @v_eql (And.intro @e_head (And.intro @e_headK (And.intro @pO_i (And.intro @kC_n (And.intro @pO_n (And.intro @t_b (And.intro @ol_s (And.intro @t_tp (And.intro @t_n (And.intro @List.getElem?_cons_succ.{0} (And.intro @rk_p (And.intro @dw_lr (And.intro @s_blkK_r (And.intro @kl_s (And.intro @kl_lo (And.intro @dw_s (And.intro @m_ag (And.intro @v_fa_p (And.intro @rl_i (And.intro @dw_i (And.intro @e_asg_o (And.intro @ol_lo (And.intro @kl_lr (And.intro @s_cells_c (And.intro @t_some (And.intro @dw_t0 (And.intro @kps_lro (And.intro @rk_s (And.intro @ol_i (And.intro @kps_b (And.intro @q_mv (And.intro @t_i (And.intro @o_callp (And.intro @v_lss (And.intro @ta_t (And.intro @pc_t (And.intro @v_callp (And.intro @v_add (And.intro @kps_i (And.intro @fc_b (And.intro @kl_p (And.intro @kl_t (And.intro @kps_p (And.intro @rk_u (And.intro @o_pk (And.intro @v_pk (And.intro @t_l (And.intro @t_oo (And.intro @t_s (And.intro @pO_l (And.intro @o_nc (And.intro @o_ia (And.intro @v_ia (And.intro @s_loopK_n (And.intro @s_grd (And.intro @q_bin (And.intro @dw_b (And.intro @dw_p (And.intro @tg_p (And.intro @nC_b (And.intro @nC_p (And.intro @nC_lr (And.intro @nC_lo (And.intro @gS_st (And.intro @fl_n (And.intro @fl_c (And.intro @cB_t (And.intro @co_s (And.intro @fc_lr (And.intro @tg_lo (And.intro @cB_f (And.intro @kps_u (And.intro @kp_i (And.intro @pc_p (And.intro @o_callg (And.intro @t_c (And.intro @t_1l (And.intro @one_2 (And.intro @t_ln (And.intro @t_lc (And.intro @ba_size (@s_guard))))))))))))))))))))))))))))))))))))))))))))))))))))))))))))))))))))))))))))))))))))))))))))))))))))))))))))))))))))))))))))))))))))))))))))))))))))))))))))))))))))) := And.intro @e_get (And.intro @e_t (And.intro @Option.getD_some.{0} (And.intro @e_put (And.intro @s_wopsK (And.intro @s_cons (And.intro @m_lf (And.intro @s_opsK (And.intro @e_res (And.intro @e_keep_n (And.intro @s_nil (And.intro @s_seqK_n (And.intro @e_keep_c (And.intro @e_keep1_s (And.intro @Bool.false_eq_true (And.intro @List.map_nil.{0,0} (And.intro @e_k (And.intro @List.map_cons.{0,0} (And.intro @s_ops0 (And.intro @s_putK (And.intro @List.append_nil.{0} (And.intro @o_as (And.intro @s_seq (And.intro @o_mv (And.intro @Nat.zero_add (And.intro @List.flatMap_nil.{0,0} (And.intro @List.flatMap_cons.{0,0} (And.intro @true_and (And.intro @Bool.true_and (And.intro @m_n (And.intro @m_c (And.intro @List.nil_append.{0} (And.intro @o_bin (And.intro @List.cons_append.{0} (And.intro @List.length_nil.{0} (And.intro @List.getElem?_cons_zero.{0} (And.intro @Nat.add_zero (And.intro @s_cond (And.intro @s_cnd (And.intro @and_true (And.intro @Bool.and_true (And.intro @s_retX (And.intro @s_cells_n (And.intro @r_n (And.intro @Bool.and_self (And.intro @m_all (And.intro @s_ret (And.intro @s_ret_r (And.intro @d_n (And.intro @BEq.rfl.{0} (And.intro @r_cons (And.intro @r_t (And.intro @dw_n (And.intro @List.length_cons.{0} (And.intro @o_ld (And.intro @e_asg_i (And.intro @d_c (And.intro @v_part_f (And.intro @v_atK (And.intro @e_asg_s (And.intro @s_skip (And.intro @v_ldC (And.intro @o_fa (And.intro @s_block (And.intro @one_1 (And.intro @t_lf (And.intro @s_seqK_r (And.intro @Option.bind_some.{0,0} (And.intro @kf_s (And.intro @cp_st (And.intro @o_call (And.intro @rk_lo (And.intro @v_ld_p (And.intro @e_asg_b (And.intro @rk_i (And.intro @decide_eq_true_eq (And.intro @rk_lro (And.intro @s_blkK_n (And.intro @rk_b (And.intro @kl_b (And.intro @m_tp (And.intro @kl_i (And.intro @v_eql (And.intro @e_head (And.intro @e_headK (And.intro @pO_i (And.intro @kC_n (And.intro @pO_n (And.intro @t_b (And.intro @ol_s (And.intro @t_tp (And.intro @t_n (And.intro @List.getElem?_cons_succ.{0} (And.intro @rk_p (And.intro @dw_lr (And.intro @s_blkK_r (And.intro @kl_s (And.intro @kl_lo (And.intro @dw_s (And.intro @m_ag (And.intro @v_fa_p (And.intro @rl_i (And.intro @dw_i (And.intro @e_asg_o (And.intro @ol_lo (And.intro @kl_lr (And.intro @s_cells_c (And.intro @t_some (And.intro @dw_t0 (And.intro @kps_lro (And.intro @rk_s (And.intro @ol_i (And.intro @kps_b (And.intro @q_mv (And.intro @t_i (And.intro @o_callp (And.intro @v_lss (And.intro @ta_t (And.intro @pc_t (And.intro @v_callp (And.intro @v_add (And.intro @kps_i (And.intro @fc_b (And.intro @kl_p (And.intro @kl_t (And.intro @kps_p (And.intro @rk_u (And.intro @o_pk (And.intro @v_pk (And.intro @t_l (And.intro @t_oo (And.intro @t_s (And.intro @pO_l (And.intro @o_nc (And.intro @o_ia (And.intro @v_ia (And.intro @s_loopK_n (And.intro @s_grd (And.intro @q_bin (And.intro @dw_b (And.intro @dw_p (And.intro @tg_p (And.intro @nC_b (And.intro @nC_p (And.intro @nC_lr (And.intro @nC_lo (And.intro @gS_st (And.intro @fl_n (And.intro @fl_c (And.intro @cB_t (And.intro @co_s (And.intro @fc_lr (And.intro @tg_lo (And.intro @cB_f (And.intro @kps_u (And.intro @kp_i (And.intro @pc_p (And.intro @o_callg (And.intro @t_c (And.intro @t_1l (And.intro @one_2 (And.intro @t_ln (And.intro @t_lc (And.intro @ba_size (@s_guard))))))))))))))))))))))))))))))))))))))))))))))))))))))))))))))))))))))))))))))))))))))))))))))))))))))))))))))))))))))))))))))))))))))))))))))))))))))))))))))))))))
end Go.Proofs.YtdoefdmaecaacaaGreatDoor.AM
