/- The abstract machine, part Leaf. -/
import Derived.Test.YthcpaohmajjopaaGreatDoorAmRet
set_option linter.unusedVariables false
set_option linter.unusedSimpArgs false
namespace Go.Proofs.YthcpaohmajjopaaGreatDoor.AM
open Go
variable {X:Cx}
def renK (q p:Nat) (x:L):L:=renP q p (killP p x)
def keepC (ce:List (Nat × List L)):List Nat → List (Nat × List L)
 | []=>[]
 | t :: ts=>keep1 t (get ce t) (keepC ce ts)
theorem keepC_eq (ce:List (Nat × List L)):∀ keep:List Nat,(keep.filterMap fun t=>(get ce t).map fun v=>(t,v)) = keepC ce keep
 | []=>rfl
 | t :: ts=>by
  simp only [List.filterMap_cons,keepC]
  cases get ce t<;>simp [keep1,keepC_eq ce ts]
def headK (m:Nat) (tm:List (Nat × PV)) (ce:List (Nat × List L)):St:=⟨m,tm,keepC ce (List.range m ++ ptrsOf tm)⟩
theorem kp_b {p:Nat} {b:Bool}:killP p (.bool b) = (.bool b):=rfl
theorem kp_i {p:Nat} {k:IntKind} {n:Int}:killP p (.int k n) = (.int k n):=rfl
theorem kp_s {p:Nat} {s:ByteArray}:killP p (.str s) = (.str s):=rfl
theorem kp_np {p:Nat} :killP p .nilp = .nilp:=rfl
theorem kp_ni {p:Nat} :killP p .nili = .nili:=rfl
theorem kp_f {p:Nat} {t:Nat} {v:L}:killP p (.iface t v) = (.iface t v):=rfl
theorem kp_u {p:Nat} :killP p .undef = .undef:=rfl
theorem kp_no {p:Nat} :killP p .no = .no:=rfl
theorem kps_b {ps:List Nat} {b:Bool}:killPs ps (.bool b) = (.bool b):=rfl
theorem kps_i {ps:List Nat} {k:IntKind} {n:Int}:killPs ps (.int k n) = (.int k n):=rfl
theorem kps_s {ps:List Nat} {s:ByteArray}:killPs ps (.str s) = (.str s):=rfl
theorem kps_np {ps:List Nat} :killPs ps .nilp = .nilp:=rfl
theorem kps_ni {ps:List Nat} :killPs ps .nili = .nili:=rfl
theorem kps_f {ps:List Nat} {t:Nat} {v:L}:killPs ps (.iface t v) = (.iface t v):=rfl
theorem kps_u {ps:List Nat} :killPs ps .undef = .undef:=rfl
theorem kps_no {ps:List Nat} :killPs ps .no = .no:=rfl
theorem kc_b {c:Nat} {b:Bool}:killC c (.bool b) = (.bool b):=rfl
theorem kc_i {c:Nat} {k:IntKind} {n:Int}:killC c (.int k n) = (.int k n):=rfl
theorem kc_s {c:Nat} {s:ByteArray}:killC c (.str s) = (.str s):=rfl
theorem kc_np {c:Nat} :killC c .nilp = .nilp:=rfl
theorem kc_ni {c:Nat} :killC c .nili = .nili:=rfl
theorem kc_f {c:Nat} {t:Nat} {v:L}:killC c (.iface t v) = (.iface t v):=rfl
theorem kc_u {c:Nat} :killC c .undef = .undef:=rfl
theorem kc_no {c:Nat} :killC c .no = .no:=rfl
theorem ro_b {p:Nat} {b:Bool}:roP p (.bool b) = (.bool b):=rfl
theorem ro_i {p:Nat} {k:IntKind} {n:Int}:roP p (.int k n) = (.int k n):=rfl
theorem ro_s {p:Nat} {s:ByteArray}:roP p (.str s) = (.str s):=rfl
theorem ro_np {p:Nat} :roP p .nilp = .nilp:=rfl
theorem ro_ni {p:Nat} :roP p .nili = .nili:=rfl
theorem ro_f {p:Nat} {t:Nat} {v:L}:roP p (.iface t v) = (.iface t v):=rfl
theorem ro_u {p:Nat} :roP p .undef = .undef:=rfl
theorem ro_no {p:Nat} :roP p .no = .no:=rfl
theorem rk_b {q p:Nat} {b:Bool}:renK q p (.bool b) = (.bool b):=rfl
theorem rk_i {q p:Nat} {k:IntKind} {n:Int}:renK q p (.int k n) = (.int k n):=rfl
theorem rk_s {q p:Nat} {s:ByteArray}:renK q p (.str s) = (.str s):=rfl
theorem rk_np {q p:Nat} :renK q p .nilp = .nilp:=rfl
theorem rk_ni {q p:Nat} :renK q p .nili = .nili:=rfl
theorem rk_f {q p:Nat} {t:Nat} {v:L}:renK q p (.iface t v) = (.iface t v):=rfl
theorem rk_u {q p:Nat} :renK q p .undef = .undef:=rfl
theorem rk_no {q p:Nat} :renK q p .no = .no:=rfl
theorem wr_b {p sz i off:Nat} {vs:List L} {b:Bool}:wrP p sz i off vs (.bool b) = (.bool b):=rfl
theorem wr_i {p sz i off:Nat} {vs:List L} {k:IntKind} {n:Int}:wrP p sz i off vs (.int k n) = (.int k n):=rfl
theorem wr_s {p sz i off:Nat} {vs:List L} {s:ByteArray}:wrP p sz i off vs (.str s) = (.str s):=rfl
theorem wr_np {p sz i off:Nat} {vs:List L} :wrP p sz i off vs .nilp = .nilp:=rfl
theorem wr_ni {p sz i off:Nat} {vs:List L} :wrP p sz i off vs .nili = .nili:=rfl
theorem wr_f {p sz i off:Nat} {vs:List L} {t:Nat} {v:L}:wrP p sz i off vs (.iface t v) = (.iface t v):=rfl
theorem wr_u {p sz i off:Nat} {vs:List L} :wrP p sz i off vs .undef = .undef:=rfl
theorem wr_no {p sz i off:Nat} {vs:List L} :wrP p sz i off vs .no = .no:=rfl
theorem rl_b  {b:Bool}:roL (.bool b) = (.bool b):=rfl
theorem rl_i  {k:IntKind} {n:Int}:roL (.int k n) = (.int k n):=rfl
theorem rl_s  {s:ByteArray}:roL (.str s) = (.str s):=rfl
theorem rl_np  :roL .nilp = .nilp:=rfl
theorem rl_ni  :roL .nili = .nili:=rfl
theorem rl_f  {t:Nat} {v:L}:roL (.iface t v) = (.iface t v):=rfl
theorem rl_u  :roL .undef = .undef:=rfl
theorem rl_no  :roL .no = .no:=rfl
theorem ol_b {d:Nat} {b:Bool}:outL d (.bool b) = (.bool b):=rfl
theorem ol_i {d:Nat} {k:IntKind} {n:Int}:outL d (.int k n) = (.int k n):=rfl
theorem ol_s {d:Nat} {s:ByteArray}:outL d (.str s) = (.str s):=rfl
theorem ol_np {d:Nat} :outL d .nilp = .nilp:=rfl
theorem ol_ni {d:Nat} :outL d .nili = .nili:=rfl
theorem ol_f {d:Nat} {t:Nat} {v:L}:outL d (.iface t v) = (.iface t v):=rfl
theorem ol_u {d:Nat} :outL d .undef = .undef:=rfl
theorem ol_no {d:Nat} :outL d .no = .no:=rfl
theorem kp_p {p:Nat} {c o:Nat}:killP p (.ptr c o) = .ptr c o:=rfl
theorem kp_lro {p:Nat} {sz:Nat} {xs sp:List (List L)}:killP p (.lst .ro sz xs sp) = .lst .ro sz xs sp:=rfl
theorem kp_lnl {p:Nat} {sz:Nat} {xs sp:List (List L)}:killP p (.lst .nl sz xs sp) = .lst .nl sz xs sp:=rfl
theorem kps_p {ps:List Nat} {c o:Nat}:killPs ps (.ptr c o) = .ptr c o:=rfl
theorem kps_lro {ps:List Nat} {sz:Nat} {xs sp:List (List L)}:killPs ps (.lst .ro sz xs sp) = .lst .ro sz xs sp:=rfl
theorem kps_lnl {ps:List Nat} {sz:Nat} {xs sp:List (List L)}:killPs ps (.lst .nl sz xs sp) = .lst .nl sz xs sp:=rfl
theorem ro_p {p:Nat} {c o:Nat}:roP p (.ptr c o) = .ptr c o:=rfl
theorem ro_lro {p:Nat} {sz:Nat} {xs sp:List (List L)}:roP p (.lst .ro sz xs sp) = .lst .ro sz xs sp:=rfl
theorem ro_lnl {p:Nat} {sz:Nat} {xs sp:List (List L)}:roP p (.lst .nl sz xs sp) = .lst .nl sz xs sp:=rfl
theorem rk_p {q p:Nat} {c o:Nat}:renK q p (.ptr c o) = .ptr c o:=rfl
theorem rk_lro {q p:Nat} {sz:Nat} {xs sp:List (List L)}:renK q p (.lst .ro sz xs sp) = .lst .ro sz xs sp:=rfl
theorem rk_lnl {q p:Nat} {sz:Nat} {xs sp:List (List L)}:renK q p (.lst .nl sz xs sp) = .lst .nl sz xs sp:=rfl
theorem wr_p {p sz i off:Nat} {vs:List L} {c o:Nat}:wrP p sz i off vs (.ptr c o) = .ptr c o:=rfl
theorem wr_lro {p sz i off:Nat} {vs:List L} {z:Nat} {xs sp:List (List L)}:wrP p sz i off vs (.lst .ro z xs sp) = .lst .ro z xs sp:=rfl
theorem wr_lnl {p sz i off:Nat} {vs:List L} {z:Nat} {xs sp:List (List L)}:wrP p sz i off vs (.lst .nl z xs sp) = .lst .nl z xs sp:=rfl
theorem kc_p {c c' o:Nat}:killC c (.ptr c' o) = if (c' == c) = true then .undef else .ptr c' o:=rfl
theorem kc_l {c:Nat} {t:Tag} {sz:Nat} {xs sp:List (List L)}:killC c (.lst t sz xs sp) = .lst t sz xs sp:=rfl
theorem kp_lo {p q e:Nat} {sz:Nat} {xs sp:List (List L)}:killP p (.lst (.own q e) sz xs sp) = if (q == p) = true then .undef else .lst (.own q e) sz xs sp:=rfl
theorem kp_lv {p q:Nat} {sz:Nat} {xs sp:List (List L)}:killP p (.lst (.vw q) sz xs sp) = if (q == p) = true then .undef else .lst (.vw q) sz xs sp:=rfl
theorem kps_lo {ps:List Nat} {q e:Nat} {sz:Nat} {xs sp:List (List L)}:killPs ps (.lst (.own q e) sz xs sp) = if ps.contains q = true then .undef else .lst (.own q e) sz xs sp:=rfl
theorem kps_lv {ps:List Nat} {q:Nat} {sz:Nat} {xs sp:List (List L)}:killPs ps (.lst (.vw q) sz xs sp) = if ps.contains q = true then .undef else .lst (.vw q) sz xs sp:=rfl
theorem ro_lo {p q e:Nat} {sz:Nat} {xs sp:List (List L)}:roP p (.lst (.own q e) sz xs sp) = if (q == p) = true then .lst .ro sz xs sp else .lst (.own q e) sz xs sp:=rfl
theorem ro_lv {p q:Nat} {sz:Nat} {xs sp:List (List L)}:roP p (.lst (.vw q) sz xs sp) = if (q == p) = true then .lst .ro sz xs sp else .lst (.vw q) sz xs sp:=rfl
theorem rk_lo {q p r e:Nat} {sz:Nat} {xs sp:List (List L)}:renK q p (.lst (.own r e) sz xs sp) = if (r == p) = true then .undef else if (r == q) = true then .lst (.own p e) sz xs sp else .lst (.own r e) sz xs sp:=by
 simp only [renK,killP,tagK];by_cases h1:(r == p) = true<;>by_cases h2:(r == q) = true<;>simp [h1,h2,renP,tagR]
theorem rk_lv {q p r:Nat} {sz:Nat} {xs sp:List (List L)}:renK q p (.lst (.vw r) sz xs sp) = if (r == p) = true then .undef else if (r == q) = true then .lst (.vw p) sz xs sp else .lst (.vw r) sz xs sp:=by
 simp only [renK,killP,tagK];by_cases h1:(r == p) = true<;>by_cases h2:(r == q) = true<;>simp [h1,h2,renP,tagR]
theorem wr_lo {p sz i off q e z:Nat} {vs:List L} {xs sp:List (List L)}:wrP p sz i off vs (.lst (.own q e) z xs sp) = if (q == p) = true then (if (z == sz) = true then .lst (.own q e) z (wrX i off vs xs) (wrS i off vs xs.length sp) else .undef) else .lst (.own q e) z xs sp:=rfl
theorem wr_lv {p sz i off q z:Nat} {vs:List L} {xs sp:List (List L)}:wrP p sz i off vs (.lst (.vw q) z xs sp) = if (q == p) = true then .undef else .lst (.vw q) z xs sp:=rfl
theorem rl_l {t:Tag} {sz:Nat} {xs sp:List (List L)}:roL (.lst t sz xs sp) = .lst .ro sz xs sp:=rfl
theorem rl_p {c o:Nat}:roL (.ptr c o) = .undef:=rfl
theorem ol_lo {d p e:Nat} {sz:Nat} {xs sp:List (List L)}:outL d (.lst (.own p e) sz xs sp) = .lst (.own (128 * d + p) e) sz xs sp:=rfl
theorem ol_lr {d:Nat} {sz:Nat} {xs sp:List (List L)}:outL d (.lst .ro sz xs sp) = .lst .ro sz xs sp:=rfl
theorem ol_ln {d:Nat} {sz:Nat} {xs sp:List (List L)}:outL d (.lst .nl sz xs sp) = .lst .nl sz xs sp:=rfl
theorem m_lf {f:L → L} {x:L}:mapL f (.lf x) = .lf (f x):=rfl
theorem m_ag {f:L → L} {cs:List L}:mapL f (.ag cs) = .ag (cs.map f):=rfl
theorem m_tp {f:L → L} {vs:List PV}:mapL f (.tp vs) = .tp (vs.map (mapL1 f)):=rfl
theorem m_1l {f:L → L} {x:L}:mapL1 f (.lf x) = .lf (f x):=rfl
theorem m_1a {f:L → L} {cs:List L}:mapL1 f (.ag cs) = .ag (cs.map f):=rfl
theorem m_n {α β:Type} {f:α → β}:mapSnd f [] = []:=rfl
theorem m_c {α β:Type} {f:α → β} {a:Nat} {v:α} {r:List (Nat × α)}:mapSnd f ((a,v) :: r) = (a,f v) :: mapSnd f r:=rfl
theorem m_all {f:L → L} {m:Nat} {tm:List (Nat × PV)} {ce:List (Nat × List L)}:St.mapAll f ⟨m,tm,ce⟩ = ⟨m,mapSnd (mapL f) tm,mapSnd (List.map f) ce⟩:=rfl
theorem e_asg_n {m:Nat} {tm:List (Nat × PV)} {ce:List (Nat × List L)} {e n d sz:Nat} {xs sp:List (List L)}:St.asg ⟨m,tm,ce⟩ e n (some d) (.lf (.lst .nl sz xs sp)) = (St.mapAll (killP (plT d 0)) ⟨m,tm,ce⟩).put (some d) (.lf (.lst (.own (plT d 0) e) n [] [])):=rfl
theorem e_asg_o {m:Nat} {tm:List (Nat × PV)} {ce:List (Nat × List L)} {e n d q e' sz:Nat} {xs sp:List (List L)}:St.asg ⟨m,tm,ce⟩ e n (some d) (.lf (.lst (.own q e') sz xs sp)) = if (q == plT d 0) = true then ⟨m,(d,.lf (.lst (.own q e') sz xs sp)) :: tm,ce⟩ else St.mapAll (renK q (plT d 0)) ⟨m,(d,.lf (.lst (.own q e') sz xs sp)) :: tm,ce⟩:=rfl
theorem e_asg_v {m:Nat} {tm:List (Nat × PV)} {ce:List (Nat × List L)} {e n d q sz:Nat} {xs sp:List (List L)}:St.asg ⟨m,tm,ce⟩ e n (some d) (.lf (.lst (.vw q) sz xs sp)) = ⟨m,(d,.lf (.lst (.vw q) sz xs sp)) :: tm,ce⟩:=rfl
theorem e_asg_p {m:Nat} {tm:List (Nat × PV)} {ce:List (Nat × List L)} {e n d c o:Nat}:St.asg ⟨m,tm,ce⟩ e n (some d) (.lf (.ptr c o)) = ⟨m,(d,.lf (.ptr c o)) :: tm,ce⟩:=rfl
theorem e_asg_f {m:Nat} {tm:List (Nat × PV)} {ce:List (Nat × List L)} {e n d t:Nat} {v:L}:St.asg ⟨m,tm,ce⟩ e n (some d) (.lf (.iface t v)) = ⟨m,(d,.lf (.iface t v)) :: tm,ce⟩:=rfl
theorem e_asg_ni {m:Nat} {tm:List (Nat × PV)} {ce:List (Nat × List L)} {e n d:Nat}:St.asg ⟨m,tm,ce⟩ e n (some d) (.lf .nili) = ⟨m,(d,.lf .nili) :: tm,ce⟩:=rfl
theorem e_asg_np {m:Nat} {tm:List (Nat × PV)} {ce:List (Nat × List L)} {e n d:Nat}:St.asg ⟨m,tm,ce⟩ e n (some d) (.lf .nilp) = ⟨m,(d,.lf .nilp) :: tm,ce⟩:=rfl
theorem e_head {m:Nat} {tm:List (Nat × PV)} {ce:List (Nat × List L)} {keep:List Nat}:St.head ⟨m,tm,ce⟩ keep = headK m (keepT tm keep) ce:=by
 simp only [St.head,headK,keepT_eq,keepC_eq]
theorem e_headK {m:Nat} {tm:List (Nat × PV)} {ce:List (Nat × List L)}:headK m tm ce = ⟨m,tm,keepC ce (List.range m ++ ptrsOf tm)⟩:=rfl
theorem kC_n {ce:List (Nat × List L)}:keepC ce [] = []:=rfl
theorem kC_c {ce:List (Nat × List L)} {t:Nat} {ts:List Nat}:keepC ce (t :: ts) = keep1 t (get ce t) (keepC ce ts):=rfl
theorem pO_n:ptrsOf [] = []:=rfl
theorem pO_p {t c o:Nat} {r:List (Nat × PV)}:ptrsOf ((t,.lf (.ptr c o)) :: r) = c :: ptrsOf r:=rfl
theorem pO_b {t:Nat} {b:Bool} {r:List (Nat × PV)}:ptrsOf ((t,.lf (.bool b)) :: r) = ptrsOf r:=rfl
theorem pO_i {t:Nat} {k:IntKind} {n:Int} {r:List (Nat × PV)}:ptrsOf ((t,.lf (.int k n)) :: r) = ptrsOf r:=rfl
theorem pO_s {t:Nat} {s:ByteArray} {r:List (Nat × PV)}:ptrsOf ((t,.lf (.str s)) :: r) = ptrsOf r:=rfl
theorem pO_np {t:Nat}  {r:List (Nat × PV)}:ptrsOf ((t,.lf .nilp) :: r) = ptrsOf r:=rfl
theorem pO_ni {t:Nat}  {r:List (Nat × PV)}:ptrsOf ((t,.lf .nili) :: r) = ptrsOf r:=rfl
theorem pO_f {t:Nat} {t':Nat} {v:L} {r:List (Nat × PV)}:ptrsOf ((t,.lf (.iface t' v)) :: r) = ptrsOf r:=rfl
theorem pO_u {t:Nat}  {r:List (Nat × PV)}:ptrsOf ((t,.lf .undef) :: r) = ptrsOf r:=rfl
theorem pO_no {t:Nat}  {r:List (Nat × PV)}:ptrsOf ((t,.lf .no) :: r) = ptrsOf r:=rfl
theorem pO_l {t:Nat} {tg:Tag} {sz:Nat} {xs sp:List (List L)} {r:List (Nat × PV)}:ptrsOf ((t,.lf (.lst tg sz xs sp)) :: r) = ptrsOf r:=rfl
theorem pO_e {t:Nat} {tg:Tag} {sz i o:Nat} {xs sp:List (List L)} {r:List (Nat × PV)}:ptrsOf ((t,.lf (.ep tg sz xs sp i o)) :: r) = ptrsOf r:=rfl
theorem pO_a {t:Nat} {cs:List L} {r:List (Nat × PV)}:ptrsOf ((t,.ag cs) :: r) = ptrsOf r:=rfl
theorem pO_t {t:Nat} {vs:List PV} {r:List (Nat × PV)}:ptrsOf ((t,.tp vs) :: r) = ptrsOf r:=rfl
theorem st_b {m:Nat} {tm:List (Nat × PV)} {ce:List (Nat × List L)} {c off:Nat} {cs vs:List L}:St.stC ⟨m,tm,ce⟩ c off cs (.ag vs) = ⟨m,tm,(c,fillL cs off vs) :: del ce c⟩:=rfl
theorem st_b1 {m:Nat} {tm:List (Nat × PV)} {ce:List (Nat × List L)} {c off:Nat} {cs:List L} {b:Bool}:St.stC ⟨m,tm,ce⟩ c off cs (.lf (.bool b)) = ⟨m,tm,(c,fillL cs off [(.bool b)]) :: del ce c⟩:=rfl
theorem st_i1 {m:Nat} {tm:List (Nat × PV)} {ce:List (Nat × List L)} {c off:Nat} {cs:List L} {k:IntKind} {n:Int}:St.stC ⟨m,tm,ce⟩ c off cs (.lf (.int k n)) = ⟨m,tm,(c,fillL cs off [(.int k n)]) :: del ce c⟩:=rfl
theorem st_s1 {m:Nat} {tm:List (Nat × PV)} {ce:List (Nat × List L)} {c off:Nat} {cs:List L} {s:ByteArray}:St.stC ⟨m,tm,ce⟩ c off cs (.lf (.str s)) = ⟨m,tm,(c,fillL cs off [(.str s)]) :: del ce c⟩:=rfl
theorem st_np1 {m:Nat} {tm:List (Nat × PV)} {ce:List (Nat × List L)} {c off:Nat} {cs:List L} :St.stC ⟨m,tm,ce⟩ c off cs (.lf .nilp) = ⟨m,tm,(c,fillL cs off [.nilp]) :: del ce c⟩:=rfl
theorem st_ni1 {m:Nat} {tm:List (Nat × PV)} {ce:List (Nat × List L)} {c off:Nat} {cs:List L} :St.stC ⟨m,tm,ce⟩ c off cs (.lf .nili) = ⟨m,tm,(c,fillL cs off [.nili]) :: del ce c⟩:=rfl
theorem st_f1 {m:Nat} {tm:List (Nat × PV)} {ce:List (Nat × List L)} {c off:Nat} {cs:List L} {t:Nat} {v:L}:St.stC ⟨m,tm,ce⟩ c off cs (.lf (.iface t v)) = ⟨m,tm,(c,fillL cs off [(.iface t v)]) :: del ce c⟩:=rfl
theorem st_p {m:Nat} {tm:List (Nat × PV)} {ce:List (Nat × List L)} {c off c' o:Nat} {cs:List L}:St.stC ⟨m,tm,ce⟩ c off cs (.lf (.ptr c' o)) = ⟨m,tm,(c,fillL cs off [.ptr c' o]) :: del ce c⟩:=rfl
theorem st_lr {m:Nat} {tm:List (Nat × PV)} {ce:List (Nat × List L)} {c off sz:Nat} {cs:List L} {xs sp:List (List L)}:St.stC ⟨m,tm,ce⟩ c off cs (.lf (.lst .ro sz xs sp)) = ⟨m,tm,(c,fillL cs off [.lst .ro sz xs sp]) :: del ce c⟩:=rfl
theorem st_ln {m:Nat} {tm:List (Nat × PV)} {ce:List (Nat × List L)} {c off sz:Nat} {cs:List L} {xs sp:List (List L)}:St.stC ⟨m,tm,ce⟩ c off cs (.lf (.lst .nl sz xs sp)) = ⟨m,tm,(c,fillL cs off [.lst .nl sz xs sp]) :: del ce c⟩:=rfl
theorem st_lv {q:Nat} {m:Nat} {tm:List (Nat × PV)} {ce:List (Nat × List L)} {c off sz:Nat} {cs:List L} {xs sp:List (List L)}:St.stC ⟨m,tm,ce⟩ c off cs (.lf (.lst (.vw q) sz xs sp)) = ⟨m,tm,(c,fillL cs off [.lst (.vw q) sz xs sp]) :: del ce c⟩:=rfl
theorem st_lo {q e m:Nat} {tm:List (Nat × PV)} {ce:List (Nat × List L)} {c off sz:Nat} {cs:List L} {xs sp:List (List L)}:St.stC ⟨m,tm,ce⟩ c off cs (.lf (.lst (.own q e) sz xs sp)) = if (q == plC c off) = true then ⟨m,tm,(c,fillL cs off [.lst (.own q e) sz xs sp]) :: del ce c⟩ else St.mapAll (renK q (plC c off)) ⟨m,tm,(c,fillL cs off [.lst (.own q e) sz xs sp]) :: del ce c⟩:=rfl
theorem d_n {α:Type} {k:Nat}:del ([]:List (Nat × α)) k = []:=rfl
theorem d_c {α:Type} {a k:Nat} {v:α} {r:List (Nat × α)}:del ((a,v) :: r) k = if a = k then del r k else (a,v) :: del r k:=rfl
theorem dw_n {σ:St}:σ.down [] = σ:=rfl
theorem dw_b {σ:St} {b:Bool} {r:List L}:σ.down ((.bool b) :: r) = σ.down r:=rfl
theorem dw_i {σ:St} {k:IntKind} {n:Int} {r:List L}:σ.down ((.int k n) :: r) = σ.down r:=rfl
theorem dw_s {σ:St} {s:ByteArray} {r:List L}:σ.down ((.str s) :: r) = σ.down r:=rfl
theorem dw_np {σ:St} {r:List L}:σ.down (.nilp :: r) = σ.down r:=rfl
theorem dw_ni {σ:St} {r:List L}:σ.down (.nili :: r) = σ.down r:=rfl
theorem dw_f {σ:St} {t:Nat} {v:L} {r:List L}:σ.down ((.iface t v) :: r) = σ.down r:=rfl
theorem dw_u {σ:St} {r:List L}:σ.down (.undef :: r) = σ.down r:=rfl
theorem dw_no {σ:St} {r:List L}:σ.down (.no :: r) = σ.down r:=rfl
theorem dw_p {σ:St} {c o:Nat} {r:List L}:σ.down (.ptr c o :: r) = σ.down r:=rfl
theorem dw_lr {σ:St} {sz:Nat} {xs sp:List (List L)} {r:List L}:σ.down (.lst .ro sz xs sp :: r) = σ.down r:=rfl
theorem dw_ln {σ:St} {sz:Nat} {xs sp:List (List L)} {r:List L}:σ.down (.lst .nl sz xs sp :: r) = σ.down r:=rfl
theorem dw_lo {σ:St} {p e sz:Nat} {xs sp:List (List L)} {r:List L}:σ.down (.lst (.own p e) sz xs sp :: r) = (σ.mapAll (roP p)).down r:=rfl
theorem dw_lv {σ:St} {p sz:Nat} {xs sp:List (List L)} {r:List L}:σ.down (.lst (.vw p) sz xs sp :: r) = (σ.mapAll (roP p)).down r:=rfl
theorem nO_b {b:Bool}:notOwn (.lf (.bool b)) = true:=rfl
theorem nO_i {k:IntKind} {n:Int}:notOwn (.lf (.int k n)) = true:=rfl
theorem nO_s {s:ByteArray}:notOwn (.lf (.str s)) = true:=rfl
theorem nO_np :notOwn (.lf .nilp) = true:=rfl
theorem nO_ni :notOwn (.lf .nili) = true:=rfl
theorem nO_f {t:Nat} {v:L}:notOwn (.lf (.iface t v)) = true:=rfl
theorem nO_p {c o:Nat}:notOwn (.lf (.ptr c o)) = true:=rfl
theorem nO_a {cs:List L}:notOwn (.ag cs) = true:=rfl
theorem nO_t {vs:List PV}:notOwn (.tp vs) = true:=rfl
theorem nO_ln {sz:Nat} {xs sp:List (List L)}:notOwn (.lf (.lst .nl sz xs sp)) = true:=rfl
theorem nO_lr {sz:Nat} {xs sp:List (List L)}:notOwn (.lf (.lst .ro sz xs sp)) = true:=rfl
theorem nO_lv {p sz:Nat} {xs sp:List (List L)}:notOwn (.lf (.lst (.vw p) sz xs sp)) = true:=rfl
def u8s (ns:List Int):List (List L):=ns.map fun n=>[.int .u8 n]
def i64s (ns:List Int):List (List L):=ns.map fun n=>[.int .i64 n]
def strs (ns:List ByteArray):List (List L):=ns.map fun n=>[.str n]
def bools (ns:List Bool):List (List L):=ns.map fun n=>[.bool n]
theorem map_inj {α β:Type} {f:α → β} (hf:∀ a b,f a = f b → a = b):∀ {xs ys:List α},xs.map f = ys.map f → xs = ys
 | [],[],_=>rfl
 | [],_ :: _,h=>by simp at h
 | _ :: _,[],h=>by simp at h
 | x :: xs,y :: ys,h=>by
  simp only [List.map_cons,List.cons.injEq] at h
  rw [hf _ _ h.1,map_inj hf h.2]
theorem u8s_inj {xs ys:List Int} (h:u8s xs = u8s ys):xs = ys:=map_inj (by intro a b h;simpa using h) h
theorem i64s_inj {xs ys:List Int} (h:i64s xs = i64s ys):xs = ys:=map_inj (by intro a b h;simpa using h) h
theorem strs_inj {xs ys:List ByteArray} (h:strs xs = strs ys):xs = ys:=map_inj (by intro a b h;simpa using h) h
theorem bools_inj {xs ys:List Bool} (h:bools xs = bools ys):xs = ys:=map_inj (by intro a b h;simpa using h) h
theorem u8s_eq {xs ys:List Int}:(u8s xs = u8s ys) = (xs = ys):=propext ⟨u8s_inj,fun h=>by rw [h]⟩
theorem i64s_eq {xs ys:List Int}:(i64s xs = i64s ys) = (xs = ys):=propext ⟨i64s_inj,fun h=>by rw [h]⟩
theorem strs_eq {xs ys:List ByteArray}:(strs xs = strs ys) = (xs = ys):=propext ⟨strs_inj,fun h=>by rw [h]⟩
theorem bools_eq {xs ys:List Bool}:(bools xs = bools ys) = (xs = ys):=propext ⟨bools_inj,fun h=>by rw [h]⟩
theorem u8s_len {xs:List Int}:(u8s xs).length = xs.length:=by simp [u8s]
theorem i64s_len {xs:List Int}:(i64s xs).length = xs.length:=by simp [i64s]
theorem strs_len {xs:List ByteArray}:(strs xs).length = xs.length:=by simp [strs]
theorem bools_len {xs:List Bool}:(bools xs).length = xs.length:=by simp [bools]
theorem u8s_snoc {xs:List Int} {n:Int}:u8s xs ++ [[.int .u8 n]] = u8s (xs ++ [n]):=by simp [u8s]
theorem i64s_snoc {xs:List Int} {n:Int}:i64s xs ++ [[.int .i64 n]] = i64s (xs ++ [n]):=by simp [i64s]
theorem strs_snoc {xs:List ByteArray} {n:ByteArray}:strs xs ++ [[.str n]] = strs (xs ++ [n]):=by simp [strs]
theorem bools_snoc {xs:List Bool} {n:Bool}:bools xs ++ [[.bool n]] = bools (xs ++ [n]):=by simp [bools]
theorem u8s_app {xs ys:List Int}:u8s xs ++ u8s ys = u8s (xs ++ ys):=by simp [u8s]
theorem i64s_app {xs ys:List Int}:i64s xs ++ i64s ys = i64s (xs ++ ys):=by simp [i64s]
theorem strs_app {xs ys:List ByteArray}:strs xs ++ strs ys = strs (xs ++ ys):=by simp [strs]
theorem v_cbs8 {t:Tag} {sz:Nat} {ns:List Int} {sp:List (List L)} {K:PV → Prop}:cbsK K (.lf (.lst t sz (u8s ns) sp)) = K (.lf (.str (strOfNums ns))):=by
 apply propext
 constructor
 ·rintro ⟨ms,h,hK⟩
  rw [u8s_inj (ys:=ms) h]
  exact hK
 ·intro hK
  exact ⟨ns,rfl,hK⟩
theorem v_cbs0 {t:Tag} {sz:Nat} {sp:List (List L)} {K:PV → Prop}:cbsK K (.lf (.lst t sz [] sp)) = K (.lf (.str (strOfNums []))):=v_cbs8 (ns:=[])
section
variable {σ:St} {n:Nat} {agg:Bool} {t:Tag} {sz:Nat} {sp:List (List L)} {i o:Nat} {K:PV → Prop}
theorem v_ld_u8 {xs:List Int}:ldK X σ n agg K (.lf (.ep t sz (u8s xs) sp i o)) = (i < xs.length ∧ wpart [.int .u8 (xs.getD i 0)] o n agg K):=v_ld_m
theorem v_ld_i64 {xs:List Int}:ldK X σ n agg K (.lf (.ep t sz (i64s xs) sp i o)) = (i < xs.length ∧ wpart [.int .i64 (xs.getD i 0)] o n agg K):=v_ld_m
theorem v_ld_str {xs:List ByteArray}:ldK X σ n agg K (.lf (.ep t sz (strs xs) sp i o)) = (i < xs.length ∧ wpart [.str (xs.getD i default)] o n agg K):=v_ld_m
theorem v_ld_bool {xs:List Bool}:ldK X σ n agg K (.lf (.ep t sz (bools xs) sp i o)) = (i < xs.length ∧ wpart [.bool (xs.getD i default)] o n agg K):=v_ld_m
end
theorem lit_n {σ:St}:litLeaves σ [] = []:=rfl
theorem lit_c {σ:St} {i:Nat} {x:AO} {ps:List (Nat × AO)}:litLeaves σ ((i,x) :: ps) = (σ.ev x).cells ++ litLeaves σ ps:=rfl
def beqK (neg:Bool) (K:PV → Prop):Option Bool → Prop
 | some t=>K (.lf (.bool (if neg = true then !t else t)))
 | none=>False
def andO:Option Bool → Option Bool → Option Bool
 | some a,some b=>some (a && b)
 | _,_=>none
theorem v_beqK {neg t:Bool} {K:PV → Prop}:beqK neg K (some t) = K (.lf (.bool (if neg = true then !t else t))):=rfl
theorem v_andO {a b:Bool}:andO (some a) (some b) = some (a && b):=rfl
theorem v_beqA {neg:Bool} {ks:List Nat} {a b:List L} {K:PV → Prop}:wbeq neg ks (.ag a) (.ag b) K = (a.map kindL = ks ∧ b.map kindL = ks ∧ beqK neg K (eqLs a b)):=by
 simp only [wbeq]
 cases h:eqLs a b with
 | none=>simp [beqK]
 | some t=>simp [beqK]
theorem q_i {k:IntKind} {a b:Int}:eqL (.int k a) (.int k b) = some (decide (a = b)):=by simp [eqL]
theorem q_s {a b:ByteArray}:eqL (.str a) (.str b) = some (decide (a = b)):=rfl
theorem q_b {a b:Bool}:eqL (.bool a) (.bool b) = some (a == b):=rfl
theorem q_n:eqLs [] [] = some true:=rfl
theorem q_1 {x y:L}:eqLs [x] [y] = eqL x y:=rfl
theorem q_c {x y x' y':L} {xs ys:List L}:eqLs (x :: x' :: xs) (y :: y' :: ys) = andO (eqL x y) (eqLs (x' :: xs) (y' :: ys)):=by
 simp only [eqLs]
 cases eqL x y<;>cases eqLs (x' :: xs) (y' :: ys)<;>rfl
theorem kd_i {k:IntKind} {n:Int}:kindL (.int k n) = 2:=rfl
theorem kd_s {s:ByteArray}:kindL (.str s) = 3:=rfl
theorem kd_b {b:Bool}:kindL (.bool b) = 1:=rfl
def pcall (X:Cx) (P:Program) (f:Nat) (args:List PV) (σ:St) (c:Nat) (d:Option Nat) (K:St → Prop):Option (List L) → Prop
 | some cs=>∃ r cs',R X P f args [cs.map (toC c)] r [cs'] ∧ resOK r = true ∧ K ((callpSt σ c cs' d r).put d (outV d r))
 | none=>False
def wcallp (X:Cx) (P:Program) (f:Nat) (σ:St) (args:List AO) (ls:List L) (d:Option Nat) (K:St → Prop) (p:Option Nat):Prop :=
 match p with
 | some c=>pcall X P f (args.map fun x=>mapL (toA c) (σ.ev x)) (σ.down ls) c d K (get (σ.down ls).ce c)
 | none=>wcallA X P σ d f args K
theorem o_callp {P:Program} {σ:St} {d:Option Nat} {K:St → Prop} {f ip:Nat} {args:List AO}:wop X P σ d (.callp f ip args) K = wcallp X P f σ args (args.flatMap fun x=>(σ.ev x).leaves) d K ((args[ip]?).bind fun x=>ptrC (σ.ev x)):=by
 simp only [wop,wcallp]
 generalize ((args[ip]?).bind fun x=>ptrC (σ.ev x)) = z
 cases z with
 | none=>rfl
 | some c =>
  simp only
  cases h:Go.Proofs.YthcpaohmajjopaaGreatDoor.AM.get (σ.down (args.flatMap fun x=>(σ.ev x).leaves)).ce c with
  | none=>simp [pcall,h]
  | some cs=>simp [pcall,h]
theorem v_callp {P:Program} {σ:St} {d:Option Nat} {K:St → Prop} {f c:Nat} {args:List AO} {ls:List L}:wcallp X P f σ args ls d K (some c) = pcall X P f (args.map fun x=>mapL (toA c) (σ.ev x)) (σ.down ls) c d K (get (σ.down ls).ce c):=rfl
theorem pcall_i {P:Program} {f:Nat} {args:List PV} {σ:St} {c:Nat} {d:Option Nat} {K:St → Prop} {cs cs0:List L} {r:PV} {cs':List L} (h:R X P f args [cs0] r [cs']) (he:cs.map (toC c) = cs0) (h1:resOK r = true) (h3:K ((callpSt σ c cs' d r).put d (outV d r))):pcall X P f args σ c d K (some cs):=⟨r,cs',he ▸ h,h1,h3⟩
end Go.Proofs.YthcpaohmajjopaaGreatDoor.AM
