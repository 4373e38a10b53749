/- The abstract machine, part Leaf2. -/
import Derived.Test.YthcpaohmajjopaaGreatDoorAmLeaf
set_option linter.unusedVariables false
set_option linter.unusedSimpArgs false
namespace Go.Proofs.YthcpaohmajjopaaGreatDoor.AM
open Go
variable {X:Cx}
theorem kp_nf {p:Nat} :killP p .nilf = .nilf:=rfl
theorem kp_rp {p:Nat} {cs0:List L} {o:Nat}:killP p (.rp cs0 o) = (.rp cs0 o):=rfl
theorem kp_lk {p:Nat} {n0:Nat}:killP p (.ln n0) = (.ln n0):=rfl
theorem kp_t {p:Nat} {c0 o T:Nat}:killP p (.tptr c0 o T) = (.tptr c0 o T):=rfl
theorem kp_it {p:Nat} {q0 i0:Nat} {s:ByteArray}:killP p (.it q0 s i0) = if (q0 == p) = true then .undef else (.it q0 s i0):=rfl
theorem kp_g {p:Nat} {g o:Nat}:killP p (.gl g o) = (.gl g o):=rfl
theorem kp_fn {p:Nat} {f0:Nat} {a b:List L}:killP p (.fn f0 a b) = (.fn f0 a b):=rfl
theorem kp_sl {p:Nat} {c0 o z l cp:Nat}:killP p (.sl c0 o z l cp) = (.sl c0 o z l cp):=rfl
theorem kp_er {p:Nat} {z j o:Nat} {xs sp:List (List L)}:killP p (.ep .ro z xs sp j o) = (.ep .ro z xs sp j o):=rfl
theorem kp_en {p:Nat} {z j o:Nat} {xs sp:List (List L)}:killP p (.ep .nl z xs sp j o) = (.ep .nl z xs sp j o):=rfl
theorem kp_eo {p:Nat} {q0 e z j o:Nat} {xs sp:List (List L)}:killP p (.ep (.own q0 e) z xs sp j o) = if (q0 == p) = true then .undef else (.ep (.own q0 e) z xs sp j o):=rfl
theorem kp_ev {p:Nat} {q0 z j o:Nat} {xs sp:List (List L)}:killP p (.ep (.vw q0) z xs sp j o) = if (q0 == p) = true then .undef else (.ep (.vw q0) z xs sp j o):=rfl
theorem kps_nf {ps:List Nat} :killPs ps .nilf = .nilf:=rfl
theorem kps_rp {ps:List Nat} {cs0:List L} {o:Nat}:killPs ps (.rp cs0 o) = (.rp cs0 o):=rfl
theorem kps_lk {ps:List Nat} {n0:Nat}:killPs ps (.ln n0) = (.ln n0):=rfl
theorem kps_t {ps:List Nat} {c0 o T:Nat}:killPs ps (.tptr c0 o T) = (.tptr c0 o T):=rfl
theorem kps_it {ps:List Nat} {q0 i0:Nat} {s:ByteArray}:killPs ps (.it q0 s i0) = if (ps.contains q0) = true then .undef else (.it q0 s i0):=rfl
theorem kps_g {ps:List Nat} {g o:Nat}:killPs ps (.gl g o) = (.gl g o):=rfl
theorem kps_fn {ps:List Nat} {f0:Nat} {a b:List L}:killPs ps (.fn f0 a b) = (.fn f0 a b):=rfl
theorem kps_sl {ps:List Nat} {c0 o z l cp:Nat}:killPs ps (.sl c0 o z l cp) = (.sl c0 o z l cp):=rfl
theorem kps_er {ps:List Nat} {z j o:Nat} {xs sp:List (List L)}:killPs ps (.ep .ro z xs sp j o) = (.ep .ro z xs sp j o):=rfl
theorem kps_en {ps:List Nat} {z j o:Nat} {xs sp:List (List L)}:killPs ps (.ep .nl z xs sp j o) = (.ep .nl z xs sp j o):=rfl
theorem kps_eo {ps:List Nat} {q0 e z j o:Nat} {xs sp:List (List L)}:killPs ps (.ep (.own q0 e) z xs sp j o) = if (ps.contains q0) = true then .undef else (.ep (.own q0 e) z xs sp j o):=rfl
theorem kps_ev {ps:List Nat} {q0 z j o:Nat} {xs sp:List (List L)}:killPs ps (.ep (.vw q0) z xs sp j o) = if (ps.contains q0) = true then .undef else (.ep (.vw q0) z xs sp j o):=rfl
theorem kc_nf {c:Nat} :killC c .nilf = .nilf:=rfl
theorem kc_rp {c:Nat} {cs0:List L} {o:Nat}:killC c (.rp cs0 o) = (.rp cs0 o):=rfl
theorem kc_lk {c:Nat} {n0:Nat}:killC c (.ln n0) = (.ln n0):=rfl
theorem kc_t {c:Nat} {c0 o T:Nat}:killC c (.tptr c0 o T) = if (c0 == c) = true then .undef else (.tptr c0 o T):=rfl
theorem kc_it {c:Nat} {q0 i0:Nat} {s:ByteArray}:killC c (.it q0 s i0) = (.it q0 s i0):=rfl
theorem kc_g {c:Nat} {g o:Nat}:killC c (.gl g o) = (.gl g o):=rfl
theorem kc_fn {c:Nat} {f0:Nat} {a b:List L}:killC c (.fn f0 a b) = if (a.any (isPtrC c) || b.any (isPtrC c)) = true then .undef else (.fn f0 a b):=rfl
theorem kc_sl {c:Nat} {c0 o z l cp:Nat}:killC c (.sl c0 o z l cp) = if (c0 == c) = true then .undef else (.sl c0 o z l cp):=rfl
theorem kc_er {c:Nat} {z j o:Nat} {xs sp:List (List L)}:killC c (.ep .ro z xs sp j o) = (.ep .ro z xs sp j o):=rfl
theorem kc_en {c:Nat} {z j o:Nat} {xs sp:List (List L)}:killC c (.ep .nl z xs sp j o) = (.ep .nl z xs sp j o):=rfl
theorem kc_eo {c:Nat} {q0 e z j o:Nat} {xs sp:List (List L)}:killC c (.ep (.own q0 e) z xs sp j o) = (.ep (.own q0 e) z xs sp j o):=rfl
theorem kc_ev {c:Nat} {q0 z j o:Nat} {xs sp:List (List L)}:killC c (.ep (.vw q0) z xs sp j o) = (.ep (.vw q0) z xs sp j o):=rfl
theorem rk_nf {q p:Nat} :renK q p .nilf = .nilf:=rfl
theorem rk_rp {q p:Nat} {cs0:List L} {o:Nat}:renK q p (.rp cs0 o) = (.rp cs0 o):=rfl
theorem rk_lk {q p:Nat} {n0:Nat}:renK q p (.ln n0) = (.ln n0):=rfl
theorem rk_t {q p:Nat} {c0 o T:Nat}:renK q p (.tptr c0 o T) = (.tptr c0 o T):=rfl
theorem rk_g {q p:Nat} {g o:Nat}:renK q p (.gl g o) = (.gl g o):=rfl
theorem rk_fn {q p:Nat} {f0:Nat} {a b:List L}:renK q p (.fn f0 a b) = (.fn f0 a b):=rfl
theorem rk_sl {q p:Nat} {c0 o z l cp:Nat}:renK q p (.sl c0 o z l cp) = (.sl c0 o z l cp):=rfl
theorem rk_er {q p:Nat} {z j o:Nat} {xs sp:List (List L)}:renK q p (.ep .ro z xs sp j o) = (.ep .ro z xs sp j o):=rfl
theorem rk_en {q p:Nat} {z j o:Nat} {xs sp:List (List L)}:renK q p (.ep .nl z xs sp j o) = (.ep .nl z xs sp j o):=rfl
theorem ro_nf {p:Nat} :roP p .nilf = .nilf:=rfl
theorem ro_rp {p:Nat} {cs0:List L} {o:Nat}:roP p (.rp cs0 o) = (.rp cs0 o):=rfl
theorem ro_lk {p:Nat} {n0:Nat}:roP p (.ln n0) = (.ln n0):=rfl
theorem ro_t {p:Nat} {c0 o T:Nat}:roP p (.tptr c0 o T) = (.tptr c0 o T):=rfl
theorem ro_it {p:Nat} {q0 i0:Nat} {s:ByteArray}:roP p (.it q0 s i0) = if (q0 == p) = true then .undef else (.it q0 s i0):=rfl
theorem ro_g {p:Nat} {g o:Nat}:roP p (.gl g o) = (.gl g o):=rfl
theorem ro_fn {p:Nat} {f0:Nat} {a b:List L}:roP p (.fn f0 a b) = (.fn f0 a b):=rfl
theorem ro_sl {p:Nat} {c0 o z l cp:Nat}:roP p (.sl c0 o z l cp) = (.sl c0 o z l cp):=rfl
theorem ro_er {p:Nat} {z j o:Nat} {xs sp:List (List L)}:roP p (.ep .ro z xs sp j o) = (.ep .ro z xs sp j o):=rfl
theorem ro_en {p:Nat} {z j o:Nat} {xs sp:List (List L)}:roP p (.ep .nl z xs sp j o) = (.ep .nl z xs sp j o):=rfl
theorem ro_eo {p:Nat} {q0 e z j o:Nat} {xs sp:List (List L)}:roP p (.ep (.own q0 e) z xs sp j o) = if (q0 == p) = true then .ep .ro z xs sp j o else (.ep (.own q0 e) z xs sp j o):=rfl
theorem ro_ev {p:Nat} {q0 z j o:Nat} {xs sp:List (List L)}:roP p (.ep (.vw q0) z xs sp j o) = if (q0 == p) = true then .ep .ro z xs sp j o else (.ep (.vw q0) z xs sp j o):=rfl
theorem rl_nf  :roL .nilf = .nilf:=rfl
theorem rl_rp  {cs0:List L} {o:Nat}:roL (.rp cs0 o) = (.rp cs0 o):=rfl
theorem rl_lk  {n0:Nat}:roL (.ln n0) = (.ln n0):=rfl
theorem rl_t  {c0 o T:Nat}:roL (.tptr c0 o T) = .undef:=rfl
theorem rl_it  {q0 i0:Nat} {s:ByteArray}:roL (.it q0 s i0) = .undef:=rfl
theorem rl_g  {g o:Nat}:roL (.gl g o) = (.gl g o):=rfl
theorem rl_fn  {f0:Nat} {a b:List L}:roL (.fn f0 a b) = if pureL a b = true then (.fn f0 a b) else .undef:=rfl
theorem rl_sl  {c0 o z l cp:Nat}:roL (.sl c0 o z l cp) = .undef:=rfl
theorem rl_er  {z j o:Nat} {xs sp:List (List L)}:roL (.ep .ro z xs sp j o) = .undef:=rfl
theorem rl_en  {z j o:Nat} {xs sp:List (List L)}:roL (.ep .nl z xs sp j o) = .undef:=rfl
theorem rl_eo  {q0 e z j o:Nat} {xs sp:List (List L)}:roL (.ep (.own q0 e) z xs sp j o) = .undef:=rfl
theorem rl_ev  {q0 z j o:Nat} {xs sp:List (List L)}:roL (.ep (.vw q0) z xs sp j o) = .undef:=rfl
theorem ol_nf {d:Nat} :outL d .nilf = .nilf:=rfl
theorem ol_rp {d:Nat} {cs0:List L} {o:Nat}:outL d (.rp cs0 o) = (.rp cs0 o):=rfl
theorem ol_lk {d:Nat} {n0:Nat}:outL d (.ln n0) = (.ln n0):=rfl
theorem ol_p {d:Nat} {c0 o:Nat}:outL d (.ptr c0 o) = .undef:=rfl
theorem ol_t {d:Nat} {c0 o T:Nat}:outL d (.tptr c0 o T) = .undef:=rfl
theorem ol_g {d:Nat} {g o:Nat}:outL d (.gl g o) = (.gl g o):=rfl
theorem ol_fn {d:Nat} {f0:Nat} {a b:List L}:outL d (.fn f0 a b) = if pureL a b = true then (.fn f0 a b) else .undef:=rfl
theorem ol_sl {d:Nat} {c0 o z l cp:Nat}:outL d (.sl c0 o z l cp) = .undef:=rfl
theorem ol_it {d:Nat} {q0 i0:Nat} {s:ByteArray}:outL d (.it q0 s i0) = .undef:=rfl
theorem ol_er {d:Nat} {z j o:Nat} {xs sp:List (List L)}:outL d (.ep .ro z xs sp j o) = .undef:=rfl
theorem ol_en {d:Nat} {z j o:Nat} {xs sp:List (List L)}:outL d (.ep .nl z xs sp j o) = .undef:=rfl
theorem ol_eo {d:Nat} {q0 e z j o:Nat} {xs sp:List (List L)}:outL d (.ep (.own q0 e) z xs sp j o) = .undef:=rfl
theorem ol_ev {d:Nat} {q0 z j o:Nat} {xs sp:List (List L)}:outL d (.ep (.vw q0) z xs sp j o) = .undef:=rfl
theorem wr_nf {p sz i off:Nat} {vs:List L} :wrP p sz i off vs .nilf = .nilf:=rfl
theorem wr_rp {p sz i off:Nat} {vs:List L} {cs0:List L} {o:Nat}:wrP p sz i off vs (.rp cs0 o) = (.rp cs0 o):=rfl
theorem wr_lk {p sz i off:Nat} {vs:List L} {n0:Nat}:wrP p sz i off vs (.ln n0) = (.ln n0):=rfl
theorem wr_t {p sz i off:Nat} {vs:List L} {c0 o T:Nat}:wrP p sz i off vs (.tptr c0 o T) = (.tptr c0 o T):=rfl
theorem wr_g {p sz i off:Nat} {vs:List L} {g o:Nat}:wrP p sz i off vs (.gl g o) = (.gl g o):=rfl
theorem wr_fn {p sz i off:Nat} {vs:List L} {f0:Nat} {a b:List L}:wrP p sz i off vs (.fn f0 a b) = (.fn f0 a b):=rfl
theorem wr_sl {p sz i off:Nat} {vs:List L} {c0 o z l cp:Nat}:wrP p sz i off vs (.sl c0 o z l cp) = (.sl c0 o z l cp):=rfl
theorem wr_it {p sz i off:Nat} {vs:List L} {q0 i0:Nat} {s:ByteArray}:wrP p sz i off vs (.it q0 s i0) = if (q0 == p) = true then .undef else (.it q0 s i0):=rfl
theorem wr_er {p sz i off:Nat} {vs:List L} {z j o:Nat} {xs sp:List (List L)}:wrP p sz i off vs (.ep .ro z xs sp j o) = (.ep .ro z xs sp j o):=rfl
theorem wr_en {p sz i off:Nat} {vs:List L} {z j o:Nat} {xs sp:List (List L)}:wrP p sz i off vs (.ep .nl z xs sp j o) = (.ep .nl z xs sp j o):=rfl
theorem wr_ev {p sz i off:Nat} {vs:List L} {q0 z j o:Nat} {xs sp:List (List L)}:wrP p sz i off vs (.ep (.vw q0) z xs sp j o) = if (q0 == p) = true then .undef else (.ep (.vw q0) z xs sp j o):=rfl
theorem ip_b {p j:Nat} {b:Bool}:itP p j (.bool b) = (.bool b):=rfl
theorem ip_i {p j:Nat} {k:IntKind} {n:Int}:itP p j (.int k n) = (.int k n):=rfl
theorem ip_s {p j:Nat} {s:ByteArray}:itP p j (.str s) = (.str s):=rfl
theorem ip_np {p j:Nat} :itP p j .nilp = .nilp:=rfl
theorem ip_ni {p j:Nat} :itP p j .nili = .nili:=rfl
theorem ip_f {p j:Nat} {t:Nat} {v:L}:itP p j (.iface t v) = (.iface t v):=rfl
theorem ip_u {p j:Nat} :itP p j .undef = .undef:=rfl
theorem ip_no {p j:Nat} :itP p j .no = .no:=rfl
theorem ip_p {p j:Nat} {c0 o:Nat}:itP p j (.ptr c0 o) = (.ptr c0 o):=rfl
theorem ip_lr {p j:Nat} {z:Nat} {xs sp:List (List L)}:itP p j (.lst .ro z xs sp) = (.lst .ro z xs sp):=rfl
theorem ip_ln {p j:Nat} {z:Nat} {xs sp:List (List L)}:itP p j (.lst .nl z xs sp) = (.lst .nl z xs sp):=rfl
theorem ip_lo {p j:Nat} {q0 e z:Nat} {xs sp:List (List L)}:itP p j (.lst (.own q0 e) z xs sp) = (.lst (.own q0 e) z xs sp):=rfl
theorem ip_lv {p j:Nat} {q0 z:Nat} {xs sp:List (List L)}:itP p j (.lst (.vw q0) z xs sp) = (.lst (.vw q0) z xs sp):=rfl
theorem ip_nf {p j:Nat} :itP p j .nilf = .nilf:=rfl
theorem ip_rp {p j:Nat} {cs0:List L} {o:Nat}:itP p j (.rp cs0 o) = (.rp cs0 o):=rfl
theorem ip_lk {p j:Nat} {n0:Nat}:itP p j (.ln n0) = (.ln n0):=rfl
theorem ip_t {p j:Nat} {c0 o T:Nat}:itP p j (.tptr c0 o T) = (.tptr c0 o T):=rfl
theorem ip_g {p j:Nat} {g o:Nat}:itP p j (.gl g o) = (.gl g o):=rfl
theorem ip_fn {p j:Nat} {f0:Nat} {a b:List L}:itP p j (.fn f0 a b) = (.fn f0 a b):=rfl
theorem ip_sl {p j:Nat} {c0 o z l cp:Nat}:itP p j (.sl c0 o z l cp) = (.sl c0 o z l cp):=rfl
theorem ip_it {p j:Nat} {q0 i0:Nat} {s:ByteArray}:itP p j (.it q0 s i0) = if (q0 == p) = true then .it q0 s j else (.it q0 s i0):=rfl
theorem ta_b {c:Nat} {b:Bool}:toA c (.bool b) = (.bool b):=rfl
theorem ta_i {c:Nat} {k:IntKind} {n:Int}:toA c (.int k n) = (.int k n):=rfl
theorem ta_s {c:Nat} {s:ByteArray}:toA c (.str s) = (.str s):=rfl
theorem ta_np {c:Nat} :toA c .nilp = .nilp:=rfl
theorem ta_ni {c:Nat} :toA c .nili = .nili:=rfl
theorem ta_f {c:Nat} {t:Nat} {v:L}:toA c (.iface t v) = (.iface t v):=rfl
theorem ta_u {c:Nat} :toA c .undef = .undef:=rfl
theorem ta_no {c:Nat} :toA c .no = .no:=rfl
theorem ta_p {c:Nat} {c0 o:Nat}:toA c (.ptr c0 o) = if c0 = c then .ptr 0 o else .undef:=rfl
theorem ta_lr {c:Nat} {z:Nat} {xs sp:List (List L)}:toA c (.lst .ro z xs sp) = (.lst .ro z xs sp):=rfl
theorem ta_ln {c:Nat} {z:Nat} {xs sp:List (List L)}:toA c (.lst .nl z xs sp) = .lst .ro z xs sp:=rfl
theorem ta_lo {c:Nat} {q0 e z:Nat} {xs sp:List (List L)}:toA c (.lst (.own q0 e) z xs sp) = .lst .ro z xs sp:=rfl
theorem ta_lv {c:Nat} {q0 z:Nat} {xs sp:List (List L)}:toA c (.lst (.vw q0) z xs sp) = .lst .ro z xs sp:=rfl
theorem ta_nf {c:Nat} :toA c .nilf = .nilf:=rfl
theorem ta_rp {c:Nat} {cs0:List L} {o:Nat}:toA c (.rp cs0 o) = (.rp cs0 o):=rfl
theorem ta_lk {c:Nat} {n0:Nat}:toA c (.ln n0) = (.ln n0):=rfl
theorem ta_t {c:Nat} {c0 o T:Nat}:toA c (.tptr c0 o T) = if c0 = c then .tptr 0 o T else .undef:=rfl
theorem ta_it {c:Nat} {q0 i0:Nat} {s:ByteArray}:toA c (.it q0 s i0) = .undef:=rfl
theorem ta_g {c:Nat} {g o:Nat}:toA c (.gl g o) = (.gl g o):=rfl
theorem ta_fn {c:Nat} {f0:Nat} {a b:List L}:toA c (.fn f0 a b) = if pureL a b = true then (.fn f0 a b) else .undef:=rfl
theorem ta_sl {c:Nat} {c0 o z l cp:Nat}:toA c (.sl c0 o z l cp) = if c0 = c then .sl 0 o z l cp else .undef:=rfl
theorem ta_er {c:Nat} {z j o:Nat} {xs sp:List (List L)}:toA c (.ep .ro z xs sp j o) = .undef:=rfl
theorem ta_en {c:Nat} {z j o:Nat} {xs sp:List (List L)}:toA c (.ep .nl z xs sp j o) = .undef:=rfl
theorem ta_eo {c:Nat} {q0 e z j o:Nat} {xs sp:List (List L)}:toA c (.ep (.own q0 e) z xs sp j o) = .undef:=rfl
theorem ta_ev {c:Nat} {q0 z j o:Nat} {xs sp:List (List L)}:toA c (.ep (.vw q0) z xs sp j o) = .undef:=rfl
theorem tc_b {c:Nat} {b:Bool}:toC c (.bool b) = (.bool b):=rfl
theorem tc_i {c:Nat} {k:IntKind} {n:Int}:toC c (.int k n) = (.int k n):=rfl
theorem tc_s {c:Nat} {s:ByteArray}:toC c (.str s) = (.str s):=rfl
theorem tc_np {c:Nat} :toC c .nilp = .nilp:=rfl
theorem tc_ni {c:Nat} :toC c .nili = .nili:=rfl
theorem tc_f {c:Nat} {t:Nat} {v:L}:toC c (.iface t v) = (.iface t v):=rfl
theorem tc_u {c:Nat} :toC c .undef = .undef:=rfl
theorem tc_no {c:Nat} :toC c .no = .no:=rfl
theorem tc_p {c:Nat} {c0 o:Nat}:toC c (.ptr c0 o) = if c0 = c then .ptr 0 o else .undef:=rfl
theorem tc_lr {c:Nat} {z:Nat} {xs sp:List (List L)}:toC c (.lst .ro z xs sp) = (.lst .ro z xs sp):=rfl
theorem tc_ln {c:Nat} {z:Nat} {xs sp:List (List L)}:toC c (.lst .nl z xs sp) = (.lst .nl z xs sp):=rfl
theorem tc_lo {c:Nat} {q0 e z:Nat} {xs sp:List (List L)}:toC c (.lst (.own q0 e) z xs sp) = if isC c q0 = true then .lst (.own (cplc 0 q0) e) z xs sp else .undef:=rfl
theorem tc_lv {c:Nat} {q0 z:Nat} {xs sp:List (List L)}:toC c (.lst (.vw q0) z xs sp) = .undef:=rfl
theorem tc_nf {c:Nat} :toC c .nilf = .nilf:=rfl
theorem tc_rp {c:Nat} {cs0:List L} {o:Nat}:toC c (.rp cs0 o) = (.rp cs0 o):=rfl
theorem tc_lk {c:Nat} {n0:Nat}:toC c (.ln n0) = (.ln n0):=rfl
theorem tc_t {c:Nat} {c0 o T:Nat}:toC c (.tptr c0 o T) = if c0 = c then .tptr 0 o T else .undef:=rfl
theorem tc_it {c:Nat} {q0 i0:Nat} {s:ByteArray}:toC c (.it q0 s i0) = .undef:=rfl
theorem tc_g {c:Nat} {g o:Nat}:toC c (.gl g o) = (.gl g o):=rfl
theorem tc_fn {c:Nat} {f0:Nat} {a b:List L}:toC c (.fn f0 a b) = if pureL a b = true then (.fn f0 a b) else .undef:=rfl
theorem tc_sl {c:Nat} {c0 o z l cp:Nat}:toC c (.sl c0 o z l cp) = .undef:=rfl
theorem tc_er {c:Nat} {z j o:Nat} {xs sp:List (List L)}:toC c (.ep .ro z xs sp j o) = .undef:=rfl
theorem tc_en {c:Nat} {z j o:Nat} {xs sp:List (List L)}:toC c (.ep .nl z xs sp j o) = .undef:=rfl
theorem tc_eo {c:Nat} {q0 e z j o:Nat} {xs sp:List (List L)}:toC c (.ep (.own q0 e) z xs sp j o) = .undef:=rfl
theorem tc_ev {c:Nat} {q0 z j o:Nat} {xs sp:List (List L)}:toC c (.ep (.vw q0) z xs sp j o) = .undef:=rfl
theorem fc_b {c:Nat} {b:Bool}:fromC c (.bool b) = (.bool b):=rfl
theorem fc_i {c:Nat} {k:IntKind} {n:Int}:fromC c (.int k n) = (.int k n):=rfl
theorem fc_s {c:Nat} {s:ByteArray}:fromC c (.str s) = (.str s):=rfl
theorem fc_np {c:Nat} :fromC c .nilp = .nilp:=rfl
theorem fc_ni {c:Nat} :fromC c .nili = .nili:=rfl
theorem fc_f {c:Nat} {t:Nat} {v:L}:fromC c (.iface t v) = (.iface t v):=rfl
theorem fc_u {c:Nat} :fromC c .undef = .undef:=rfl
theorem fc_no {c:Nat} :fromC c .no = .no:=rfl
theorem fc_p {c:Nat} {c0 o:Nat}:fromC c (.ptr c0 o) = if c0 = 0 then .ptr c o else .undef:=rfl
theorem fc_lr {c:Nat} {z:Nat} {xs sp:List (List L)}:fromC c (.lst .ro z xs sp) = (.lst .ro z xs sp):=rfl
theorem fc_ln {c:Nat} {z:Nat} {xs sp:List (List L)}:fromC c (.lst .nl z xs sp) = (.lst .nl z xs sp):=rfl
theorem fc_lo {c:Nat} {q0 e z:Nat} {xs sp:List (List L)}:fromC c (.lst (.own q0 e) z xs sp) = if isC 0 q0 = true then .lst (.own (cplc c q0) e) z xs sp else .undef:=rfl
theorem fc_lv {c:Nat} {q0 z:Nat} {xs sp:List (List L)}:fromC c (.lst (.vw q0) z xs sp) = .undef:=rfl
theorem fc_nf {c:Nat} :fromC c .nilf = .nilf:=rfl
theorem fc_rp {c:Nat} {cs0:List L} {o:Nat}:fromC c (.rp cs0 o) = (.rp cs0 o):=rfl
theorem fc_lk {c:Nat} {n0:Nat}:fromC c (.ln n0) = (.ln n0):=rfl
theorem fc_t {c:Nat} {c0 o T:Nat}:fromC c (.tptr c0 o T) = if c0 = 0 then .tptr c o T else .undef:=rfl
theorem fc_it {c:Nat} {q0 i0:Nat} {s:ByteArray}:fromC c (.it q0 s i0) = .undef:=rfl
theorem fc_g {c:Nat} {g o:Nat}:fromC c (.gl g o) = (.gl g o):=rfl
theorem fc_fn {c:Nat} {f0:Nat} {a b:List L}:fromC c (.fn f0 a b) = if pureL a b = true then (.fn f0 a b) else .undef:=rfl
theorem fc_sl {c:Nat} {c0 o z l cp:Nat}:fromC c (.sl c0 o z l cp) = .undef:=rfl
theorem fc_er {c:Nat} {z j o:Nat} {xs sp:List (List L)}:fromC c (.ep .ro z xs sp j o) = .undef:=rfl
theorem fc_en {c:Nat} {z j o:Nat} {xs sp:List (List L)}:fromC c (.ep .nl z xs sp j o) = .undef:=rfl
theorem fc_eo {c:Nat} {q0 e z j o:Nat} {xs sp:List (List L)}:fromC c (.ep (.own q0 e) z xs sp j o) = .undef:=rfl
theorem fc_ev {c:Nat} {q0 z j o:Nat} {xs sp:List (List L)}:fromC c (.ep (.vw q0) z xs sp j o) = .undef:=rfl
theorem kl_b {c:Nat} {b:Bool}:killCl c (.bool b) = (.bool b):=rfl
theorem kl_i {c:Nat} {k:IntKind} {n:Int}:killCl c (.int k n) = (.int k n):=rfl
theorem kl_s {c:Nat} {s:ByteArray}:killCl c (.str s) = (.str s):=rfl
theorem kl_np {c:Nat} :killCl c .nilp = .nilp:=rfl
theorem kl_ni {c:Nat} :killCl c .nili = .nili:=rfl
theorem kl_f {c:Nat} {t:Nat} {v:L}:killCl c (.iface t v) = (.iface t v):=rfl
theorem kl_u {c:Nat} :killCl c .undef = .undef:=rfl
theorem kl_no {c:Nat} :killCl c .no = .no:=rfl
theorem kl_p {c:Nat} {c0 o:Nat}:killCl c (.ptr c0 o) = (.ptr c0 o):=rfl
theorem kl_lr {c:Nat} {z:Nat} {xs sp:List (List L)}:killCl c (.lst .ro z xs sp) = (.lst .ro z xs sp):=rfl
theorem kl_ln {c:Nat} {z:Nat} {xs sp:List (List L)}:killCl c (.lst .nl z xs sp) = (.lst .nl z xs sp):=rfl
theorem kl_lo {c:Nat} {q0 e z:Nat} {xs sp:List (List L)}:killCl c (.lst (.own q0 e) z xs sp) = if isC c q0 = true then .undef else (.lst (.own q0 e) z xs sp):=rfl
theorem kl_lv {c:Nat} {q0 z:Nat} {xs sp:List (List L)}:killCl c (.lst (.vw q0) z xs sp) = if isC c q0 = true then .undef else (.lst (.vw q0) z xs sp):=rfl
theorem kl_nf {c:Nat} :killCl c .nilf = .nilf:=rfl
theorem kl_rp {c:Nat} {cs0:List L} {o:Nat}:killCl c (.rp cs0 o) = (.rp cs0 o):=rfl
theorem kl_lk {c:Nat} {n0:Nat}:killCl c (.ln n0) = (.ln n0):=rfl
theorem kl_t {c:Nat} {c0 o T:Nat}:killCl c (.tptr c0 o T) = (.tptr c0 o T):=rfl
theorem kl_it {c:Nat} {q0 i0:Nat} {s:ByteArray}:killCl c (.it q0 s i0) = if isC c q0 = true then .undef else (.it q0 s i0):=rfl
theorem kl_g {c:Nat} {g o:Nat}:killCl c (.gl g o) = (.gl g o):=rfl
theorem kl_fn {c:Nat} {f0:Nat} {a b:List L}:killCl c (.fn f0 a b) = (.fn f0 a b):=rfl
theorem kl_sl {c:Nat} {c0 o z l cp:Nat}:killCl c (.sl c0 o z l cp) = (.sl c0 o z l cp):=rfl
theorem kl_er {c:Nat} {z j o:Nat} {xs sp:List (List L)}:killCl c (.ep .ro z xs sp j o) = (.ep .ro z xs sp j o):=rfl
theorem kl_en {c:Nat} {z j o:Nat} {xs sp:List (List L)}:killCl c (.ep .nl z xs sp j o) = (.ep .nl z xs sp j o):=rfl
theorem kl_eo {c:Nat} {q0 e z j o:Nat} {xs sp:List (List L)}:killCl c (.ep (.own q0 e) z xs sp j o) = if isC c q0 = true then .undef else (.ep (.own q0 e) z xs sp j o):=rfl
theorem kl_ev {c:Nat} {q0 z j o:Nat} {xs sp:List (List L)}:killCl c (.ep (.vw q0) z xs sp j o) = if isC c q0 = true then .undef else (.ep (.vw q0) z xs sp j o):=rfl
theorem rc_b  {b:Bool}:roC (.bool b) = roL (.bool b):=rfl
theorem rc_i  {k:IntKind} {n:Int}:roC (.int k n) = roL (.int k n):=rfl
theorem rc_s  {s:ByteArray}:roC (.str s) = roL (.str s):=rfl
theorem rc_np  :roC .nilp = roL .nilp:=rfl
theorem rc_ni  :roC .nili = roL .nili:=rfl
theorem rc_f  {t:Nat} {v:L}:roC (.iface t v) = roL (.iface t v):=rfl
theorem rc_u  :roC .undef = roL .undef:=rfl
theorem rc_no  :roC .no = roL .no:=rfl
theorem rc_p  {c0 o:Nat}:roC (.ptr c0 o) = (.ptr c0 o):=rfl
theorem rc_lr  {z:Nat} {xs sp:List (List L)}:roC (.lst .ro z xs sp) = roL (.lst .ro z xs sp):=rfl
theorem rc_ln  {z:Nat} {xs sp:List (List L)}:roC (.lst .nl z xs sp) = roL (.lst .nl z xs sp):=rfl
theorem rc_lo  {q0 e z:Nat} {xs sp:List (List L)}:roC (.lst (.own q0 e) z xs sp) = roL (.lst (.own q0 e) z xs sp):=rfl
theorem rc_lv  {q0 z:Nat} {xs sp:List (List L)}:roC (.lst (.vw q0) z xs sp) = roL (.lst (.vw q0) z xs sp):=rfl
theorem rc_nf  :roC .nilf = roL .nilf:=rfl
theorem rc_rp  {cs0:List L} {o:Nat}:roC (.rp cs0 o) = roL (.rp cs0 o):=rfl
theorem rc_lk  {n0:Nat}:roC (.ln n0) = roL (.ln n0):=rfl
theorem rc_t  {c0 o T:Nat}:roC (.tptr c0 o T) = (.tptr c0 o T):=rfl
theorem rc_it  {q0 i0:Nat} {s:ByteArray}:roC (.it q0 s i0) = roL (.it q0 s i0):=rfl
theorem rc_g  {g o:Nat}:roC (.gl g o) = roL (.gl g o):=rfl
theorem rc_fn  {f0:Nat} {a b:List L}:roC (.fn f0 a b) = roL (.fn f0 a b):=rfl
theorem rc_sl  {c0 o z l cp:Nat}:roC (.sl c0 o z l cp) = roL (.sl c0 o z l cp):=rfl
theorem rc_er  {z j o:Nat} {xs sp:List (List L)}:roC (.ep .ro z xs sp j o) = roL (.ep .ro z xs sp j o):=rfl
theorem rc_en  {z j o:Nat} {xs sp:List (List L)}:roC (.ep .nl z xs sp j o) = roL (.ep .nl z xs sp j o):=rfl
theorem rc_eo  {q0 e z j o:Nat} {xs sp:List (List L)}:roC (.ep (.own q0 e) z xs sp j o) = roL (.ep (.own q0 e) z xs sp j o):=rfl
theorem rc_ev  {q0 z j o:Nat} {xs sp:List (List L)}:roC (.ep (.vw q0) z xs sp j o) = roL (.ep (.vw q0) z xs sp j o):=rfl
theorem uw_b {p1 z1 n1:Nat} {ys:List (List L)} {b:Bool}:uwP p1 z1 n1 ys (.bool b) = (.bool b):=rfl
theorem uw_i {p1 z1 n1:Nat} {ys:List (List L)} {k:IntKind} {n:Int}:uwP p1 z1 n1 ys (.int k n) = (.int k n):=rfl
theorem uw_s {p1 z1 n1:Nat} {ys:List (List L)} {s:ByteArray}:uwP p1 z1 n1 ys (.str s) = (.str s):=rfl
theorem uw_np {p1 z1 n1:Nat} {ys:List (List L)} :uwP p1 z1 n1 ys .nilp = .nilp:=rfl
theorem uw_ni {p1 z1 n1:Nat} {ys:List (List L)} :uwP p1 z1 n1 ys .nili = .nili:=rfl
theorem uw_f {p1 z1 n1:Nat} {ys:List (List L)} {t:Nat} {v:L}:uwP p1 z1 n1 ys (.iface t v) = (.iface t v):=rfl
theorem uw_u {p1 z1 n1:Nat} {ys:List (List L)} :uwP p1 z1 n1 ys .undef = .undef:=rfl
theorem uw_no {p1 z1 n1:Nat} {ys:List (List L)} :uwP p1 z1 n1 ys .no = .no:=rfl
theorem uw_p {p1 z1 n1:Nat} {ys:List (List L)} {c0 o:Nat}:uwP p1 z1 n1 ys (.ptr c0 o) = (.ptr c0 o):=rfl
theorem uw_lr {p1 z1 n1:Nat} {ys:List (List L)} {z:Nat} {xs sp:List (List L)}:uwP p1 z1 n1 ys (.lst .ro z xs sp) = (.lst .ro z xs sp):=rfl
theorem uw_ln {p1 z1 n1:Nat} {ys:List (List L)} {z:Nat} {xs sp:List (List L)}:uwP p1 z1 n1 ys (.lst .nl z xs sp) = (.lst .nl z xs sp):=rfl
theorem uw_lo {p1 z1 n1:Nat} {ys:List (List L)} {q0 e z:Nat} {xs sp:List (List L)}:uwP p1 z1 n1 ys (.lst (.own q0 e) z xs sp) = if (q0 == p1) = true then (if z = z1 ∧ xs.length = n1 then .lst (.own q0 e) z ys [] else .undef) else (.lst (.own q0 e) z xs sp):=rfl
theorem uw_lv {p1 z1 n1:Nat} {ys:List (List L)} {q0 z:Nat} {xs sp:List (List L)}:uwP p1 z1 n1 ys (.lst (.vw q0) z xs sp) = if (q0 == p1) = true then .undef else (.lst (.vw q0) z xs sp):=rfl
theorem uw_nf {p1 z1 n1:Nat} {ys:List (List L)} :uwP p1 z1 n1 ys .nilf = .nilf:=rfl
theorem uw_rp {p1 z1 n1:Nat} {ys:List (List L)} {cs0:List L} {o:Nat}:uwP p1 z1 n1 ys (.rp cs0 o) = (.rp cs0 o):=rfl
theorem uw_lk {p1 z1 n1:Nat} {ys:List (List L)} {n0:Nat}:uwP p1 z1 n1 ys (.ln n0) = (.ln n0):=rfl
theorem uw_t {p1 z1 n1:Nat} {ys:List (List L)} {c0 o T:Nat}:uwP p1 z1 n1 ys (.tptr c0 o T) = (.tptr c0 o T):=rfl
theorem uw_it {p1 z1 n1:Nat} {ys:List (List L)} {q0 i0:Nat} {s:ByteArray}:uwP p1 z1 n1 ys (.it q0 s i0) = if (q0 == p1) = true then .undef else (.it q0 s i0):=rfl
theorem uw_g {p1 z1 n1:Nat} {ys:List (List L)} {g o:Nat}:uwP p1 z1 n1 ys (.gl g o) = (.gl g o):=rfl
theorem uw_fn {p1 z1 n1:Nat} {ys:List (List L)} {f0:Nat} {a b:List L}:uwP p1 z1 n1 ys (.fn f0 a b) = (.fn f0 a b):=rfl
theorem uw_sl {p1 z1 n1:Nat} {ys:List (List L)} {c0 o z l cp:Nat}:uwP p1 z1 n1 ys (.sl c0 o z l cp) = (.sl c0 o z l cp):=rfl
theorem uw_er {p1 z1 n1:Nat} {ys:List (List L)} {z j o:Nat} {xs sp:List (List L)}:uwP p1 z1 n1 ys (.ep .ro z xs sp j o) = (.ep .ro z xs sp j o):=rfl
theorem uw_en {p1 z1 n1:Nat} {ys:List (List L)} {z j o:Nat} {xs sp:List (List L)}:uwP p1 z1 n1 ys (.ep .nl z xs sp j o) = (.ep .nl z xs sp j o):=rfl
theorem uw_eo {p1 z1 n1:Nat} {ys:List (List L)} {q0 e z j o:Nat} {xs sp:List (List L)}:uwP p1 z1 n1 ys (.ep (.own q0 e) z xs sp j o) = if (q0 == p1) = true then .undef else (.ep (.own q0 e) z xs sp j o):=rfl
theorem uw_ev {p1 z1 n1:Nat} {ys:List (List L)} {q0 z j o:Nat} {xs sp:List (List L)}:uwP p1 z1 n1 ys (.ep (.vw q0) z xs sp j o) = if (q0 == p1) = true then .undef else (.ep (.vw q0) z xs sp j o):=rfl
theorem fz_b {c:Nat} {cs:List L} {b:Bool}:frzL c cs (.bool b) = (.bool b):=rfl
theorem fz_i {c:Nat} {cs:List L} {k:IntKind} {n:Int}:frzL c cs (.int k n) = (.int k n):=rfl
theorem fz_s {c:Nat} {cs:List L} {s:ByteArray}:frzL c cs (.str s) = (.str s):=rfl
theorem fz_np {c:Nat} {cs:List L} :frzL c cs .nilp = .nilp:=rfl
theorem fz_ni {c:Nat} {cs:List L} :frzL c cs .nili = .nili:=rfl
theorem fz_f {c:Nat} {cs:List L} {t:Nat} {v:L}:frzL c cs (.iface t v) = (.iface t v):=rfl
theorem fz_u {c:Nat} {cs:List L} :frzL c cs .undef = .undef:=rfl
theorem fz_no {c:Nat} {cs:List L} :frzL c cs .no = .no:=rfl
theorem fz_p {c:Nat} {cs:List L} {c0 o:Nat}:frzL c cs (.ptr c0 o) = if (c0 == c) = true then .rp cs o else (.ptr c0 o):=rfl
theorem fz_lr {c:Nat} {cs:List L} {z:Nat} {xs sp:List (List L)}:frzL c cs (.lst .ro z xs sp) = (.lst .ro z xs sp):=rfl
theorem fz_ln {c:Nat} {cs:List L} {z:Nat} {xs sp:List (List L)}:frzL c cs (.lst .nl z xs sp) = (.lst .nl z xs sp):=rfl
theorem fz_lo {c:Nat} {cs:List L} {q0 e z:Nat} {xs sp:List (List L)}:frzL c cs (.lst (.own q0 e) z xs sp) = (.lst (.own q0 e) z xs sp):=rfl
theorem fz_lv {c:Nat} {cs:List L} {q0 z:Nat} {xs sp:List (List L)}:frzL c cs (.lst (.vw q0) z xs sp) = (.lst (.vw q0) z xs sp):=rfl
theorem fz_nf {c:Nat} {cs:List L} :frzL c cs .nilf = .nilf:=rfl
theorem fz_rp {c:Nat} {cs:List L} {cs0:List L} {o:Nat}:frzL c cs (.rp cs0 o) = (.rp cs0 o):=rfl
theorem fz_lk {c:Nat} {cs:List L} {n0:Nat}:frzL c cs (.ln n0) = (.ln n0):=rfl
theorem fz_t {c:Nat} {cs:List L} {c0 o T:Nat}:frzL c cs (.tptr c0 o T) = if (c0 == c) = true then .rp cs o else (.tptr c0 o T):=rfl
theorem fz_it {c:Nat} {cs:List L} {q0 i0:Nat} {s:ByteArray}:frzL c cs (.it q0 s i0) = (.it q0 s i0):=rfl
theorem fz_g {c:Nat} {cs:List L} {g o:Nat}:frzL c cs (.gl g o) = (.gl g o):=rfl
theorem fz_fn {c:Nat} {cs:List L} {f0:Nat} {a b:List L}:frzL c cs (.fn f0 a b) = .fn f0 (a.map (frz1 c cs)) (b.map (frz1 c cs)):=rfl
theorem fz_sl {c:Nat} {cs:List L} {c0 o z l cp:Nat}:frzL c cs (.sl c0 o z l cp) = if (c0 == c) = true then .undef else (.sl c0 o z l cp):=rfl
theorem fz_er {c:Nat} {cs:List L} {z j o:Nat} {xs sp:List (List L)}:frzL c cs (.ep .ro z xs sp j o) = (.ep .ro z xs sp j o):=rfl
theorem fz_en {c:Nat} {cs:List L} {z j o:Nat} {xs sp:List (List L)}:frzL c cs (.ep .nl z xs sp j o) = (.ep .nl z xs sp j o):=rfl
theorem fz_eo {c:Nat} {cs:List L} {q0 e z j o:Nat} {xs sp:List (List L)}:frzL c cs (.ep (.own q0 e) z xs sp j o) = (.ep (.own q0 e) z xs sp j o):=rfl
theorem fz_ev {c:Nat} {cs:List L} {q0 z j o:Nat} {xs sp:List (List L)}:frzL c cs (.ep (.vw q0) z xs sp j o) = (.ep (.vw q0) z xs sp j o):=rfl
theorem f1_b {c:Nat} {cs:List L} {b:Bool}:frz1 c cs (.bool b) = (.bool b):=rfl
theorem f1_i {c:Nat} {cs:List L} {k:IntKind} {n:Int}:frz1 c cs (.int k n) = (.int k n):=rfl
theorem f1_s {c:Nat} {cs:List L} {s:ByteArray}:frz1 c cs (.str s) = (.str s):=rfl
theorem f1_np {c:Nat} {cs:List L} :frz1 c cs .nilp = .nilp:=rfl
theorem f1_ni {c:Nat} {cs:List L} :frz1 c cs .nili = .nili:=rfl
theorem f1_f {c:Nat} {cs:List L} {t:Nat} {v:L}:frz1 c cs (.iface t v) = (.iface t v):=rfl
theorem f1_u {c:Nat} {cs:List L} :frz1 c cs .undef = .undef:=rfl
theorem f1_no {c:Nat} {cs:List L} :frz1 c cs .no = .no:=rfl
theorem f1_p {c:Nat} {cs:List L} {c0 o:Nat}:frz1 c cs (.ptr c0 o) = if (c0 == c) = true then .rp cs o else (.ptr c0 o):=rfl
theorem f1_lr {c:Nat} {cs:List L} {z:Nat} {xs sp:List (List L)}:frz1 c cs (.lst .ro z xs sp) = (.lst .ro z xs sp):=rfl
theorem f1_ln {c:Nat} {cs:List L} {z:Nat} {xs sp:List (List L)}:frz1 c cs (.lst .nl z xs sp) = (.lst .nl z xs sp):=rfl
theorem f1_lo {c:Nat} {cs:List L} {q0 e z:Nat} {xs sp:List (List L)}:frz1 c cs (.lst (.own q0 e) z xs sp) = (.lst (.own q0 e) z xs sp):=rfl
theorem f1_lv {c:Nat} {cs:List L} {q0 z:Nat} {xs sp:List (List L)}:frz1 c cs (.lst (.vw q0) z xs sp) = (.lst (.vw q0) z xs sp):=rfl
theorem f1_nf {c:Nat} {cs:List L} :frz1 c cs .nilf = .nilf:=rfl
theorem f1_rp {c:Nat} {cs:List L} {cs0:List L} {o:Nat}:frz1 c cs (.rp cs0 o) = (.rp cs0 o):=rfl
theorem f1_lk {c:Nat} {cs:List L} {n0:Nat}:frz1 c cs (.ln n0) = (.ln n0):=rfl
theorem f1_t {c:Nat} {cs:List L} {c0 o T:Nat}:frz1 c cs (.tptr c0 o T) = if (c0 == c) = true then .rp cs o else (.tptr c0 o T):=rfl
theorem f1_it {c:Nat} {cs:List L} {q0 i0:Nat} {s:ByteArray}:frz1 c cs (.it q0 s i0) = (.it q0 s i0):=rfl
theorem f1_g {c:Nat} {cs:List L} {g o:Nat}:frz1 c cs (.gl g o) = (.gl g o):=rfl
theorem f1_fn {c:Nat} {cs:List L} {f0:Nat} {a b:List L}:frz1 c cs (.fn f0 a b) = (.fn f0 a b):=rfl
theorem f1_sl {c:Nat} {cs:List L} {c0 o z l cp:Nat}:frz1 c cs (.sl c0 o z l cp) = (.sl c0 o z l cp):=rfl
theorem f1_er {c:Nat} {cs:List L} {z j o:Nat} {xs sp:List (List L)}:frz1 c cs (.ep .ro z xs sp j o) = (.ep .ro z xs sp j o):=rfl
theorem f1_en {c:Nat} {cs:List L} {z j o:Nat} {xs sp:List (List L)}:frz1 c cs (.ep .nl z xs sp j o) = (.ep .nl z xs sp j o):=rfl
theorem f1_eo {c:Nat} {cs:List L} {q0 e z j o:Nat} {xs sp:List (List L)}:frz1 c cs (.ep (.own q0 e) z xs sp j o) = (.ep (.own q0 e) z xs sp j o):=rfl
theorem f1_ev {c:Nat} {cs:List L} {q0 z j o:Nat} {xs sp:List (List L)}:frz1 c cs (.ep (.vw q0) z xs sp j o) = (.ep (.vw q0) z xs sp j o):=rfl
theorem tg_b {c:Nat} {b:Bool}:toG c (.bool b) = (.bool b):=rfl
theorem tg_i {c:Nat} {k:IntKind} {n:Int}:toG c (.int k n) = (.int k n):=rfl
theorem tg_s {c:Nat} {s:ByteArray}:toG c (.str s) = (.str s):=rfl
theorem tg_np {c:Nat} :toG c .nilp = .nilp:=rfl
theorem tg_ni {c:Nat} :toG c .nili = .nili:=rfl
theorem tg_f {c:Nat} {t:Nat} {v:L}:toG c (.iface t v) = (.iface t v):=rfl
theorem tg_u {c:Nat} :toG c .undef = .undef:=rfl
theorem tg_no {c:Nat} :toG c .no = .no:=rfl
theorem tg_p {c:Nat} {c0 o:Nat}:toG c (.ptr c0 o) = if c0 = c then .ptr 0 o else .undef:=rfl
theorem tg_lr {c:Nat} {z:Nat} {xs sp:List (List L)}:toG c (.lst .ro z xs sp) = (.lst .ro z xs sp):=rfl
theorem tg_ln {c:Nat} {z:Nat} {xs sp:List (List L)}:toG c (.lst .nl z xs sp) = .lst .nl z xs sp:=rfl
theorem tg_lo {c:Nat} {q0 e z:Nat} {xs sp:List (List L)}:toG c (.lst (.own q0 e) z xs sp) = if isC c q0 = true then .lst (.own (cplc 0 q0) e) z xs sp else .lst .ro z xs sp:=rfl
theorem tg_lv {c:Nat} {q0 z:Nat} {xs sp:List (List L)}:toG c (.lst (.vw q0) z xs sp) = if isC c q0 = true then .undef else .lst .ro z xs sp:=rfl
theorem tg_nf {c:Nat} :toG c .nilf = .nilf:=rfl
theorem tg_rp {c:Nat} {cs0:List L} {o:Nat}:toG c (.rp cs0 o) = (.rp cs0 o):=rfl
theorem tg_lk {c:Nat} {n0:Nat}:toG c (.ln n0) = (.ln n0):=rfl
theorem tg_t {c:Nat} {c0 o T:Nat}:toG c (.tptr c0 o T) = if c0 = c then .tptr 0 o T else .undef:=rfl
theorem tg_it {c:Nat} {q0 i0:Nat} {s:ByteArray}:toG c (.it q0 s i0) = .undef:=rfl
theorem tg_g {c:Nat} {g o:Nat}:toG c (.gl g o) = (.gl g o):=rfl
theorem tg_fn {c:Nat} {f0:Nat} {a b:List L}:toG c (.fn f0 a b) = if pureL a b = true then (.fn f0 a b) else .undef:=rfl
theorem tg_sl {c:Nat} {c0 o z l cp:Nat}:toG c (.sl c0 o z l cp) = if c0 = c then .sl 0 o z l cp else .undef:=rfl
theorem tg_er {c:Nat} {z j o:Nat} {xs sp:List (List L)}:toG c (.ep .ro z xs sp j o) = .undef:=rfl
theorem tg_en {c:Nat} {z j o:Nat} {xs sp:List (List L)}:toG c (.ep .nl z xs sp j o) = .undef:=rfl
theorem tg_eo {c:Nat} {q0 e z j o:Nat} {xs sp:List (List L)}:toG c (.ep (.own q0 e) z xs sp j o) = .undef:=rfl
theorem tg_ev {c:Nat} {q0 z j o:Nat} {xs sp:List (List L)}:toG c (.ep (.vw q0) z xs sp j o) = .undef:=rfl
theorem nC_b {c:Nat} {b:Bool}:noC c (.bool b) = true:=rfl
theorem nC_i {c:Nat} {k:IntKind} {n:Int}:noC c (.int k n) = true:=rfl
theorem nC_s {c:Nat} {s:ByteArray}:noC c (.str s) = true:=rfl
theorem nC_np {c:Nat} :noC c .nilp = true:=rfl
theorem nC_ni {c:Nat} :noC c .nili = true:=rfl
theorem nC_f {c:Nat} {t:Nat} {v:L}:noC c (.iface t v) = true:=rfl
theorem nC_u {c:Nat} :noC c .undef = true:=rfl
theorem nC_no {c:Nat} :noC c .no = true:=rfl
theorem nC_p {c:Nat} {c0 o:Nat}:noC c (.ptr c0 o) = true:=rfl
theorem nC_lr {c:Nat} {z:Nat} {xs sp:List (List L)}:noC c (.lst .ro z xs sp) = true:=rfl
theorem nC_ln {c:Nat} {z:Nat} {xs sp:List (List L)}:noC c (.lst .nl z xs sp) = true:=rfl
theorem nC_lo {c:Nat} {q0 e z:Nat} {xs sp:List (List L)}:noC c (.lst (.own q0 e) z xs sp) = !isC c q0:=rfl
theorem nC_lv {c:Nat} {q0 z:Nat} {xs sp:List (List L)}:noC c (.lst (.vw q0) z xs sp) = !isC c q0:=rfl
theorem nC_nf {c:Nat} :noC c .nilf = true:=rfl
theorem nC_rp {c:Nat} {cs0:List L} {o:Nat}:noC c (.rp cs0 o) = true:=rfl
theorem nC_lk {c:Nat} {n0:Nat}:noC c (.ln n0) = true:=rfl
theorem nC_t {c:Nat} {c0 o T:Nat}:noC c (.tptr c0 o T) = true:=rfl
theorem nC_it {c:Nat} {q0 i0:Nat} {s:ByteArray}:noC c (.it q0 s i0) = true:=rfl
theorem nC_g {c:Nat} {g o:Nat}:noC c (.gl g o) = true:=rfl
theorem nC_fn {c:Nat} {f0:Nat} {a b:List L}:noC c (.fn f0 a b) = true:=rfl
theorem nC_sl {c:Nat} {c0 o z l cp:Nat}:noC c (.sl c0 o z l cp) = true:=rfl
theorem nC_er {c:Nat} {z j o:Nat} {xs sp:List (List L)}:noC c (.ep .ro z xs sp j o) = true:=rfl
theorem nC_en {c:Nat} {z j o:Nat} {xs sp:List (List L)}:noC c (.ep .nl z xs sp j o) = true:=rfl
theorem nC_eo {c:Nat} {q0 e z j o:Nat} {xs sp:List (List L)}:noC c (.ep (.own q0 e) z xs sp j o) = true:=rfl
theorem nC_ev {c:Nat} {q0 z j o:Nat} {xs sp:List (List L)}:noC c (.ep (.vw q0) z xs sp j o) = true:=rfl
theorem fD_b  {b:Bool}:frzD (.bool b) = true:=rfl
theorem fD_i  {k:IntKind} {n:Int}:frzD (.int k n) = true:=rfl
theorem fD_s  {s:ByteArray}:frzD (.str s) = true:=rfl
theorem fD_np  :frzD .nilp = true:=rfl
theorem fD_ni  :frzD .nili = true:=rfl
theorem fD_f  {t:Nat} {v:L}:frzD (.iface t v) = true:=rfl
theorem fD_u  :frzD .undef = false:=rfl
theorem fD_no  :frzD .no = false:=rfl
theorem fD_p  {c0 o:Nat}:frzD (.ptr c0 o) = false:=rfl
theorem fD_lr  {z:Nat} {xs sp:List (List L)}:frzD (.lst .ro z xs sp) = true:=rfl
theorem fD_ln  {z:Nat} {xs sp:List (List L)}:frzD (.lst .nl z xs sp) = false:=rfl
theorem fD_lo  {q0 e z:Nat} {xs sp:List (List L)}:frzD (.lst (.own q0 e) z xs sp) = false:=rfl
theorem fD_lv  {q0 z:Nat} {xs sp:List (List L)}:frzD (.lst (.vw q0) z xs sp) = false:=rfl
theorem fD_nf  :frzD .nilf = true:=rfl
theorem fD_rp  {cs0:List L} {o:Nat}:frzD (.rp cs0 o) = true:=rfl
theorem fD_lk  {n0:Nat}:frzD (.ln n0) = false:=rfl
theorem fD_t  {c0 o T:Nat}:frzD (.tptr c0 o T) = false:=rfl
theorem fD_it  {q0 i0:Nat} {s:ByteArray}:frzD (.it q0 s i0) = false:=rfl
theorem fD_g  {g o:Nat}:frzD (.gl g o) = true:=rfl
theorem fD_fn  {f0:Nat} {a b:List L}:frzD (.fn f0 a b) = pureL a b:=rfl
theorem fD_sl  {c0 o z l cp:Nat}:frzD (.sl c0 o z l cp) = false:=rfl
theorem fD_er  {z j o:Nat} {xs sp:List (List L)}:frzD (.ep .ro z xs sp j o) = false:=rfl
theorem fD_en  {z j o:Nat} {xs sp:List (List L)}:frzD (.ep .nl z xs sp j o) = false:=rfl
theorem fD_eo  {q0 e z j o:Nat} {xs sp:List (List L)}:frzD (.ep (.own q0 e) z xs sp j o) = false:=rfl
theorem fD_ev  {q0 z j o:Nat} {xs sp:List (List L)}:frzD (.ep (.vw q0) z xs sp j o) = false:=rfl
theorem lp_b {p:Nat} {b:Bool}:lnP p (.bool b) = (.bool b):=rfl
theorem lp_i {p:Nat} {k:IntKind} {n:Int}:lnP p (.int k n) = (.int k n):=rfl
theorem lp_s {p:Nat} {s:ByteArray}:lnP p (.str s) = (.str s):=rfl
theorem lp_np {p:Nat} :lnP p .nilp = .nilp:=rfl
theorem lp_ni {p:Nat} :lnP p .nili = .nili:=rfl
theorem lp_f {p:Nat} {t:Nat} {v:L}:lnP p (.iface t v) = (.iface t v):=rfl
theorem lp_u {p:Nat} :lnP p .undef = .undef:=rfl
theorem lp_no {p:Nat} :lnP p .no = .no:=rfl
theorem lp_p {p:Nat} {c0 o:Nat}:lnP p (.ptr c0 o) = (.ptr c0 o):=rfl
theorem lp_lr {p:Nat} {z:Nat} {xs sp:List (List L)}:lnP p (.lst .ro z xs sp) = (.lst .ro z xs sp):=rfl
theorem lp_ln {p:Nat} {z:Nat} {xs sp:List (List L)}:lnP p (.lst .nl z xs sp) = (.lst .nl z xs sp):=rfl
theorem lp_lo {p:Nat} {q0 e z:Nat} {xs sp:List (List L)}:lnP p (.lst (.own q0 e) z xs sp) = if (q0 == p) = true then .ln xs.length else (.lst (.own q0 e) z xs sp):=rfl
theorem lp_lv {p:Nat} {q0 z:Nat} {xs sp:List (List L)}:lnP p (.lst (.vw q0) z xs sp) = if (q0 == p) = true then .undef else (.lst (.vw q0) z xs sp):=rfl
theorem lp_nf {p:Nat} :lnP p .nilf = .nilf:=rfl
theorem lp_rp {p:Nat} {cs0:List L} {o:Nat}:lnP p (.rp cs0 o) = (.rp cs0 o):=rfl
theorem lp_lk {p:Nat} {n0:Nat}:lnP p (.ln n0) = (.ln n0):=rfl
theorem lp_t {p:Nat} {c0 o T:Nat}:lnP p (.tptr c0 o T) = (.tptr c0 o T):=rfl
theorem lp_it {p:Nat} {q0 i0:Nat} {s:ByteArray}:lnP p (.it q0 s i0) = if (q0 == p) = true then .undef else (.it q0 s i0):=rfl
theorem lp_g {p:Nat} {g o:Nat}:lnP p (.gl g o) = (.gl g o):=rfl
theorem lp_fn {p:Nat} {f0:Nat} {a b:List L}:lnP p (.fn f0 a b) = (.fn f0 a b):=rfl
theorem lp_sl {p:Nat} {c0 o z l cp:Nat}:lnP p (.sl c0 o z l cp) = (.sl c0 o z l cp):=rfl
theorem lp_er {p:Nat} {z j o:Nat} {xs sp:List (List L)}:lnP p (.ep .ro z xs sp j o) = (.ep .ro z xs sp j o):=rfl
theorem lp_en {p:Nat} {z j o:Nat} {xs sp:List (List L)}:lnP p (.ep .nl z xs sp j o) = (.ep .nl z xs sp j o):=rfl
theorem lp_eo {p:Nat} {q0 e z j o:Nat} {xs sp:List (List L)}:lnP p (.ep (.own q0 e) z xs sp j o) = if (q0 == p) = true then .undef else (.ep (.own q0 e) z xs sp j o):=rfl
theorem lp_ev {p:Nat} {q0 z j o:Nat} {xs sp:List (List L)}:lnP p (.ep (.vw q0) z xs sp j o) = if (q0 == p) = true then .undef else (.ep (.vw q0) z xs sp j o):=rfl
theorem pO_lk {t n0:Nat} {r:List (Nat × PV)}:ptrsOf ((t,.lf (.ln n0)) :: r) = ptrsOf r:=rfl
theorem kf_n {c:Nat} {r:PV} {x:L}:kf c none r x = killCl c x:=rfl
theorem kf_s {c t:Nat} {r:PV} {x:L}:kf c (some t) r x = if ownsV r = true then killPs [plT t 0,plT t 1,plT t 2] (killCl c x) else killCl c x:=rfl
theorem cp_st {m:Nat} {tm:List (Nat × PV)} {ce:List (Nat × List L)} {c:Nat} {cs:List L} {d:Option Nat} {r:PV}:callpSt ⟨m,tm,ce⟩ c cs d r = ⟨m,mapSnd (mapL (kf c d r)) tm,(c,cs.map (fromC c)) :: del (mapSnd (List.map (kf c d r)) ce) c⟩:=rfl
theorem pl_nn :pureL [] [] = true:=rfl
theorem pO_tt {t c o T:Nat} {r:List (Nat × PV)}:ptrsOf ((t,.lf (.tptr c o T)) :: r) = c :: ptrsOf r:=rfl
theorem pO_nf {t:Nat} {r:List (Nat × PV)}:ptrsOf ((t,.lf .nilf) :: r) = ptrsOf r:=rfl
theorem pO_r {t o:Nat} {cs:List L} {r:List (Nat × PV)}:ptrsOf ((t,.lf (.rp cs o)) :: r) = ptrsOf r:=rfl
theorem pO_it {t q i:Nat} {s:ByteArray} {r:List (Nat × PV)}:ptrsOf ((t,.lf (.it q s i)) :: r) = ptrsOf r:=rfl
theorem pO_g {t g o:Nat} {r:List (Nat × PV)}:ptrsOf ((t,.lf (.gl g o)) :: r) = ptrsOf r:=rfl
theorem pO_fn {t f:Nat} {a b:List L} {r:List (Nat × PV)}:ptrsOf ((t,.lf (.fn f a b)) :: r) = ptrsOf r:=rfl
theorem e_asg_nf {m:Nat} {tm:List (Nat × PV)} {ce:List (Nat × List L)} {e n d:Nat} :St.asg ⟨m,tm,ce⟩ e n (some d) (.lf .nilf) = ⟨m,(d,.lf .nilf) :: tm,ce⟩:=rfl
theorem st_nf1 {m:Nat} {tm:List (Nat × PV)} {ce:List (Nat × List L)} {c off:Nat} {cs:List L} :St.stC ⟨m,tm,ce⟩ c off cs (.lf .nilf) = ⟨m,tm,(c,fillL cs off [.nilf]) :: del ce c⟩:=rfl
theorem nO_nf0 :notOwn (.lf .nilf) = true:=rfl
theorem dw_nf0 {σ:St} {r:List L} :St.down σ (.nilf :: r) = St.down σ r:=rfl
theorem e_asg_rp {m:Nat} {tm:List (Nat × PV)} {ce:List (Nat × List L)} {e n d:Nat} {cs0:List L} {o:Nat}:St.asg ⟨m,tm,ce⟩ e n (some d) (.lf (.rp cs0 o)) = ⟨m,(d,.lf (.rp cs0 o)) :: tm,ce⟩:=rfl
theorem st_rp1 {m:Nat} {tm:List (Nat × PV)} {ce:List (Nat × List L)} {c off:Nat} {cs:List L} {cs0:List L} {o:Nat}:St.stC ⟨m,tm,ce⟩ c off cs (.lf (.rp cs0 o)) = ⟨m,tm,(c,fillL cs off [(.rp cs0 o)]) :: del ce c⟩:=rfl
theorem nO_rp0 {cs0:List L} {o:Nat}:notOwn (.lf (.rp cs0 o)) = true:=rfl
theorem dw_rp0 {σ:St} {r:List L} {cs0:List L} {o:Nat}:St.down σ ((.rp cs0 o) :: r) = St.down σ r:=rfl
theorem e_asg_lk {m:Nat} {tm:List (Nat × PV)} {ce:List (Nat × List L)} {e n d:Nat} {n0:Nat}:St.asg ⟨m,tm,ce⟩ e n (some d) (.lf (.ln n0)) = ⟨m,(d,.lf (.ln n0)) :: tm,ce⟩:=rfl
theorem st_lk1 {m:Nat} {tm:List (Nat × PV)} {ce:List (Nat × List L)} {c off:Nat} {cs:List L} {n0:Nat}:St.stC ⟨m,tm,ce⟩ c off cs (.lf (.ln n0)) = ⟨m,tm,(c,fillL cs off [(.ln n0)]) :: del ce c⟩:=rfl
theorem nO_lk0 {n0:Nat}:notOwn (.lf (.ln n0)) = true:=rfl
theorem dw_lk0 {σ:St} {r:List L} {n0:Nat}:St.down σ ((.ln n0) :: r) = St.down σ r:=rfl
theorem e_asg_t {m:Nat} {tm:List (Nat × PV)} {ce:List (Nat × List L)} {e n d:Nat} {c0 o T:Nat}:St.asg ⟨m,tm,ce⟩ e n (some d) (.lf (.tptr c0 o T)) = ⟨m,(d,.lf (.tptr c0 o T)) :: tm,ce⟩:=rfl
theorem st_t1 {m:Nat} {tm:List (Nat × PV)} {ce:List (Nat × List L)} {c off:Nat} {cs:List L} {c0 o T:Nat}:St.stC ⟨m,tm,ce⟩ c off cs (.lf (.tptr c0 o T)) = ⟨m,tm,(c,fillL cs off [(.tptr c0 o T)]) :: del ce c⟩:=rfl
theorem nO_t0 {c0 o T:Nat}:notOwn (.lf (.tptr c0 o T)) = true:=rfl
theorem dw_t0 {σ:St} {r:List L} {c0 o T:Nat}:St.down σ ((.tptr c0 o T) :: r) = St.down σ r:=rfl
theorem e_asg_it {m:Nat} {tm:List (Nat × PV)} {ce:List (Nat × List L)} {e n d:Nat} {q0 i0:Nat} {s:ByteArray}:St.asg ⟨m,tm,ce⟩ e n (some d) (.lf (.it q0 s i0)) = ⟨m,(d,.lf (.it q0 s i0)) :: tm,ce⟩:=rfl
theorem st_it1 {m:Nat} {tm:List (Nat × PV)} {ce:List (Nat × List L)} {c off:Nat} {cs:List L} {q0 i0:Nat} {s:ByteArray}:St.stC ⟨m,tm,ce⟩ c off cs (.lf (.it q0 s i0)) = ⟨m,tm,(c,fillL cs off [(.it q0 s i0)]) :: del ce c⟩:=rfl
theorem nO_it0 {q0 i0:Nat} {s:ByteArray}:notOwn (.lf (.it q0 s i0)) = true:=rfl
theorem dw_it0 {σ:St} {r:List L} {q0 i0:Nat} {s:ByteArray}:St.down σ ((.it q0 s i0) :: r) = St.down σ r:=rfl
theorem e_asg_g {m:Nat} {tm:List (Nat × PV)} {ce:List (Nat × List L)} {e n d:Nat} {g o:Nat}:St.asg ⟨m,tm,ce⟩ e n (some d) (.lf (.gl g o)) = ⟨m,(d,.lf (.gl g o)) :: tm,ce⟩:=rfl
theorem st_g1 {m:Nat} {tm:List (Nat × PV)} {ce:List (Nat × List L)} {c off:Nat} {cs:List L} {g o:Nat}:St.stC ⟨m,tm,ce⟩ c off cs (.lf (.gl g o)) = ⟨m,tm,(c,fillL cs off [(.gl g o)]) :: del ce c⟩:=rfl
theorem nO_g0 {g o:Nat}:notOwn (.lf (.gl g o)) = true:=rfl
theorem dw_g0 {σ:St} {r:List L} {g o:Nat}:St.down σ ((.gl g o) :: r) = St.down σ r:=rfl
theorem e_asg_fn {m:Nat} {tm:List (Nat × PV)} {ce:List (Nat × List L)} {e n d:Nat} {f0:Nat} {a b:List L}:St.asg ⟨m,tm,ce⟩ e n (some d) (.lf (.fn f0 a b)) = ⟨m,(d,.lf (.fn f0 a b)) :: tm,ce⟩:=rfl
theorem st_fn1 {m:Nat} {tm:List (Nat × PV)} {ce:List (Nat × List L)} {c off:Nat} {cs:List L} {f0:Nat} {a b:List L}:St.stC ⟨m,tm,ce⟩ c off cs (.lf (.fn f0 a b)) = ⟨m,tm,(c,fillL cs off [(.fn f0 a b)]) :: del ce c⟩:=rfl
theorem nO_fn0 {f0:Nat} {a b:List L}:notOwn (.lf (.fn f0 a b)) = true:=rfl
theorem dw_fn0 {σ:St} {r:List L} {f0:Nat} {a b:List L}:St.down σ ((.fn f0 a b) :: r) = St.down σ r:=rfl
theorem e_asg_sl {m:Nat} {tm:List (Nat × PV)} {ce:List (Nat × List L)} {e n d:Nat} {c0 o z l cp:Nat}:St.asg ⟨m,tm,ce⟩ e n (some d) (.lf (.sl c0 o z l cp)) = ⟨m,(d,.lf (.sl c0 o z l cp)) :: tm,ce⟩:=rfl
theorem st_sl1 {m:Nat} {tm:List (Nat × PV)} {ce:List (Nat × List L)} {c off:Nat} {cs:List L} {c0 o z l cp:Nat}:St.stC ⟨m,tm,ce⟩ c off cs (.lf (.sl c0 o z l cp)) = ⟨m,tm,(c,fillL cs off [(.sl c0 o z l cp)]) :: del ce c⟩:=rfl
theorem nO_sl0 {c0 o z l cp:Nat}:notOwn (.lf (.sl c0 o z l cp)) = true:=rfl
theorem dw_sl0 {σ:St} {r:List L} {c0 o z l cp:Nat}:St.down σ ((.sl c0 o z l cp) :: r) = St.down σ r:=rfl
theorem e_asg_p0 {m:Nat} {tm:List (Nat × PV)} {ce:List (Nat × List L)} {e n d:Nat} {c0 o:Nat}:St.asg ⟨m,tm,ce⟩ e n (some d) (.lf (.ptr c0 o)) = ⟨m,(d,.lf (.ptr c0 o)) :: tm,ce⟩:=rfl
theorem st_p1 {m:Nat} {tm:List (Nat × PV)} {ce:List (Nat × List L)} {c off:Nat} {cs:List L} {c0 o:Nat}:St.stC ⟨m,tm,ce⟩ c off cs (.lf (.ptr c0 o)) = ⟨m,tm,(c,fillL cs off [(.ptr c0 o)]) :: del ce c⟩:=rfl
theorem nO_p0 {c0 o:Nat}:notOwn (.lf (.ptr c0 o)) = true:=rfl
theorem dw_p0 {σ:St} {r:List L} {c0 o:Nat}:St.down σ ((.ptr c0 o) :: r) = St.down σ r:=rfl
theorem pc_sl {c o z l cp:Nat}:ptrC (.lf (.sl c o z l cp)) = some c:=rfl
theorem pO_sl {t c o z l cp:Nat} {r:List (Nat × PV)}:ptrsOf ((t,.lf (.sl c o z l cp)) :: r) = c :: ptrsOf r:=rfl
theorem nP_sl {c o z l cp:Nat}:noPl (.sl c o z l cp) = true:=rfl
theorem pc_rp {cs0:List L} {o:Nat}:ptrC (.lf (.rp cs0 o)) = none:=rfl
theorem pc_np :ptrC (.lf .nilp) = none:=rfl
theorem pc_p {c o:Nat}:ptrC (.lf (.ptr c o)) = some c:=rfl
theorem pc_t {c o T:Nat}:ptrC (.lf (.tptr c o T)) = some c:=rfl
section
variable {P:Program} {σ:St} {K:St → Prop} {d:Option Nat}
theorem o_alt {c T:Nat} {zero:List L}:wop X P σ (some c) (.alt T zero) K = (σ.m ≤ c ∧ K { m:=σ.m,tm:=(c,.lf (.tptr c 0 T)) :: (σ.mapAll (killC c)).tm,ce:=(c,zero) :: del (σ.mapAll (killC c)).ce c }):=rfl
theorem o_bad:wop X P σ d .bad K = False:=rfl
def rngK (σ:St) (t:Nat) (K:St → Prop):PV → Prop
 | .lf (.str s)=>K ((σ.mapAll (killP (plT t 0))).put (some t) (.lf (.it (plT t 0) s 0)))
 | _=>False
theorem o_rng {t:Nat} {x:AO}:wop X P σ (some t) (.rng x) K = rngK σ t K (σ.ev x):=by
 simp only [wop,rngK]
 generalize σ.ev x = v
 rcases v with x | _ | _<;>try rfl
 cases x<;>rfl
theorem v_rng {t:Nat} {s:ByteArray}:rngK σ t K (.lf (.str s)) = K ((σ.mapAll (killP (plT t 0))).put (some t) (.lf (.it (plT t 0) s 0))):=rfl
def nxtK (σ:St) (d:Option Nat) (K:St → Prop) (x:PV):Prop :=
 match x with
 | .lf (.it p s i)=>if i < s.size then K ((σ.mapAll (itP p (i + (Utf8.decode s i).2))).put d (.tp [.lf (.bool true),.lf (.int .i64 i),.lf (.int .i32 (Utf8.decode s i).1)])) else K (σ.put d (.tp [.lf (.bool false)]))
 | _=>False
theorem o_nxt {x:AO}:wop X P σ d (.nxt x) K = nxtK σ d K (σ.ev x):=by
 simp only [wop,nxtK]
 generalize σ.ev x = v
 split
 ·rename_i p s i
  simp only
  apply propext
  constructor
  ·rintro ⟨h1,h2⟩
   split
   ·exact h1 (by assumption)
   ·exact h2 (by omega)
  ·intro h
   constructor
   ·intro hlt;rwa [if_pos hlt] at h
   ·intro hle;rwa [if_neg (by omega)] at h
 ·rename_i h
  split
  ·exact absurd rfl (h _ _ _)
  ·rfl
theorem v_nxt {p i:Nat} {s:ByteArray}:nxtK σ d K (.lf (.it p s i)) = if i < s.size then K ((σ.mapAll (itP p (i + (Utf8.decode s i).2))).put d (.tp [.lf (.bool true),.lf (.int .i64 i),.lf (.int .i32 (Utf8.decode s i).1)])) else K (σ.put d (.tp [.lf (.bool false)])):=rfl
def peqK (neg:Bool) (K:PV → Prop) (x y:PV):Prop :=
 match x,y with
 | .lf .nilp,.lf .nilp=>K (.lf (.bool !neg))
 | .lf (.tptr _ _ _),.lf .nilp=>K (.lf (.bool neg))
 | .lf (.ptr _ _),.lf .nilp=>K (.lf (.bool neg))
 | .lf (.tptr c o _),.lf (.tptr c' o' _)=>c = c' ∧ o = o' ∧ K (.lf (.bool !neg))
 | _,_=>False
theorem o_peq {neg:Bool} {x y:AO}:wop X P σ d (.peq neg x y) K = peqK neg (putK σ d K) (σ.ev x) (σ.ev y):=rfl
theorem v_peq_nn {neg:Bool} {K:PV → Prop}:peqK neg K (.lf .nilp) (.lf .nilp) = K (.lf (.bool !neg)):=rfl
theorem v_peq_tn {neg:Bool} {c o T:Nat} {K:PV → Prop}:peqK neg K (.lf (.tptr c o T)) (.lf .nilp) = K (.lf (.bool neg)):=rfl
theorem v_peq_pn {neg:Bool} {c o:Nat} {K:PV → Prop}:peqK neg K (.lf (.ptr c o)) (.lf .nilp) = K (.lf (.bool neg)):=rfl
theorem v_peq_tt {neg:Bool} {c o T c' o' T':Nat} {K:PV → Prop}:peqK neg K (.lf (.tptr c o T)) (.lf (.tptr c' o' T')) = (c = c' ∧ o = o' ∧ K (.lf (.bool !neg))):=rfl
def ieqK (neg:Bool) (K:PV → Prop) (x:PV):Prop :=
 match x with
 | .lf .nili=>K (.lf (.bool !neg))
 | .lf (.iface _ _)=>K (.lf (.bool neg))
 | _=>False
theorem o_ieq {neg:Bool} {x:AO}:wop X P σ d (.ieq neg x) K = ieqK neg (putK σ d K) (σ.ev x):=rfl
theorem v_ieq_n {neg:Bool} {K:PV → Prop}:ieqK neg K (.lf .nili) = K (.lf (.bool !neg)):=rfl
theorem v_ieq_i {neg:Bool} {t:Nat} {v:L} {K:PV → Prop}:ieqK neg K (.lf (.iface t v)) = K (.lf (.bool neg)):=rfl
def p2uK (o:Nat) (K:PV → Prop) (v:PV):Option (List L) → Prop
 | some cs=>o < cs.length ∧ K v
 | none=>False
def p2uX (σ:St) (K:PV → Prop) (x:PV):Prop :=
 match x with
 | .lf (.tptr c o T)=>p2uK o K (.lf (.tptr c o T)) (get σ.ce c)
 | _=>False
theorem o_p2u {x:AO}:wop X P σ d (.p2u x) K = p2uX σ (putK σ d K) (σ.ev x):=by
 simp only [wop,p2uX]
 generalize σ.ev x = v
 split
 ·rename_i c o T
  cases h:Go.Proofs.YthcpaohmajjopaaGreatDoor.AM.get σ.ce c<;>simp [p2uK,h,putK]
 ·rename_i h
  split
  ·exact absurd rfl (h _ _ _)
  ·rfl
theorem v_p2u {c o T:Nat} {K:PV → Prop}:p2uX σ K (.lf (.tptr c o T)) = p2uK o K (.lf (.tptr c o T)) (get σ.ce c):=rfl
theorem v_p2uK {o:Nat} {K:PV → Prop} {v:PV} {cs:List L}:p2uK o K v (some cs) = (o < cs.length ∧ K v):=rfl
def u2pK (P:Program) (T o u:Nat) (K:PV → Prop) (v:PV):Option (List L) → Prop
 | some cs=>liesAt P P.depth T (cs.length / P.cellsOf T) o u 1 = true ∧ K v
 | none=>False
def u2pX (P:Program) (u:Nat) (σ:St) (K:PV → Prop) (x:PV):Prop :=
 match x with
 | .lf (.tptr c o T)=>u2pK P T o u K (.lf (.tptr c o T)) (get σ.ce c)
 | _=>False
theorem o_u2p {u:Nat} {x:AO}:wop X P σ d (.u2p u x) K = u2pX P u σ (putK σ d K) (σ.ev x):=by
 simp only [wop,u2pX]
 generalize σ.ev x = v
 split
 ·rename_i c o T
  cases h:Go.Proofs.YthcpaohmajjopaaGreatDoor.AM.get σ.ce c<;>simp [u2pK,h,putK]
 ·rename_i h
  split
  ·exact absurd rfl (h _ _ _)
  ·rfl
theorem v_u2p {c o T u:Nat} {K:PV → Prop}:u2pX P u σ K (.lf (.tptr c o T)) = u2pK P T o u K (.lf (.tptr c o T)) (get σ.ce c):=rfl
theorem v_u2pK {T o u:Nat} {K:PV → Prop} {v:PV} {cs:List L}:u2pK P T o u K v (some cs) = (liesAt P P.depth T (cs.length / P.cellsOf T) o u 1 = true ∧ K v):=rfl
def exK (K:PV → Prop):Option PV → Prop
 | some v=>K v
 | none=>False
theorem o_ex {k:Nat} {args:List AO}:wop X P σ d (.ex k args) K = exK (putK σ d K) (exV k (args.map σ.ev)):=by
 simp only [wop]
 cases exV k (args.map σ.ev)<;>simp [exK,putK]
theorem v_exK {K:PV → Prop} {v:PV}:exK K (some v) = K v:=rfl
theorem v_ex0 {x:PV}:exV 0 [x] = some x:=rfl
theorem v_ex1 {s:ByteArray} {c:Int}:exV 1 [.lf (.str s),.lf (.int .u8 c)] = some (.lf (.int .i64 (Lib.countByte s.data.toList c.toNat.toUInt8:Nat))):=rfl
theorem v_ex2 {s:ByteArray} {c:Int}:exV 2 [.lf (.str s),.lf (.int .u8 c)] = some (.lf (.int .i64 (Lib.indexByte s.data.toList c.toNat.toUInt8))):=rfl
def usdK (K:PV → Prop) (x:PV):Prop :=
 match x with
 | .lf (.lst t sz xs sp)=>0 < xs.length ∧ K (.lf (.ep t sz xs sp 0 0))
 | _=>False
theorem o_usd {x:AO}:wop X P σ d (.usd x) K = usdK (putK σ d K) (σ.ev x):=rfl
theorem v_usd {t:Tag} {sz:Nat} {xs sp:List (List L)} {K:PV → Prop}:usdK K (.lf (.lst t sz xs sp)) = (0 < xs.length ∧ K (.lf (.ep t sz xs sp 0 0))):=rfl
def ub (l:List UInt8):List (List L):=l.map fun b=>[.int .u8 b.toNat]
theorem ub_len {l:List UInt8}:(ub l).length = l.length:=by simp [ub]
theorem ub_app {a b:List UInt8}:ub a ++ ub b = ub (a ++ b):=by simp [ub]
theorem ub_snoc {a:List UInt8} {b:UInt8}:ub a ++ [[.int .u8 b.toNat]] = ub (a ++ [b]):=by simp [ub]
theorem ub_str {s:ByteArray}:(s.data.toList.map fun b=>[L.int .u8 b.toNat]) = ub s.data.toList:=rfl
theorem strOfNums_ub (l:List UInt8):strOfNums (l.map fun b=>(b.toNat:Int)) = ⟨l.toArray⟩:=by
 have:(l.map fun b=>(b.toNat:Int)).map (fun n=>UInt8.ofNat n.toNat) = l:=by
  rw [List.map_map]
  conv=>rhs;rw [← List.map_id l]
  apply List.map_congr_left
  intro b _
  simp
 simp only [strOfNums,this]
theorem v_cbs_ub {t:Tag} {sz:Nat} {l:List UInt8} {sp:List (List L)} {K:PV → Prop}:cbsK K (.lf (.lst t sz (ub l) sp)) = K (.lf (.str ⟨l.toArray⟩)):=by
 have:ub l = u8s (l.map fun b=>(b.toNat:Int)):=by simp [ub,u8s]
 rw [this,v_cbs8,strOfNums_ub]
def ustK (σ:St) (e:Nat) (d:Option Nat) (K:St → Prop) (x n:PV):Prop :=
 match x,n with
 | .lf (.ep (.own p e') 1 xs _ 0 0),.lf (.int .i64 n)=>e' = e ∧ n = xs.length ∧ ∃ ns:List Int,xs = ns.map (fun n=>[.int .u8 n]) ∧ (∀ n ∈ ns,0 ≤ n ∧ n ≤ 255) ∧ K ((σ.mapAll (killP p)).put d (.lf (.str (strOfNums ns))))
 | _,_=>False
theorem o_ust {e:Nat} {x n:AO}:wop X P σ d (.ust e x n) K = ustK σ e d K (σ.ev x) (σ.ev n):=rfl
theorem v_ust {e p e':Nat} {l:List UInt8} {sp:List (List L)} {n:Int}:ustK σ e d K (.lf (.ep (.own p e') 1 (ub l) sp 0 0)) (.lf (.int .i64 n)) = (e' = e ∧ n = (l.length:Int) ∧ K ((σ.mapAll (killP p)).put d (.lf (.str ⟨l.toArray⟩)))):=by
 simp only [ustK,ub_len]
 apply propext
 refine and_congr_right fun _=>and_congr_right fun _=>?_
 constructor
 ·rintro ⟨ns,h1,h2,h3⟩
  have:ns = l.map fun b=>(b.toNat:Int):=by
   have h4:ub l = u8s (l.map fun b=>(b.toNat:Int)):=by simp [ub,u8s]
   rw [h4] at h1
   exact (u8s_inj (ys:=ns) h1).symm
  rw [this,strOfNums_ub] at h3
  exact h3
 ·intro h
  refine ⟨l.map fun b=>(b.toNat:Int),by simp [ub],fun n hn=>?_,by rw [strOfNums_ub];exact h⟩
  obtain ⟨b,_,rfl⟩:=List.mem_map.1 hn
  have:=b.toNat_lt
  omega
def mmK (mx:Bool) (K:PV → Prop) (x y:PV):Prop :=
 match x,y with
 | .lf (.int k a),.lf (.int k' b)=>k = k' ∧ K (.lf (.int k (if mx then max a b else min a b)))
 | _,_=>False
theorem o_mm {mx:Bool} {x y:AO}:wop X P σ d (.mm mx x y) K = mmK mx (putK σ d K) (σ.ev x) (σ.ev y):=rfl
theorem v_mm {mx:Bool} {k k':IntKind} {a b:Int} {K:PV → Prop}:mmK mx K (.lf (.int k a)) (.lf (.int k' b)) = (k = k' ∧ K (.lf (.int k (if mx = true then max a b else min a b)))):=rfl
def wmkf (σ:St) (K:St → Prop):Prop:=∃ fz,wfrz σ K fz
def wfrzO (σ:St) (K:St → Prop) (r:List Nat) (c:Nat):Option (List L) → Prop
 | some cs=>σ.m ≤ c ∧ cs.all frzD = true ∧ wfrz (σ.frz c cs) K r
 | none=>False
theorem wf_n {σ:St} {K:St → Prop}:wfrz σ K [] = K σ:=rfl
theorem wf_c {σ:St} {K:St → Prop} {c:Nat} {r:List Nat}:wfrz σ K (c :: r) = wfrzO σ K r c (get σ.ce c):=by
 simp only [wfrz,wfrzO]
 cases get σ.ce c<;>simp
theorem wf_o {σ:St} {K:St → Prop} {c:Nat} {r:List Nat} {cs:List L}:wfrzO σ K r c (some cs) = (σ.m ≤ c ∧ cs.all frzD = true ∧ wfrz (σ.frz c cs) K r):=rfl
theorem e_frz {m:Nat} {tm:List (Nat × PV)} {ce:List (Nat × List L)} {c:Nat} {cs:List L}:St.frz ⟨m,tm,ce⟩ c cs = ⟨m,mapSnd (mapL (frzL c cs)) tm,mapSnd (List.map (frzL c cs)) (del ce c)⟩:=rfl
def mkfK (σ:St) (f:Nat) (d:Option Nat) (K:St → Prop) (x y:Option (List L)):Prop :=
 match x,y with
 | some as,some bs=>as.all capL = true ∧ bs.all capL = true ∧ wmkf ((σ.down (as ++ bs)).put d (.lf (.fn f (as.map roC) (bs.map roC)))) K
 | _,_=>False
theorem o_mkf {f:Nat} {a b:List AO}:wop X P σ d (.mkf f a b) K = mkfK σ f d K (leafs1 (a.map σ.ev)) (leafs1 (b.map σ.ev)):=by
 simp only [wop]
 cases leafs1 (a.map σ.ev)<;>cases leafs1 (b.map σ.ev)<;>simp [mkfK,wmkf]
theorem v_mkf {f:Nat} {as bs:List L}:mkfK σ f d K (some as) (some bs) = (as.all capL = true ∧ bs.all capL = true ∧ wmkf ((σ.down (as ++ bs)).put d (.lf (.fn f (as.map roC) (bs.map roC)))) K):=rfl
theorem v_lf_n:leafs1 [] = some []:=rfl
theorem v_lf_c {x:L} {r:List PV}:leafs1 (.lf x :: r) = (leafs1 r).map fun l=>x :: l:=rfl
def wcald (X:Cx) (P:Program) (x:PV) (args:List PV) (ls:List L) (evs:List PV) (σ:St) (d:Option Nat) (K:St → Prop):Prop :=
 match x with
 | .lf (.fn f a b)=>fnOK P f = true ∧ ((pureL a b = true ∧ ((∃ ip c:Nat,((evs[ip]?).bind ptrC) = some c ∧ ∃ cs,get (σ.down ls).ce c = some cs ∧ ∃ r cs',R X P f (a.map (fun x=>.lf x) ++ (evs.map fun x=>mapL (toA c) x) ++ b.map (fun x=>.lf x)) [cs.map (toC c)] r [cs'] ∧ resOK r = true ∧ K ((callpSt (σ.down ls) c cs' d r).put d (outV d r))) ∨
   ∃ r,R X P f (a.map (fun x=>.lf x) ++ args ++ b.map (fun x=>.lf x)) [] r [] ∧ resOK r = true ∧ K (((σ.down ls).clr d r).put d (outV d r)))) ∨
   ∃ c:Nat,∃ cs,get (σ.down ls).ce c = some cs ∧ ∃ r cs',R X P f (a.map (fun x=>.lf (capA c x)) ++ (evs.map fun x=>mapL (toA c) x) ++ b.map (fun x=>.lf (capA c x))) [cs.map (toC c)] r [cs'] ∧ resOK r = true ∧ K ((callpSt (σ.down ls) c cs' d r).put d (outV d r)))
 | _=>False
theorem o_cald {x:AO} {args:List AO}:wop X P σ d (.cald x args) K = wcald X P (σ.ev x) (args.map fun x=>mapL roL (σ.ev x)) (args.flatMap fun x=>(σ.ev x).leaves) (args.map fun x=>σ.ev x) σ d K:=by
 have e:∀ ip:Nat,(((args.map fun x=>σ.ev x)[ip]?).bind ptrC) = ((args[ip]?).bind fun x=>ptrC (σ.ev x)):=fun ip=>by rw [List.getElem?_map];cases args[ip]?<;>rfl
 simp only [wop,wcald,wcaldP,wcaldC,e,List.map_map]
 rfl
theorem wcald_i {P:Program} {σ:St} {d:Option Nat} {K:St → Prop} {f:Nat} {a b:List L} {args:List PV} {ls:List L} {evs:List PV} {r:PV} (hf:fnOK P f = true) (hp:pureL a b = true) (h:R X P f (a.map (fun x=>.lf x) ++ args ++ b.map (fun x=>.lf x)) [] r []) (h1:resOK r = true) (h3:K (((σ.down ls).clr d r).put d (outV d r))) :
  wcald X P (.lf (.fn f a b)) args ls evs σ d K:=⟨hf,.inl ⟨hp,.inr ⟨r,h,h1,h3⟩⟩⟩
theorem v_callpn {P:Program} {σ:St} {d:Option Nat} {K:St → Prop} {f:Nat} {args:List AO} {ls:List L}:wcallp X P f σ args ls d K none = wcallA X P σ d f args K:=rfl
def wcn (X:Cx) (P:Program) (f:Nat) (args:List PV) (ls:List L) (σ:St) (d:Option Nat) (K:St → Prop):Prop :=
 ∃ r,R X P f args [] r [] ∧ resOK r = true ∧ ((Flat r ∧ K ((σ.clr d r).put d (outV d r))) ∨ K (((σ.down ls).clr d r).put d (outV d r)))
theorem v_callA {P:Program} {σ:St} {d:Option Nat} {K:St → Prop} {f:Nat} {args:List AO}:wcallA X P σ d f args K = wcn X P f (args.map fun x=>mapL roL (σ.ev x)) (args.flatMap fun x=>(σ.ev x).leaves) σ d K:=rfl
def wcallg (X:Cx) (P:Program) (f ip:Nat) (σ:St) (args:List AO) (ls:List L) (d:Option Nat) (K:St → Prop) (p:Option Nat):Prop:=wcallp X P f σ args ls d K p ∨ wcallG X P σ d f ip args K
theorem o_callg {P:Program} {σ:St} {d:Option Nat} {K:St → Prop} {f ip:Nat} {args:List AO}:wop X P σ d (.callg f ip args) K = wcallg X P f ip σ args (args.flatMap fun x=>(σ.ev x).leaves) d K ((args[ip]?).bind fun x=>ptrC (σ.ev x)):=by
 have h:=o_callp (X:=X) (P:=P) (σ:=σ) (d:=d) (K:=K) (f:=f) (ip:=ip) (args:=args)
 simp only [wop] at h
 simp only [wop,wcallg,h]
def gS (X:Cx) (P:Program) (f:Nat) (args:List AO) (c:Nat) (d:Option Nat) (K:St → Prop) (σ:St):Prop :=
 pcall X P f (args.map fun x=>mapL (toG c) (σ.ev x)) (σ.down (((args.flatMap fun x=>(σ.ev x).leaves) ++ cellO (get σ.ce c)).filter (noC c))) c d K (get (σ.down (((args.flatMap fun x=>(σ.ev x).leaves) ++ cellO (get σ.ce c)).filter (noC c))).ce c)
theorem gS_st {P:Program} {f:Nat} {args:List AO} {c:Nat} {d:Option Nat} {K:St → Prop} {m:Nat} {tm:List (Nat × PV)} {ce:List (Nat × List L)}:gS X P f args c d K ⟨m,tm,ce⟩ =
 pcall X P f (args.map fun x=>mapL (toG c) (St.ev ⟨m,tm,ce⟩ x)) (St.down ⟨m,tm,ce⟩ (((args.flatMap fun x=>(St.ev ⟨m,tm,ce⟩ x).leaves) ++ cellO (get ce c)).filter (noC c))) c d K (get (St.down ⟨m,tm,ce⟩ (((args.flatMap fun x=>(St.ev ⟨m,tm,ce⟩ x).leaves) ++ cellO (get ce c)).filter (noC c))).ce c):=rfl
theorem co_s {l:List L}:cellO (some l) = l:=rfl
theorem co_n:cellO none = []:=rfl
theorem fl_n {c:Nat}:List.filter (noC c) [] = []:=rfl
def consB (b:Bool) (x:L) (r:List L):List L:=if b = true then x :: r else r
theorem fl_c {c:Nat} {x:L} {r:List L}:List.filter (noC c) (x :: r) = consB (noC c x) x (List.filter (noC c) r):=by
 simp only [List.filter,consB];cases noC c x<;>rfl
theorem cB_t {x:L} {r:List L}:consB true x r = x :: r:=rfl
theorem cB_f {x:L} {r:List L}:consB false x r = r:=rfl
theorem gv_0:gvP 0 = 127:=rfl
def bxtK (σ:St) (c T:Nat) (K:St → Prop) (v:PV):Prop :=
 match v with
 | .ag vs=>σ.m ≤ c ∧ K { m:=σ.m,tm:=(c,.lf (.tptr c 0 T)) :: (σ.mapAll (killC c)).tm,ce:=(c,vs.map (killC c)) :: del (σ.mapAll (killC c)).ce c }
 | _=>False
theorem o_bxt {c T:Nat} {x:AO} {σ:St} {K:St → Prop} {P:Program}:wop X P σ (some c) (.bxt T x) K = bxtK σ c T K (σ.ev x):=by
 simp only [wop,bxtK]
 generalize σ.ev x = v
 cases v<;>rfl
theorem v_bxt {c T:Nat} {σ:St} {K:St → Prop} {vs:List L}:bxtK σ c T K (.ag vs) = (σ.m ≤ c ∧ K { m:=σ.m,tm:=(c,.lf (.tptr c 0 T)) :: (σ.mapAll (killC c)).tm,ce:=(c,vs.map (killC c)) :: del (σ.mapAll (killC c)).ce c }):=rfl
theorem nl_own {E:Env} {w:World} {n e p:Nat} {v:Value} (h:LeafV E w (.lst .nl n [] []) v):LeafV E w (.lst (.own p e) n [] []) v:=by
 obtain ⟨A,cap,h1,h2,h3,_,_⟩:=h
 exact ⟨A,cap,h1,.inl ⟨h2,h3,rfl,rfl⟩⟩
inductive NlC:List L → List L → Prop where
 | nil:NlC [] []
 | same {x:L} {a b:List L}:NlC a b → NlC (x :: a) (x :: b)
 | nl {n e p:Nat} {a b:List L}:NlC a b → NlC (.lst .nl n [] [] :: a) (.lst (.own p e) n [] [] :: b)
theorem NlC.all {E:Env} {w:World} {a b:List L} {us:List Value} (h:NlC a b) (ha:All2 (LeafV E w) a us):All2 (LeafV E w) b us:=by
 induction h generalizing us with
 | nil=>exact ha
 | same _ ih=>cases ha with | cons h1 h2=>exact .cons h1 (ih h2)
 | nl _ ih=>cases ha with | cons h1 h2=>exact .cons (nl_own h1) (ih h2)
def wbsf (σ:St) (K:St → Prop):Prop:=∃ fz,wfrzd σ K fz
def bsC (d:Option Nat) (e n len:Nat) (zero:List L) (ps:List (Nat × AO)) (K:St → Prop) (σ:St):Prop:=wbs σ d e n len zero ps K
theorem o_bsf {e n len:Nat} {zero:List L} {ps:List (Nat × AO)} {σ:St} {d:Option Nat} {K:St → Prop} {P:Program}:wop X P σ d (.bsf e n len zero ps) K = wbsf σ (bsC d e n len zero ps K):=rfl
def wfdQ (σ:St) (K:St → Prop) (r:List Nat) (c:Nat):Option (List L) → Prop
 | some cs=>σ.m ≤ c ∧ cs.all frzD = true ∧ wfrzd (σ.frz c cs) K r
 | none=>False
def wfdP (K:St → Prop) (r:List Nat) (c:Nat) (σ:St):Prop:=wfdQ σ K r c (get σ.ce c)
def wfdO (σ:St) (K:St → Prop) (r:List Nat) (c:Nat):Option (List L) → Prop
 | some cs0=>wfdP K r c (σ.down cs0)
 | none=>False
theorem down_m:∀ (l:List L) (σ:St),(σ.down l).m = σ.m
 | [],_=>rfl
 | x :: l,σ=>by
  simp only [St.down]
  cases placeOf x with
  | none=>exact down_m l σ
  | some p=>exact down_m l _
theorem wfd_n {σ:St} {K:St → Prop}:wfrzd σ K [] = K σ:=rfl
theorem wfd_c {σ:St} {K:St → Prop} {c:Nat} {r:List Nat}:wfrzd σ K (c :: r) = wfdO σ K r c (get σ.ce c):=by
 simp only [wfrzd,wfdO]
 cases get σ.ce c with
 | none=>simp
 | some cs0 =>
  simp only [wfdP,Option.some.injEq,exists_and_left,exists_eq_left',wfdQ]
  cases get (σ.down cs0).ce c with
  | none=>simp
  | some cs=>simp [down_m]
theorem wfd_o {σ:St} {K:St → Prop} {c:Nat} {r:List Nat} {cs:List L}:wfdO σ K r c (some cs) = wfdP K r c (σ.down cs):=rfl
theorem wfd_p {K:St → Prop} {c:Nat} {r:List Nat} {m:Nat} {tm:List (Nat × PV)} {ce:List (Nat × List L)}:wfdP K r c ⟨m,tm,ce⟩ = wfdQ ⟨m,tm,ce⟩ K r c (get ce c):=rfl
theorem wfd_q {σ:St} {K:St → Prop} {c:Nat} {r:List Nat} {cs:List L}:wfdQ σ K r c (some cs) = (σ.m ≤ c ∧ cs.all frzD = true ∧ wfrzd (σ.frz c cs) K r):=rfl
theorem s_bsC {t e n len:Nat} {zero:List L} {ps:List (Nat × AO)} {σ:St} {K:St → Prop}:bsC (some t) e n len zero ps K σ = (len * n ≤ 16777216 ∧ zero.length = n ∧ wlit σ n (List.replicate len zero) ps (bsK σ e n t (litLeaves σ ps) K)):=rfl
theorem one_0:oneOf [] = .tp []:=rfl
theorem ba_size {l:List UInt8}:(ByteArray.mk l.toArray).size = l.length:=by simp [ByteArray.size]
theorem ba_ext {t:ByteArray} {a b:Nat}:(t.extract a b).data.toList = (t.data.toList.take b).drop a:=by
 simp [ByteArray.data_extract,List.extract_eq_take_drop,List.drop_take]
theorem size_len (t:ByteArray):t.data.toList.length = t.size:=by simp
theorem rk_it {q p q0 i0:Nat} {s:ByteArray}:renK q p (.it q0 s i0) = if (q0 == p) = true then .undef else if (q0 == q) = true then .it p s i0 else .it q0 s i0:=by
 simp only [renK,killP]
 by_cases h1:(q0 == p) = true<;>by_cases h2:(q0 == q) = true<;>simp [h1,h2,renP]
theorem v_bx_l {σ:St} {c:Nat} {K:St → Prop} {v:L}:bxK σ c K (.lf v) = (σ.m ≤ c ∧ cellL v = true ∧ K { m:=σ.m,tm:=(c,.lf (.ptr c 0)) :: (σ.mapAll (killC c)).tm,ce:=(c,[killC c v]) :: del (σ.mapAll (killC c)).ce c }):=rfl
theorem v_bx_a {σ:St} {c:Nat} {K:St → Prop} {vs:List L}:bxK σ c K (.ag vs) = (σ.m ≤ c ∧ K { m:=σ.m,tm:=(c,.lf (.ptr c 0)) :: (σ.mapAll (killC c)).tm,ce:=(c,vs.map (killC c)) :: del (σ.mapAll (killC c)).ce c }):=rfl
def detKK (X:Cx) (P:Program) (d:Option Nat) (os:List AOper) (K:St → Prop) (σ:St):Prop:=detD σ d = true ∧ wopsk X P os σ K
def drwL (X:Cx) (P:Program) (d:Option Nat) (rest:List AOper) (K:St → Prop) (σ:St):Prop:=detD σ d = true ∧ wops X P rest σ K
def drwE (X:Cx) (P:Program) (d:Option Nat) (f ip:Nat) (args:List AO) (rest:List AOper) (K:St → Prop) (c:Nat) (cs:List L) (σ:St):Prop :=
 callArg ip args σ = some c ∧ (args.flatMap fun x=>(σ.ev x).leaves).all noPl = true ∧ wop X P { m:=σ.m,tm:=σ.tm,ce:=(c,cs) :: σ.ce } d (.callp f ip args) (drwL X P d rest K)
def drwM (X:Cx) (P:Program) (hd:List AOper) (σ:St) (d:Option Nat) (f ip:Nat) (args:List AO) (rest:List AOper) (K:St → Prop) (c:Nat):Option (List L) → Prop
 | some cs=>wopsk X P hd (σ.cutc c) (drwE X P d f ip args rest K c cs)
 | none=>False
def drwK (X:Cx) (P:Program) (hd:List AOper) (σ:St) (d:Option Nat) (f ip:Nat) (args:List AO) (rest:List AOper) (K:St → Prop):Option Nat → Prop
 | some c=>drwM X P hd σ d f ip args rest K c (get σ.ce c)
 | none=>False
theorem s_drw {Q:Out → St → Prop} {src:AO} {hd tl:List AOper} {keep:List Nat}:awp X P (.drw src hd tl keep) Q σ = wdrw X P src hd σ (opsK keep Q) tl:=rfl
theorem s_drwc {src:AO} {hd rest:List AOper} {f ip:Nat} {args:List AO} {g:Option (Nat × Bool)}:wdrw X P src hd σ K (⟨d,.callp f ip args,g⟩ :: rest) = drwK X P hd σ d f ip args rest K (ptrC (σ.ev src)):=by
 simp only [wdrw,drwK]
 cases ptrC (σ.ev src) with
 | none=>rfl
 | some c =>
  cases h:get σ.ce c with
  | none=>simp [drwM,h]
  | some cs=>simp only [drwM,h,Option.some.injEq];simp only [exists_eq_left'];rfl
theorem s_drwK {hd rest:List AOper} {f ip c:Nat} {args:List AO}:drwK X P hd σ d f ip args rest K (some c) = drwM X P hd σ d f ip args rest K c (get σ.ce c):=rfl
theorem s_drwM {hd rest:List AOper} {f ip c:Nat} {args:List AO} {cs:List L}:drwM X P hd σ d f ip args rest K c (some cs) = wopsk X P hd (σ.cutc c) (drwE X P d f ip args rest K c cs):=rfl
theorem s_kn:wopsk X P [] σ K = K σ:=rfl
theorem s_kc {op:AOp} {g:Option (Nat × Bool)} {os:List AOper}:wopsk X P (⟨d,op,g⟩ :: os) σ K = wop X P σ d op (detKK X P d os K):=rfl
theorem s_kK {os:List AOper}:detKK X P d os K σ = (detD σ d = true ∧ wopsk X P os σ K):=rfl
theorem s_drwE {f ip c:Nat} {args:List AO} {rest:List AOper} {cs:List L}:drwE X P d f ip args rest K c cs σ = (callArg ip args σ = some c ∧ (args.flatMap fun x=>(σ.ev x).leaves).all noPl = true ∧ wop X P { m:=σ.m,tm:=σ.tm,ce:=(c,cs) :: σ.ce } d (.callp f ip args) (drwL X P d rest K)):=rfl
theorem s_drwL {rest:List AOper}:drwL X P d rest K σ = (detD σ d = true ∧ wops X P rest σ K):=rfl
theorem ct_st {m:Nat} {tm:List (Nat × PV)} {ce:List (Nat × List L)} {c:Nat}:St.cutc ⟨m,tm,ce⟩ c = ⟨m,mapSnd (mapL (killCl c)) tm,del (mapSnd (List.map (killCl c)) ce) c⟩:=rfl
theorem cA_0 {x:AO} {r:List AO}:callArg 0 (x :: r) σ = ptrC (σ.ev x):=rfl
theorem cA_1 {y x:AO} {r:List AO}:callArg 1 (y :: x :: r) σ = ptrC (σ.ev x):=rfl
theorem dD_s {t:Nat}:detD σ (some t) = detG (get σ.tm t):=rfl
theorem dG_s {v:PV}:detG (some v) = detK v:=rfl
theorem dK_b {b:Bool}:detK (.lf (.bool b)) = true:=rfl
theorem dK_i {k:IntKind} {n:Int}:detK (.lf (.int k n)) = true:=rfl
theorem dK_s {s:ByteArray}:detK (.lf (.str s)) = true:=rfl
theorem dK_np:detK (.lf .nilp) = true:=rfl
theorem dK_ni:detK (.lf .nili) = true:=rfl
theorem dK_p {c o:Nat}:detK (.lf (.ptr c o)) = true:=rfl
theorem nP_b {b:Bool}:noPl (.bool b) = true:=rfl
theorem nP_i {k:IntKind} {n:Int}:noPl (.int k n) = true:=rfl
theorem nP_s {s:ByteArray}:noPl (.str s) = true:=rfl
theorem nP_np:noPl .nilp = true:=rfl
theorem nP_p {c o:Nat}:noPl (.ptr c o) = true:=rfl
theorem nP_t {c o T:Nat}:noPl (.tptr c o T) = true:=rfl
theorem rg_1:List.range 1 = [0]:=rfl
theorem lv_rep {m k:Nat} {ρ:List (Nat × Nat)} {dn:List Nat}:leavesTo m ρ dn (List.replicate k .undef) (List.replicate k .undef) = True:=by
 refine eq_true ?_
 induction k with
 | zero=>exact trivial
 | succ k ih=>exact ⟨trivial,ih⟩
def grdK (X:Cx) (P:Program) (cs:List Nat) (os:List AOper) (σf:St) (d:Option Nat) (K:St → Prop) (σ:St):Prop:=goodD cs σ d = true ∧ wopsg X P cs os σ (σf.put d (evD σ d)) K
def rowF (m:Nat) (K:St → Prop) (σ:St):Prop:=σ.m = m ∧ K σ
def rowK (X:Cx) (P:Program) (σ0:St) (ts:List Nat) (os:List AOper) (K:St → Prop) (σ:St):Prop:=σ.m = σ0.m ∧ keepS σ0 σ ts ∧ wopsr X P σ0 ts os σ K
def gdrE (X:Cx) (P:Program) (σ0:St) (ts:List Nat) (tl:List AOper) (K:St → Prop) (σ:St):Prop:=wopsr X P σ0 ts tl σ K
theorem s_gdr {Q:Out → St → Prop} {ts:List Nat} {hd tl:List AOper} {keep:List Nat}:awp X P (.gdr ts hd tl keep) Q σ = wopsg X P (ptrsAt σ ts) hd (σ.cutg (ptrsAt σ ts)) σ (gdrE X P σ ts tl (opsK keep Q)):=rfl
theorem s_gdt {Q:Out → St → Prop} {t:OT} {keep:List Nat}:awp X P (.gdt t keep) Q σ = wpot X P t σ (opsK keep Q):=rfl
def potK (X:Cx) (P:Program) (t:OT) (K:St → Prop) (σ:St):Prop:=wpot X P t σ K
theorem t_nil:wpot X P .nil σ K = K σ:=rfl
theorem t_one {op:AOp} {g:Option (Nat × Bool)} {t:OT}:wpot X P (.one ⟨d,op,g⟩ t) σ K = wop X P σ d op (potK X P t K):=rfl
theorem t_pot {t:OT}:potK X P t K σ = wpot X P t σ K:=rfl
theorem t_alt {a b:OT}:wpot X P (.alt a b) σ K = (wpot X P a σ K ∧ wpot X P b σ K):=rfl
def gd2E (X:Cx) (P:Program) (σ0:St) (ts:List Nat) (a b:List AOper) (K:St → Prop) (σ:St):Prop:=wopsr X P σ0 ts a σ K ∧ wopsr X P σ0 ts b σ K
theorem s_gd2 {Q:Out → St → Prop} {ts:List Nat} {hd a b:List AOper} {keep:List Nat}:awp X P (.gd2 ts hd a b keep) Q σ = wopsg X P (ptrsAt σ ts) hd (σ.cutg (ptrsAt σ ts)) σ (gd2E X P σ ts a b (opsK keep Q)):=rfl
theorem s_g2E {σ0:St} {ts:List Nat} {a b:List AOper}:gd2E X P σ0 ts a b K σ = (wopsr X P σ0 ts a σ K ∧ wopsr X P σ0 ts b σ K):=rfl
theorem g_a {cs:List Nat} {xs:List L}:goodV cs (.ag xs) = xs.all simL:=rfl
theorem sm_b {b:Bool}:simL (.bool b) = true:=rfl
theorem sm_i {k:IntKind} {n:Int}:simL (.int k n) = true:=rfl
theorem sm_s {s:ByteArray}:simL (.str s) = true:=rfl
theorem sm_np:simL .nilp = true:=rfl
theorem sm_ni:simL .nili = true:=rfl
theorem s_gn {cs:List Nat} {σf:St}:wopsg X P cs [] σ σf K = K σf:=rfl
def gmvK (X:Cx) (P:Program) (cs:List Nat) (d:Option Nat) (op:AOp) (os:List AOper) (σ σf:St) (K:St → Prop):Option AO → Prop
 | some x=>wopsg X P cs os (σ.put d (cutG cs (σ.ev x))) (σf.put d (σf.ev x)) K
 | none=>wop X P σ d op (grdK X P cs os σf d K)
theorem s_gc {cs:List Nat} {σf:St} {op:AOp} {g:Option (Nat × Bool)} {os:List AOper}:wopsg X P cs (⟨d,op,g⟩ :: os) σ σf K = gmvK X P cs d op os σ σf K (mvOf op):=by
 simp only [wopsg,gmvK]
 split<;>rename_i h<;>simp only [h]<;>rfl
theorem s_gms {cs:List Nat} {σf:St} {op:AOp} {os:List AOper} {x:AO}:gmvK X P cs d op os σ σf K (some x) = wopsg X P cs os (σ.put d (cutG cs (σ.ev x))) (σf.put d (σf.ev x)) K:=rfl
theorem s_gmn {cs:List Nat} {σf:St} {op:AOp} {os:List AOper}:gmvK X P cs d op os σ σf K none = wop X P σ d op (grdK X P cs os σf d K):=rfl
theorem mo_mv {x:AO}:mvOf (.mv x) = some x:=rfl
theorem mo_bin {op:BinOp} {x y:AO}:mvOf (.bin op x y) = none:=rfl
theorem mo_cvi {k:IntKind} {x:AO}:mvOf (.cvi k x) = none:=rfl
theorem mo_fa {x:AO} {n:Nat}:mvOf (.fa x n) = none:=rfl
theorem mo_iaa {x i:AO} {l n:Nat}:mvOf (.iaa x i l n) = none:=rfl
theorem mo_ld {x:AO} {n:Nat} {a:Bool}:mvOf (.ld x n a) = none:=rfl
theorem mo_nc {x:AO}:mvOf (.nc x) = none:=rfl
theorem s_gK {cs:List Nat} {σf:St} {os:List AOper}:grdK X P cs os σf d K σ = (goodD cs σ d = true ∧ wopsg X P cs os σ (σf.put d (evD σ d)) K):=rfl
theorem s_gE {σ0:St} {ts:List Nat} {tl:List AOper}:gdrE X P σ0 ts tl K σ = wopsr X P σ0 ts tl σ K:=rfl
theorem s_r1 {σ0:St} {ts:List Nat} {op:AOp} {g:Option (Nat × Bool)}:wopsr X P σ0 ts [⟨d,op,g⟩] σ K = wop X P σ d op (rowF σ0.m K):=rfl
theorem s_r2 {σ0:St} {ts:List Nat} {op:AOp} {g:Option (Nat × Bool)} {o:AOper} {os:List AOper}:wopsr X P σ0 ts (⟨d,op,g⟩ :: o :: os) σ K = wop X P σ d op (rowK X P σ0 ts (o :: os) K):=rfl
theorem s_rF {m:Nat}:rowF m K σ = (σ.m = m ∧ K σ):=rfl
theorem s_rK {σ0:St} {ts:List Nat} {os:List AOper}:rowK X P σ0 ts os K σ = (σ.m = σ0.m ∧ keepS σ0 σ ts ∧ wopsr X P σ0 ts os σ K):=rfl
theorem g_D {cs:List Nat} {t:Nat}:goodD cs σ (some t) = goodO cs (get σ.tm t):=rfl
theorem g_O {cs:List Nat} {v:PV}:goodO cs (some v) = goodV cs v:=rfl
theorem g_b {cs:List Nat} {b:Bool}:goodV cs (.lf (.bool b)) = true:=rfl
theorem g_i {cs:List Nat} {k:IntKind} {n:Int}:goodV cs (.lf (.int k n)) = true:=rfl
theorem g_s {cs:List Nat} {s:ByteArray}:goodV cs (.lf (.str s)) = true:=rfl
theorem g_np {cs:List Nat}:goodV cs (.lf .nilp) = true:=rfl
theorem g_ni {cs:List Nat}:goodV cs (.lf .nili) = true:=rfl
theorem g_p {cs:List Nat} {c o:Nat}:goodV cs (.lf (.ptr c o)) = cs.contains c:=rfl
theorem g_ev {t:Nat}:evD σ (some t) = σ.ev (.t t):=rfl
theorem p_n:ptrsAt σ [] = []:=rfl
theorem p_c {t:Nat} {r:List Nat}:ptrsAt σ (t :: r) = pcons (ptr1 (get σ.tm t)) (ptrsAt σ r):=rfl
theorem p_cs {c:Nat} {r:List Nat}:pcons (some c) r = c :: r:=rfl
theorem p_cn {r:List Nat}:pcons none r = r:=rfl
theorem p_1 {c o:Nat}:ptr1 (some (.lf (.ptr c o))) = some c:=rfl
theorem p_1t {c o T:Nat}:ptr1 (some (.lf (.tptr c o T))) = none:=rfl
theorem p_1g {g o:Nat}:ptr1 (some (.lf (.gl g o))) = none:=rfl
theorem p_1e {t:Tag} {z:Nat} {xs sp:List (List L)} {j o:Nat}:ptr1 (some (.lf (.ep t z xs sp j o))) = none:=rfl
theorem p_1l {t:Tag} {z:Nat} {xs sp:List (List L)}:ptr1 (some (.lf (.lst t z xs sp))) = none:=rfl
theorem p_1i {k:IntKind} {n:Int}:ptr1 (some (.lf (.int k n))) = none:=rfl
theorem p_1s {s:ByteArray}:ptr1 (some (.lf (.str s))) = none:=rfl
theorem p_1b {b:Bool}:ptr1 (some (.lf (.bool b))) = none:=rfl
theorem p_1a {cs:List L}:ptr1 (some (.ag cs)) = none:=rfl
theorem p_1u:ptr1 (some (.lf .undef)) = none:=rfl
theorem p_1n:ptr1 none = none:=rfl
theorem c_n:cellsAt σ [] = []:=rfl
theorem c_c {c:Nat} {r:List Nat}:cellsAt σ (c :: r) = ccons c (get σ.ce c) (cellsAt σ r):=rfl
theorem c_cs {c:Nat} {x:List L} {r:List (Nat × List L)}:ccons c (some x) r = (c,x) :: r:=rfl
theorem c_cn {c:Nat} {r:List (Nat × List L)}:ccons c none r = r:=rfl
theorem fx_n:fixC [] = true:=rfl
theorem fx_c {c:Nat} {x:List L} {r:List (Nat × List L)}:fixC ((c,x) :: r) = (x.all fixL && fixC r):=rfl
theorem fx_b {b:Bool}:fixL (.bool b) = true:=rfl
theorem fx_i {k:IntKind} {n:Int}:fixL (.int k n) = true:=rfl
theorem fx_s {s:ByteArray}:fixL (.str s) = true:=rfl
theorem fx_np:fixL .nilp = true:=rfl
theorem fx_ni:fixL .nili = true:=rfl
theorem fx_lr {z:Nat} {xs sp:List (List L)}:fixL (.lst .ro z xs sp) = true:=rfl
theorem fx_ln {z:Nat} {xs sp:List (List L)}:fixL (.lst .nl z xs sp) = true:=rfl
theorem cg_st {m:Nat} {tm:List (Nat × PV)} {ce:List (Nat × List L)} {cs:List Nat}:St.cutg ⟨m,tm,ce⟩ cs = ⟨m,mapSnd (cutG cs) tm,cellsAt ⟨m,tm,ce⟩ cs⟩:=rfl
theorem cg_b {cs:List Nat} {b:Bool}:cutG cs (.lf (.bool b)) = .lf (.bool b):=rfl
theorem cg_i {cs:List Nat} {k:IntKind} {n:Int}:cutG cs (.lf (.int k n)) = .lf (.int k n):=rfl
theorem cg_s {cs:List Nat} {s:ByteArray}:cutG cs (.lf (.str s)) = .lf (.str s):=rfl
theorem cg_np {cs:List Nat}:cutG cs (.lf .nilp) = .lf .nilp:=rfl
theorem cg_ni {cs:List Nat}:cutG cs (.lf .nili) = .lf .nili:=rfl
theorem cg_p {cs:List Nat} {c o:Nat}:cutG cs (.lf (.ptr c o)) = if cs.contains c = true then .lf (.ptr c o) else .lf .undef:=rfl
theorem cg_u {cs:List Nat}:cutG cs (.lf .undef) = .lf .undef:=rfl
theorem cg_no {cs:List Nat}:cutG cs (.lf .no) = .lf .undef:=rfl
theorem cg_l {cs:List Nat} {t:Tag} {z:Nat} {xs sp:List (List L)}:cutG cs (.lf (.lst t z xs sp)) = .lf .undef:=rfl
theorem cg_e {cs:List Nat} {t:Tag} {z:Nat} {xs sp:List (List L)} {j o:Nat}:cutG cs (.lf (.ep t z xs sp j o)) = .lf .undef:=rfl
theorem cg_t {cs:List Nat} {c o T:Nat}:cutG cs (.lf (.tptr c o T)) = .lf .undef:=rfl
theorem cg_f {cs:List Nat} {t:Nat} {v:L}:cutG cs (.lf (.iface t v)) = .lf .undef:=rfl
theorem cg_it {cs:List Nat} {p i:Nat} {s:ByteArray}:cutG cs (.lf (.it p s i)) = .lf .undef:=rfl
theorem cg_g {cs:List Nat} {g o:Nat}:cutG cs (.lf (.gl g o)) = .lf .undef:=rfl
theorem cg_fn {cs:List Nat} {f:Nat}:cutG cs (.lf (.fn f [] [])) = .lf (.fn f [] []):=rfl
theorem cg_fn1 {cs:List Nat} {f:Nat} {x:L} {a b:List L}:cutG cs (.lf (.fn f (x :: a) b)) = .lf .undef:=rfl
theorem cg_fn2 {cs:List Nat} {f:Nat} {x:L} {b:List L}:cutG cs (.lf (.fn f [] (x :: b))) = .lf .undef:=rfl
theorem cg_sl {cs:List Nat} {c o z l cp:Nat}:cutG cs (.lf (.sl c o z l cp)) = .lf .undef:=rfl
theorem cg_a {cs:List Nat} {l:List L}:cutG cs (.ag l) = .lf .undef:=rfl
theorem cg_tp {cs:List Nat} {l:List PV}:cutG cs (.tp l) = .lf .undef:=rfl
theorem k_n {σ0:St}:keepS σ0 σ [] = True:=rfl
theorem k_c {σ0:St} {t:Nat} {r:List Nat}:keepS σ0 σ (t :: r) = (keepO σ0 σ t (get σ0.tm t) ∧ keepS σ0 σ r):=rfl
theorem k_p {σ0:St} {t c o:Nat}:keepO σ0 σ t (some (.lf (.ptr c o))) = (get σ.tm t = some (.lf (.ptr c o)) ∧ get σ.ce c = get σ0.ce c):=rfl
theorem k_l {σ0:St} {t:Nat} {g:Tag} {z:Nat} {xs sp:List (List L)}:keepO σ0 σ t (some (.lf (.lst g z xs sp))) = True:=rfl
theorem k_e {σ0:St} {t:Nat} {g:Tag} {z:Nat} {xs sp:List (List L)} {j o:Nat}:keepO σ0 σ t (some (.lf (.ep g z xs sp j o))) = True:=rfl
theorem k_t {σ0:St} {t c o T:Nat}:keepO σ0 σ t (some (.lf (.tptr c o T))) = True:=rfl
theorem k_g {σ0:St} {t g o:Nat}:keepO σ0 σ t (some (.lf (.gl g o))) = True:=rfl
theorem k_i {σ0:St} {t:Nat} {k:IntKind} {n:Int}:keepO σ0 σ t (some (.lf (.int k n))) = True:=rfl
theorem k_s {σ0:St} {t:Nat} {s:ByteArray}:keepO σ0 σ t (some (.lf (.str s))) = True:=rfl
theorem k_b {σ0:St} {t:Nat} {b:Bool}:keepO σ0 σ t (some (.lf (.bool b))) = True:=rfl
theorem k_a {σ0:St} {t:Nat} {l:List L}:keepO σ0 σ t (some (.ag l)) = True:=rfl
theorem k_u {σ0:St} {t:Nat}:keepO σ0 σ t (some (.lf .undef)) = True:=rfl
theorem k_0 {σ0:St} {t:Nat}:keepO σ0 σ t none = True:=rfl
end
section
variable {m:Nat} {ρ:List (Nat × Nat)} {dn:List Nat}
theorem t_nf:leafTo m ρ dn .nilf .nilf = True:=by simp [leafTo,datL]
theorem t_rp {cs cs':List L} {o o':Nat}:leafTo m ρ dn (.rp cs o) (.rp cs' o') = (cs = cs' ∧ o = o'):=by simp [leafTo,datL]
end
section
variable {P:Program} {σ:St} {K:St → Prop} {d:Option Nat} {m:Nat}
def gqK (X:Cx) (P:Program) (os:List AOper) (K:St → Prop) (σ:St):Prop:=wopsh X P os σ K
def gqE (X:Cx) (P:Program) (m:Nat) (tl:List AOper) (K:St → Prop) (σ:St):Prop:=wopst X P m tl σ K
def gqF (m:Nat) (K:St → Prop) (σ:St):Prop:=σ.m = m ∧ K σ
def gqT (X:Cx) (P:Program) (m:Nat) (os:List AOper) (K:St → Prop) (σ:St):Prop:=σ.m = m ∧ wopst X P m os σ K
theorem s_gdq {Q:Out → St → Prop} {hd tl:List AOper} {keep:List Nat}:awp X P (.gdq hd tl keep) Q σ = wopsh X P hd σ (gqE X P σ.m tl (opsK keep Q)):=rfl
theorem s_gqn:wopsh X P [] σ K = K σ:=rfl
theorem s_gqc {op:AOp} {g:Option (Nat × Bool)} {os:List AOper}:wopsh X P (⟨d,op,g⟩ :: os) σ K = (ldOK σ op = true ∧ wop X P σ d op (gqK X P os K)):=rfl
theorem s_gqK {os:List AOper}:gqK X P os K σ = wopsh X P os σ K:=rfl
theorem s_gqE {tl:List AOper}:gqE X P m tl K σ = wopst X P m tl σ K:=rfl
theorem s_gq1 {op:AOp} {g:Option (Nat × Bool)}:wopst X P m [⟨d,op,g⟩] σ K = wop X P σ d op (gqF m K):=rfl
theorem s_gq2 {op:AOp} {g:Option (Nat × Bool)} {o:AOper} {os:List AOper}:wopst X P m (⟨d,op,g⟩ :: o :: os) σ K = (notSl σ op = true ∧ wop X P σ d op (gqT X P m (o :: os) K)):=rfl
theorem s_gqF {m':Nat} {tm:List (Nat × PV)} {ce:List (Nat × List L)}:gqF m K ⟨m',tm,ce⟩ = (m' = m ∧ K ⟨m',tm,ce⟩):=rfl
theorem s_gqT {m':Nat} {tm:List (Nat × PV)} {ce:List (Nat × List L)} {os:List AOper}:gqT X P m os K ⟨m',tm,ce⟩ = (m' = m ∧ wopst X P m os ⟨m',tm,ce⟩ K):=rfl
theorem pv_p {c o:Nat}:ptrV (.lf (.ptr c o)) = true:=rfl
theorem sv_l {t:Tag} {z:Nat} {xs sp:List (List L)}:slV (.lf (.lst t z xs sp)) = false:=rfl
theorem lk_mv {x:AO}:ldOK σ (.mv x) = true:=rfl
theorem ns_mv {x:AO}:notSl σ (.mv x) = true:=rfl
theorem lk_bin {o:BinOp} {x y:AO}:ldOK σ (.bin o x y) = true:=rfl
theorem ns_bin {o:BinOp} {x y:AO}:notSl σ (.bin o x y) = true:=rfl
theorem lk_cvi {k:IntKind} {x:AO}:ldOK σ (.cvi k x) = true:=rfl
theorem ns_cvi {k:IntKind} {x:AO}:notSl σ (.cvi k x) = true:=rfl
theorem lk_fa {x:AO} {o:Nat}:ldOK σ (.fa x o) = true:=rfl
theorem ns_fa {x:AO} {o:Nat}:notSl σ (.fa x o) = true:=rfl
theorem lk_iaa {x i:AO} {l n:Nat}:ldOK σ (.iaa x i l n) = true:=rfl
theorem ns_iaa {x i:AO} {l n:Nat}:notSl σ (.iaa x i l n) = true:=rfl
theorem lk_nc {x:AO}:ldOK σ (.nc x) = true:=rfl
theorem ns_nc {x:AO}:notSl σ (.nc x) = true:=rfl
theorem ns_ia {x i:AO} {n:Nat}:notSl σ (.ia x i n) = true:=rfl
theorem ns_len {x:AO}:notSl σ (.len x) = true:=rfl
theorem ns_lns {x:AO}:notSl σ (.lns x) = true:=rfl
theorem lk_ld {x:AO} {n:Nat} {b:Bool}:ldOK σ (.ld x n b) = ptrV (σ.ev x):=rfl
theorem ns_ld {x:AO} {n:Nat} {b:Bool}:notSl σ (.ld x n b) = true:=rfl
theorem ns_bs {e n l:Nat} {z:List L} {p:List (Nat × AO)}:notSl σ (.bs e n l z p) = true:=rfl
theorem ns_bd {z:List L} {p:List (Nat × Nat × AO)}:notSl σ (.bd z p) = true:=rfl
theorem ns_st {x v:AO} {n:Nat}:notSl σ (.st x v n) = true:=rfl
theorem ns_ext {x:AO} {i:Nat}:notSl σ (.ext x i) = true:=rfl
theorem ns_fld {x:AO} {o n:Nat} {b:Bool}:notSl σ (.fld x o n b) = true:=rfl
theorem ns_app {e n b:Nat} {x y:AO}:notSl σ (.app e n b x y) = !slV (σ.ev x):=rfl
theorem g_fn {cs:List Nat} {f:Nat}:goodL cs (.fn f [] []) = true:=rfl
theorem fx_fn {f:Nat}:fixL (.fn f [] []) = true:=rfl
end
section
variable {P:Program} {σ:St} {K:St → Prop} {d:Option Nat} {m:Nat} {ls:List (Nat × Nat × Nat)}
def gsK (X:Cx) (P:Program) (os:List AOper) (ls:List (Nat × Nat × Nat)) (K:List (Nat × Nat × Nat) → St → Prop) (σ:St):Prop:=wopsh2 X P os ls σ K
def gsE (X:Cx) (P:Program) (m:Nat) (tl:List AOper) (K:St → Prop) (ls:List (Nat × Nat × Nat)) (σ:St):Prop:=wopss X P m ls tl σ K
def gsT (X:Cx) (P:Program) (m:Nat) (ls:List (Nat × Nat × Nat)) (os:List AOper) (K:St → Prop) (σ:St):Prop:=σ.m = m ∧ wopss X P m ls os σ K
theorem s_gds {Q:Out → St → Prop} {hd tl:List AOper} {keep:List Nat}:awp X P (.gds hd tl keep) Q σ = wopsh2 X P hd [] σ (gsE X P σ.m tl (opsK keep Q)):=rfl
theorem s_gsn {K:List (Nat × Nat × Nat) → St → Prop}:wopsh2 X P [] ls σ K = K ls σ:=rfl
theorem s_gsc {op:AOp} {g:Option (Nat × Bool)} {os:List AOper} {K:List (Nat × Nat × Nat) → St → Prop}:wopsh2 X P (⟨d,op,g⟩ :: os) ls σ K = (ldOK σ op = true ∧ wop X P σ d op (gsK X P os (locOf σ op ++ ls) K)):=rfl
theorem s_gsK {os:List AOper} {K:List (Nat × Nat × Nat) → St → Prop}:gsK X P os ls K σ = wopsh2 X P os ls σ K:=rfl
theorem s_gsE {tl:List AOper}:gsE X P m tl K ls σ = wopss X P m ls tl σ K:=rfl
theorem s_gs1 {op:AOp} {g:Option (Nat × Bool)}:wopss X P m ls [⟨d,op,g⟩] σ K = wop X P σ d op (gqF m K):=rfl
theorem s_gs2 {op:AOp} {g:Option (Nat × Bool)} {o:AOper} {os:List AOper}:wopss X P m ls (⟨d,op,g⟩ :: o :: os) σ K = (stOK ls σ op = true ∧ wop X P σ d op (gsT X P m ls (o :: os) K)):=rfl
theorem s_gsT {m':Nat} {tm:List (Nat × PV)} {ce:List (Nat × List L)} {os:List AOper}:gsT X P m ls os K ⟨m',tm,ce⟩ = (m' = m ∧ wopss X P m ls os ⟨m',tm,ce⟩ K):=rfl
theorem lo_ldt {x:AO} {n:Nat}:locOf σ (.ld x n true) = ptrLoc n (σ.ev x):=rfl
theorem lo_ldf {x:AO} {n:Nat}:locOf σ (.ld x n false) = ptrLoc 1 (σ.ev x):=rfl
theorem lo_p {n c o:Nat}:ptrLoc n (.lf (.ptr c o)) = [(c,o,n)]:=rfl
theorem so_st {x v:AO} {n:Nat}:stOK ls σ (.st x v n) = stOKv ls n (σ.ev v) (σ.ev x):=rfl
theorem so_p {n c o:Nat} {v:PV}:stOKv ls n v (.lf (.ptr c o)) = (apartL c o n ls && !ownsV v):=rfl
theorem ap_n {c o n:Nat}:apartL c o n [] = true:=rfl
theorem ap_c {c o n c' o' n':Nat}:apartL c o n ((c',o',n') :: ls) = ((!(c' == c) || decide (o + n ≤ o') || decide (o' + n' ≤ o)) && apartL c o n ls):=rfl
theorem lk_sll {n:Nat} {x:AO} {l h:Option AO}:ldOK σ (.sll n x l h) = true:=rfl
theorem lk_ia {x i:AO} {n:Nat}:ldOK σ (.ia x i n) = true:=rfl
theorem p_1fn {f:Nat} {a b:List L}:ptr1 (some (.lf (.fn f a b))) = none:=rfl
theorem k_fn {σ0 σ':St} {t f:Nat} {a b:List L}:keepO σ0 σ' t (some (.lf (.fn f a b))) = True:=rfl
theorem lo_mv {x:AO}:locOf σ (.mv x) = []:=rfl
theorem so_mv {x:AO}:stOK ls σ (.mv x) = true:=rfl
theorem lo_bin {o:BinOp} {x y:AO}:locOf σ (.bin o x y) = []:=rfl
theorem so_bin {o:BinOp} {x y:AO}:stOK ls σ (.bin o x y) = true:=rfl
theorem lo_cvi {k:IntKind} {x:AO}:locOf σ (.cvi k x) = []:=rfl
theorem so_cvi {k:IntKind} {x:AO}:stOK ls σ (.cvi k x) = true:=rfl
theorem lo_fa {x:AO} {o:Nat}:locOf σ (.fa x o) = []:=rfl
theorem so_fa {x:AO} {o:Nat}:stOK ls σ (.fa x o) = true:=rfl
theorem lo_iaa {x i:AO} {l n:Nat}:locOf σ (.iaa x i l n) = []:=rfl
theorem so_iaa {x i:AO} {l n:Nat}:stOK ls σ (.iaa x i l n) = true:=rfl
theorem lo_nc {x:AO}:locOf σ (.nc x) = []:=rfl
theorem so_nc {x:AO}:stOK ls σ (.nc x) = true:=rfl
theorem lo_ia {x i:AO} {n:Nat}:locOf σ (.ia x i n) = []:=rfl
theorem so_ia {x i:AO} {n:Nat}:stOK ls σ (.ia x i n) = true:=rfl
theorem lo_sll {n:Nat} {x:AO} {l h:Option AO}:locOf σ (.sll n x l h) = []:=rfl
theorem so_sll {n:Nat} {x:AO} {l h:Option AO}:stOK ls σ (.sll n x l h) = true:=rfl
theorem lo_len {x:AO}:locOf σ (.len x) = []:=rfl
theorem so_len {x:AO}:stOK ls σ (.len x) = true:=rfl
end
abbrev tyOf {p:Prop} (_:p):Prop:=p
theorem S0:tyOf (And.intro (And.intro (And.intro (And.intro (And.intro (And.intro (And.intro (And.intro (@e_get) (And.intro (@e_put) (@e_t))) (And.intro (@Option.getD_some.{0}) (And.intro (@s_cons) (@s_wopsK)))) (And.intro (And.intro (@s_opsK) (And.intro (@e_res) (@e_keep_n))) (And.intro (@s_seqK_n) (And.intro (@e_keep_c) (@e_keep1_s))))) (And.intro (And.intro (And.intro (@s_nil) (And.intro (@s_ops0) (@m_lf))) (And.intro (@e_k) (And.intro (@s_seq) (@List.map_nil.{0,0})))) (And.intro (And.intro (@List.map_cons.{0,0}) (And.intro (@Bool.false_eq_true) (@List.append_nil.{0}))) (And.intro (And.intro (@o_mv) (@s_putK)) (And.intro (@List.nil_append.{0}) (@o_as)))))) (And.intro (And.intro (And.intro (And.intro (@Nat.zero_add) (And.intro (@List.length_nil.{0}) (@true_and))) (And.intro (@Bool.true_and) (And.intro (@List.flatMap_nil.{0,0}) (@List.flatMap_cons.{0,0})))) (And.intro (And.intro (@s_cond) (And.intro (@s_cnd) (@List.cons_append.{0}))) (And.intro (And.intro (@and_true) (@Bool.and_true)) (And.intro (@d_n) (@List.length_cons.{0}))))) (And.intro (And.intro (And.intro (@d_c) (And.intro (@o_bin) (@o_call))) (And.intro (@Bool.and_self) (And.intro (@s_retX) (@s_cells_n)))) (And.intro (And.intro (@r_n) (And.intro (@s_skip) (@s_ret))) (And.intro (And.intro (@s_ret_r) (@r_cons)) (And.intro (@List.getElem?_cons_zero.{0}) (@m_n))))))) (And.intro (And.intro (And.intro (And.intro (And.intro (@m_c) (And.intro (@rl_i) (@List.all_cons.{0}))) (And.intro (@List.all_nil.{0}) (And.intro (@r_t) (@List.drop_succ_cons.{0})))) (And.intro (And.intro (@List.take_succ_cons.{0}) (And.intro (@o_ld) (@List.take_zero.{0}))) (And.intro (And.intro (@List.drop_zero.{0}) (@o_st)) (And.intro (@v_stCK) (@v_ldC))))) (And.intro (And.intro (And.intro (@v_st_p) (And.intro (@v_ld_p) (@Option.bind_some.{0,0}))) (And.intro (@e_asg_i) (And.intro (@t_i) (@Nat.le_refl)))) (And.intro (And.intro (@o_fa) (And.intro (@v_fa_p) (@v_part_f))) (And.intro (And.intro (@v_atK) (@s_seqK_r)) (And.intro (@List.drop_nil.{0}) (@ol_i)))))) (And.intro (And.intro (And.intro (And.intro (@t_ln) (And.intro (@t_lc) (@m_ag))) (And.intro (@e_asg_b) (And.intro (@decide_eq_true_eq) (@Nat.add_zero)))) (And.intro (And.intro (@ol_b) (And.intro (@List.take_nil.{0}) (@t_s))) (And.intro (And.intro (@dw_n) (@m_all)) (And.intro (@st_b) (@t_tp))))) (And.intro (And.intro (And.intro (@t_n) (And.intro (@q_mv) (@List.any_nil.{0}))) (And.intro (@q_bin) (And.intro (@one_1) (@t_c)))) (And.intro (And.intro (@t_1l) (And.intro (@one_2) (@s_grd))) (And.intro (And.intro (@s_guard) (@o_pk)) (And.intro (@v_pk) (@Bool.or_self)))))))) (And.intro (And.intro (And.intro (And.intro (And.intro (And.intro (@t_b) (And.intro (@s_block) (@List.getElem?_cons_succ.{0}))) (And.intro (@kf_s) (And.intro (@cp_st) (@kl_i)))) (And.intro (And.intro (@o_callp) (And.intro (@v_callp) (@r_c))) (And.intro (@r_cell) (And.intro (@r_part_t) (@t_lf))))) (And.intro (And.intro (And.intro (@List.any_cons.{0}) (And.intro (@o_nc) (@kl_s))) (And.intro (@v_part_t) (And.intro (@e_asg_s) (@kl_p)))) (And.intro (And.intro (@o_bd) (And.intro (@v_agK) (@v_bd_n))) (And.intro (And.intro (@v_nc_p) (@v_add)) (And.intro (@v_lss) (@fc_s)))))) (And.intro (And.intro (And.intro (And.intro (@Nat.lt_add_one) (And.intro (@kl_b) (@ol_s))) (And.intro (@kc_i) (And.intro (@t_1a) (@Nat.zero_le)))) (And.intro (And.intro (@s_blkK_n) (And.intro (@dw_p) (@ta_p))) (And.intro (And.intro (@pc_p) (@e_head)) (And.intro (@e_headK) (@kC_n))))) (And.intro (And.intro (And.intro (@pO_n) (And.intro (@rl_s) (@m_tp))) (And.intro (@pO_i) (And.intro (@kc_s) (@st_i1)))) (And.intro (And.intro (@o_al) (And.intro (@BEq.rfl.{0}) (@m_1l))) (And.intro (And.intro (@Bool.not_true) (@q_ld)) (And.intro (@Bool.not_false) (@s_blkK_r))))))) (And.intro (And.intro (And.intro (And.intro (And.intro (@not_false_eq_true) (And.intro (@v_eql) (@kC_c))) (And.intro (@s_cells_c) (And.intro (@t_some) (@fc_b)))) (And.intro (And.intro (@o_ext) (And.intro (@v_ext0) (@v_ext1))) (And.intro (And.intro (@kp_i) (@o_lns)) (And.intro (@v_lns) (@fc_i))))) (And.intro (And.intro (And.intro (@s_exit) (And.intro (@s_seqK_e) (@s_blkK_e))) (And.intro (@s_loopK_e) (And.intro (@s_loopK_n) (@kc_b)))) (And.intro (And.intro (@dw_i) (And.intro (@Bool.true_eq_false) (@v_bd_c))) (And.intro (And.intro (@kc_p) (@pO_p)) (And.intro (@s_wopsTK) (@s_tcons)))))) (And.intro (And.intro (And.intro (And.intro (@q_call) (And.intro (@decide_eq_false_iff_not) (@q_fa))) (And.intro (@v_sneq) (And.intro (@kp_s) (@dw_s)))) (And.intro (And.intro (@pO_l) (And.intro (@kp_p) (@v_neq))) (And.intro (And.intro (@o_un) (@kp_b)) (And.intro (@v_gtr) (@or_true))))) (And.intro (And.intro (And.intro (@kp_lo) (And.intro (@t_l) (@s_ops1))) (And.intro (@s_tone) (And.intro (@o_iaa) (@v_not)))) (And.intro (And.intro (@s_loop) (And.intro (@o_bx) (@v_bx_a))) (And.intro (And.intro (@kc_l) (@kl_lo)) (And.intro (@v_geq) (@rk_lo))))))))) (And.intro (And.intro (And.intro (And.intro (And.intro (And.intro (And.intro (@ta_s) (And.intro (@o_ixs) (@v_ixs))) (And.intro (@o_len) (And.intro (@v_len) (@rk_i)))) (And.intro (And.intro (@Bool.or_false) (And.intro (@rl_l) (@e_asg_n))) (And.intro (@q_nc) (And.intro (@e_asg_o) (@o_bs))))) (And.intro (And.intro (And.intro (@v_bsK) (And.intro (@v_lit_n) (@v_lit_c))) (And.intro (@lit_n) (And.intro (@lit_c) (@ta_t)))) (And.intro (And.intro (@dw_t0) (And.intro (@pc_t) (@ba_size))) (And.intro (And.intro (@v_sub) (@st_b1)) (And.intro (@fc_t) (@kl_t)))))) (And.intro (And.intro (And.intro (And.intro (@t_ag) (And.intro (@s_loopK_r) (@pO_s))) (And.intro (@kp_lro) (And.intro (@rk_s) (@v_leq)))) (And.intro (And.intro (@rk_p) (And.intro (@q_iaa) (@o_app))) (And.intro (And.intro (@v_app_o) (@kp_lk)) (And.intro (@lp_i) (@lp_lo))))) (And.intro (And.intro (And.intro (@v_iaa_p) (And.intro (@fc_lo) (@q_lns))) (And.intro (@o_ia) (And.intro (@v_ia) (@rk_b)))) (And.intro (And.intro (@rk_lk) (And.intro (@lp_s) (@lp_p))) (And.intro (And.intro (@ta_i) (@s_wopsqK)) (And.intro (@s_qcons) (@t_or))))))) (And.intro (And.intro (And.intro (And.intro (And.intro (@lp_b) (And.intro (@m_1a) (@s_r2))) (And.intro (@q_ixs) (And.intro (@s_qnil) (@o_cvi)))) (And.intro (And.intro (@v_cvi) (And.intro (@o_sls) (@Option.map_some.{0,0}))) (And.intro (And.intro (@v_sadd) (@ol_ni)) (And.intro (@q_pk) (@s_ops2))))) (And.intro (And.intro (And.intro (@s_rK) (And.intro (@k_n) (@k_c))) (And.intro (@k_p) (And.intro (@v_iaa_g) (@v_ld_g)))) (And.intro (And.intro (@v_or) (And.intro (@e_asg_r) (@s_grd_no))) (And.intro (And.intro (@q_un) (@pO_fn)) (And.intro (@v_sls_b) (@t_oo)))))) (And.intro (And.intro (And.intro (And.intro (@st_s1) (And.intro (@v_seql) (@o_beq))) (And.intro (@rk_lro) (And.intro (@pO_tt) (@kd_i)))) (And.intro (And.intro (@kc_fn) (And.intro (@kc_er) (@ol_lr))) (And.intro (And.intro (@kl_np) (@ub_len)) (And.intro (@t_tr) (@s_gc))))) (And.intro (And.intro (And.intro (@s_gmn) (And.intro (@s_ret_n) (@one_0))) (And.intro (@ro_b) (And.intro (@ro_i) (@ro_s)))) (And.intro (And.intro (@ro_p) (And.intro (@ro_lo) (@dw_lo))) (And.intro (And.intro (@v_fa_t) (@v_ld_t)) (And.intro (@v_nc_t) (@s_gdr)))))))) (And.intro (And.intro (And.intro (And.intro (And.intro (And.intro (@s_gn) (And.intro (@s_gK) (@s_gE))) (And.intro (@s_r1) (And.intro (@s_rF) (@g_D)))) (And.intro (And.intro (@g_O) (And.intro (@g_ev) (@p_n))) (And.intro (And.intro (@p_c) (@p_cs)) (And.intro (@p_1) (@c_n))))) (And.intro (And.intro (And.intro (@c_c) (And.intro (@c_cs) (@cg_st))) (And.intro (@cg_b) (And.intro (@cg_p) (@mo_ld)))) (And.intro (And.intro (@t_one) (And.intro (@t_pot) (@kp_fn))) (And.intro (And.intro (@rk_fn) (@lp_lr)) (And.intro (@q_ia) (@t_rr)))))) (And.intro (And.intro (And.intro (And.intro (@ro_lro) (And.intro (@q_sls) (@q_as))) (And.intro (@v_shl) (And.intro (@v_ext2) (@e_asg_ni)))) (And.intro (And.intro (@v_beqK) (And.intro (@v_andO) (@v_beqA))) (And.intro (And.intro (@q_i) (@q_1)) (And.intro (@q_c) (@g_a))))) (And.intro (And.intro (And.intro (@sm_i) (And.intro (@s_gms) (@mo_mv))) (And.intro (@q_len) (And.intro (@v_fa_e) (@v_quo)))) (And.intro (And.intro (@v_rem) (And.intro (@v_andNot) (@v_shr))) (And.intro (And.intro (@v_cmp) (@o_cbs)) (And.intro (@v_sls_c) (@kl_lr))))))) (And.intro (And.intro (And.intro (And.intro (And.intro (@g_p) (And.intro (@mo_fa) (@s_gdt))) (And.intro (@t_alt) (And.intro (@q_beq) (@q_bd)))) (And.intro (And.intro (@o_cald) (And.intro (@lp_fn) (@q_cvi))) (And.intro (And.intro (@v_mul) (@rk_u)) (And.intro (@e_asg_p) (@u8s_len))))) (And.intro (And.intro (And.intro (@u8s_snoc) (And.intro (@kp_t) (@fc_u))) (And.intro (@o_alt) (And.intro (@v_st_t) (@t_nil)))) (And.intro (And.intro (@mo_nc) (And.intro (@v_and) (@o_ms))) (And.intro (And.intro (@kc_eo) (@rl_fn)) (And.intro (@pl_nn) (@v_sls_d)))))) (And.intro (And.intro (And.intro (And.intro (@t_nr) (And.intro (@nO_ln) (@dD_s))) (And.intro (@dG_s) (And.intro (@dK_i) (@rg_1)))) (And.intro (And.intro (@v_cbs8) (And.intro (@o_aps) (@v_aps_o))) (And.intro (And.intro (@t_np) (@t_ni)) (And.intro (@kp_u) (@kps_i))))) (And.intro (And.intro (And.intro (@kps_p) (And.intro (@ol_lo) (@pO_b))) (And.intro (@st_lo) (And.intro (@nO_s) (@kc_t)))) (And.intro (And.intro (@rk_t) (And.intro (@o_peq) (@o_ieq))) (And.intro (And.intro (@o_ex) (@v_exK)) (And.intro (@v_cbs_ub) (@s_reg)))))))))):=And.intro (And.intro (And.intro (And.intro (And.intro (And.intro (And.intro (And.intro (@e_get) (And.intro (@e_put) (@e_t))) (And.intro (@Option.getD_some.{0}) (And.intro (@s_cons) (@s_wopsK)))) (And.intro (And.intro (@s_opsK) (And.intro (@e_res) (@e_keep_n))) (And.intro (@s_seqK_n) (And.intro (@e_keep_c) (@e_keep1_s))))) (And.intro (And.intro (And.intro (@s_nil) (And.intro (@s_ops0) (@m_lf))) (And.intro (@e_k) (And.intro (@s_seq) (@List.map_nil.{0,0})))) (And.intro (And.intro (@List.map_cons.{0,0}) (And.intro (@Bool.false_eq_true) (@List.append_nil.{0}))) (And.intro (And.intro (@o_mv) (@s_putK)) (And.intro (@List.nil_append.{0}) (@o_as)))))) (And.intro (And.intro (And.intro (And.intro (@Nat.zero_add) (And.intro (@List.length_nil.{0}) (@true_and))) (And.intro (@Bool.true_and) (And.intro (@List.flatMap_nil.{0,0}) (@List.flatMap_cons.{0,0})))) (And.intro (And.intro (@s_cond) (And.intro (@s_cnd) (@List.cons_append.{0}))) (And.intro (And.intro (@and_true) (@Bool.and_true)) (And.intro (@d_n) (@List.length_cons.{0}))))) (And.intro (And.intro (And.intro (@d_c) (And.intro (@o_bin) (@o_call))) (And.intro (@Bool.and_self) (And.intro (@s_retX) (@s_cells_n)))) (And.intro (And.intro (@r_n) (And.intro (@s_skip) (@s_ret))) (And.intro (And.intro (@s_ret_r) (@r_cons)) (And.intro (@List.getElem?_cons_zero.{0}) (@m_n))))))) (And.intro (And.intro (And.intro (And.intro (And.intro (@m_c) (And.intro (@rl_i) (@List.all_cons.{0}))) (And.intro (@List.all_nil.{0}) (And.intro (@r_t) (@List.drop_succ_cons.{0})))) (And.intro (And.intro (@List.take_succ_cons.{0}) (And.intro (@o_ld) (@List.take_zero.{0}))) (And.intro (And.intro (@List.drop_zero.{0}) (@o_st)) (And.intro (@v_stCK) (@v_ldC))))) (And.intro (And.intro (And.intro (@v_st_p) (And.intro (@v_ld_p) (@Option.bind_some.{0,0}))) (And.intro (@e_asg_i) (And.intro (@t_i) (@Nat.le_refl)))) (And.intro (And.intro (@o_fa) (And.intro (@v_fa_p) (@v_part_f))) (And.intro (And.intro (@v_atK) (@s_seqK_r)) (And.intro (@List.drop_nil.{0}) (@ol_i)))))) (And.intro (And.intro (And.intro (And.intro (@t_ln) (And.intro (@t_lc) (@m_ag))) (And.intro (@e_asg_b) (And.intro (@decide_eq_true_eq) (@Nat.add_zero)))) (And.intro (And.intro (@ol_b) (And.intro (@List.take_nil.{0}) (@t_s))) (And.intro (And.intro (@dw_n) (@m_all)) (And.intro (@st_b) (@t_tp))))) (And.intro (And.intro (And.intro (@t_n) (And.intro (@q_mv) (@List.any_nil.{0}))) (And.intro (@q_bin) (And.intro (@one_1) (@t_c)))) (And.intro (And.intro (@t_1l) (And.intro (@one_2) (@s_grd))) (And.intro (And.intro (@s_guard) (@o_pk)) (And.intro (@v_pk) (@Bool.or_self)))))))) (And.intro (And.intro (And.intro (And.intro (And.intro (And.intro (@t_b) (And.intro (@s_block) (@List.getElem?_cons_succ.{0}))) (And.intro (@kf_s) (And.intro (@cp_st) (@kl_i)))) (And.intro (And.intro (@o_callp) (And.intro (@v_callp) (@r_c))) (And.intro (@r_cell) (And.intro (@r_part_t) (@t_lf))))) (And.intro (And.intro (And.intro (@List.any_cons.{0}) (And.intro (@o_nc) (@kl_s))) (And.intro (@v_part_t) (And.intro (@e_asg_s) (@kl_p)))) (And.intro (And.intro (@o_bd) (And.intro (@v_agK) (@v_bd_n))) (And.intro (And.intro (@v_nc_p) (@v_add)) (And.intro (@v_lss) (@fc_s)))))) (And.intro (And.intro (And.intro (And.intro (@Nat.lt_add_one) (And.intro (@kl_b) (@ol_s))) (And.intro (@kc_i) (And.intro (@t_1a) (@Nat.zero_le)))) (And.intro (And.intro (@s_blkK_n) (And.intro (@dw_p) (@ta_p))) (And.intro (And.intro (@pc_p) (@e_head)) (And.intro (@e_headK) (@kC_n))))) (And.intro (And.intro (And.intro (@pO_n) (And.intro (@rl_s) (@m_tp))) (And.intro (@pO_i) (And.intro (@kc_s) (@st_i1)))) (And.intro (And.intro (@o_al) (And.intro (@BEq.rfl.{0}) (@m_1l))) (And.intro (And.intro (@Bool.not_true) (@q_ld)) (And.intro (@Bool.not_false) (@s_blkK_r))))))) (And.intro (And.intro (And.intro (And.intro (And.intro (@not_false_eq_true) (And.intro (@v_eql) (@kC_c))) (And.intro (@s_cells_c) (And.intro (@t_some) (@fc_b)))) (And.intro (And.intro (@o_ext) (And.intro (@v_ext0) (@v_ext1))) (And.intro (And.intro (@kp_i) (@o_lns)) (And.intro (@v_lns) (@fc_i))))) (And.intro (And.intro (And.intro (@s_exit) (And.intro (@s_seqK_e) (@s_blkK_e))) (And.intro (@s_loopK_e) (And.intro (@s_loopK_n) (@kc_b)))) (And.intro (And.intro (@dw_i) (And.intro (@Bool.true_eq_false) (@v_bd_c))) (And.intro (And.intro (@kc_p) (@pO_p)) (And.intro (@s_wopsTK) (@s_tcons)))))) (And.intro (And.intro (And.intro (And.intro (@q_call) (And.intro (@decide_eq_false_iff_not) (@q_fa))) (And.intro (@v_sneq) (And.intro (@kp_s) (@dw_s)))) (And.intro (And.intro (@pO_l) (And.intro (@kp_p) (@v_neq))) (And.intro (And.intro (@o_un) (@kp_b)) (And.intro (@v_gtr) (@or_true))))) (And.intro (And.intro (And.intro (@kp_lo) (And.intro (@t_l) (@s_ops1))) (And.intro (@s_tone) (And.intro (@o_iaa) (@v_not)))) (And.intro (And.intro (@s_loop) (And.intro (@o_bx) (@v_bx_a))) (And.intro (And.intro (@kc_l) (@kl_lo)) (And.intro (@v_geq) (@rk_lo))))))))) (And.intro (And.intro (And.intro (And.intro (And.intro (And.intro (And.intro (@ta_s) (And.intro (@o_ixs) (@v_ixs))) (And.intro (@o_len) (And.intro (@v_len) (@rk_i)))) (And.intro (And.intro (@Bool.or_false) (And.intro (@rl_l) (@e_asg_n))) (And.intro (@q_nc) (And.intro (@e_asg_o) (@o_bs))))) (And.intro (And.intro (And.intro (@v_bsK) (And.intro (@v_lit_n) (@v_lit_c))) (And.intro (@lit_n) (And.intro (@lit_c) (@ta_t)))) (And.intro (And.intro (@dw_t0) (And.intro (@pc_t) (@ba_size))) (And.intro (And.intro (@v_sub) (@st_b1)) (And.intro (@fc_t) (@kl_t)))))) (And.intro (And.intro (And.intro (And.intro (@t_ag) (And.intro (@s_loopK_r) (@pO_s))) (And.intro (@kp_lro) (And.intro (@rk_s) (@v_leq)))) (And.intro (And.intro (@rk_p) (And.intro (@q_iaa) (@o_app))) (And.intro (And.intro (@v_app_o) (@kp_lk)) (And.intro (@lp_i) (@lp_lo))))) (And.intro (And.intro (And.intro (@v_iaa_p) (And.intro (@fc_lo) (@q_lns))) (And.intro (@o_ia) (And.intro (@v_ia) (@rk_b)))) (And.intro (And.intro (@rk_lk) (And.intro (@lp_s) (@lp_p))) (And.intro (And.intro (@ta_i) (@s_wopsqK)) (And.intro (@s_qcons) (@t_or))))))) (And.intro (And.intro (And.intro (And.intro (And.intro (@lp_b) (And.intro (@m_1a) (@s_r2))) (And.intro (@q_ixs) (And.intro (@s_qnil) (@o_cvi)))) (And.intro (And.intro (@v_cvi) (And.intro (@o_sls) (@Option.map_some.{0,0}))) (And.intro (And.intro (@v_sadd) (@ol_ni)) (And.intro (@q_pk) (@s_ops2))))) (And.intro (And.intro (And.intro (@s_rK) (And.intro (@k_n) (@k_c))) (And.intro (@k_p) (And.intro (@v_iaa_g) (@v_ld_g)))) (And.intro (And.intro (@v_or) (And.intro (@e_asg_r) (@s_grd_no))) (And.intro (And.intro (@q_un) (@pO_fn)) (And.intro (@v_sls_b) (@t_oo)))))) (And.intro (And.intro (And.intro (And.intro (@st_s1) (And.intro (@v_seql) (@o_beq))) (And.intro (@rk_lro) (And.intro (@pO_tt) (@kd_i)))) (And.intro (And.intro (@kc_fn) (And.intro (@kc_er) (@ol_lr))) (And.intro (And.intro (@kl_np) (@ub_len)) (And.intro (@t_tr) (@s_gc))))) (And.intro (And.intro (And.intro (@s_gmn) (And.intro (@s_ret_n) (@one_0))) (And.intro (@ro_b) (And.intro (@ro_i) (@ro_s)))) (And.intro (And.intro (@ro_p) (And.intro (@ro_lo) (@dw_lo))) (And.intro (And.intro (@v_fa_t) (@v_ld_t)) (And.intro (@v_nc_t) (@s_gdr)))))))) (And.intro (And.intro (And.intro (And.intro (And.intro (And.intro (@s_gn) (And.intro (@s_gK) (@s_gE))) (And.intro (@s_r1) (And.intro (@s_rF) (@g_D)))) (And.intro (And.intro (@g_O) (And.intro (@g_ev) (@p_n))) (And.intro (And.intro (@p_c) (@p_cs)) (And.intro (@p_1) (@c_n))))) (And.intro (And.intro (And.intro (@c_c) (And.intro (@c_cs) (@cg_st))) (And.intro (@cg_b) (And.intro (@cg_p) (@mo_ld)))) (And.intro (And.intro (@t_one) (And.intro (@t_pot) (@kp_fn))) (And.intro (And.intro (@rk_fn) (@lp_lr)) (And.intro (@q_ia) (@t_rr)))))) (And.intro (And.intro (And.intro (And.intro (@ro_lro) (And.intro (@q_sls) (@q_as))) (And.intro (@v_shl) (And.intro (@v_ext2) (@e_asg_ni)))) (And.intro (And.intro (@v_beqK) (And.intro (@v_andO) (@v_beqA))) (And.intro (And.intro (@q_i) (@q_1)) (And.intro (@q_c) (@g_a))))) (And.intro (And.intro (And.intro (@sm_i) (And.intro (@s_gms) (@mo_mv))) (And.intro (@q_len) (And.intro (@v_fa_e) (@v_quo)))) (And.intro (And.intro (@v_rem) (And.intro (@v_andNot) (@v_shr))) (And.intro (And.intro (@v_cmp) (@o_cbs)) (And.intro (@v_sls_c) (@kl_lr))))))) (And.intro (And.intro (And.intro (And.intro (And.intro (@g_p) (And.intro (@mo_fa) (@s_gdt))) (And.intro (@t_alt) (And.intro (@q_beq) (@q_bd)))) (And.intro (And.intro (@o_cald) (And.intro (@lp_fn) (@q_cvi))) (And.intro (And.intro (@v_mul) (@rk_u)) (And.intro (@e_asg_p) (@u8s_len))))) (And.intro (And.intro (And.intro (@u8s_snoc) (And.intro (@kp_t) (@fc_u))) (And.intro (@o_alt) (And.intro (@v_st_t) (@t_nil)))) (And.intro (And.intro (@mo_nc) (And.intro (@v_and) (@o_ms))) (And.intro (And.intro (@kc_eo) (@rl_fn)) (And.intro (@pl_nn) (@v_sls_d)))))) (And.intro (And.intro (And.intro (And.intro (@t_nr) (And.intro (@nO_ln) (@dD_s))) (And.intro (@dG_s) (And.intro (@dK_i) (@rg_1)))) (And.intro (And.intro (@v_cbs8) (And.intro (@o_aps) (@v_aps_o))) (And.intro (And.intro (@t_np) (@t_ni)) (And.intro (@kp_u) (@kps_i))))) (And.intro (And.intro (And.intro (@kps_p) (And.intro (@ol_lo) (@pO_b))) (And.intro (@st_lo) (And.intro (@nO_s) (@kc_t)))) (And.intro (And.intro (@rk_t) (And.intro (@o_peq) (@o_ieq))) (And.intro (And.intro (@o_ex) (@v_exK)) (And.intro (@v_cbs_ub) (@s_reg)))))))))
end Go.Proofs.YthcpaohmajjopaaGreatDoor.AM
