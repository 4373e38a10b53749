/- The abstract machine, part Leaf2. -/
import Derived.Test.YthcpaohmajjopaaDoorAmLeaf
set_option linter.unusedVariables false
set_option linter.unusedSimpArgs false
namespace Go.Proofs.YthcpaohmajjopaaDoor.AM
open Go
variable {X : Cx}
theorem kp_t {p : Nat} {c0 o T : Nat} : killP p (.tptr c0 o T) = (.tptr c0 o T) := rfl
theorem kp_it {p : Nat} {q0 i0 : Nat} {s : ByteArray} : killP p (.it q0 s i0) = if (q0 == p) = true then .undef else (.it q0 s i0) := rfl
theorem kp_g {p : Nat} {g o : Nat} : killP p (.gl g o) = (.gl g o) := rfl
theorem kp_fn {p : Nat} {f0 : Nat} {a b : List L} : killP p (.fn f0 a b) = (.fn f0 a b) := rfl
theorem kp_sl {p : Nat} {c0 o z l cp : Nat} : killP p (.sl c0 o z l cp) = (.sl c0 o z l cp) := rfl
theorem kp_er {p : Nat} {z j o : Nat} {xs sp : List (List L)} : killP p (.ep .ro z xs sp j o) = (.ep .ro z xs sp j o) := rfl
theorem kp_en {p : Nat} {z j o : Nat} {xs sp : List (List L)} : killP p (.ep .nl z xs sp j o) = (.ep .nl z xs sp j o) := rfl
theorem kp_eo {p : Nat} {q0 e z j o : Nat} {xs sp : List (List L)} : killP p (.ep (.own q0 e) z xs sp j o) = if (q0 == p) = true then .undef else (.ep (.own q0 e) z xs sp j o) := rfl
theorem kp_ev {p : Nat} {q0 z j o : Nat} {xs sp : List (List L)} : killP p (.ep (.vw q0) z xs sp j o) = if (q0 == p) = true then .undef else (.ep (.vw q0) z xs sp j o) := rfl
theorem kps_t {ps : List Nat} {c0 o T : Nat} : killPs ps (.tptr c0 o T) = (.tptr c0 o T) := rfl
theorem kps_it {ps : List Nat} {q0 i0 : Nat} {s : ByteArray} : killPs ps (.it q0 s i0) = if (ps.contains q0) = true then .undef else (.it q0 s i0) := rfl
theorem kps_g {ps : List Nat} {g o : Nat} : killPs ps (.gl g o) = (.gl g o) := rfl
theorem kps_fn {ps : List Nat} {f0 : Nat} {a b : List L} : killPs ps (.fn f0 a b) = (.fn f0 a b) := rfl
theorem kps_sl {ps : List Nat} {c0 o z l cp : Nat} : killPs ps (.sl c0 o z l cp) = (.sl c0 o z l cp) := rfl
theorem kps_er {ps : List Nat} {z j o : Nat} {xs sp : List (List L)} : killPs ps (.ep .ro z xs sp j o) = (.ep .ro z xs sp j o) := rfl
theorem kps_en {ps : List Nat} {z j o : Nat} {xs sp : List (List L)} : killPs ps (.ep .nl z xs sp j o) = (.ep .nl z xs sp j o) := rfl
theorem kps_eo {ps : List Nat} {q0 e z j o : Nat} {xs sp : List (List L)} : killPs ps (.ep (.own q0 e) z xs sp j o) = if (ps.contains q0) = true then .undef else (.ep (.own q0 e) z xs sp j o) := rfl
theorem kps_ev {ps : List Nat} {q0 z j o : Nat} {xs sp : List (List L)} : killPs ps (.ep (.vw q0) z xs sp j o) = if (ps.contains q0) = true then .undef else (.ep (.vw q0) z xs sp j o) := rfl
theorem kc_t {c : Nat} {c0 o T : Nat} : killC c (.tptr c0 o T) = if (c0 == c) = true then .undef else (.tptr c0 o T) := rfl
theorem kc_it {c : Nat} {q0 i0 : Nat} {s : ByteArray} : killC c (.it q0 s i0) = (.it q0 s i0) := rfl
theorem kc_g {c : Nat} {g o : Nat} : killC c (.gl g o) = (.gl g o) := rfl
theorem kc_fn {c : Nat} {f0 : Nat} {a b : List L} : killC c (.fn f0 a b) = if (a.any (isPtrC c) || b.any (isPtrC c)) = true then .undef else (.fn f0 a b) := rfl
theorem kc_sl {c : Nat} {c0 o z l cp : Nat} : killC c (.sl c0 o z l cp) = if (c0 == c) = true then .undef else (.sl c0 o z l cp) := rfl
theorem kc_er {c : Nat} {z j o : Nat} {xs sp : List (List L)} : killC c (.ep .ro z xs sp j o) = (.ep .ro z xs sp j o) := rfl
theorem kc_en {c : Nat} {z j o : Nat} {xs sp : List (List L)} : killC c (.ep .nl z xs sp j o) = (.ep .nl z xs sp j o) := rfl
theorem kc_eo {c : Nat} {q0 e z j o : Nat} {xs sp : List (List L)} : killC c (.ep (.own q0 e) z xs sp j o) = (.ep (.own q0 e) z xs sp j o) := rfl
theorem kc_ev {c : Nat} {q0 z j o : Nat} {xs sp : List (List L)} : killC c (.ep (.vw q0) z xs sp j o) = (.ep (.vw q0) z xs sp j o) := rfl
theorem rk_t {q p : Nat} {c0 o T : Nat} : renK q p (.tptr c0 o T) = (.tptr c0 o T) := rfl
theorem rk_g {q p : Nat} {g o : Nat} : renK q p (.gl g o) = (.gl g o) := rfl
theorem rk_fn {q p : Nat} {f0 : Nat} {a b : List L} : renK q p (.fn f0 a b) = (.fn f0 a b) := rfl
theorem rk_sl {q p : Nat} {c0 o z l cp : Nat} : renK q p (.sl c0 o z l cp) = (.sl c0 o z l cp) := rfl
theorem rk_er {q p : Nat} {z j o : Nat} {xs sp : List (List L)} : renK q p (.ep .ro z xs sp j o) = (.ep .ro z xs sp j o) := rfl
theorem rk_en {q p : Nat} {z j o : Nat} {xs sp : List (List L)} : renK q p (.ep .nl z xs sp j o) = (.ep .nl z xs sp j o) := rfl
theorem ro_t {p : Nat} {c0 o T : Nat} : roP p (.tptr c0 o T) = (.tptr c0 o T) := rfl
theorem ro_it {p : Nat} {q0 i0 : Nat} {s : ByteArray} : roP p (.it q0 s i0) = if (q0 == p) = true then .undef else (.it q0 s i0) := rfl
theorem ro_g {p : Nat} {g o : Nat} : roP p (.gl g o) = (.gl g o) := rfl
theorem ro_fn {p : Nat} {f0 : Nat} {a b : List L} : roP p (.fn f0 a b) = (.fn f0 a b) := rfl
theorem ro_sl {p : Nat} {c0 o z l cp : Nat} : roP p (.sl c0 o z l cp) = (.sl c0 o z l cp) := rfl
theorem ro_er {p : Nat} {z j o : Nat} {xs sp : List (List L)} : roP p (.ep .ro z xs sp j o) = (.ep .ro z xs sp j o) := rfl
theorem ro_en {p : Nat} {z j o : Nat} {xs sp : List (List L)} : roP p (.ep .nl z xs sp j o) = (.ep .nl z xs sp j o) := rfl
theorem ro_eo {p : Nat} {q0 e z j o : Nat} {xs sp : List (List L)} : roP p (.ep (.own q0 e) z xs sp j o) = if (q0 == p) = true then .ep .ro z xs sp j o else (.ep (.own q0 e) z xs sp j o) := rfl
theorem ro_ev {p : Nat} {q0 z j o : Nat} {xs sp : List (List L)} : roP p (.ep (.vw q0) z xs sp j o) = if (q0 == p) = true then .ep .ro z xs sp j o else (.ep (.vw q0) z xs sp j o) := rfl
theorem rl_t  {c0 o T : Nat} : roL (.tptr c0 o T) = .undef := rfl
theorem rl_it  {q0 i0 : Nat} {s : ByteArray} : roL (.it q0 s i0) = .undef := rfl
theorem rl_g  {g o : Nat} : roL (.gl g o) = (.gl g o) := rfl
theorem rl_fn  {f0 : Nat} {a b : List L} : roL (.fn f0 a b) = if pureL a b = true then (.fn f0 a b) else .undef := rfl
theorem rl_sl  {c0 o z l cp : Nat} : roL (.sl c0 o z l cp) = .undef := rfl
theorem rl_er  {z j o : Nat} {xs sp : List (List L)} : roL (.ep .ro z xs sp j o) = .undef := rfl
theorem rl_en  {z j o : Nat} {xs sp : List (List L)} : roL (.ep .nl z xs sp j o) = .undef := rfl
theorem rl_eo  {q0 e z j o : Nat} {xs sp : List (List L)} : roL (.ep (.own q0 e) z xs sp j o) = .undef := rfl
theorem rl_ev  {q0 z j o : Nat} {xs sp : List (List L)} : roL (.ep (.vw q0) z xs sp j o) = .undef := rfl
theorem ol_p {d : Nat} {c0 o : Nat} : outL d (.ptr c0 o) = .undef := rfl
theorem ol_t {d : Nat} {c0 o T : Nat} : outL d (.tptr c0 o T) = .undef := rfl
theorem ol_g {d : Nat} {g o : Nat} : outL d (.gl g o) = (.gl g o) := rfl
theorem ol_fn {d : Nat} {f0 : Nat} {a b : List L} : outL d (.fn f0 a b) = if pureL a b = true then (.fn f0 a b) else .undef := rfl
theorem ol_sl {d : Nat} {c0 o z l cp : Nat} : outL d (.sl c0 o z l cp) = .undef := rfl
theorem ol_it {d : Nat} {q0 i0 : Nat} {s : ByteArray} : outL d (.it q0 s i0) = .undef := rfl
theorem ol_er {d : Nat} {z j o : Nat} {xs sp : List (List L)} : outL d (.ep .ro z xs sp j o) = .undef := rfl
theorem ol_en {d : Nat} {z j o : Nat} {xs sp : List (List L)} : outL d (.ep .nl z xs sp j o) = .undef := rfl
theorem ol_eo {d : Nat} {q0 e z j o : Nat} {xs sp : List (List L)} : outL d (.ep (.own q0 e) z xs sp j o) = .undef := rfl
theorem ol_ev {d : Nat} {q0 z j o : Nat} {xs sp : List (List L)} : outL d (.ep (.vw q0) z xs sp j o) = .undef := rfl
theorem wr_t {p sz i off : Nat} {vs : List L} {c0 o T : Nat} : wrP p sz i off vs (.tptr c0 o T) = (.tptr c0 o T) := rfl
theorem wr_g {p sz i off : Nat} {vs : List L} {g o : Nat} : wrP p sz i off vs (.gl g o) = (.gl g o) := rfl
theorem wr_fn {p sz i off : Nat} {vs : List L} {f0 : Nat} {a b : List L} : wrP p sz i off vs (.fn f0 a b) = (.fn f0 a b) := rfl
theorem wr_sl {p sz i off : Nat} {vs : List L} {c0 o z l cp : Nat} : wrP p sz i off vs (.sl c0 o z l cp) = (.sl c0 o z l cp) := rfl
theorem wr_it {p sz i off : Nat} {vs : List L} {q0 i0 : Nat} {s : ByteArray} : wrP p sz i off vs (.it q0 s i0) = if (q0 == p) = true then .undef else (.it q0 s i0) := rfl
theorem wr_er {p sz i off : Nat} {vs : List L} {z j o : Nat} {xs sp : List (List L)} : wrP p sz i off vs (.ep .ro z xs sp j o) = (.ep .ro z xs sp j o) := rfl
theorem wr_en {p sz i off : Nat} {vs : List L} {z j o : Nat} {xs sp : List (List L)} : wrP p sz i off vs (.ep .nl z xs sp j o) = (.ep .nl z xs sp j o) := rfl
theorem wr_ev {p sz i off : Nat} {vs : List L} {q0 z j o : Nat} {xs sp : List (List L)} : wrP p sz i off vs (.ep (.vw q0) z xs sp j o) = if (q0 == p) = true then .undef else (.ep (.vw q0) z xs sp j o) := rfl
theorem ip_b {p j : Nat} {b : Bool} : itP p j (.bool b) = (.bool b) := rfl
theorem ip_i {p j : Nat} {k : IntKind} {n : Int} : itP p j (.int k n) = (.int k n) := rfl
theorem ip_s {p j : Nat} {s : ByteArray} : itP p j (.str s) = (.str s) := rfl
theorem ip_np {p j : Nat}  : itP p j .nilp = .nilp := rfl
theorem ip_ni {p j : Nat}  : itP p j .nili = .nili := rfl
theorem ip_f {p j : Nat} {t : Nat} {v : L} : itP p j (.iface t v) = (.iface t v) := rfl
theorem ip_u {p j : Nat}  : itP p j .undef = .undef := rfl
theorem ip_no {p j : Nat}  : itP p j .no = .no := rfl
theorem ip_p {p j : Nat} {c0 o : Nat} : itP p j (.ptr c0 o) = (.ptr c0 o) := rfl
theorem ip_lr {p j : Nat} {z : Nat} {xs sp : List (List L)} : itP p j (.lst .ro z xs sp) = (.lst .ro z xs sp) := rfl
theorem ip_ln {p j : Nat} {z : Nat} {xs sp : List (List L)} : itP p j (.lst .nl z xs sp) = (.lst .nl z xs sp) := rfl
theorem ip_lo {p j : Nat} {q0 e z : Nat} {xs sp : List (List L)} : itP p j (.lst (.own q0 e) z xs sp) = (.lst (.own q0 e) z xs sp) := rfl
theorem ip_lv {p j : Nat} {q0 z : Nat} {xs sp : List (List L)} : itP p j (.lst (.vw q0) z xs sp) = (.lst (.vw q0) z xs sp) := rfl
theorem ip_t {p j : Nat} {c0 o T : Nat} : itP p j (.tptr c0 o T) = (.tptr c0 o T) := rfl
theorem ip_g {p j : Nat} {g o : Nat} : itP p j (.gl g o) = (.gl g o) := rfl
theorem ip_fn {p j : Nat} {f0 : Nat} {a b : List L} : itP p j (.fn f0 a b) = (.fn f0 a b) := rfl
theorem ip_sl {p j : Nat} {c0 o z l cp : Nat} : itP p j (.sl c0 o z l cp) = (.sl c0 o z l cp) := rfl
theorem ip_it {p j : Nat} {q0 i0 : Nat} {s : ByteArray} : itP p j (.it q0 s i0) = if (q0 == p) = true then .it q0 s j else (.it q0 s i0) := rfl
theorem ta_b {c : Nat} {b : Bool} : toA c (.bool b) = (.bool b) := rfl
theorem ta_i {c : Nat} {k : IntKind} {n : Int} : toA c (.int k n) = (.int k n) := rfl
theorem ta_s {c : Nat} {s : ByteArray} : toA c (.str s) = (.str s) := rfl
theorem ta_np {c : Nat}  : toA c .nilp = .nilp := rfl
theorem ta_ni {c : Nat}  : toA c .nili = .nili := rfl
theorem ta_f {c : Nat} {t : Nat} {v : L} : toA c (.iface t v) = (.iface t v) := rfl
theorem ta_u {c : Nat}  : toA c .undef = .undef := rfl
theorem ta_no {c : Nat}  : toA c .no = .no := rfl
theorem ta_p {c : Nat} {c0 o : Nat} : toA c (.ptr c0 o) = if c0 = c then .ptr 0 o else .undef := rfl
theorem ta_lr {c : Nat} {z : Nat} {xs sp : List (List L)} : toA c (.lst .ro z xs sp) = (.lst .ro z xs sp) := rfl
theorem ta_ln {c : Nat} {z : Nat} {xs sp : List (List L)} : toA c (.lst .nl z xs sp) = .lst .ro z xs sp := rfl
theorem ta_lo {c : Nat} {q0 e z : Nat} {xs sp : List (List L)} : toA c (.lst (.own q0 e) z xs sp) = .lst .ro z xs sp := rfl
theorem ta_lv {c : Nat} {q0 z : Nat} {xs sp : List (List L)} : toA c (.lst (.vw q0) z xs sp) = .lst .ro z xs sp := rfl
theorem ta_t {c : Nat} {c0 o T : Nat} : toA c (.tptr c0 o T) = if c0 = c then .tptr 0 o T else .undef := rfl
theorem ta_it {c : Nat} {q0 i0 : Nat} {s : ByteArray} : toA c (.it q0 s i0) = .undef := rfl
theorem ta_g {c : Nat} {g o : Nat} : toA c (.gl g o) = (.gl g o) := rfl
theorem ta_fn {c : Nat} {f0 : Nat} {a b : List L} : toA c (.fn f0 a b) = if pureL a b = true then (.fn f0 a b) else .undef := rfl
theorem ta_sl {c : Nat} {c0 o z l cp : Nat} : toA c (.sl c0 o z l cp) = if c0 = c then .sl 0 o z l cp else .undef := rfl
theorem ta_er {c : Nat} {z j o : Nat} {xs sp : List (List L)} : toA c (.ep .ro z xs sp j o) = .undef := rfl
theorem ta_en {c : Nat} {z j o : Nat} {xs sp : List (List L)} : toA c (.ep .nl z xs sp j o) = .undef := rfl
theorem ta_eo {c : Nat} {q0 e z j o : Nat} {xs sp : List (List L)} : toA c (.ep (.own q0 e) z xs sp j o) = .undef := rfl
theorem ta_ev {c : Nat} {q0 z j o : Nat} {xs sp : List (List L)} : toA c (.ep (.vw q0) z xs sp j o) = .undef := rfl
theorem tc_b {c : Nat} {b : Bool} : toC c (.bool b) = (.bool b) := rfl
theorem tc_i {c : Nat} {k : IntKind} {n : Int} : toC c (.int k n) = (.int k n) := rfl
theorem tc_s {c : Nat} {s : ByteArray} : toC c (.str s) = (.str s) := rfl
theorem tc_np {c : Nat}  : toC c .nilp = .nilp := rfl
theorem tc_ni {c : Nat}  : toC c .nili = .nili := rfl
theorem tc_f {c : Nat} {t : Nat} {v : L} : toC c (.iface t v) = (.iface t v) := rfl
theorem tc_u {c : Nat}  : toC c .undef = .undef := rfl
theorem tc_no {c : Nat}  : toC c .no = .no := rfl
theorem tc_p {c : Nat} {c0 o : Nat} : toC c (.ptr c0 o) = if c0 = c then .ptr 0 o else .undef := rfl
theorem tc_lr {c : Nat} {z : Nat} {xs sp : List (List L)} : toC c (.lst .ro z xs sp) = (.lst .ro z xs sp) := rfl
theorem tc_ln {c : Nat} {z : Nat} {xs sp : List (List L)} : toC c (.lst .nl z xs sp) = (.lst .nl z xs sp) := rfl
theorem tc_lo {c : Nat} {q0 e z : Nat} {xs sp : List (List L)} : toC c (.lst (.own q0 e) z xs sp) = if isC c q0 = true then .lst (.own (cplc 0 q0) e) z xs sp else .undef := rfl
theorem tc_lv {c : Nat} {q0 z : Nat} {xs sp : List (List L)} : toC c (.lst (.vw q0) z xs sp) = .undef := rfl
theorem tc_t {c : Nat} {c0 o T : Nat} : toC c (.tptr c0 o T) = if c0 = c then .tptr 0 o T else .undef := rfl
theorem tc_it {c : Nat} {q0 i0 : Nat} {s : ByteArray} : toC c (.it q0 s i0) = .undef := rfl
theorem tc_g {c : Nat} {g o : Nat} : toC c (.gl g o) = (.gl g o) := rfl
theorem tc_fn {c : Nat} {f0 : Nat} {a b : List L} : toC c (.fn f0 a b) = if pureL a b = true then (.fn f0 a b) else .undef := rfl
theorem tc_sl {c : Nat} {c0 o z l cp : Nat} : toC c (.sl c0 o z l cp) = .undef := rfl
theorem tc_er {c : Nat} {z j o : Nat} {xs sp : List (List L)} : toC c (.ep .ro z xs sp j o) = .undef := rfl
theorem tc_en {c : Nat} {z j o : Nat} {xs sp : List (List L)} : toC c (.ep .nl z xs sp j o) = .undef := rfl
theorem tc_eo {c : Nat} {q0 e z j o : Nat} {xs sp : List (List L)} : toC c (.ep (.own q0 e) z xs sp j o) = .undef := rfl
theorem tc_ev {c : Nat} {q0 z j o : Nat} {xs sp : List (List L)} : toC c (.ep (.vw q0) z xs sp j o) = .undef := rfl
theorem fc_b {c : Nat} {b : Bool} : fromC c (.bool b) = (.bool b) := rfl
theorem fc_i {c : Nat} {k : IntKind} {n : Int} : fromC c (.int k n) = (.int k n) := rfl
theorem fc_s {c : Nat} {s : ByteArray} : fromC c (.str s) = (.str s) := rfl
theorem fc_np {c : Nat}  : fromC c .nilp = .nilp := rfl
theorem fc_ni {c : Nat}  : fromC c .nili = .nili := rfl
theorem fc_f {c : Nat} {t : Nat} {v : L} : fromC c (.iface t v) = (.iface t v) := rfl
theorem fc_u {c : Nat}  : fromC c .undef = .undef := rfl
theorem fc_no {c : Nat}  : fromC c .no = .no := rfl
theorem fc_p {c : Nat} {c0 o : Nat} : fromC c (.ptr c0 o) = if c0 = 0 then .ptr c o else .undef := rfl
theorem fc_lr {c : Nat} {z : Nat} {xs sp : List (List L)} : fromC c (.lst .ro z xs sp) = (.lst .ro z xs sp) := rfl
theorem fc_ln {c : Nat} {z : Nat} {xs sp : List (List L)} : fromC c (.lst .nl z xs sp) = (.lst .nl z xs sp) := rfl
theorem fc_lo {c : Nat} {q0 e z : Nat} {xs sp : List (List L)} : fromC c (.lst (.own q0 e) z xs sp) = if isC 0 q0 = true then .lst (.own (cplc c q0) e) z xs sp else .undef := rfl
theorem fc_lv {c : Nat} {q0 z : Nat} {xs sp : List (List L)} : fromC c (.lst (.vw q0) z xs sp) = .undef := rfl
theorem fc_t {c : Nat} {c0 o T : Nat} : fromC c (.tptr c0 o T) = if c0 = 0 then .tptr c o T else .undef := rfl
theorem fc_it {c : Nat} {q0 i0 : Nat} {s : ByteArray} : fromC c (.it q0 s i0) = .undef := rfl
theorem fc_g {c : Nat} {g o : Nat} : fromC c (.gl g o) = (.gl g o) := rfl
theorem fc_fn {c : Nat} {f0 : Nat} {a b : List L} : fromC c (.fn f0 a b) = if pureL a b = true then (.fn f0 a b) else .undef := rfl
theorem fc_sl {c : Nat} {c0 o z l cp : Nat} : fromC c (.sl c0 o z l cp) = .undef := rfl
theorem fc_er {c : Nat} {z j o : Nat} {xs sp : List (List L)} : fromC c (.ep .ro z xs sp j o) = .undef := rfl
theorem fc_en {c : Nat} {z j o : Nat} {xs sp : List (List L)} : fromC c (.ep .nl z xs sp j o) = .undef := rfl
theorem fc_eo {c : Nat} {q0 e z j o : Nat} {xs sp : List (List L)} : fromC c (.ep (.own q0 e) z xs sp j o) = .undef := rfl
theorem fc_ev {c : Nat} {q0 z j o : Nat} {xs sp : List (List L)} : fromC c (.ep (.vw q0) z xs sp j o) = .undef := rfl
theorem kl_b {c : Nat} {b : Bool} : killCl c (.bool b) = (.bool b) := rfl
theorem kl_i {c : Nat} {k : IntKind} {n : Int} : killCl c (.int k n) = (.int k n) := rfl
theorem kl_s {c : Nat} {s : ByteArray} : killCl c (.str s) = (.str s) := rfl
theorem kl_np {c : Nat}  : killCl c .nilp = .nilp := rfl
theorem kl_ni {c : Nat}  : killCl c .nili = .nili := rfl
theorem kl_f {c : Nat} {t : Nat} {v : L} : killCl c (.iface t v) = (.iface t v) := rfl
theorem kl_u {c : Nat}  : killCl c .undef = .undef := rfl
theorem kl_no {c : Nat}  : killCl c .no = .no := rfl
theorem kl_p {c : Nat} {c0 o : Nat} : killCl c (.ptr c0 o) = (.ptr c0 o) := rfl
theorem kl_lr {c : Nat} {z : Nat} {xs sp : List (List L)} : killCl c (.lst .ro z xs sp) = (.lst .ro z xs sp) := rfl
theorem kl_ln {c : Nat} {z : Nat} {xs sp : List (List L)} : killCl c (.lst .nl z xs sp) = (.lst .nl z xs sp) := rfl
theorem kl_lo {c : Nat} {q0 e z : Nat} {xs sp : List (List L)} : killCl c (.lst (.own q0 e) z xs sp) = if isC c q0 = true then .undef else (.lst (.own q0 e) z xs sp) := rfl
theorem kl_lv {c : Nat} {q0 z : Nat} {xs sp : List (List L)} : killCl c (.lst (.vw q0) z xs sp) = if isC c q0 = true then .undef else (.lst (.vw q0) z xs sp) := rfl
theorem kl_t {c : Nat} {c0 o T : Nat} : killCl c (.tptr c0 o T) = (.tptr c0 o T) := rfl
theorem kl_it {c : Nat} {q0 i0 : Nat} {s : ByteArray} : killCl c (.it q0 s i0) = if isC c q0 = true then .undef else (.it q0 s i0) := rfl
theorem kl_g {c : Nat} {g o : Nat} : killCl c (.gl g o) = (.gl g o) := rfl
theorem kl_fn {c : Nat} {f0 : Nat} {a b : List L} : killCl c (.fn f0 a b) = (.fn f0 a b) := rfl
theorem kl_sl {c : Nat} {c0 o z l cp : Nat} : killCl c (.sl c0 o z l cp) = (.sl c0 o z l cp) := rfl
theorem kl_er {c : Nat} {z j o : Nat} {xs sp : List (List L)} : killCl c (.ep .ro z xs sp j o) = (.ep .ro z xs sp j o) := rfl
theorem kl_en {c : Nat} {z j o : Nat} {xs sp : List (List L)} : killCl c (.ep .nl z xs sp j o) = (.ep .nl z xs sp j o) := rfl
theorem kl_eo {c : Nat} {q0 e z j o : Nat} {xs sp : List (List L)} : killCl c (.ep (.own q0 e) z xs sp j o) = if isC c q0 = true then .undef else (.ep (.own q0 e) z xs sp j o) := rfl
theorem kl_ev {c : Nat} {q0 z j o : Nat} {xs sp : List (List L)} : killCl c (.ep (.vw q0) z xs sp j o) = if isC c q0 = true then .undef else (.ep (.vw q0) z xs sp j o) := rfl
theorem rc_b  {b : Bool} : roC (.bool b) = roL (.bool b) := rfl
theorem rc_i  {k : IntKind} {n : Int} : roC (.int k n) = roL (.int k n) := rfl
theorem rc_s  {s : ByteArray} : roC (.str s) = roL (.str s) := rfl
theorem rc_np   : roC .nilp = roL .nilp := rfl
theorem rc_ni   : roC .nili = roL .nili := rfl
theorem rc_f  {t : Nat} {v : L} : roC (.iface t v) = roL (.iface t v) := rfl
theorem rc_u   : roC .undef = roL .undef := rfl
theorem rc_no   : roC .no = roL .no := rfl
theorem rc_p  {c0 o : Nat} : roC (.ptr c0 o) = (.ptr c0 o) := rfl
theorem rc_lr  {z : Nat} {xs sp : List (List L)} : roC (.lst .ro z xs sp) = roL (.lst .ro z xs sp) := rfl
theorem rc_ln  {z : Nat} {xs sp : List (List L)} : roC (.lst .nl z xs sp) = roL (.lst .nl z xs sp) := rfl
theorem rc_lo  {q0 e z : Nat} {xs sp : List (List L)} : roC (.lst (.own q0 e) z xs sp) = roL (.lst (.own q0 e) z xs sp) := rfl
theorem rc_lv  {q0 z : Nat} {xs sp : List (List L)} : roC (.lst (.vw q0) z xs sp) = roL (.lst (.vw q0) z xs sp) := rfl
theorem rc_t  {c0 o T : Nat} : roC (.tptr c0 o T) = roL (.tptr c0 o T) := rfl
theorem rc_it  {q0 i0 : Nat} {s : ByteArray} : roC (.it q0 s i0) = roL (.it q0 s i0) := rfl
theorem rc_g  {g o : Nat} : roC (.gl g o) = roL (.gl g o) := rfl
theorem rc_fn  {f0 : Nat} {a b : List L} : roC (.fn f0 a b) = roL (.fn f0 a b) := rfl
theorem rc_sl  {c0 o z l cp : Nat} : roC (.sl c0 o z l cp) = roL (.sl c0 o z l cp) := rfl
theorem rc_er  {z j o : Nat} {xs sp : List (List L)} : roC (.ep .ro z xs sp j o) = roL (.ep .ro z xs sp j o) := rfl
theorem rc_en  {z j o : Nat} {xs sp : List (List L)} : roC (.ep .nl z xs sp j o) = roL (.ep .nl z xs sp j o) := rfl
theorem rc_eo  {q0 e z j o : Nat} {xs sp : List (List L)} : roC (.ep (.own q0 e) z xs sp j o) = roL (.ep (.own q0 e) z xs sp j o) := rfl
theorem rc_ev  {q0 z j o : Nat} {xs sp : List (List L)} : roC (.ep (.vw q0) z xs sp j o) = roL (.ep (.vw q0) z xs sp j o) := rfl
theorem uw_b {p1 z1 n1 : Nat} {ys : List (List L)} {b : Bool} : uwP p1 z1 n1 ys (.bool b) = (.bool b) := rfl
theorem uw_i {p1 z1 n1 : Nat} {ys : List (List L)} {k : IntKind} {n : Int} : uwP p1 z1 n1 ys (.int k n) = (.int k n) := rfl
theorem uw_s {p1 z1 n1 : Nat} {ys : List (List L)} {s : ByteArray} : uwP p1 z1 n1 ys (.str s) = (.str s) := rfl
theorem uw_np {p1 z1 n1 : Nat} {ys : List (List L)}  : uwP p1 z1 n1 ys .nilp = .nilp := rfl
theorem uw_ni {p1 z1 n1 : Nat} {ys : List (List L)}  : uwP p1 z1 n1 ys .nili = .nili := rfl
theorem uw_f {p1 z1 n1 : Nat} {ys : List (List L)} {t : Nat} {v : L} : uwP p1 z1 n1 ys (.iface t v) = (.iface t v) := rfl
theorem uw_u {p1 z1 n1 : Nat} {ys : List (List L)}  : uwP p1 z1 n1 ys .undef = .undef := rfl
theorem uw_no {p1 z1 n1 : Nat} {ys : List (List L)}  : uwP p1 z1 n1 ys .no = .no := rfl
theorem uw_p {p1 z1 n1 : Nat} {ys : List (List L)} {c0 o : Nat} : uwP p1 z1 n1 ys (.ptr c0 o) = (.ptr c0 o) := rfl
theorem uw_lr {p1 z1 n1 : Nat} {ys : List (List L)} {z : Nat} {xs sp : List (List L)} : uwP p1 z1 n1 ys (.lst .ro z xs sp) = (.lst .ro z xs sp) := rfl
theorem uw_ln {p1 z1 n1 : Nat} {ys : List (List L)} {z : Nat} {xs sp : List (List L)} : uwP p1 z1 n1 ys (.lst .nl z xs sp) = (.lst .nl z xs sp) := rfl
theorem uw_lo {p1 z1 n1 : Nat} {ys : List (List L)} {q0 e z : Nat} {xs sp : List (List L)} : uwP p1 z1 n1 ys (.lst (.own q0 e) z xs sp) = if (q0 == p1) = true then (if z = z1 ∧ xs.length = n1 then .lst (.own q0 e) z ys [] else .undef) else (.lst (.own q0 e) z xs sp) := rfl
theorem uw_lv {p1 z1 n1 : Nat} {ys : List (List L)} {q0 z : Nat} {xs sp : List (List L)} : uwP p1 z1 n1 ys (.lst (.vw q0) z xs sp) = if (q0 == p1) = true then .undef else (.lst (.vw q0) z xs sp) := rfl
theorem uw_t {p1 z1 n1 : Nat} {ys : List (List L)} {c0 o T : Nat} : uwP p1 z1 n1 ys (.tptr c0 o T) = (.tptr c0 o T) := rfl
theorem uw_it {p1 z1 n1 : Nat} {ys : List (List L)} {q0 i0 : Nat} {s : ByteArray} : uwP p1 z1 n1 ys (.it q0 s i0) = if (q0 == p1) = true then .undef else (.it q0 s i0) := rfl
theorem uw_g {p1 z1 n1 : Nat} {ys : List (List L)} {g o : Nat} : uwP p1 z1 n1 ys (.gl g o) = (.gl g o) := rfl
theorem uw_fn {p1 z1 n1 : Nat} {ys : List (List L)} {f0 : Nat} {a b : List L} : uwP p1 z1 n1 ys (.fn f0 a b) = (.fn f0 a b) := rfl
theorem uw_sl {p1 z1 n1 : Nat} {ys : List (List L)} {c0 o z l cp : Nat} : uwP p1 z1 n1 ys (.sl c0 o z l cp) = (.sl c0 o z l cp) := rfl
theorem uw_er {p1 z1 n1 : Nat} {ys : List (List L)} {z j o : Nat} {xs sp : List (List L)} : uwP p1 z1 n1 ys (.ep .ro z xs sp j o) = (.ep .ro z xs sp j o) := rfl
theorem uw_en {p1 z1 n1 : Nat} {ys : List (List L)} {z j o : Nat} {xs sp : List (List L)} : uwP p1 z1 n1 ys (.ep .nl z xs sp j o) = (.ep .nl z xs sp j o) := rfl
theorem uw_eo {p1 z1 n1 : Nat} {ys : List (List L)} {q0 e z j o : Nat} {xs sp : List (List L)} : uwP p1 z1 n1 ys (.ep (.own q0 e) z xs sp j o) = if (q0 == p1) = true then .undef else (.ep (.own q0 e) z xs sp j o) := rfl
theorem uw_ev {p1 z1 n1 : Nat} {ys : List (List L)} {q0 z j o : Nat} {xs sp : List (List L)} : uwP p1 z1 n1 ys (.ep (.vw q0) z xs sp j o) = if (q0 == p1) = true then .undef else (.ep (.vw q0) z xs sp j o) := rfl
theorem kf_n {c : Nat} {r : PV} {x : L} : kf c none r x = killCl c x := rfl
theorem kf_s {c t : Nat} {r : PV} {x : L} : kf c (some t) r x = if ownsV r = true then killPs [plT t 0, plT t 1, plT t 2] (killCl c x) else killCl c x := rfl
theorem cp_st {m : Nat} {tm : List (Nat × PV)} {ce : List (Nat × List L)} {c : Nat} {cs : List L} {d : Option Nat} {r : PV} : callpSt ⟨m, tm, ce⟩ c cs d r = ⟨m, mapSnd (mapL (kf c d r)) tm, (c, cs.map (fromC c)) :: del (mapSnd (List.map (kf c d r)) ce) c⟩ := rfl
theorem pl_nn  : pureL [] [] = true := rfl
theorem pO_tt {t c o T : Nat} {r : List (Nat × PV)} : ptrsOf ((t, .lf (.tptr c o T)) :: r) = c :: ptrsOf r := rfl
theorem pO_it {t q i : Nat} {s : ByteArray} {r : List (Nat × PV)} : ptrsOf ((t, .lf (.it q s i)) :: r) = ptrsOf r := rfl
theorem pO_g {t g o : Nat} {r : List (Nat × PV)} : ptrsOf ((t, .lf (.gl g o)) :: r) = ptrsOf r := rfl
theorem pO_fn {t f : Nat} {a b : List L} {r : List (Nat × PV)} : ptrsOf ((t, .lf (.fn f a b)) :: r) = ptrsOf r := rfl
theorem e_asg_t {m : Nat} {tm : List (Nat × PV)} {ce : List (Nat × List L)} {e n d : Nat} {c0 o T : Nat} : St.asg ⟨m, tm, ce⟩ e n (some d) (.lf (.tptr c0 o T)) = ⟨m, (d, .lf (.tptr c0 o T)) :: tm, ce⟩ := rfl
theorem st_t1 {m : Nat} {tm : List (Nat × PV)} {ce : List (Nat × List L)} {c off : Nat} {cs : List L} {c0 o T : Nat} : St.stC ⟨m, tm, ce⟩ c off cs (.lf (.tptr c0 o T)) = ⟨m, tm, (c, fillL cs off [(.tptr c0 o T)]) :: del ce c⟩ := rfl
theorem nO_t0 {c0 o T : Nat} : notOwn (.lf (.tptr c0 o T)) = true := rfl
theorem dw_t0 {σ : St} {r : List L} {c0 o T : Nat} : St.down σ ((.tptr c0 o T) :: r) = St.down σ r := rfl
theorem e_asg_it {m : Nat} {tm : List (Nat × PV)} {ce : List (Nat × List L)} {e n d : Nat} {q0 i0 : Nat} {s : ByteArray} : St.asg ⟨m, tm, ce⟩ e n (some d) (.lf (.it q0 s i0)) = ⟨m, (d, .lf (.it q0 s i0)) :: tm, ce⟩ := rfl
theorem st_it1 {m : Nat} {tm : List (Nat × PV)} {ce : List (Nat × List L)} {c off : Nat} {cs : List L} {q0 i0 : Nat} {s : ByteArray} : St.stC ⟨m, tm, ce⟩ c off cs (.lf (.it q0 s i0)) = ⟨m, tm, (c, fillL cs off [(.it q0 s i0)]) :: del ce c⟩ := rfl
theorem nO_it0 {q0 i0 : Nat} {s : ByteArray} : notOwn (.lf (.it q0 s i0)) = true := rfl
theorem dw_it0 {σ : St} {r : List L} {q0 i0 : Nat} {s : ByteArray} : St.down σ ((.it q0 s i0) :: r) = St.down σ r := rfl
theorem e_asg_g {m : Nat} {tm : List (Nat × PV)} {ce : List (Nat × List L)} {e n d : Nat} {g o : Nat} : St.asg ⟨m, tm, ce⟩ e n (some d) (.lf (.gl g o)) = ⟨m, (d, .lf (.gl g o)) :: tm, ce⟩ := rfl
theorem st_g1 {m : Nat} {tm : List (Nat × PV)} {ce : List (Nat × List L)} {c off : Nat} {cs : List L} {g o : Nat} : St.stC ⟨m, tm, ce⟩ c off cs (.lf (.gl g o)) = ⟨m, tm, (c, fillL cs off [(.gl g o)]) :: del ce c⟩ := rfl
theorem nO_g0 {g o : Nat} : notOwn (.lf (.gl g o)) = true := rfl
theorem dw_g0 {σ : St} {r : List L} {g o : Nat} : St.down σ ((.gl g o) :: r) = St.down σ r := rfl
theorem e_asg_fn {m : Nat} {tm : List (Nat × PV)} {ce : List (Nat × List L)} {e n d : Nat} {f0 : Nat} {a b : List L} : St.asg ⟨m, tm, ce⟩ e n (some d) (.lf (.fn f0 a b)) = ⟨m, (d, .lf (.fn f0 a b)) :: tm, ce⟩ := rfl
theorem st_fn1 {m : Nat} {tm : List (Nat × PV)} {ce : List (Nat × List L)} {c off : Nat} {cs : List L} {f0 : Nat} {a b : List L} : St.stC ⟨m, tm, ce⟩ c off cs (.lf (.fn f0 a b)) = ⟨m, tm, (c, fillL cs off [(.fn f0 a b)]) :: del ce c⟩ := rfl
theorem nO_fn0 {f0 : Nat} {a b : List L} : notOwn (.lf (.fn f0 a b)) = true := rfl
theorem dw_fn0 {σ : St} {r : List L} {f0 : Nat} {a b : List L} : St.down σ ((.fn f0 a b) :: r) = St.down σ r := rfl
theorem e_asg_sl {m : Nat} {tm : List (Nat × PV)} {ce : List (Nat × List L)} {e n d : Nat} {c0 o z l cp : Nat} : St.asg ⟨m, tm, ce⟩ e n (some d) (.lf (.sl c0 o z l cp)) = ⟨m, (d, .lf (.sl c0 o z l cp)) :: tm, ce⟩ := rfl
theorem st_sl1 {m : Nat} {tm : List (Nat × PV)} {ce : List (Nat × List L)} {c off : Nat} {cs : List L} {c0 o z l cp : Nat} : St.stC ⟨m, tm, ce⟩ c off cs (.lf (.sl c0 o z l cp)) = ⟨m, tm, (c, fillL cs off [(.sl c0 o z l cp)]) :: del ce c⟩ := rfl
theorem nO_sl0 {c0 o z l cp : Nat} : notOwn (.lf (.sl c0 o z l cp)) = true := rfl
theorem dw_sl0 {σ : St} {r : List L} {c0 o z l cp : Nat} : St.down σ ((.sl c0 o z l cp) :: r) = St.down σ r := rfl
theorem e_asg_p0 {m : Nat} {tm : List (Nat × PV)} {ce : List (Nat × List L)} {e n d : Nat} {c0 o : Nat} : St.asg ⟨m, tm, ce⟩ e n (some d) (.lf (.ptr c0 o)) = ⟨m, (d, .lf (.ptr c0 o)) :: tm, ce⟩ := rfl
theorem st_p1 {m : Nat} {tm : List (Nat × PV)} {ce : List (Nat × List L)} {c off : Nat} {cs : List L} {c0 o : Nat} : St.stC ⟨m, tm, ce⟩ c off cs (.lf (.ptr c0 o)) = ⟨m, tm, (c, fillL cs off [(.ptr c0 o)]) :: del ce c⟩ := rfl
theorem nO_p0 {c0 o : Nat} : notOwn (.lf (.ptr c0 o)) = true := rfl
theorem dw_p0 {σ : St} {r : List L} {c0 o : Nat} : St.down σ ((.ptr c0 o) :: r) = St.down σ r := rfl
theorem pc_sl {c o z l cp : Nat} : ptrC (.lf (.sl c o z l cp)) = some c := rfl
theorem pO_sl {t c o z l cp : Nat} {r : List (Nat × PV)} : ptrsOf ((t, .lf (.sl c o z l cp)) :: r) = c :: ptrsOf r := rfl
theorem nP_sl {c o z l cp : Nat} : noPl (.sl c o z l cp) = true := rfl
theorem pc_p {c o : Nat} : ptrC (.lf (.ptr c o)) = some c := rfl
theorem pc_t {c o T : Nat} : ptrC (.lf (.tptr c o T)) = some c := rfl
/-! the new operations -/
section
variable {P : Program} {σ : St} {K : St → Prop} {d : Option Nat}
theorem o_alt {c T : Nat} {zero : List L} : wop X P σ (some c) (.alt T zero) K = (σ.m ≤ c ∧ K { m := σ.m, tm := (c, .lf (.tptr c 0 T)) :: (σ.mapAll (killC c)).tm, ce := (c, zero) :: del (σ.mapAll (killC c)).ce c }) := rfl
theorem o_bad : wop X P σ d .bad K = False := rfl
def rngK (σ : St) (t : Nat) (K : St → Prop) : PV → Prop
  | .lf (.str s) => K ((σ.mapAll (killP (plT t 0))).put (some t) (.lf (.it (plT t 0) s 0)))
  | _ => False
theorem o_rng {t : Nat} {x : AO} : wop X P σ (some t) (.rng x) K = rngK σ t K (σ.ev x) := by
  simp only [wop, rngK]
  generalize σ.ev x = v
  rcases v with x | _ | _ <;> try rfl
  cases x <;> rfl
theorem v_rng {t : Nat} {s : ByteArray} : rngK σ t K (.lf (.str s)) = K ((σ.mapAll (killP (plT t 0))).put (some t) (.lf (.it (plT t 0) s 0))) := rfl
def nxtK (σ : St) (d : Option Nat) (K : St → Prop) (x : PV) : Prop :=
  match x with
  | .lf (.it p s i) => if i < s.size then K ((σ.mapAll (itP p (i + (Utf8.decode s i).2))).put d (.tp [.lf (.bool true), .lf (.int .i64 i), .lf (.int .i32 (Utf8.decode s i).1)])) else K (σ.put d (.tp [.lf (.bool false)]))
  | _ => False
theorem o_nxt {x : AO} : wop X P σ d (.nxt x) K = nxtK σ d K (σ.ev x) := by
  simp only [wop, nxtK]
  generalize σ.ev x = v
  split
  · rename_i p s i
    simp only
    apply propext
    constructor
    · rintro ⟨h1, h2⟩
      split
      · exact h1 (by assumption)
      · exact h2 (by omega)
    · intro h
      constructor
      · intro hlt; rwa [if_pos hlt] at h
      · intro hle; rwa [if_neg (by omega)] at h
  · rename_i h
    split
    · exact absurd rfl (h _ _ _)
    · rfl
theorem v_nxt {p i : Nat} {s : ByteArray} : nxtK σ d K (.lf (.it p s i)) = if i < s.size then K ((σ.mapAll (itP p (i + (Utf8.decode s i).2))).put d (.tp [.lf (.bool true), .lf (.int .i64 i), .lf (.int .i32 (Utf8.decode s i).1)])) else K (σ.put d (.tp [.lf (.bool false)])) := rfl
def peqK (neg : Bool) (K : PV → Prop) (x y : PV) : Prop :=
  match x, y with
  | .lf .nilp, .lf .nilp => K (.lf (.bool !neg))
  | .lf (.tptr _ _ _), .lf .nilp => K (.lf (.bool neg))
  | .lf (.ptr _ _), .lf .nilp => K (.lf (.bool neg))
  | .lf (.tptr c o _), .lf (.tptr c' o' _) => c = c' ∧ o = o' ∧ K (.lf (.bool !neg))
  | _, _ => False
theorem o_peq {neg : Bool} {x y : AO} : wop X P σ d (.peq neg x y) K = peqK neg (putK σ d K) (σ.ev x) (σ.ev y) := rfl
theorem v_peq_nn {neg : Bool} {K : PV → Prop} : peqK neg K (.lf .nilp) (.lf .nilp) = K (.lf (.bool !neg)) := rfl
theorem v_peq_tn {neg : Bool} {c o T : Nat} {K : PV → Prop} : peqK neg K (.lf (.tptr c o T)) (.lf .nilp) = K (.lf (.bool neg)) := rfl
theorem v_peq_pn {neg : Bool} {c o : Nat} {K : PV → Prop} : peqK neg K (.lf (.ptr c o)) (.lf .nilp) = K (.lf (.bool neg)) := rfl
theorem v_peq_tt {neg : Bool} {c o T c' o' T' : Nat} {K : PV → Prop} : peqK neg K (.lf (.tptr c o T)) (.lf (.tptr c' o' T')) = (c = c' ∧ o = o' ∧ K (.lf (.bool !neg))) := rfl
def p2uK (o : Nat) (K : PV → Prop) (v : PV) : Option (List L) → Prop
  | some cs => o < cs.length ∧ K v
  | none => False
def p2uX (σ : St) (K : PV → Prop) (x : PV) : Prop :=
  match x with
  | .lf (.tptr c o T) => p2uK o K (.lf (.tptr c o T)) (get σ.ce c)
  | _ => False
theorem o_p2u {x : AO} : wop X P σ d (.p2u x) K = p2uX σ (putK σ d K) (σ.ev x) := by
  simp only [wop, p2uX]
  generalize σ.ev x = v
  split
  · rename_i c o T
    cases h : Go.Proofs.YthcpaohmajjopaaDoor.AM.get σ.ce c <;> simp [p2uK, h, putK]
  · rename_i h
    split
    · exact absurd rfl (h _ _ _)
    · rfl
theorem v_p2u {c o T : Nat} {K : PV → Prop} : p2uX σ K (.lf (.tptr c o T)) = p2uK o K (.lf (.tptr c o T)) (get σ.ce c) := rfl
theorem v_p2uK {o : Nat} {K : PV → Prop} {v : PV} {cs : List L} : p2uK o K v (some cs) = (o < cs.length ∧ K v) := rfl
def u2pK (P : Program) (T o u : Nat) (K : PV → Prop) (v : PV) : Option (List L) → Prop
  | some cs => liesAt P P.depth T (cs.length / P.cellsOf T) o u 1 = true ∧ K v
  | none => False
def u2pX (P : Program) (u : Nat) (σ : St) (K : PV → Prop) (x : PV) : Prop :=
  match x with
  | .lf (.tptr c o T) => u2pK P T o u K (.lf (.tptr c o T)) (get σ.ce c)
  | _ => False
theorem o_u2p {u : Nat} {x : AO} : wop X P σ d (.u2p u x) K = u2pX P u σ (putK σ d K) (σ.ev x) := by
  simp only [wop, u2pX]
  generalize σ.ev x = v
  split
  · rename_i c o T
    cases h : Go.Proofs.YthcpaohmajjopaaDoor.AM.get σ.ce c <;> simp [u2pK, h, putK]
  · rename_i h
    split
    · exact absurd rfl (h _ _ _)
    · rfl
theorem v_u2p {c o T u : Nat} {K : PV → Prop} : u2pX P u σ K (.lf (.tptr c o T)) = u2pK P T o u K (.lf (.tptr c o T)) (get σ.ce c) := rfl
theorem v_u2pK {T o u : Nat} {K : PV → Prop} {v : PV} {cs : List L} : u2pK P T o u K v (some cs) = (liesAt P P.depth T (cs.length / P.cellsOf T) o u 1 = true ∧ K v) := rfl
def exK (K : PV → Prop) : Option PV → Prop
  | some v => K v
  | none => False
theorem o_ex {k : Nat} {args : List AO} : wop X P σ d (.ex k args) K = exK (putK σ d K) (exV k (args.map σ.ev)) := by
  simp only [wop]
  cases exV k (args.map σ.ev) <;> simp [exK, putK]
theorem v_exK {K : PV → Prop} {v : PV} : exK K (some v) = K v := rfl
theorem v_ex0 {x : PV} : exV 0 [x] = some x := rfl
theorem v_ex1 {s : ByteArray} {c : Int} : exV 1 [.lf (.str s), .lf (.int .u8 c)] = some (.lf (.int .i64 (Lib.countByte s.data.toList c.toNat.toUInt8 : Nat))) := rfl
theorem v_ex2 {s : ByteArray} {c : Int} : exV 2 [.lf (.str s), .lf (.int .u8 c)] = some (.lf (.int .i64 (Lib.indexByte s.data.toList c.toNat.toUInt8))) := rfl
def usdK (K : PV → Prop) (x : PV) : Prop :=
  match x with
  | .lf (.lst t sz xs sp) => 0 < xs.length ∧ K (.lf (.ep t sz xs sp 0 0))
  | _ => False
theorem o_usd {x : AO} : wop X P σ d (.usd x) K = usdK (putK σ d K) (σ.ev x) := rfl
theorem v_usd {t : Tag} {sz : Nat} {xs sp : List (List L)} {K : PV → Prop} : usdK K (.lf (.lst t sz xs sp)) = (0 < xs.length ∧ K (.lf (.ep t sz xs sp 0 0))) := rfl
/-- Bytes, as elements. -/
def ub (l : List UInt8) : List (List L) := l.map fun b => [.int .u8 b.toNat]
theorem ub_len {l : List UInt8} : (ub l).length = l.length := by simp [ub]
theorem ub_app {a b : List UInt8} : ub a ++ ub b = ub (a ++ b) := by simp [ub]
theorem ub_snoc {a : List UInt8} {b : UInt8} : ub a ++ [[.int .u8 b.toNat]] = ub (a ++ [b]) := by simp [ub]
theorem ub_str {s : ByteArray} : (s.data.toList.map fun b => [L.int .u8 b.toNat]) = ub s.data.toList := rfl
theorem strOfNums_ub (l : List UInt8) : strOfNums (l.map fun b => (b.toNat : Int)) = ⟨l.toArray⟩ := by
  have : (l.map fun b => (b.toNat : Int)).map (fun n => UInt8.ofNat n.toNat) = l := by
    rw [List.map_map]
    conv => rhs; rw [← List.map_id l]
    apply List.map_congr_left
    intro b _
    simp
  simp only [strOfNums, this]
theorem v_cbs_ub {t : Tag} {sz : Nat} {l : List UInt8} {sp : List (List L)} {K : PV → Prop} : cbsK K (.lf (.lst t sz (ub l) sp)) = K (.lf (.str ⟨l.toArray⟩)) := by
  have : ub l = u8s (l.map fun b => (b.toNat : Int)) := by simp [ub, u8s]
  rw [this, v_cbs8, strOfNums_ub]
def ustK (σ : St) (e : Nat) (d : Option Nat) (K : St → Prop) (x n : PV) : Prop :=
  match x, n with
  | .lf (.ep (.own p e') 1 xs _ 0 0), .lf (.int .i64 n) => e' = e ∧ n = xs.length ∧ ∃ ns : List Int, xs = ns.map (fun n => [.int .u8 n]) ∧ (∀ n ∈ ns, 0 ≤ n ∧ n ≤ 255) ∧ K ((σ.mapAll (killP p)).put d (.lf (.str (strOfNums ns))))
  | _, _ => False
theorem o_ust {e : Nat} {x n : AO} : wop X P σ d (.ust e x n) K = ustK σ e d K (σ.ev x) (σ.ev n) := rfl
theorem v_ust {e p e' : Nat} {l : List UInt8} {sp : List (List L)} {n : Int} : ustK σ e d K (.lf (.ep (.own p e') 1 (ub l) sp 0 0)) (.lf (.int .i64 n)) = (e' = e ∧ n = (l.length : Int) ∧ K ((σ.mapAll (killP p)).put d (.lf (.str ⟨l.toArray⟩)))) := by
  simp only [ustK, ub_len]
  apply propext
  refine and_congr_right fun _ => and_congr_right fun _ => ?_
  constructor
  · rintro ⟨ns, h1, h2, h3⟩
    have : ns = l.map fun b => (b.toNat : Int) := by
      have h4 : ub l = u8s (l.map fun b => (b.toNat : Int)) := by simp [ub, u8s]
      rw [h4] at h1
      exact (u8s_inj (ys := ns) h1).symm
    rw [this, strOfNums_ub] at h3
    exact h3
  · intro h
    refine ⟨l.map fun b => (b.toNat : Int), by simp [ub], fun n hn => ?_, by rw [strOfNums_ub]; exact h⟩
    obtain ⟨b, _, rfl⟩ := List.mem_map.1 hn
    have := b.toNat_lt
    omega
def mmK (mx : Bool) (K : PV → Prop) (x y : PV) : Prop :=
  match x, y with
  | .lf (.int k a), .lf (.int k' b) => k = k' ∧ K (.lf (.int k (if mx then max a b else min a b)))
  | _, _ => False
theorem o_mm {mx : Bool} {x y : AO} : wop X P σ d (.mm mx x y) K = mmK mx (putK σ d K) (σ.ev x) (σ.ev y) := rfl
theorem v_mm {mx : Bool} {k k' : IntKind} {a b : Int} {K : PV → Prop} : mmK mx K (.lf (.int k a)) (.lf (.int k' b)) = (k = k' ∧ K (.lf (.int k (if mx = true then max a b else min a b)))) := rfl
def mkfK (σ : St) (f : Nat) (d : Option Nat) (K : St → Prop) (x y : Option (List L)) : Prop :=
  match x, y with
  | some as, some bs => as.all capL = true ∧ bs.all capL = true ∧ K ((σ.down (as ++ bs)).put d (.lf (.fn f (as.map roC) (bs.map roC))))
  | _, _ => False
theorem o_mkf {f : Nat} {a b : List AO} : wop X P σ d (.mkf f a b) K = mkfK σ f d K (leafs1 (a.map σ.ev)) (leafs1 (b.map σ.ev)) := by
  simp only [wop]
  cases leafs1 (a.map σ.ev) <;> cases leafs1 (b.map σ.ev) <;> simp [mkfK]
theorem v_mkf {f : Nat} {as bs : List L} : mkfK σ f d K (some as) (some bs) = (as.all capL = true ∧ bs.all capL = true ∧ K ((σ.down (as ++ bs)).put d (.lf (.fn f (as.map roC) (bs.map roC))))) := rfl
theorem v_lf_n : leafs1 [] = some [] := rfl
theorem v_lf_c {x : L} {r : List PV} : leafs1 (.lf x :: r) = (leafs1 r).map fun l => x :: l := rfl
/-- A call of a function value. -/
def wcald (X : Cx) (P : Program) (x : PV) (args : List PV) (ls : List L) (σ : St) (d : Option Nat) (K : St → Prop) : Prop :=
  match x with
  | .lf (.fn f a b) => fnOK P f = true ∧ pureL a b = true ∧ ∃ r, R X P f (a.map (fun x => .lf x) ++ args ++ b.map (fun x => .lf x)) [] r [] ∧ resOK r = true ∧ K (((σ.down ls).clr d r).put d (outV d r))
  | _ => False
theorem o_cald {x : AO} {args : List AO} : wop X P σ d (.cald x args) K = wcald X P (σ.ev x) (args.map fun x => mapL roL (σ.ev x)) (args.flatMap fun x => (σ.ev x).leaves) σ d K := rfl
theorem wcald_i {P : Program} {σ : St} {d : Option Nat} {K : St → Prop} {f : Nat} {a b : List L} {args : List PV} {ls : List L} {r : PV} (hf : fnOK P f = true) (hp : pureL a b = true) (h : R X P f (a.map (fun x => .lf x) ++ args ++ b.map (fun x => .lf x)) [] r []) (h1 : resOK r = true) (h3 : K (((σ.down ls).clr d r).put d (outV d r))) :
    wcald X P (.lf (.fn f a b)) args ls σ d K := ⟨hf, hp, r, h, h1, h3⟩
/-- Nothing is taken as given. -/
def cx0 : Cx := ⟨fun _ => none⟩
theorem cx0_ok (E : Env) (w : World) : CxOK cx0 E w := fun g cs h => by cases h
theorem one_0 : oneOf [] = .tp [] := rfl
theorem ub_nil : ([] : List (List L)) = ub [] := rfl
theorem ba_size {l : List UInt8} : (ByteArray.mk l.toArray).size = l.length := by simp [ByteArray.size]
theorem ba_ext {t : ByteArray} {a b : Nat} : (t.extract a b).data.toList = (t.data.toList.take b).drop a := by
  simp [ByteArray.data_extract, List.extract_eq_take_drop, List.drop_take]
theorem size_len (t : ByteArray) : t.data.toList.length = t.size := by simp
theorem rk_it {q p q0 i0 : Nat} {s : ByteArray} : renK q p (.it q0 s i0) = if (q0 == p) = true then .undef else if (q0 == q) = true then .it p s i0 else .it q0 s i0 := by
  simp only [renK, killP]
  by_cases h1 : (q0 == p) = true <;> by_cases h2 : (q0 == q) = true <;> simp [h1, h2, renP]
theorem v_bx_l {σ : St} {c : Nat} {K : St → Prop} {v : L} : bxK σ c K (.lf v) = (σ.m ≤ c ∧ cellL v = true ∧ K { m := σ.m, tm := (c, .lf (.ptr c 0)) :: (σ.mapAll (killC c)).tm, ce := (c, [killC c v]) :: del (σ.mapAll (killC c)).ce c }) := rfl
theorem v_bx_a {σ : St} {c : Nat} {K : St → Prop} {vs : List L} : bxK σ c K (.ag vs) = (σ.m ≤ c ∧ K { m := σ.m, tm := (c, .lf (.ptr c 0)) :: (σ.mapAll (killC c)).tm, ce := (c, vs.map (killC c)) :: del (σ.mapAll (killC c)).ce c }) := rfl
/-! a region that draws, with one call that writes -/
def detKK (X : Cx) (P : Program) (d : Option Nat) (os : List AOper) (K : St → Prop) (σ : St) : Prop := detD σ d = true ∧ wopsk X P os σ K
def drwL (X : Cx) (P : Program) (d : Option Nat) (rest : List AOper) (K : St → Prop) (σ : St) : Prop := detD σ d = true ∧ wops X P rest σ K
def drwE (X : Cx) (P : Program) (d : Option Nat) (f ip : Nat) (args : List AO) (rest : List AOper) (K : St → Prop) (c : Nat) (cs : List L) (σ : St) : Prop :=
  callArg ip args σ = some c ∧ (args.flatMap fun x => (σ.ev x).leaves).all noPl = true ∧ wop X P { m := σ.m, tm := σ.tm, ce := (c, cs) :: σ.ce } d (.callp f ip args) (drwL X P d rest K)
def drwM (X : Cx) (P : Program) (hd : List AOper) (σ : St) (d : Option Nat) (f ip : Nat) (args : List AO) (rest : List AOper) (K : St → Prop) (c : Nat) : Option (List L) → Prop
  | some cs => wopsk X P hd (σ.cutc c) (drwE X P d f ip args rest K c cs)
  | none => False
def drwK (X : Cx) (P : Program) (hd : List AOper) (σ : St) (d : Option Nat) (f ip : Nat) (args : List AO) (rest : List AOper) (K : St → Prop) : Option Nat → Prop
  | some c => drwM X P hd σ d f ip args rest K c (get σ.ce c)
  | none => False
theorem s_drw {Q : Out → St → Prop} {src : AO} {hd tl : List AOper} {keep : List Nat} : awp X P (.drw src hd tl keep) Q σ = wdrw X P src hd σ (opsK keep Q) tl := rfl
theorem s_drwc {src : AO} {hd rest : List AOper} {f ip : Nat} {args : List AO} {g : Option (Nat × Bool)} : wdrw X P src hd σ K (⟨d, .callp f ip args, g⟩ :: rest) = drwK X P hd σ d f ip args rest K (ptrC (σ.ev src)) := by
  simp only [wdrw, drwK]
  cases ptrC (σ.ev src) with
  | none => rfl
  | some c =>
    cases h : get σ.ce c with
    | none => simp [drwM, h]
    | some cs => simp only [drwM, h, Option.some.injEq]; simp only [exists_eq_left']; rfl
theorem s_drwK {hd rest : List AOper} {f ip c : Nat} {args : List AO} : drwK X P hd σ d f ip args rest K (some c) = drwM X P hd σ d f ip args rest K c (get σ.ce c) := rfl
theorem s_drwM {hd rest : List AOper} {f ip c : Nat} {args : List AO} {cs : List L} : drwM X P hd σ d f ip args rest K c (some cs) = wopsk X P hd (σ.cutc c) (drwE X P d f ip args rest K c cs) := rfl
theorem s_kn : wopsk X P [] σ K = K σ := rfl
theorem s_kc {op : AOp} {g : Option (Nat × Bool)} {os : List AOper} : wopsk X P (⟨d, op, g⟩ :: os) σ K = wop X P σ d op (detKK X P d os K) := rfl
theorem s_kK {os : List AOper} : detKK X P d os K σ = (detD σ d = true ∧ wopsk X P os σ K) := rfl
theorem s_drwE {f ip c : Nat} {args : List AO} {rest : List AOper} {cs : List L} : drwE X P d f ip args rest K c cs σ = (callArg ip args σ = some c ∧ (args.flatMap fun x => (σ.ev x).leaves).all noPl = true ∧ wop X P { m := σ.m, tm := σ.tm, ce := (c, cs) :: σ.ce } d (.callp f ip args) (drwL X P d rest K)) := rfl
theorem s_drwL {rest : List AOper} : drwL X P d rest K σ = (detD σ d = true ∧ wops X P rest σ K) := rfl
theorem ct_st {m : Nat} {tm : List (Nat × PV)} {ce : List (Nat × List L)} {c : Nat} : St.cutc ⟨m, tm, ce⟩ c = ⟨m, mapSnd (mapL (killCl c)) tm, del (mapSnd (List.map (killCl c)) ce) c⟩ := rfl
theorem cA_0 {x : AO} {r : List AO} : callArg 0 (x :: r) σ = ptrC (σ.ev x) := rfl
theorem cA_1 {y x : AO} {r : List AO} : callArg 1 (y :: x :: r) σ = ptrC (σ.ev x) := rfl
theorem dD_s {t : Nat} : detD σ (some t) = detG (get σ.tm t) := rfl
theorem dG_s {v : PV} : detG (some v) = detK v := rfl
theorem dK_b {b : Bool} : detK (.lf (.bool b)) = true := rfl
theorem dK_i {k : IntKind} {n : Int} : detK (.lf (.int k n)) = true := rfl
theorem dK_s {s : ByteArray} : detK (.lf (.str s)) = true := rfl
theorem dK_np : detK (.lf .nilp) = true := rfl
theorem dK_ni : detK (.lf .nili) = true := rfl
theorem dK_p {c o : Nat} : detK (.lf (.ptr c o)) = true := rfl
theorem nP_b {b : Bool} : noPl (.bool b) = true := rfl
theorem nP_i {k : IntKind} {n : Int} : noPl (.int k n) = true := rfl
theorem nP_s {s : ByteArray} : noPl (.str s) = true := rfl
theorem nP_np : noPl .nilp = true := rfl
theorem nP_p {c o : Nat} : noPl (.ptr c o) = true := rfl
theorem nP_t {c o T : Nat} : noPl (.tptr c o T) = true := rfl
theorem rg_1 : List.range 1 = [0] := rfl
theorem lv_rep {m k : Nat} {ρ : List (Nat × Nat)} {dn : List Nat} : leavesTo m ρ dn (List.replicate k .undef) (List.replicate k .undef) = True := by
  refine eq_true ?_
  induction k with
  | zero => exact trivial
  | succ k ih => exact ⟨trivial, ih⟩
/-! a region that draws, then a row of whatever it may be -/
def grdK (X : Cx) (P : Program) (cs : List Nat) (os : List AOper) (σf : St) (d : Option Nat) (K : St → Prop) (σ : St) : Prop := goodD cs σ d = true ∧ wopsg X P cs os σ (σf.put d (evD σ d)) K
def rowF (m : Nat) (K : St → Prop) (σ : St) : Prop := σ.m = m ∧ K σ
def rowK (X : Cx) (P : Program) (σ0 : St) (ts : List Nat) (os : List AOper) (K : St → Prop) (σ : St) : Prop := σ.m = σ0.m ∧ keepS σ0 σ ts ∧ wopsr X P σ0 ts os σ K
def gdrE (X : Cx) (P : Program) (σ0 : St) (ts : List Nat) (tl : List AOper) (K : St → Prop) (σ : St) : Prop := wopsr X P σ0 ts tl σ K
theorem s_gdr {Q : Out → St → Prop} {ts : List Nat} {hd tl : List AOper} {keep : List Nat} : awp X P (.gdr ts hd tl keep) Q σ = (fixC (cellsAt σ (ptrsAt σ ts)) = true ∧ wopsg X P (ptrsAt σ ts) hd (σ.cutg (ptrsAt σ ts)) σ (gdrE X P σ ts tl (opsK keep Q))) := rfl
theorem s_gn {cs : List Nat} {σf : St} : wopsg X P cs [] σ σf K = K σf := rfl
def gmvK (X : Cx) (P : Program) (cs : List Nat) (d : Option Nat) (op : AOp) (os : List AOper) (σ σf : St) (K : St → Prop) : Option AO → Prop
  | some x => wopsg X P cs os (σ.put d (cutG cs (σ.ev x))) (σf.put d (σf.ev x)) K
  | none => wop X P σ d op (grdK X P cs os σf d K)
theorem s_gc {cs : List Nat} {σf : St} {op : AOp} {g : Option (Nat × Bool)} {os : List AOper} : wopsg X P cs (⟨d, op, g⟩ :: os) σ σf K = gmvK X P cs d op os σ σf K (mvOf op) := by
  simp only [wopsg, gmvK]
  split <;> rename_i h <;> simp only [h] <;> rfl
theorem s_gms {cs : List Nat} {σf : St} {op : AOp} {os : List AOper} {x : AO} : gmvK X P cs d op os σ σf K (some x) = wopsg X P cs os (σ.put d (cutG cs (σ.ev x))) (σf.put d (σf.ev x)) K := rfl
theorem s_gmn {cs : List Nat} {σf : St} {op : AOp} {os : List AOper} : gmvK X P cs d op os σ σf K none = wop X P σ d op (grdK X P cs os σf d K) := rfl
theorem mo_mv {x : AO} : mvOf (.mv x) = some x := rfl
theorem mo_bin {op : BinOp} {x y : AO} : mvOf (.bin op x y) = none := rfl
theorem mo_cvi {k : IntKind} {x : AO} : mvOf (.cvi k x) = none := rfl
theorem mo_fa {x : AO} {n : Nat} : mvOf (.fa x n) = none := rfl
theorem mo_iaa {x i : AO} {l n : Nat} : mvOf (.iaa x i l n) = none := rfl
theorem mo_ld {x : AO} {n : Nat} {a : Bool} : mvOf (.ld x n a) = none := rfl
theorem mo_nc {x : AO} : mvOf (.nc x) = none := rfl
theorem s_gK {cs : List Nat} {σf : St} {os : List AOper} : grdK X P cs os σf d K σ = (goodD cs σ d = true ∧ wopsg X P cs os σ (σf.put d (evD σ d)) K) := rfl
theorem s_gE {σ0 : St} {ts : List Nat} {tl : List AOper} : gdrE X P σ0 ts tl K σ = wopsr X P σ0 ts tl σ K := rfl
theorem s_r1 {σ0 : St} {ts : List Nat} {op : AOp} {g : Option (Nat × Bool)} : wopsr X P σ0 ts [⟨d, op, g⟩] σ K = wop X P σ d op (rowF σ0.m K) := rfl
theorem s_r2 {σ0 : St} {ts : List Nat} {op : AOp} {g : Option (Nat × Bool)} {o : AOper} {os : List AOper} : wopsr X P σ0 ts (⟨d, op, g⟩ :: o :: os) σ K = wop X P σ d op (rowK X P σ0 ts (o :: os) K) := rfl
theorem s_rF {m : Nat} : rowF m K σ = (σ.m = m ∧ K σ) := rfl
theorem s_rK {σ0 : St} {ts : List Nat} {os : List AOper} : rowK X P σ0 ts os K σ = (σ.m = σ0.m ∧ keepS σ0 σ ts ∧ wopsr X P σ0 ts os σ K) := rfl
theorem g_D {cs : List Nat} {t : Nat} : goodD cs σ (some t) = goodO cs (get σ.tm t) := rfl
theorem g_O {cs : List Nat} {v : PV} : goodO cs (some v) = goodV cs v := rfl
theorem g_b {cs : List Nat} {b : Bool} : goodV cs (.lf (.bool b)) = true := rfl
theorem g_i {cs : List Nat} {k : IntKind} {n : Int} : goodV cs (.lf (.int k n)) = true := rfl
theorem g_s {cs : List Nat} {s : ByteArray} : goodV cs (.lf (.str s)) = true := rfl
theorem g_np {cs : List Nat} : goodV cs (.lf .nilp) = true := rfl
theorem g_ni {cs : List Nat} : goodV cs (.lf .nili) = true := rfl
theorem g_p {cs : List Nat} {c o : Nat} : goodV cs (.lf (.ptr c o)) = cs.contains c := rfl
theorem g_ev {t : Nat} : evD σ (some t) = σ.ev (.t t) := rfl
theorem p_n : ptrsAt σ [] = [] := rfl
theorem p_c {t : Nat} {r : List Nat} : ptrsAt σ (t :: r) = pcons (ptr1 (get σ.tm t)) (ptrsAt σ r) := rfl
theorem p_cs {c : Nat} {r : List Nat} : pcons (some c) r = c :: r := rfl
theorem p_cn {r : List Nat} : pcons none r = r := rfl
theorem p_1 {c o : Nat} : ptr1 (some (.lf (.ptr c o))) = some c := rfl
theorem p_1t {c o T : Nat} : ptr1 (some (.lf (.tptr c o T))) = none := rfl
theorem p_1g {g o : Nat} : ptr1 (some (.lf (.gl g o))) = none := rfl
theorem p_1e {t : Tag} {z : Nat} {xs sp : List (List L)} {j o : Nat} : ptr1 (some (.lf (.ep t z xs sp j o))) = none := rfl
theorem p_1l {t : Tag} {z : Nat} {xs sp : List (List L)} : ptr1 (some (.lf (.lst t z xs sp))) = none := rfl
theorem p_1i {k : IntKind} {n : Int} : ptr1 (some (.lf (.int k n))) = none := rfl
theorem p_1s {s : ByteArray} : ptr1 (some (.lf (.str s))) = none := rfl
theorem p_1b {b : Bool} : ptr1 (some (.lf (.bool b))) = none := rfl
theorem p_1a {cs : List L} : ptr1 (some (.ag cs)) = none := rfl
theorem p_1u : ptr1 (some (.lf .undef)) = none := rfl
theorem p_1n : ptr1 none = none := rfl
theorem c_n : cellsAt σ [] = [] := rfl
theorem c_c {c : Nat} {r : List Nat} : cellsAt σ (c :: r) = ccons c (get σ.ce c) (cellsAt σ r) := rfl
theorem c_cs {c : Nat} {x : List L} {r : List (Nat × List L)} : ccons c (some x) r = (c, x) :: r := rfl
theorem c_cn {c : Nat} {r : List (Nat × List L)} : ccons c none r = r := rfl
theorem fx_n : fixC [] = true := rfl
theorem fx_c {c : Nat} {x : List L} {r : List (Nat × List L)} : fixC ((c, x) :: r) = (x.all fixL && fixC r) := rfl
theorem fx_b {b : Bool} : fixL (.bool b) = true := rfl
theorem fx_i {k : IntKind} {n : Int} : fixL (.int k n) = true := rfl
theorem fx_s {s : ByteArray} : fixL (.str s) = true := rfl
theorem fx_np : fixL .nilp = true := rfl
theorem fx_ni : fixL .nili = true := rfl
theorem fx_lr {z : Nat} {xs sp : List (List L)} : fixL (.lst .ro z xs sp) = true := rfl
theorem fx_ln {z : Nat} {xs sp : List (List L)} : fixL (.lst .nl z xs sp) = true := rfl
theorem cg_st {m : Nat} {tm : List (Nat × PV)} {ce : List (Nat × List L)} {cs : List Nat} : St.cutg ⟨m, tm, ce⟩ cs = ⟨m, mapSnd (cutG cs) tm, cellsAt ⟨m, tm, ce⟩ cs⟩ := rfl
theorem cg_b {cs : List Nat} {b : Bool} : cutG cs (.lf (.bool b)) = .lf (.bool b) := rfl
theorem cg_i {cs : List Nat} {k : IntKind} {n : Int} : cutG cs (.lf (.int k n)) = .lf (.int k n) := rfl
theorem cg_s {cs : List Nat} {s : ByteArray} : cutG cs (.lf (.str s)) = .lf (.str s) := rfl
theorem cg_np {cs : List Nat} : cutG cs (.lf .nilp) = .lf .nilp := rfl
theorem cg_ni {cs : List Nat} : cutG cs (.lf .nili) = .lf .nili := rfl
theorem cg_p {cs : List Nat} {c o : Nat} : cutG cs (.lf (.ptr c o)) = if cs.contains c = true then .lf (.ptr c o) else .lf .undef := rfl
theorem cg_u {cs : List Nat} : cutG cs (.lf .undef) = .lf .undef := rfl
theorem cg_no {cs : List Nat} : cutG cs (.lf .no) = .lf .undef := rfl
theorem cg_l {cs : List Nat} {t : Tag} {z : Nat} {xs sp : List (List L)} : cutG cs (.lf (.lst t z xs sp)) = .lf .undef := rfl
theorem cg_e {cs : List Nat} {t : Tag} {z : Nat} {xs sp : List (List L)} {j o : Nat} : cutG cs (.lf (.ep t z xs sp j o)) = .lf .undef := rfl
theorem cg_t {cs : List Nat} {c o T : Nat} : cutG cs (.lf (.tptr c o T)) = .lf .undef := rfl
theorem cg_f {cs : List Nat} {t : Nat} {v : L} : cutG cs (.lf (.iface t v)) = .lf .undef := rfl
theorem cg_it {cs : List Nat} {p i : Nat} {s : ByteArray} : cutG cs (.lf (.it p s i)) = .lf .undef := rfl
theorem cg_g {cs : List Nat} {g o : Nat} : cutG cs (.lf (.gl g o)) = .lf .undef := rfl
theorem cg_fn {cs : List Nat} {f : Nat} {a b : List L} : cutG cs (.lf (.fn f a b)) = .lf .undef := rfl
theorem cg_sl {cs : List Nat} {c o z l cp : Nat} : cutG cs (.lf (.sl c o z l cp)) = .lf .undef := rfl
theorem cg_a {cs : List Nat} {l : List L} : cutG cs (.ag l) = .lf .undef := rfl
theorem cg_tp {cs : List Nat} {l : List PV} : cutG cs (.tp l) = .lf .undef := rfl
theorem k_n {σ0 : St} : keepS σ0 σ [] = True := rfl
theorem k_c {σ0 : St} {t : Nat} {r : List Nat} : keepS σ0 σ (t :: r) = (keepO σ0 σ t (get σ0.tm t) ∧ keepS σ0 σ r) := rfl
theorem k_p {σ0 : St} {t c o : Nat} : keepO σ0 σ t (some (.lf (.ptr c o))) = (get σ.tm t = some (.lf (.ptr c o)) ∧ get σ.ce c = get σ0.ce c) := rfl
theorem k_l {σ0 : St} {t : Nat} {g : Tag} {z : Nat} {xs sp : List (List L)} : keepO σ0 σ t (some (.lf (.lst g z xs sp))) = True := rfl
theorem k_e {σ0 : St} {t : Nat} {g : Tag} {z : Nat} {xs sp : List (List L)} {j o : Nat} : keepO σ0 σ t (some (.lf (.ep g z xs sp j o))) = True := rfl
theorem k_t {σ0 : St} {t c o T : Nat} : keepO σ0 σ t (some (.lf (.tptr c o T))) = True := rfl
theorem k_g {σ0 : St} {t g o : Nat} : keepO σ0 σ t (some (.lf (.gl g o))) = True := rfl
theorem k_i {σ0 : St} {t : Nat} {k : IntKind} {n : Int} : keepO σ0 σ t (some (.lf (.int k n))) = True := rfl
theorem k_s {σ0 : St} {t : Nat} {s : ByteArray} : keepO σ0 σ t (some (.lf (.str s))) = True := rfl
theorem k_b {σ0 : St} {t : Nat} {b : Bool} : keepO σ0 σ t (some (.lf (.bool b))) = True := rfl
theorem k_a {σ0 : St} {t : Nat} {l : List L} : keepO σ0 σ t (some (.ag l)) = True := rfl
theorem k_u {σ0 : St} {t : Nat} : keepO σ0 σ t (some (.lf .undef)) = True := rfl
theorem k_0 {σ0 : St} {t : Nat} : keepO σ0 σ t none = True := rfl
end

end Go.Proofs.YthcpaohmajjopaaDoor.AM
