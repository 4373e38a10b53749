/- Contracts, part Z4. -/
import Derived.Test.YthcpaohmajjopaaGreatDoorZ3
import Derived.RangeFuncBox
import Derived.RangeFuncNested
import Derived.RangeFuncLeaves
import Derived.Shelf.Abstract
import Derived.WalkKit
import Derived.OwnWalkIn
import Derived.TacticsInMore
import Derived.LoopNIn
import Derived.LoopIn
import Derived.Maps.AppendAt
import Derived.Test.YthcpaohmajjopaaGreatDoorZ2
import Derived.Test.YthcpaohmajjopaaGreatDoorProg
import Derived.Test.YthcpaohmajjopaaGreatDoorAmLeaf2
import Derived.Lib.ItoaLen
namespace Go.Proofs.YthcpaohmajjopaaGreatDoor.I
open Go Go.Proofs Go.RowKit Go.Shelf
set_option linter.unusedVariables false
set_option linter.unusedSimpArgs false
attribute [local go_sem] Oper.semAt_some
def bitsW (i w:Nat):List Int:=if h:w = 0 then [] else (((64 * i:Nat):Int) + ((Lib.ctz 64 w:Nat):Int)) :: bitsW i (w &&& (w - 1))
termination_by w
decreasing_by have:=@Nat.and_le_right w (w - 1);omega
theorem idx0 (a b c d:Nat) (w:World):(Instr.index 40 (.agg #[.int .u64 a,.int .u64 b,.int .u64 c,.int .u64 d]) (.int .i64 0)).run Tryz.prog w = .ok (.int .u64 a) w:=by
 simp [Instr.index,run_underlying Tryz.underlying40,asIntOf,go_sem,Tryz.isAgg38,Tryz.sizeOf38]
theorem idx1 (a b c d:Nat) (w:World):(Instr.index 40 (.agg #[.int .u64 a,.int .u64 b,.int .u64 c,.int .u64 d]) (.int .i64 1)).run Tryz.prog w = .ok (.int .u64 b) w:=by
 simp [Instr.index,run_underlying Tryz.underlying40,asIntOf,go_sem,Tryz.isAgg38,Tryz.sizeOf38]
theorem idx2 (a b c d:Nat) (w:World):(Instr.index 40 (.agg #[.int .u64 a,.int .u64 b,.int .u64 c,.int .u64 d]) (.int .i64 2)).run Tryz.prog w = .ok (.int .u64 c) w:=by
 simp [Instr.index,run_underlying Tryz.underlying40,asIntOf,go_sem,Tryz.isAgg38,Tryz.sizeOf38]
theorem idx3 (a b c d:Nat) (w:World):(Instr.index 40 (.agg #[.int .u64 a,.int .u64 b,.int .u64 c,.int .u64 d]) (.int .i64 3)).run Tryz.prog w = .ok (.int .u64 d) w:=by
 simp [Instr.index,run_underlying Tryz.underlying40,asIntOf,go_sem,Tryz.isAgg38,Tryz.sizeOf38]
def restL4 (a b c d:Nat):Nat → List Int
 | 0=>bitsW 0 a ++ (bitsW 1 b ++ (bitsW 2 c ++ bitsW 3 d))
 | 1=>bitsW 1 b ++ (bitsW 2 c ++ bitsW 3 d)
 | 2=>bitsW 2 c ++ bitsW 3 d
 | 3=>bitsW 3 d
 | _=>[]
set_option maxRecDepth 100000 in
set_option maxHeartbeats 4000000 in
theorem each1_in (F:Fence) (n:Nat) (h81:F.fn 81) (h82:F.fn 82) (hro:F.round = none) (hn:1 ≤ n) (l Bn n₀:Nat) (a b c d:Nat) (ha:a < 18446744073709551616) (hb:b < 18446744073709551616) (hc:c < 18446744073709551616) (hd:d < 18446744073709551616) (xs:List Int) (hxs:xs = restL4 a b c d 0) (J Jx:List Int → World → Prop)
  (hT0:∀ W W',Below n₀ W W' → TabAt 4 Lib.deBruijn64tab W → TabAt 4 Lib.deBruijn64tab W')
  (hwide:∀ (x:Nat) (w:World),x < 18446744073709551616 → TabAt 4 Lib.deBruijn64tab w → CallsIn F (n - 1) Tryz.prog 82 #[.int .u64 x] w fun e w'=>e = .returned (.int .i64 (Lib.ctz 64 x)) ∧ w' = w)
  (hY:∀ pre x W,J pre W → (pre ++ [x]) <+: xs → YieldAt F (n - 1) Tryz.prog l #[.int .i64 x] W fun e W' =>
   (e = .returned (.bool true) ∧ J (pre ++ [x]) W' ∧ Below n₀ W W') ∨ (e = .returned (.bool false) ∧ Jx (pre ++ [x]) W'))
  (W:World) (b0:W.cell? ⟨Bn,0,none⟩ = some (.int .u64 a)) (b1:W.cell? ⟨Bn,1,none⟩ = some (.int .u64 b)) (b2:W.cell? ⟨Bn,2,none⟩ = some (.int .u64 c)) (b3:W.cell? ⟨Bn,3,none⟩ = some (.int .u64 d)) (hT:TabAt 4 Lib.deBruijn64tab W) (h0:J [] W) :
  CallsIn F n Tryz.prog 81 #[.func (.yield l) #[] #[],.pointer (some ⟨Bn,0,none⟩)] W fun e W'=>(∃ v,e = .returned v) ∧
   ((∃ ys,ys = xs ∧ J ys W') ∨ (∃ pre,pre <+: xs ∧ Jx pre W')):=by
 refine callsIn_of_wp Tryz.func81 rfl h81 ?_ hro
 simp only [Tryz.ntmps81,List.size_toArray,List.length_cons,List.length_nil,Nat.reduceAdd,Nat.reduceSub,Array.replicate_succ,Array.replicate_zero,List.push_toArray,List.append_toArray,List.nil_append,List.cons_append]
 gi_wp2
 clear b0 b1 b2 b3
 gi_loopw [6] (fun v wr=>∃ (k:Nat) (pre:List Int),v = .int .i64 (k:Int) ∧ k ≤ 4 ∧ xs = pre ++ restL4 a b c d k ∧ J pre wr ∧ TabAt 4 Lib.deBruijn64tab wr) (fun v _=>4 - (intOf v).toNat)
 case atStart=>exact ⟨0,[],rfl,by omega,by rw [hxs];rfl,h0,hT⟩
 case round =>
  obtain ⟨k,pre,rfl,hk4,hx,hJ,hTw⟩:=hrel
  have i0:=idx0 a b c d wr
  have i1:=idx1 a b c d wr
  have i2:=idx2 a b c d wr
  have i3:=idx3 a b c d wr
  obtain ⟨wo,rfl⟩:∃ wo:World,wo = wr:=⟨_,rfl⟩
  rcases (show k = 0 ∨ k = 1 ∨ k = 2 ∨ k = 3 ∨ k = 4 by omega) with rfl | rfl | rfl | rfl | rfl
  case inr.inr.inr.inr =>
   gi_wp2
   go_end0
   exact ⟨⟨_,rfl⟩,.inl ⟨pre,by rw [hx];simp [restL4],hJ⟩⟩
  case inl =>
   gi_wp2
   gi_loopw [4] (fun v wr=>∃ (w:Nat) (pre:List Int),v = .int .u64 (w:Int) ∧ w < 18446744073709551616 ∧ xs = pre ++ (bitsW 0 w ++ restL4 a b c d 1) ∧ J pre wr ∧ TabAt 4 Lib.deBruijn64tab wr) (fun v _=>(intOf v).toNat)
   case atStart=>exact ⟨a,pre,rfl,ha,by rw [hx];simp [restL4],hJ,hTw⟩
   case round =>
    obtain ⟨w,pre,rfl,hw,hx,hJ,hTw⟩:=hrel
    by_cases hw0:w = 0
    ·subst hw0
     gi_wp2
     refine ⟨⟨1,pre,rfl,by omega,by rw [hx];simp [bitsW],hJ,hTw⟩,by simp [intOf]⟩
    ·have hc64:Lib.ctz 64 w < 64:=(Lib.lowest_bit 64 w hw0 hw).2
     have hb1:bitsW 0 w = ((Lib.ctz 64 w:Nat):Int) :: bitsW 0 (w &&& (w - 1)):=by
      rw [bitsW];simp [hw0]
     have hle:w &&& (w - 1) ≤ w - 1:=Nat.and_le_right
     have hand:bits BinOp.and IntKind.u64 (w:Int) ((w:Int) - 1) = ((w &&& (w - 1):Nat):Int):=by
      rw [← bits_and_u64_nat w (w - 1) hw (by omega)]
      congr 1;omega
     obtain ⟨fn,tmps,assign,body,hy,hR⟩:=hY pre ((Lib.ctz 64 w:Nat):Int) wr hJ ⟨bitsW 0 (w &&& (w - 1)) ++ restL4 a b c d 1,by rw [hx,hb1];simp⟩
     gi_wp2_with (gi_at_call 82;refine (hwide w wr hw hTw).mono ?_;rintro e w' ⟨rfl,rfl⟩)
     refine hR.mono ?_
     rintro e W3 (⟨rfl,hJ3,hk3⟩ | ⟨rfl,hJx3⟩)
     ·gi_wp2
      go_roundw
      case rel=>(first | exact ⟨w &&& (w - 1),pre ++ [((Lib.ctz 64 w:Nat):Int)],rfl,by omega,by rw [hx,hb1];simp,hJ3,hT0 _ _ hk3 hTw⟩ | ((repeat apply Exists.intro);exact ⟨⟨w &&& (w - 1),pre ++ [((Lib.ctz 64 w:Nat):Int)],rfl,by omega,by rw [hx,hb1];simp,hJ3,hT0 _ _ hk3 hTw⟩,rfl⟩))
      case measure=>simp [intOf];omega
     ·gi_wp2
      refine bodyPost_ret (results_none rfl _ _ _) rfl ?_
      exact ⟨⟨_,rfl⟩,.inr ⟨pre ++ [((Lib.ctz 64 w:Nat):Int)],⟨bitsW 0 (w &&& (w - 1)) ++ restL4 a b c d 1,by rw [hx,hb1];simp⟩,hJx3⟩⟩
  case inr.inl =>
   gi_wp2
   gi_loopw [4] (fun v wr=>∃ (w:Nat) (pre:List Int),v = .int .u64 (w:Int) ∧ w < 18446744073709551616 ∧ xs = pre ++ (bitsW 1 w ++ restL4 a b c d 2) ∧ J pre wr ∧ TabAt 4 Lib.deBruijn64tab wr) (fun v _=>(intOf v).toNat)
   case atStart=>exact ⟨b,pre,rfl,hb,by rw [hx];simp [restL4],hJ,hTw⟩
   case round =>
    obtain ⟨w,pre,rfl,hw,hx,hJ,hTw⟩:=hrel
    by_cases hw0:w = 0
    ·subst hw0
     gi_wp2
     refine ⟨⟨2,pre,rfl,by omega,by rw [hx];simp [bitsW],hJ,hTw⟩,by simp [intOf]⟩
    ·have hc64:Lib.ctz 64 w < 64:=(Lib.lowest_bit 64 w hw0 hw).2
     have hb1:bitsW 1 w = (64 + ((Lib.ctz 64 w:Nat):Int)) :: bitsW 1 (w &&& (w - 1)):=by
      rw [bitsW];simp [hw0]
     have hle:w &&& (w - 1) ≤ w - 1:=Nat.and_le_right
     have hand:bits BinOp.and IntKind.u64 (w:Int) ((w:Int) - 1) = ((w &&& (w - 1):Nat):Int):=by
      rw [← bits_and_u64_nat w (w - 1) hw (by omega)]
      congr 1;omega
     obtain ⟨fn,tmps,assign,body,hy,hR⟩:=hY pre (64 + ((Lib.ctz 64 w:Nat):Int)) wr hJ ⟨bitsW 1 (w &&& (w - 1)) ++ restL4 a b c d 2,by rw [hx,hb1];simp⟩
     gi_wp2_with (gi_at_call 82;refine (hwide w wr hw hTw).mono ?_;rintro e w' ⟨rfl,rfl⟩)
     refine hR.mono ?_
     rintro e W3 (⟨rfl,hJ3,hk3⟩ | ⟨rfl,hJx3⟩)
     ·gi_wp2
      go_roundw
      case rel=>(first | exact ⟨w &&& (w - 1),pre ++ [(64 + ((Lib.ctz 64 w:Nat):Int))],rfl,by omega,by rw [hx,hb1];simp,hJ3,hT0 _ _ hk3 hTw⟩ | ((repeat apply Exists.intro);exact ⟨⟨w &&& (w - 1),pre ++ [(64 + ((Lib.ctz 64 w:Nat):Int))],rfl,by omega,by rw [hx,hb1];simp,hJ3,hT0 _ _ hk3 hTw⟩,rfl⟩))
      case measure=>simp [intOf];omega
     ·gi_wp2
      refine bodyPost_ret (results_none rfl _ _ _) rfl ?_
      exact ⟨⟨_,rfl⟩,.inr ⟨pre ++ [(64 + ((Lib.ctz 64 w:Nat):Int))],⟨bitsW 1 (w &&& (w - 1)) ++ restL4 a b c d 2,by rw [hx,hb1];simp⟩,hJx3⟩⟩
  case inr.inr.inl =>
   gi_wp2
   gi_loopw [4] (fun v wr=>∃ (w:Nat) (pre:List Int),v = .int .u64 (w:Int) ∧ w < 18446744073709551616 ∧ xs = pre ++ (bitsW 2 w ++ restL4 a b c d 3) ∧ J pre wr ∧ TabAt 4 Lib.deBruijn64tab wr) (fun v _=>(intOf v).toNat)
   case atStart=>exact ⟨c,pre,rfl,hc,by rw [hx];simp [restL4],hJ,hTw⟩
   case round =>
    obtain ⟨w,pre,rfl,hw,hx,hJ,hTw⟩:=hrel
    by_cases hw0:w = 0
    ·subst hw0
     gi_wp2
     refine ⟨⟨3,pre,rfl,by omega,by rw [hx];simp [bitsW],hJ,hTw⟩,by simp [intOf]⟩
    ·have hc64:Lib.ctz 64 w < 64:=(Lib.lowest_bit 64 w hw0 hw).2
     have hb1:bitsW 2 w = (128 + ((Lib.ctz 64 w:Nat):Int)) :: bitsW 2 (w &&& (w - 1)):=by
      rw [bitsW];simp [hw0]
     have hle:w &&& (w - 1) ≤ w - 1:=Nat.and_le_right
     have hand:bits BinOp.and IntKind.u64 (w:Int) ((w:Int) - 1) = ((w &&& (w - 1):Nat):Int):=by
      rw [← bits_and_u64_nat w (w - 1) hw (by omega)]
      congr 1;omega
     obtain ⟨fn,tmps,assign,body,hy,hR⟩:=hY pre (128 + ((Lib.ctz 64 w:Nat):Int)) wr hJ ⟨bitsW 2 (w &&& (w - 1)) ++ restL4 a b c d 3,by rw [hx,hb1];simp⟩
     gi_wp2_with (gi_at_call 82;refine (hwide w wr hw hTw).mono ?_;rintro e w' ⟨rfl,rfl⟩)
     refine hR.mono ?_
     rintro e W3 (⟨rfl,hJ3,hk3⟩ | ⟨rfl,hJx3⟩)
     ·gi_wp2
      go_roundw
      case rel=>(first | exact ⟨w &&& (w - 1),pre ++ [(128 + ((Lib.ctz 64 w:Nat):Int))],rfl,by omega,by rw [hx,hb1];simp,hJ3,hT0 _ _ hk3 hTw⟩ | ((repeat apply Exists.intro);exact ⟨⟨w &&& (w - 1),pre ++ [(128 + ((Lib.ctz 64 w:Nat):Int))],rfl,by omega,by rw [hx,hb1];simp,hJ3,hT0 _ _ hk3 hTw⟩,rfl⟩))
      case measure=>simp [intOf];omega
     ·gi_wp2
      refine bodyPost_ret (results_none rfl _ _ _) rfl ?_
      exact ⟨⟨_,rfl⟩,.inr ⟨pre ++ [(128 + ((Lib.ctz 64 w:Nat):Int))],⟨bitsW 2 (w &&& (w - 1)) ++ restL4 a b c d 3,by rw [hx,hb1];simp⟩,hJx3⟩⟩
  case inr.inr.inr.inl =>
   gi_wp2
   gi_loopw [4] (fun v wr=>∃ (w:Nat) (pre:List Int),v = .int .u64 (w:Int) ∧ w < 18446744073709551616 ∧ xs = pre ++ (bitsW 3 w ++ restL4 a b c d 4) ∧ J pre wr ∧ TabAt 4 Lib.deBruijn64tab wr) (fun v _=>(intOf v).toNat)
   case atStart=>exact ⟨d,pre,rfl,hd,by rw [hx];simp [restL4],hJ,hTw⟩
   case round =>
    obtain ⟨w,pre,rfl,hw,hx,hJ,hTw⟩:=hrel
    by_cases hw0:w = 0
    ·subst hw0
     gi_wp2
     refine ⟨⟨4,pre,rfl,by omega,by rw [hx];simp [bitsW],hJ,hTw⟩,by simp [intOf]⟩
    ·have hc64:Lib.ctz 64 w < 64:=(Lib.lowest_bit 64 w hw0 hw).2
     have hb1:bitsW 3 w = (192 + ((Lib.ctz 64 w:Nat):Int)) :: bitsW 3 (w &&& (w - 1)):=by
      rw [bitsW];simp [hw0]
     have hle:w &&& (w - 1) ≤ w - 1:=Nat.and_le_right
     have hand:bits BinOp.and IntKind.u64 (w:Int) ((w:Int) - 1) = ((w &&& (w - 1):Nat):Int):=by
      rw [← bits_and_u64_nat w (w - 1) hw (by omega)]
      congr 1;omega
     obtain ⟨fn,tmps,assign,body,hy,hR⟩:=hY pre (192 + ((Lib.ctz 64 w:Nat):Int)) wr hJ ⟨bitsW 3 (w &&& (w - 1)) ++ restL4 a b c d 4,by rw [hx,hb1];simp⟩
     gi_wp2_with (gi_at_call 82;refine (hwide w wr hw hTw).mono ?_;rintro e w' ⟨rfl,rfl⟩)
     refine hR.mono ?_
     rintro e W3 (⟨rfl,hJ3,hk3⟩ | ⟨rfl,hJx3⟩)
     ·gi_wp2
      go_roundw
      case rel=>(first | exact ⟨w &&& (w - 1),pre ++ [(192 + ((Lib.ctz 64 w:Nat):Int))],rfl,by omega,by rw [hx,hb1];simp,hJ3,hT0 _ _ hk3 hTw⟩ | ((repeat apply Exists.intro);exact ⟨⟨w &&& (w - 1),pre ++ [(192 + ((Lib.ctz 64 w:Nat):Int))],rfl,by omega,by rw [hx,hb1];simp,hJ3,hT0 _ _ hk3 hTw⟩,rfl⟩))
      case measure=>simp [intOf];omega
     ·gi_wp2
      refine bodyPost_ret (results_none rfl _ _ _) rfl ?_
      exact ⟨⟨_,rfl⟩,.inr ⟨pre ++ [(192 + ((Lib.ctz 64 w:Nat):Int))],⟨bitsW 3 (w &&& (w - 1)) ++ restL4 a b c d 4,by rw [hx,hb1];simp⟩,hJx3⟩⟩
set_option maxHeartbeats 1000000 in
theorem each_in (F:Fence) (n:Nat) (h61:F.fn 61) (hro:F.round = none) (a b c d:Nat) (w:World) :
  CallsIn F n Tryz.prog 61 #[.agg #[.int .u64 a,.int .u64 b,.int .u64 c,.int .u64 d]] w fun e w'=>e = .returned (.func (.func 81) #[] #[.pointer (some ⟨w.heap.size,0,none⟩)]) ∧ w' = w.alloc (.cells #[.int .u64 a,.int .u64 b,.int .u64 c,.int .u64 d] 40):=by
 refine callsIn_of_wp Tryz.func61 rfl h61 ?_ hro
 simp only [Tryz.ntmps61,List.size_toArray,List.length_cons,List.length_nil,Nat.reduceAdd,Nat.reduceSub,Array.replicate_succ,Array.replicate_zero,List.push_toArray,List.append_toArray,List.nil_append,List.cons_append]
 gi_wp2
 go_ret
 exact ⟨rfl,rfl⟩
abbrev By:={ x:Int // 0 ≤ x ∧ x < 256 }
theorem bitsW_range (i:Nat) (hi:i < 4) (w:Nat) (hw:w < 18446744073709551616):∀ x ∈ bitsW i w,0 ≤ x ∧ x < 256:=by
 induction w using Nat.strongRecOn with
 | _ w ih =>
  intro x hx
  rw [bitsW] at hx
  split at hx
  ·cases hx
  ·rename_i h0
   have hc64:Lib.ctz 64 w < 64:=(Lib.lowest_bit 64 w h0 hw).2
   have hle:w &&& (w - 1) ≤ w - 1:=Nat.and_le_right
   rcases List.mem_cons.1 hx with rfl | hx
   ·omega
   ·exact ih _ (by omega) (by omega) x hx
theorem rest_range {a b c d:Nat} (ha:a < 18446744073709551616) (hb:b < 18446744073709551616) (hc:c < 18446744073709551616) (hd:d < 18446744073709551616):∀ x ∈ restL4 a b c d 0,0 ≤ x ∧ x < 256:=by
 intro x hx
 simp only [restL4,List.mem_append] at hx
 rcases hx with h | h | h | h
 ·exact bitsW_range 0 (by omega) a ha x h
 ·exact bitsW_range 1 (by omega) b hb x h
 ·exact bitsW_range 2 (by omega) c hc x h
 ·exact bitsW_range 3 (by omega) d hd x h
theorem tab_below {n₀:Nat} (h:4 < n₀) {W W':World} (hB:Below n₀ W W') (hT:TabAt 4 Lib.deBruijn64tab W):TabAt 4 Lib.deBruijn64tab W':=fun j hj=>(hB.cell (p:=⟨4,j,none⟩) h).trans (hT j hj)
theorem each_stops (F:Fence) (n:Nat) (h81:F.fn 81) (h82:F.fn 82) (hro:F.round = none) (hn:1 ≤ n) (Bn n₀:Nat) (a b c d:Nat) (ha:a < 18446744073709551616) (hb:b < 18446744073709551616) (hc:c < 18446744073709551616) (hd:d < 18446744073709551616)
  (hwide:∀ (x:Nat) (w:World),x < 18446744073709551616 → TabAt 4 Lib.deBruijn64tab w → CallsIn F (n - 1) Tryz.prog 82 #[.int .u64 x] w fun e w'=>e = .returned (.int .i64 (Lib.ctz 64 x)) ∧ w' = w)
  (w:World) (hBn:Bn < w.heap.size) (hn₀:n₀ ≤ w.heap.size) (h3:4 < n₀) (hT:TabAt 4 Lib.deBruijn64tab w)
  (b0:w.cell? ⟨Bn,0,none⟩ = some (.int .u64 a)) (b1:w.cell? ⟨Bn,1,none⟩ = some (.int .u64 b)) (b2:w.cell? ⟨Bn,2,none⟩ = some (.int .u64 c)) (b3:w.cell? ⟨Bn,3,none⟩ = some (.int .u64 d)) :
  SeqStopsK F n Tryz.prog 81 #[.pointer (some ⟨Bn,0,none⟩)] (fun x:By=>#[Value.int .i64 x.1]) (Below n₀) (fun ys=>ys.map (·.1) = restL4 a b c d 0) (fun pre=>pre.map (·.1) <+: restL4 a b c d 0) (restL4 a b c d 0).length w:=by
 intro l J Jx W hW _ _ hY h0
 have key:=each1_in F n h81 h82 hro hn l Bn n₀ a b c d ha hb hc hd _ rfl (fun pre W=>∃ p:List By,p.map (·.1) = pre ∧ J p W) (fun pre W=>∃ p:List By,p.map (·.1) = pre ∧ Jx p W)
  (fun W W' hB hT=>tab_below h3 hB hT) hwide (fun pre x W1 hJ hpre=>?_) W ((hW.cell (p:=⟨Bn,0,none⟩) hBn).trans b0) ((hW.cell (p:=⟨Bn,1,none⟩) hBn).trans b1) ((hW.cell (p:=⟨Bn,2,none⟩) hBn).trans b2) ((hW.cell (p:=⟨Bn,3,none⟩) hBn).trans b3) (tab_below h3 (hW.mono hn₀) hT) ⟨[],rfl,h0⟩
 ·refine key.mono ?_
  rintro e W' ⟨hv,⟨ys,hys,p,hp,hJ⟩ | ⟨pre,hpre,p,hp,hJ⟩⟩
  ·exact ⟨hv,.inl ⟨p,hp.trans hys,hJ⟩⟩
  ·exact ⟨hv,.inr ⟨p,(show p.map (·.1) <+: _ by rw [hp];exact hpre),hJ⟩⟩
 ·obtain ⟨p,hp,hJ⟩:=hJ
  have hx:=rest_range ha hb hc hd x (by
   obtain ⟨r,hr⟩:=hpre
   rw [← hr];simp)
  have hlen:p.length < (restL4 a b c d 0).length:=by
   have:=hpre.length_le
   rw [← hp] at this
   simp at this
   omega
  obtain ⟨fn,tmps,assign,body,hy,hR⟩:=hY p ⟨x,hx⟩ W1 hJ hlen
  refine ⟨fn,tmps,assign,body,hy,hR.mono ?_⟩
  rintro e W' (⟨he,hJ',hB⟩ | ⟨he,hJ'⟩)
  ·exact .inl ⟨he,⟨p ++ [⟨x,hx⟩],by simp [hp],hJ'⟩,hB⟩
  ·exact .inr ⟨he,⟨p ++ [⟨x,hx⟩],by simp [hp],hJ'⟩⟩
def stepS (acc:List (Int × Int)) (b:Int):List (Int × Int) :=
 match acc.getLast? with
 | some (lo,hi)=>if hi = b - 1 then acc.dropLast ++ [(lo,b)] else acc ++ [(b,b)]
 | none=>[(b,b)]
def spansF (xs:List Int):List (Int × Int):=xs.foldl stepS []
def spC (l:List (Int × Int)):List Value:=l.flatMap fun p=>[.int .i64 p.1,.int .i64 p.2]
theorem spC_len (l:List (Int × Int)):(spC l).length = l.length * 2:=by
 induction l with
 | nil=>rfl
 | cons x l ih=>simp only [spC,List.flatMap_cons,List.length_append] at ih ⊢;simp [ih];omega
theorem spC_app (l m:List (Int × Int)):spC (l ++ m) = spC l ++ spC m:=by simp [spC]
theorem stepS_len (acc:List (Int × Int)) (b:Int):(stepS acc b).length ≤ acc.length + 1:=by
 unfold stepS
 split
 ·split
  ·rename_i h _
   have:acc ≠ []:=by intro e;rw [e] at h;simp at h
   have:=List.length_pos_iff.2 this
   simp only [List.length_append,List.length_dropLast,List.length_cons,List.length_nil]
   omega
  ·simp
 ·simp
theorem spansF_snoc (xs:List Int) (b:Int):spansF (xs ++ [b]) = stepS (spansF xs) b:=by simp [spansF]
theorem spansF_len (xs:List Int):(spansF xs).length ≤ xs.length:=by
 have gen:∀ (xs:List Int) (acc:List (Int × Int)),(xs.foldl stepS acc).length ≤ acc.length + xs.length:=by
  intro xs
  induction xs with
  | nil=>intro acc;simp
  | cons x xs ih =>
   intro acc
   have:=ih (stepS acc x)
   have:=stepS_len acc x
   simp only [List.foldl_cons,List.length_cons]
   omega
 have:=gen xs []
 simp only [List.length_nil,Nat.zero_add] at this
 exact this
theorem cell_two_new (w:World) (x y:Value) (t:TypeId):∀ j u,[x,y][j]? = some u → (w.alloc (.cells #[x,y] t)).cell? ((⟨w.heap.size,0,none⟩:Addr).add j) = some u:=by
 intro j u hj
 match j,hj with
 | 0,hj =>
  simp at hj
  subst hj
  simp [Addr.add]
 | 1,hj =>
  simp at hj
  subst hj
  simp [Addr.add]
theorem info105:(Tryz.prog.info? 98).map (fun i=>(i.zero,i.size,i.bytes)) = some (some (.agg #[.int .i64 0,.int .i64 0]),2,16):=by kernel_rfl
set_option maxRecDepth 100000 in
set_option maxHeartbeats 4000000 in
theorem spans_in (F:Fence) (n:Nat) (h46:F.fn 46) (h61:F.fn 61) (h81:F.fn 81) (h82:F.fn 82) (hro:F.round = none) (hn:3 ≤ n) (a b c d:Nat) (ha:a < 18446744073709551616) (hb:b < 18446744073709551616) (hc:c < 18446744073709551616) (hd:d < 18446744073709551616)
  (hwide:∀ (m x:Nat) (w:World),x < 18446744073709551616 → TabAt 4 Lib.deBruijn64tab w → CallsIn F m Tryz.prog 82 #[.int .u64 x] w fun e w'=>e = .returned (.int .i64 (Lib.ctz 64 x)) ∧ w' = w)
  (hN:(restL4 a b c d 0).length ≤ 256)
  (w:World) (h3:4 < w.heap.size) (hT:TabAt 4 Lib.deBruijn64tab w) :
  CallsIn F n Tryz.prog 46 #[.agg #[.int .u64 a,.int .u64 b,.int .u64 c,.int .u64 d]] w fun e W'=>∃ v,e = .returned v ∧ W'.ownsRow w.heap.size 98 2 v (spansF (restL4 a b c d 0)).length (spC (spansF (restL4 a b c d 0))) ∧ (v = .slice none 0 0 ↔ spansF (restL4 a b c d 0) = []) ∧ Below w.heap.size w W':=by
 have h1:1 ≤ n:=by omega
 obtain ⟨i0,hi,hz0,hz1,hz2⟩:=info_parts info105
 refine callsIn_of_wp_marks Tryz.func46 rfl h46 ?_ hro
 simp only [Tryz.ntmps46,List.size_toArray,List.length_cons,List.length_nil,Nat.reduceAdd,Nat.reduceSub,Array.replicate_succ,Array.replicate_zero,List.push_toArray,List.append_toArray,List.nil_append,List.cons_append]
 gi_wp2_with (gi_at_call 61;refine (each_in F (n - 1) h61 hro a b c d _).mono ?_;rintro e w' ⟨rfl,rfl⟩)
 have bO:=(Boxed.new (w.alloc (.cells #[.int .u64 a,.int .u64 b,.int .u64 c,.int .u64 d] 40)) 95 (.slice none 0 0))
 rw [World.size_alloc] at bO
 obtain ⟨w2,hw2⟩:∃ w2,(w.alloc (.cells #[.int .u64 a,.int .u64 b,.int .u64 c,.int .u64 d] 40)).alloc (.cells #[.slice none 0 0] 95) = w2:=⟨_,rfl⟩
 have hB2:Below w.heap.size w w2:=by rw [← hw2];exact ((Below.refl _ w).alloc (Nat.le_refl _) _).alloc (by simp) _
 have hs2:w2.heap.size = w.heap.size + 1 + 1:=by rw [← hw2];simp
 rw [hw2] at bO ⊢
 have hB3:Below w.heap.size w (w2.alloc (.cells #[.int .u64 a,.int .u64 b,.int .u64 c,.int .u64 d] 40)):=hB2.alloc (by omega) _
 have cB:∀ j,j < 4 → (w2.alloc (.cells #[.int .u64 a,.int .u64 b,.int .u64 c,.int .u64 d] 40)).cell? ⟨w.heap.size + 1 + 1,j,none⟩ = (#[Value.int .u64 a,.int .u64 b,.int .u64 c,.int .u64 d])[j]?:=by
  intro j hj
  rw [← hs2]
  have:=World.alloc_heap_new w2 (.cells #[.int .u64 a,.int .u64 b,.int .u64 c,.int .u64 d] 40)
  simp only [World.cell?,this]
  simp
 refine wpIn_rangeFunc_ownG hro h1 (gf:=81) (lb:=#[.pointer (some ⟨w.heap.size + 1 + 1,0,none⟩)]) rfl h81 (enters_of Tryz.func81 (by kernel_rfl) rfl)
  (each_stops F (n - 1) h81 h82 hro (by omega) (w.heap.size + 1 + 1) w.heap.size a b c d ha hb hc hd (hwide _) _ (by simp;omega) (by simp;omega) h3 (tab_below h3 hB3 hT) (cB 0 (by omega)) (cB 1 (by omega)) (cB 2 (by omega)) (cB 3 (by omega)))
  belowK_t (belowK_b (by simp;omega)) (Below.refl _ _) (fun _=>rfl)
  (fun (pre:List By) W=>(∃ v,Boxed W (w.heap.size + 1) 95 v ∧ W.ownsRow w.heap.size 98 2 v (spansF (pre.map (·.1))).length (spC (spansF (pre.map (·.1)))) ∧ (v = .slice none 0 0 ↔ spansF (pre.map (·.1)) = [])) ∧ Below w.heap.size w W)
  (fun _ _ _=>False)
  (OwnFrom.and (Own.from (holdsRow_own w.heap.size (w.heap.size + 1) 95 98 2 (fun (pre:List By)=>(spansF (pre.map (·.1))).length) (fun (pre:List By)=>spC (spansF (pre.map (·.1)))) (fun (pre:List By) v=>v = .slice none 0 0 ↔ spansF (pre.map (·.1)) = [])) _) (ownFrom_below (Nat.le_refl _) (by simp;omega)))
  (fun _ _ _ _ _ hs _ _=>hs)
  ⟨⟨_,bO.alloc _,World.ownsRow_nil _ _ _ _,by simp [spansF]⟩,hB3⟩
  (fun (x:By)=>{ tmps:=#[Value.agg #[.int .u64 a,.int .u64 b,.int .u64 c,.int .u64 d],.pointer (some ⟨w.heap.size,0,none⟩),.slice none 0 0,.pointer (some ⟨w.heap.size + 1,0,none⟩),.int .i64 x.1,undef,Value.agg #[.int .u64 a,.int .u64 b,.int .u64 c,.int .u64 d],.func (.func 81) #[] #[.pointer (some ⟨w.heap.size + 1 + 1,0,none⟩)],.int .i64 x.1,undef,undef,undef,undef,undef,undef,undef,undef,undef,undef,undef,undef,undef,undef,undef,undef,undef,undef,undef,undef,undef,undef,undef,undef,undef,undef,undef,undef],defers:=[] }) ?assign ?body ?done ?stop
 case assign =>
  intro l x W K hK
  gi_wp2
  exact hK
 case body =>
  rintro l pre ⟨x,hx0,hx1⟩ W ⟨⟨v,hv,hrow,hnil⟩,hB⟩ hlt
  have hc:=hv.cell
  have hpl:(spansF (pre.map (·.1))).length ≤ pre.length:=by have:=spansF_len (pre.map (·.1));simpa using this
  have hsn:spansF ((pre ++ [(⟨x,hx0,hx1⟩:By)]).map (·.1)) = stepS (spansF (pre.map (·.1))) x:=by rw [List.map_append];exact spansF_snoc _ _
  generalize hL:spansF (pre.map (·.1)) = L at *
  have hlen:L.length ≤ 256:=by omega
  clear hL
  obtain rfl | ⟨M,⟨lo,hi'⟩,rfl⟩:L = [] ∨ ∃ M p,L = M ++ [p]:=by
   rcases List.eq_nil_or_concat L with h | ⟨M,p,h⟩
   ·exact .inl h
   ·exact .inr ⟨M,p,by rw [h,List.concat_eq_append]⟩
  ·obtain rfl:v = .slice none 0 0:=hnil.2 rfl
   have hst:stepS [] x = [(x,x)]:=rfl
   rw [hst] at hsn
   gi_wp2_with (gi_at_builtin;refine wpListIn_append_own _ rfl _ _ 95 rfl w.heap.size 98 i0 (.agg #[.int .i64 0,.int .i64 0]) 2 16 Tryz.underlying95 hi hz0 hz1 hz2 rfl (by decide) _ _ _ rfl (hrow.alloc _) ⟨W.heap.size,0,none⟩ 1 1 [.int .i64 x,.int .i64 x] rfl rfl (cell_two_new _ _ _ _) (by simp [Value.oneCell']) (by unfold maxLen;omega) (by omega) (by have:=hB.size;simp;omega) ?_;intro v' w1 hown' hgrow _;obtain ⟨g',cap',rfl⟩:=ownsRow_succ hown';obtain ⟨hv1,hv2,hr2,hk2,hb2⟩:=hv.appended (by decide) hrow hB.size (by omega) hown' hgrow;have hc1:=hv1.cell;have hf1:=hv1.frozen)
   have hsn':spansF (List.unattach (pre ++ [(⟨x,hx0,hx1⟩:By)])) = [(x,x)]:=hsn
   refine ⟨hk2.from _,hb2,⟨_,hv2,?_,?_⟩,hB.trans hb2⟩
   ·show World.ownsRow _ _ _ _ _ (spansF (List.unattach (pre ++ [(⟨x,hx0,hx1⟩:By)]))).length (spC (spansF (List.unattach (pre ++ [(⟨x,hx0,hx1⟩:By)]))))
    rw [hsn'];simpa [spC] using hr2
   ·show _ ↔ spansF (List.unattach (pre ++ [(⟨x,hx0,hx1⟩:By)])) = []
    rw [hsn'];simp
  ·have hml:(M ++ [(lo,hi')]).length = M.length + 1:=by simp
   rw [hml] at hrow hlen
   obtain ⟨g,cap,rfl⟩:=ownsRow_succ hrow
   have hgl:M.length * 2 + 1 < (M.length + 1) * 2:=by omega
   have hcell:W.cell? ⟨g,M.length * 2 + 1,none⟩ = some (.int .i64 hi'):=by
    rw [hrow.cellAt _ hgl,spC_app,List.getElem?_append_right (by rw [spC_len];omega),spC_len]
    simp [spC]
   have hfz:=hrow.frozenAt (M.length * 2 + 1)
   generalize hm:M.length = m at *
   by_cases heq:hi' = x - 1
   ·subst heq
    gi_wp2
    have hst:stepS (M ++ [(lo,x - 1)]) x = M ++ [(lo,x)]:=by simp [stepS]
    rw [hst] at hsn
    have hg:=hrow.lt g rfl
    have hsr:=hrow.stored (m * 2 + 1) (.int .i64 x)
    have hset:(spC (M ++ [(lo,x - 1)])).set (m * 2 + 1) (.int .i64 x) = spC (M ++ [(lo,x)]):=by
     rw [spC_app,spC_app,List.set_append_right _ _ (by rw [spC_len];omega),spC_len,hm]
     simp [spC]
    rw [hset] at hsr
    refine ⟨(KeepsOthers.setCell _ _ _).from _,(Below.refl _ W).setCell (p:=⟨g,m * 2 + 1,none⟩) hg.1 _,⟨_,hv.kept hsr.2 (hv.not_row (by decide) hrow),?_,?_⟩,(hB.setCell (p:=⟨g,m * 2 + 1,none⟩) hg.1 _)⟩
    ·show World.ownsRow _ _ _ _ _ (spansF ((pre ++ [(⟨x,hx0,hx1⟩:By)]).map (·.1))).length (spC (spansF ((pre ++ [(⟨x,hx0,hx1⟩:By)]).map (·.1))))
     rw [hsn]
     simpa [hm] using hsr.1
    ·show _ ↔ spansF ((pre ++ [(⟨x,hx0,hx1⟩:By)]).map (·.1)) = []
     rw [hsn];simp
   ·gi_wp2_with (gi_at_builtin;refine wpListIn_append_own _ rfl _ _ 95 rfl w.heap.size 98 i0 (.agg #[.int .i64 0,.int .i64 0]) 2 16 Tryz.underlying95 hi hz0 hz1 hz2 rfl (by decide) _ _ _ rfl (hrow.alloc _) ⟨W.heap.size,0,none⟩ 1 1 [.int .i64 x,.int .i64 x] rfl rfl (cell_two_new _ _ _ _) (by simp [Value.oneCell']) (by unfold maxLen;omega) (by omega) (by have:=hB.size;simp;omega) ?_;intro v' w1 hown' hgrow _;obtain ⟨g',cap',rfl⟩:=ownsRow_succ hown';obtain ⟨hv1,hv2,hr2,hk2,hb2⟩:=hv.appended (by decide) hrow hB.size (by omega) hown' hgrow;have hc1:=hv1.cell;have hf1:=hv1.frozen)
    have hst:stepS (M ++ [(lo,hi')]) x = M ++ [(lo,hi')] ++ [(x,x)]:=by simp [stepS,heq]
    rw [hst] at hsn
    refine ⟨hk2.from _,hb2,⟨_,hv2,?_,?_⟩,hB.trans hb2⟩
    ·show World.ownsRow _ _ _ _ _ (spansF ((pre ++ [(⟨x,hx0,hx1⟩:By)]).map (·.1))).length (spC (spansF ((pre ++ [(⟨x,hx0,hx1⟩:By)]).map (·.1))))
     rw [hsn,spC_app (M ++ [(lo,hi')])]
     simpa [hm,spC] using hr2
    ·show _ ↔ spansF ((pre ++ [(⟨x,hx0,hx1⟩:By)]).map (·.1)) = []
     rw [hsn];simp
 case done =>
  rintro D ys W hD hys ⟨⟨v,hv,hrow,hnil⟩,hB⟩ hK
  rw [hys] at hrow hnil
  have hc:=hv.cell
  gi_wp2
  refine ⟨by simp,.inl ⟨_,_,rfl,run_takeDeferred hK,?_⟩⟩
  exact ⟨_,results_tmp rfl _ _ _,v,rfl,ownsRow_putObj hrow _ hK rfl,hnil,hB.trans (belowK_b (w:=w) (Nat.le_refl _) W D _ _ (by simp at hD;omega) hK rfl rfl)⟩
 case stop =>
  rintro D c pre W _ _ h _
  exact h.elim
end Go.Proofs.YthcpaohmajjopaaGreatDoor.I
namespace Go.Proofs.YthcpaohmajjopaaGreatDoor.I
open Go Go.Proofs Go.Proofs.YthcpaohmajjopaaGreatDoor.AM
set_option linter.unusedVariables false
set_option linter.unusedSimpArgs false
variable {X:Cx}
def deBL:List L:=Lib.deBruijn64tab.map fun n=>.int .u8 (n:Nat)
def powL:List L:=Lib.pow10Tab.map fun n=>.int .u64 n
theorem glob_var:Tryz.prog.globalNamed "internal/strconv.uint64pow10" = some 3:=by kernel_rfl
theorem R_grow {f:Nat} {args:List PV} {r:PV} {rv:Value} (hr:detPV r = some rv) (h:∀ (E:Env) (w:World) (vs:List Value),CxOK X E w → All2 (V E w) args vs → Calls Tryz.prog f vs.toArray w fun e w'=>e = .returned rv ∧ Unch (fun _=>False) w w') :
  R X Tryz.prog f args [] r []:=by
 intro E w vs hX hI _ ha _
 refine (h E w vs hX ha).mono ?_
 rintro e w' ⟨rfl,hU⟩
 exact ⟨rv,E,rfl,(ext_step hI hU).1,det_V E w' hr,fun c cs h=>by simp at h⟩
theorem var_of_cells {w:World} {n:String} {g:Nat} {k:IntKind} {zs:List Int} (hg:Tryz.prog.globalNamed n = some g) (h0:0 < zs.length) (hend:w.cell? ⟨g,zs.length,none⟩ = none) (hc:∀ j z,zs[j]? = some z → w.cell? ⟨g,j,none⟩ = some (Value.int k z)):w.var? Tryz.prog n = some (zs.map fun z=>Value.int k z).toArray:=by
 have c0:=hc 0 zs[0] (List.getElem?_eq_getElem h0)
 unfold World.var?
 rw [hg,Option.bind_some]
 cases hh:w.heap[g]? with
 | none=>simp [World.cell?,hh] at c0
 | some o =>
  cases o<;>simp [World.cell?,hh] at c0
  rename_i cs e f
  have hall:∀ j z,zs[j]? = some z → cs[j]? = some (Value.int k z):=fun j z hz=>by
   have:=hc j z hz
   rwa [cell_of_cells hh] at this
  have hend':cs[zs.length]? = none:=by rwa [cell_of_cells hh] at hend
  simp only [Option.some.injEq]
  apply Array.ext_getElem?
  intro i
  by_cases hi:i < zs.length
  ·rw [hall i zs[i] (List.getElem?_eq_getElem hi)]
   simp [hi]
  ·rw [Array.getElem?_eq_none (by have:=Array.getElem?_eq_none_iff.1 hend';omega),Array.getElem?_eq_none (by simp;omega)]
theorem pow_tab (hX:X.G 3 = some powL) {E:Env} {w:World} (h:CxOK X E w):Lib.TabIs Tryz.prog w "internal/strconv.uint64pow10" .u64 Lib.pow10Tab:=by
 obtain ⟨_,hlt,hend,hc⟩:=h 3 _ hX
 refine var_of_cells glob_var (by decide) (by simpa [powL] using hend) (fun j z hz=>?_)
 obtain ⟨u,h1,h2⟩:=hc j (.int .u64 z) (by rw [powL,List.getElem?_map,hz];rfl)
 cases h2
 exact h1
theorem r30 (hX:X.G 3 = some powL) (n:Int) (h0:-9223372036854775808 ≤ n) (h1:n ≤ 9223372036854775807):R X Tryz.prog 30 [.lf (.int .i64 n)] [] (.lf (.str ⟨(Lib.itoa n).toArray⟩)) []:=by
 refine R_grow rfl fun E w vs hC ha=>?_
 cases ha with
 | cons a1 a2 =>
  cases a2
  cases a1
  refine (itoa30 n h0 h1 w (pow_tab hX hC)).mono ?_
  rintro e w' ⟨rfl,k,os,rfl⟩
  refine ⟨rfl,rfl,rfl,rfl,by simp [Go.Sort.grow],fun b hb _=>?_⟩
  simp only [Go.Sort.grow,World.heap_drewN]
  rw [Array.getElem?_append_left hb]
theorem deB_tab (hX:X.G 4 = some deBL) {E:Env} {w:World} (h:CxOK X E w):4 < w.heap.size ∧ TabAt 4 Lib.deBruijn64tab w:=by
 obtain ⟨_,hlt,_,hc⟩:=h 4 _ hX
 refine ⟨hlt,fun j hj=>?_⟩
 obtain ⟨u,h1,h2⟩:=hc j (.int .u8 (Lib.deBruijn64tab.getD j 0:Nat)) (by
  rw [deBL,List.getElem?_map,List.getElem?_eq_getElem hj,List.getD_eq_getElem?_getD,List.getElem?_eq_getElem hj];rfl)
 cases h2
 exact h1
end Go.Proofs.YthcpaohmajjopaaGreatDoor.I
namespace Go.Proofs.YthcpaohmajjopaaGreatDoor.I
open Go Go.Proofs
set_option linter.unusedVariables false
set_option linter.unusedSimpArgs false
theorem low_bit {w:Nat} (h0:w ≠ 0) (h:w < 2 ^ 64):w.testBit (Lib.ctz 64 w) = true ∧ (∀ t,t < Lib.ctz 64 w → w.testBit t = false) ∧ ∀ t,(w &&& (w - 1)).testBit t = (decide (Lib.ctz 64 w < t) && w.testBit t):=by
 obtain ⟨m,hm,hk⟩:=Lib.ctzFrom_spec 64 w (by omega) h
 have e:Lib.ctz 64 w = Lib.ctzFrom 64 w:=by simp [Lib.ctz,h0]
 rw [e]
 generalize Lib.ctzFrom 64 w = c at *
 have hp:0 < 2 ^ c:=Nat.two_pow_pos c
 have tw:∀ t,w.testBit t = if t < c then false else (2 * m + 1).testBit (t - c):=fun t=>by
  have:=Nat.testBit_two_pow_mul_add (i:=c) (a:=2 * m + 1) (b:=0) hp t
  rw [Nat.add_zero,← hm] at this
  rw [this];simp
 have ew:w - 1 = 2 ^ c * (2 * m) + (2 ^ c - 1):=by
  rw [hm,Nat.mul_add];omega
 have tw1:∀ t,(w - 1).testBit t = if t < c then (2 ^ c - 1).testBit t else (2 * m).testBit (t - c):=fun t=>by
  rw [ew];exact Nat.testBit_two_pow_mul_add (i:=c) (a:=2 * m) (b:=2 ^ c - 1) (by omega) t
 refine ⟨by rw [tw];simp,fun t ht=>by rw [tw,if_pos ht],fun t=>?_⟩
 rw [Nat.testBit_and,tw,tw1]
 by_cases h1:t < c
 ·simp [h1]
 ·rw [if_neg h1,if_neg h1]
  by_cases h2:t = c
  ·subst h2;simp
  ·have:c < t:=by omega
   obtain ⟨d,hd⟩:∃ d,t - c = d + 1:=⟨t - c - 1,by omega⟩
   simp only [hd,this,decide_true,Bool.true_and]
   rw [Nat.testBit_succ,Nat.testBit_succ,show (2 * m + 1) / 2 = m by omega,show 2 * m / 2 = m by omega,Bool.and_self]
theorem bits_fb (i:Nat):∀ (n j w:Nat),n + j = 64 → w < 2 ^ 64 → (∀ t,t < j → w.testBit t = false) → bitsW i w = ((List.range' j n).filter w.testBit).map (fun t=>((64 * i + t:Nat):Int)):=by
 intro n
 induction n with
 | zero =>
  intro j w hj hw ht
  have:w = 0:=by
   apply Nat.eq_of_testBit_eq
   intro t
   rw [Nat.zero_testBit]
   by_cases h:t < j
   ·exact ht t h
   ·exact Nat.testBit_lt_two_pow (Nat.lt_of_lt_of_le hw (Nat.pow_le_pow_right (by decide) (by omega)))
  subst this
  rw [bitsW];simp
 | succ n ih =>
  intro j w hj hw ht
  rw [List.range'_succ]
  cases hb:w.testBit j with
  | false =>
   rw [List.filter_cons_of_neg (by simp [hb])]
   exact ih (j + 1) w (by omega) hw (fun t h=>by
    by_cases e:t = j
    ·rw [e,hb]
    ·exact ht t (by omega))
  | true =>
   have h0:w ≠ 0:=by intro e;subst e;simp at hb
   obtain ⟨l1,l2,l3⟩:=low_bit h0 hw
   have hc:Lib.ctz 64 w = j:=by
    rcases Nat.lt_trichotomy (Lib.ctz 64 w) j with h | h | h
    ·rw [ht _ h] at l1;cases l1
    ·exact h
    ·rw [l2 _ h] at hb;cases hb
   rw [hc] at l3
   have hle:w &&& (w - 1) ≤ w - 1:=Nat.and_le_right
   rw [List.filter_cons_of_pos hb,List.map_cons,bitsW,dif_neg h0,hc,ih (j + 1) (w &&& (w - 1)) (by omega) (by omega) (fun t h=>by
    rw [l3,show decide (j < t) = false from decide_eq_false (by omega)];rfl)]
   congr 1
   congr 1
   apply List.filter_congr
   intro t hmem
   have:j + 1 ≤ t:=by
    have:=List.mem_range'.1 hmem
    obtain ⟨k,_,rfl⟩:=this
    omega
   rw [l3,show decide (j < t) = true from decide_eq_true (by omega),Bool.true_and]
def mems (a b c d:Nat):List Nat:=(List.range 256).filter (hasN a b c d)
theorem mems_eq {a b c d:Nat} (ha:a < 18446744073709551616) (hb:b < 18446744073709551616) (hc:c < 18446744073709551616) (hd:d < 18446744073709551616):restL4 a b c d 0 = (mems a b c d).map (fun (t:Nat)=>(t:Int)):=by
 have one:∀ (i w:Nat),(∀ t,t < 64 → hasN a b c d (64 * i + t) = w.testBit t) → w < 2 ^ 64 → bitsW i w = ((List.range' (64 * i) 64).filter (hasN a b c d)).map (fun (t:Nat)=>(t:Int)):=by
  intro i w hh hw
  rw [bits_fb i 64 0 w rfl hw (fun _ h=>by omega),show List.range' (64 * i) 64 = (List.range' 0 64).map (64 * i + ·) by rw [List.map_add_range'];rfl,List.filter_map,List.map_map]
  have:(List.range' 0 64).filter w.testBit = (List.range' 0 64).filter (hasN a b c d ∘ (64 * i + ·)):=by
   apply List.filter_congr
   intro t hmem
   obtain ⟨k,hk,rfl⟩:=List.mem_range'.1 hmem
   exact (hh _ (by omega)).symm
  rw [this]
  rfl
 have tb:∀ (i w:Nat),i < 4 → wd a b c d i = w → ∀ t,t < 64 → hasN a b c d (64 * i + t) = w.testBit t:=by
  intro i w hi hw t ht
  unfold hasN
  rw [show (64 * i + t) / 64 = i by omega,show (64 * i + t) % 64 = t by omega,hw,Nat.testBit_eq_decide_div_mod_eq]
 have sp:List.range 256 = List.range' (64 * 0) 64 ++ (List.range' (64 * 1) 64 ++ (List.range' (64 * 2) 64 ++ List.range' (64 * 3) 64)):=by decide +kernel
 unfold mems
 rw [sp,List.filter_append,List.filter_append,List.filter_append,List.map_append,List.map_append,List.map_append]
 simp only [restL4]
 rw [one 0 a (tb 0 a (by omega) rfl) ha,one 1 b (tb 1 b (by omega) rfl) hb,one 2 c (tb 2 c (by omega) rfl) hc,one 3 d (tb 3 d (by omega) rfl) hd]
theorem mems_len (a b c d:Nat):(mems a b c d).length ≤ 256:=by
 have:=List.length_filter_le (hasN a b c d) (List.range 256)
 simpa [mems] using this
end Go.Proofs.YthcpaohmajjopaaGreatDoor.I
set_option linter.unusedVariables false
set_option linter.unusedSimpArgs false
namespace Go.Proofs.YthcpaohmajjopaaGreatDoor.I
open Go Go.Proofs.YthcpaohmajjopaaGreatDoor.AM
variable {X:Cx}
def itemL (c:UInt8):List UInt8 :=
 if c = 10 then [92,110] else if c = 13 then [92,114] else if c = 9 then [92,116] else if c = 92 ∨ c = 93 ∨ c = 91 ∨ c = 94 ∨ c = 45 ∨ c = 37 then [92,c]
 else if 32 ≤ c ∧ c ≤ 126 then [c] else [92,120,hd (c / 16),hd (c % 16)]
theorem itemL_int:∀ c:UInt8,itemL c = if (c.toNat:Int) = 10 then [92,110] else if (c.toNat:Int) = 13 then [92,114] else if (c.toNat:Int) = 9 then [92,116] else
  if (c.toNat:Int) = 92 ∨ (c.toNat:Int) = 93 ∨ (c.toNat:Int) = 91 ∨ (c.toNat:Int) = 94 ∨ (c.toNat:Int) = 45 ∨ (c.toNat:Int) = 37 then [92,c]
   else if 32 ≤ (c.toNat:Int) ∧ (c.toNat:Int) ≤ 126 then [c] else [92,120,hd (c / 16),hd (c % 16)]:=all8 (by decide +kernel)
theorem w8c:∀ c:UInt8,IntKind.wrap .u8 (c.toNat:Int) = (c.toNat:Int):=all8 (by decide +kernel)
theorem q16':∀ c:UInt8,IntKind.wrap .i64 ((c.toNat:Int).tdiv 16) = ((c / 16).toNat:Int) ∧ (c.toNat:Int).tmod 16 = ((c % 16).toNat:Int) ∧ IntKind.wrap .i64 ((c.toNat:Int).tmod 16) = ((c % 16).toNat:Int):=all8 (by decide +kernel)
theorem itemL_len:∀ c:UInt8,1 ≤ (itemL c).length ∧ (itemL c).length ≤ 4:=all8 (by decide +kernel)
theorem ba_app (a b:Array UInt8):(⟨a⟩:ByteArray) ++ ⟨b⟩ = ⟨a ++ b⟩:=by
 apply ByteArray.ext;simp [ByteArray.data_append]
theorem ub1 (c:UInt8):[[L.int .u8 (c.toNat:Int)]] = ub [c]:=rfl
theorem ubc (c:UInt8) (l:List UInt8):[L.int .u8 (c.toNat:Int)] :: ub l = ub (c :: l):=rfl
theorem r47 (c:UInt8):R X Tryz.prog 47 [.lf (.int .i64 c.toNat)] [] (.lf (.str ⟨(itemL c).toArray⟩)) []:=by
 refine R_i [] [] c47_ok rfl (by simp) ?_
 have hc:=c.toNat_lt
 have q:=d16 c
 have qa:=digs (c / 16) q.1
 have qb:=digs (c % 16) q.2.1
 obtain ⟨z1,z2,z3⟩:=q16' c
 rw [itemL_int c]
 simp -implicitDefEqProofs (maxSteps:=2000000) only [c47,w8c,z1,z2,z3,qa,qb,ub1,ubc,v_cbs_ub,↓reduceIte,S0,St.init,enum,Nat.reduceEqDiff,Nat.reduceAdd,reduceCtorEq,cond_false,PV.cells,datL,Nat.reduceMul,Nat.reduceLeDiff,plT,ne_eq,List.reduceReplicate,List.set_cons_zero,List.set_cons_succ,Nat.reduceLT]
 repeat' (with_reducible refine ite_pr (fun h=>?_) (fun h=>?_))
 all_goals (simp_all [ba_app];try omega)
def notW (s:Nat):Nat:=18446744073709551615 - s
theorem xor_max (s:Nat) (h:s < 2 ^ 64):Go.bits .xor .u64 IntKind.u64.max (s:Int) = ((notW s:Nat):Int):=by
 have h1:(BitVec.ofInt 64 (s:Int)).toNat = s:=by simp [BitVec.toNat_ofInt];omega
 have h2:BitVec.ofInt 64 IntKind.u64.max = BitVec.allOnes 64:=by decide
 have h3:(BitVec.ofInt 64 IntKind.u64.max ^^^ BitVec.ofInt 64 (s:Int)).toNat = 18446744073709551615 - s:=by
  rw [h2,BitVec.allOnes_xor,BitVec.toNat_not,h1]
 show IntKind.u64.wrap ((BitVec.ofInt 64 IntKind.u64.max ^^^ BitVec.ofInt 64 (s:Int)).toNat:Int) = _
 rw [h3]
 exact wrap_u64 (by omega)
theorem r60 (a b c d:Nat) (ha:a < 2 ^ 64) (hb:b < 2 ^ 64) (hc:c < 2 ^ 64) (hd:d < 2 ^ 64) :
  R X Tryz.prog 60 [.ag [.int .u64 a,.int .u64 b,.int .u64 c,.int .u64 d]] [] (.ag [.int .u64 (notW a),.int .u64 (notW b),.int .u64 (notW c),.int .u64 (notW d)]) []:=by
 have xa:=xor_max a ha
 have xb:=xor_max b hb
 have xc:=xor_max c hc
 have xd:=xor_max d hd
 have w1:IntKind.i64.wrap 1 = 1:=by decide
 have w2:IntKind.i64.wrap 2 = 2:=by decide
 have w3:IntKind.i64.wrap 3 = 3:=by decide
 have w4:IntKind.i64.wrap 4 = 4:=by decide
 have sg:(if IntKind.u64.signed = true then (-1:Int) else IntKind.u64.max) = IntKind.u64.max:=by decide
 refine R_i [] [] c60_ok rfl (by simp) ?_
 simp -implicitDefEqProofs (maxSteps:=2000000) only [c60,↓reduceIte,S0,St.init,enum,Nat.reduceEqDiff,Nat.reduceBEq,List.range_zero]
 intro Z hZ;apply hZ
 simp -implicitDefEqProofs (maxSteps:=2000000) only [c60,sg,xa,xb,xc,xd,w1,w2,w3,w4,Int.reduceLT,Int.reduceAdd,Int.reduceToNat,Int.reduceLE,decide_true,decide_false,Nat.reduceLT,Nat.reduceAdd,↓reduceIte,S0,Nat.reduceEqDiff,Nat.reduceAdd,PV.cells,cellL,fillL,Nat.reduceMul,Nat.reduceLeDiff,List.range_zero,Int.reduceNeg,Nat.reduceLT]
 refine ⟨by omega,by omega,?_⟩;apply hZ
 simp -implicitDefEqProofs (maxSteps:=2000000) only [c60,sg,xa,xb,xc,xd,w1,w2,w3,w4,Int.reduceLT,Int.reduceAdd,Int.reduceToNat,Int.reduceLE,decide_true,decide_false,Nat.reduceLT,Nat.reduceAdd,↓reduceIte,S0,Nat.reduceEqDiff,Nat.reduceAdd,PV.cells,cellL,fillL,Nat.reduceMul,Nat.reduceLeDiff,List.range_zero,Int.reduceNeg,Nat.reduceLT]
 refine ⟨by omega,by omega,?_⟩;apply hZ
 simp -implicitDefEqProofs (maxSteps:=2000000) only [c60,sg,xa,xb,xc,xd,w1,w2,w3,w4,Int.reduceLT,Int.reduceAdd,Int.reduceToNat,Int.reduceLE,decide_true,decide_false,Nat.reduceLT,Nat.reduceAdd,↓reduceIte,S0,Nat.reduceEqDiff,Nat.reduceAdd,PV.cells,cellL,fillL,Nat.reduceMul,Nat.reduceLeDiff,List.range_zero,Int.reduceNeg,Nat.reduceLT]
 refine ⟨by omega,by omega,?_⟩;apply hZ
 simp -implicitDefEqProofs (maxSteps:=2000000) only [c60,sg,xa,xb,xc,xd,w1,w2,w3,w4,Int.reduceLT,Int.reduceAdd,Int.reduceToNat,Int.reduceLE,decide_true,decide_false,Nat.reduceLT,Nat.reduceAdd,↓reduceIte,S0,Nat.reduceEqDiff,Nat.reduceAdd,PV.cells,cellL,fillL,Nat.reduceMul,List.range_zero,Int.reduceNeg,Nat.reduceLT]
 refine ⟨by omega,by omega,?_⟩;apply hZ
 simp -implicitDefEqProofs (maxSteps:=2000000) only [c60,sg,xa,xb,xc,xd,w1,w2,w3,w4,Int.reduceLT,Int.reduceAdd,Int.reduceToNat,Int.reduceLE,decide_true,decide_false,Nat.reduceLT,Nat.reduceAdd,↓reduceIte,S0,Nat.reduceEqDiff,Nat.reduceAdd,PV.cells,cellL,fillL,Nat.reduceLT]
 done
def fullN (a b c d:Nat):Bool:=decide (a = 18446744073709551615 ∧ b = 18446744073709551615 ∧ c = 18446744073709551615 ∧ d = 18446744073709551615)
theorem r45 (a b c d:Nat) (ha:a < 2 ^ 64) (hb:b < 2 ^ 64) (hc:c < 2 ^ 64) (hd:d < 2 ^ 64) :
  R X Tryz.prog 45 [.ag [.int .u64 a,.int .u64 b,.int .u64 c,.int .u64 d]] [] (.lf (.bool (fullN a b c d))) []:=by
 refine R_i [] [] c45_ok rfl (by simp) ?_
 simp -implicitDefEqProofs (maxSteps:=2000000) only [c45,↓reduceIte,S0,St.init,enum,Nat.reduceEqDiff,Nat.reduceAdd,PV.leaves]
 refine wcall_s (r60 a b c d ha hb hc hd) rfl rfl ?_
 simp -implicitDefEqProofs (maxSteps:=2000000) only [c45,↓reduceIte,S0,Nat.reduceEqDiff,St.clr,outV,ownsV,owns1,ownL]
 rw [Bool.eq_iff_iff]
 simp only [Bool.and_eq_true,decide_eq_true_eq,fullN]
 have e1:notW a = 18446744073709551615 - a:=rfl
 have e2:notW b = 18446744073709551615 - b:=rfl
 have e3:notW c = 18446744073709551615 - c:=rfl
 have e4:notW d = 18446744073709551615 - d:=rfl
 constructor
 ·rintro ⟨h1,h2,h3,h4⟩
  exact ⟨by omega,by omega,by omega,by omega⟩
 ·rintro ⟨rfl,rfl,rfl,rfl⟩
  exact ⟨by decide,by decide,by decide,by decide⟩
end Go.Proofs.YthcpaohmajjopaaGreatDoor.I
set_option linter.unusedVariables false
set_option linter.unusedSimpArgs false
namespace Go.Proofs.YthcpaohmajjopaaGreatDoor.I
open Go Go.Proofs.YthcpaohmajjopaaGreatDoor.AM
variable {X:Cx}
def stepN (acc:List (Nat × Nat)) (b:Nat):List (Nat × Nat) :=
 match acc.getLast? with
 | some (lo,hi)=>if hi + 1 = b then acc.dropLast ++ [(lo,b)] else acc ++ [(b,b)]
 | none=>[(b,b)]
def spN (xs:List Nat):List (Nat × Nat):=xs.foldl stepN []
theorem stepN_map (acc:List (Nat × Nat)) (b:Nat):stepS (acc.map fun p=>((p.1:Int),(p.2:Int))) (b:Int) = (stepN acc b).map fun p=>((p.1:Int),(p.2:Int)):=by
 unfold stepS stepN
 rw [List.getLast?_map]
 cases h:acc.getLast? with
 | none=>simp
 | some p =>
  obtain ⟨lo,hi⟩:=p
  simp only [Option.map_some]
  by_cases e:hi + 1 = b
  ·rw [if_pos (show (hi:Int) = (b:Int) - 1 by omega),if_pos e]
   simp [List.map_dropLast]
  ·rw [if_neg (show ¬ (hi:Int) = (b:Int) - 1 by omega),if_neg e]
   simp
theorem spN_map (xs:List Nat):spansF (xs.map fun (t:Nat)=>(t:Int)) = (spN xs).map fun p=>((p.1:Int),(p.2:Int)):=by
 have gen:∀ (xs:List Nat) (acc:List (Nat × Nat)),(xs.map fun (t:Nat)=>(t:Int)).foldl stepS (acc.map fun p=>((p.1:Int),(p.2:Int))) = (xs.foldl stepN acc).map fun p=>((p.1:Int),(p.2:Int)):=by
  intro xs
  induction xs with
  | nil=>intro acc;rfl
  | cons x xs ih=>intro acc;simp only [List.map_cons,List.foldl_cons];rw [stepN_map,ih]
 exact gen xs []
def rowP (p:Nat × Nat):List L:=[.int .i64 (p.1:Int),.int .i64 (p.2:Int)]
theorem spN_bound (xs:List Nat) (n:Nat) (h:∀ x ∈ xs,x < n):∀ p ∈ spN xs,p.1 < n ∧ p.2 < n:=by
 have gen:∀ (xs:List Nat) (acc:List (Nat × Nat)),(∀ x ∈ xs,x < n) → (∀ p ∈ acc,p.1 < n ∧ p.2 < n) → ∀ p ∈ xs.foldl stepN acc,p.1 < n ∧ p.2 < n:=by
  intro xs
  induction xs with
  | nil=>intro acc _ h;exact h
  | cons x xs ih =>
   intro acc hx ha
   refine ih _ (fun y hy=>hx y (List.mem_cons_of_mem _ hy)) ?_
   have hxn:=hx x (List.mem_cons_self ..)
   intro p hp
   unfold stepN at hp
   split at hp
   ·rename_i lo hi hl
    have hm:=List.mem_of_getLast? hl
    split at hp
    ·rcases List.mem_append.1 hp with hp | hp
     ·exact ha p (List.dropLast_subset _ hp)
     ·simp at hp;subst hp;exact ⟨(ha _ hm).1,hxn⟩
    ·rcases List.mem_append.1 hp with hp | hp
     ·exact ha p hp
     ·simp at hp;subst hp;exact ⟨hxn,hxn⟩
   ·simp at hp;subst hp;exact ⟨hxn,hxn⟩
 exact gen xs [] h (fun _ h=>by cases h)
theorem spC_get:∀ (l:List (Int × Int)) (i:Nat) (p:Int × Int),l[i]? = some p → (spC l)[i * 2 + 0]? = some (.int .i64 p.1) ∧ (spC l)[i * 2 + 1]? = some (.int .i64 p.2)
 | [],i,p,h=>by simp at h
 | q :: l,0,p,h=>by
  simp at h;subst h;simp [spC]
 | q :: l,i + 1,p,h=>by
  have:=spC_get l i p (by simpa using h)
  simp only [spC,List.flatMap_cons] at this ⊢
  rw [show (i + 1) * 2 + 0 = (i * 2 + 0) + 2 by omega,show (i + 1) * 2 + 1 = (i * 2 + 1) + 2 by omega]
  simpa using this
theorem r46 (hX:X.G 4 = some deBL) (a b c d:Nat) (ha:a < 18446744073709551616) (hb:b < 18446744073709551616) (hc:c < 18446744073709551616) (hd:d < 18446744073709551616) :
  R X Tryz.prog 46 [.ag [.int .u64 a,.int .u64 b,.int .u64 c,.int .u64 d]] [] (.lf (.lst (.own 0 98) 2 ((spN (mems a b c d)).map rowP) [])) []:=by
 intro E w vs hC hI _ hargs _
 obtain ⟨h3,hT⟩:=deB_tab hX hC
 cases hargs with
 | cons a1 a2 =>
  cases a2
  obtain ⟨us,rfl,hall⟩:=a1
  have hus:us = [.int .u64 a,.int .u64 b,.int .u64 c,.int .u64 d]:=by
   cases hall with
   | cons q1 q2=>cases q2 with
    | cons q3 q4=>cases q4 with
     | cons q5 q6=>cases q6 with
      | cons q7 q8=>cases q8;cases q1;cases q3;cases q5;cases q7;rfl
  subst hus
  have hlen:(restL4 a b c d 0).length ≤ 256:=by rw [mems_eq ha hb hc hd,List.length_map];exact mems_len a b c d
  refine (callsIn_wide.1 (spans_in Fence.wide 3 trivial trivial trivial trivial rfl (Nat.le_refl _) a b c d ha hb hc hd (fun m x w hx hT=>callsIn_wide.2 (tz82 x hx w (fun _=>hT))) hlen w h3 hT)).mono ?_
  rintro e w' ⟨v,rfl,hrow,_,hB⟩
  rw [mems_eq ha hb hc hd,spN_map] at hrow
  have hU:Unch (fun _=>False) w w':=⟨hB.os,hB.tape,hB.output,hB.size,fun k hk _=>hB.block k hk⟩
  generalize spN (mems a b c d) = sp at hrow ⊢
  rcases hrow.2 with ⟨rfl,h0⟩ | ⟨g,cap,cur,rfl,hg,hh,hcap,hmx,hsz,htk⟩
  ·have:sp = []:=by simpa using h0
   subst this
   exact ⟨_,E,rfl,(ext_step hI hU).1,⟨none,0,rfl,.inl ⟨rfl,rfl,rfl,rfl⟩⟩,fun c cs h=>by simp at h⟩
  ·have hlt:g < w'.heap.size:=(Array.getElem?_eq_some_iff.1 hh).1
   refine ⟨_,E.own 0 g,rfl,(own_step hI hU hg hlt).1,⟨some ⟨g,0,none⟩,cap,by simp,.inr ⟨g,cur,rfl,by simp [Env.own,upd],hh,by simpa using hcap,hmx,hsz,?_⟩⟩,fun c cs h=>by simp at h⟩
   intro i x hx
   rw [List.append_nil,List.getElem?_map] at hx
   obtain ⟨p,hp,rfl⟩:=Option.map_eq_some_iff.1 hx
   refine ⟨rfl,fun j cc hj=>?_⟩
   obtain ⟨g1,g2⟩:=spC_get _ i ((p.1:Int),(p.2:Int)) (by rw [List.getElem?_map,hp];rfl)
   rw [← htk] at g1 g2
   have up:∀ k u,(cur.toList.take ((sp.map fun p=>((p.1:Int),(p.2:Int))).length * 2))[k]? = some u → cur.toList[k]? = some u:=fun k u h=>by
    rw [List.getElem?_take] at h
    split at h
    ·exact h
    ·cases h
   match j,hj with
   | 0,hj=>simp [rowP] at hj;subst hj;exact ⟨_,up _ _ g1,.int _ _⟩
   | 1,hj=>simp [rowP] at hj;subst hj;exact ⟨_,up _ _ g2,.int _ _⟩
   | j + 2,hj=>simp [rowP] at hj
end Go.Proofs.YthcpaohmajjopaaGreatDoor.I
set_option linter.unusedVariables false
set_option linter.unusedSimpArgs false
namespace Go.Proofs.YthcpaohmajjopaaGreatDoor.I
open Go Go.Proofs.YthcpaohmajjopaaGreatDoor.AM
variable {X:Cx}
def pieceL (p:Nat × Nat):List UInt8:=itemL (UInt8.ofNat p.1) ++ (if p.1 + 1 < p.2 then [45] else []) ++ (if p.1 < p.2 then itemL (UInt8.ofNat p.2) else [])
def showL (a b c d:Nat):List UInt8:=if fullN a b c d = true then [91,94,93] else 91 :: ((spN (mems a b c d)).flatMap pieceL ++ [93])
theorem pieceL_len (p:Nat × Nat):(pieceL p).length ≤ 9:=by
 have h1:=(itemL_len (UInt8.ofNat p.1)).2
 have h2:=(itemL_len (UInt8.ofNat p.2)).2
 unfold pieceL
 split<;>split<;>simp only [List.length_append,List.length_cons,List.length_nil]<;>omega
theorem pieces_len:∀ l:List (Nat × Nat),(l.flatMap pieceL).length ≤ 9 * l.length
 | []=>by simp
 | p :: l=>by
  have:=pieces_len l
  have:=pieceL_len p
  simp only [List.flatMap_cons,List.length_append,List.length_cons];omega
theorem sp_ok (a b c d:Nat):(spN (mems a b c d)).length ≤ 256 ∧ ∀ p ∈ spN (mems a b c d),p.1 < 256 ∧ p.2 < 256:=by
 constructor
 ·have h1:(spansF ((mems a b c d).map fun (t:Nat)=>(t:Int))).length ≤ ((mems a b c d).map fun (t:Nat)=>(t:Int)).length:=spansF_len _
  rw [spN_map,List.length_map,List.length_map] at h1
  have:=mems_len a b c d
  omega
 ·exact spN_bound _ 256 fun x hx=>by
   have:=(List.mem_filter.1 hx).1
   simpa using this
theorem of8 {n:Nat} (h:n < 256):((UInt8.ofNat n).toNat:Int) = (n:Int):=by rw [UInt8.toNat_ofNat'];omega
theorem flat_rows (l:List (Nat × Nat)):Flat (.lf (.lst (.own 0 98) 2 (l.map rowP) [])):=by
 refine ⟨fun x hx c hc=>?_,rfl⟩
 obtain ⟨y,_,rfl⟩:=List.mem_map.1 hx
 simp [rowP] at hc
 rcases hc with rfl | rfl<;>rfl
theorem r32 (hX:X.G 4 = some deBL) (a b c d:Nat) (ha:a < 2 ^ 64) (hb:b < 2 ^ 64) (hc:c < 2 ^ 64) (hd:d < 2 ^ 64) :
  R X Tryz.prog 32 [.ag [.int .u64 a,.int .u64 b,.int .u64 c,.int .u64 d]] [] (.lf (.str ⟨(showL a b c d).toArray⟩)) []:=by
 refine R_i [] [] c32_ok rfl (by simp) ?_
 unfold showL
 obtain ⟨hsl,hsb⟩:=sp_ok a b c d
 simp -implicitDefEqProofs (maxSteps:=2000000) only [c32,↓reduceIte,S0,St.init,enum,Nat.reduceEqDiff,Nat.reduceAdd,PV.leaves]
 refine wcall_s (r45 a b c d ha hb hc hd) rfl rfl ?_
 cases hf:fullN a b c d with
 | true=>simp -implicitDefEqProofs (maxSteps:=2000000) only [c32,↓reduceIte,S0,Nat.reduceEqDiff,St.clr,outV,ownsV,owns1,ownL]
 | false =>
  simp -implicitDefEqProofs (maxSteps:=2000000) only [c32,↓reduceIte,S0,Nat.reduceEqDiff,St.clr,outV,ownsV,owns1,ownL,PV.leaves,Nat.reduceBEq]
  refine pcall_i (r19 _ (Or.inl rfl) [] _ (by simp [ByteArray.size])) rfl rfl ?_
  simp -implicitDefEqProofs (maxSteps:=2000000) only [c32,↓reduceIte,S0,Nat.reduceEqDiff,Nat.reduceAdd,outV,ownsV,owns1,ownL,PV.leaves,Nat.reduceMul,isC,cplc,Nat.reduceMod,Nat.reduceDiv]
  refine wcall_flat (r46 hX a b c d ha hb hc hd) rfl (flat_rows _) ?_
  have kc:[1280,1282,1284].contains 387 = false:=by decide
  have h75:∀ n:Nat,n < 256 → R X Tryz.prog 47 [.lf (.int .i64 (n:Int))] [] (.lf (.str ⟨(itemL (UInt8.ofNat n)).toArray⟩)) []:=fun n hn=>by
   have:=r47 (X:=X) (UInt8.ofNat n)
   rwa [of8 hn] at this
  generalize spN (mems a b c d) = sp at hsl hsb ⊢
  have key:∀ (q:List (Nat × Nat)) (i:Nat) (y:List UInt8),sp.drop i = q → i ≤ sp.length → y ++ q.flatMap pieceL ++ [93] = 91 :: (sp.flatMap pieceL ++ [93]) → LoopAt X Tryz.prog c32_14 [3,10,11,12]
   (blkK 0 (seqK X Tryz.prog c32_19 (retS [] [] 0 [RV.t 2] (PV.lf (L.str { data:=(91 :: (sp.flatMap pieceL ++ [93])).toArray })) [])))
   {m:=0,tm:=[(3,PV.lf (L.tptr 3 0 56)),(10,PV.lf (L.lst (Tag.own 1280 98) 2 (sp.map rowP) [])),(11,PV.lf (L.int IntKind.i64 sp.length)),(12,PV.lf (L.int IntKind.i64 (i:Int)))],
    ce:=[(3,[L.tptr 3 0 56,L.lst (Tag.own 387 5) 1 (ub y) []])] }:=by
   intro q
   induction q with
   | nil =>
    intro i y hq hil hy
    have hi:sp.length ≤ i:=by simpa using hq
    have hn:¬ (i:Int) < (sp.length:Int):=by omega
    intro Z hZ;apply hZ
    have hyl:y.length ≤ 3000:=by
     have h1:=congrArg List.length hy
     have h2:=pieces_len sp
     simp only [List.length_append,List.length_cons,List.length_nil] at h1
     omega
    simp -implicitDefEqProofs (maxSteps:=2000000) only [c32,hn,decide_false,↓reduceIte,S0,Nat.reduceEqDiff,PV.leaves]
    refine pcall_i (r19 _ (Or.inr rfl) y _ (by simp [ByteArray.size];omega)) rfl rfl ?_
    simp -implicitDefEqProofs (maxSteps:=2000000) only [c32,↓reduceIte,S0,Nat.reduceEqDiff,Nat.reduceAdd,outV,ownsV,owns1,ownL,PV.leaves,Nat.reduceMul,Nat.reduceBEq,isC,cplc,Nat.reduceMod,Nat.reduceDiv]
    refine pcall_i (r23 _ (Or.inr rfl) _ (by simp)) rfl rfl ?_
    simp -implicitDefEqProofs (maxSteps:=2000000) only [c32,↓reduceIte,S0,outV,ownsV,owns1,ownL,isC,Nat.reduceMod,Nat.reduceDiv]
    rw [← hy]
    simp
   | cons p q ih =>
    intro i y hq hil hy
    have hi:i < sp.length:=by
     rcases Nat.lt_or_ge i sp.length with h | h
     ·exact h
     ·rw [List.drop_eq_nil_of_le h] at hq;cases hq
    have hx:sp[i]? = some p:=by rw [← List.head?_drop,hq];rfl
    have hq':sp.drop (i + 1) = q:=by rw [← List.tail_drop,hq];rfl
    obtain ⟨lo,hi'⟩:=p
    obtain ⟨b1,b2⟩:=hsb _ (List.mem_of_getElem? hx)
    simp only at b1 b2
    have hlt:(i:Int) < (sp.length:Int):=by omega
    have hget:(sp.map rowP).getD i [] = [.int .i64 (lo:Int),.int .i64 (hi':Int)]:=by rw [List.getD_eq_getElem?_getD,List.getElem?_map,hx];rfl
    have w1:IntKind.i64.wrap ((i:Int) + 1) = ((i + 1:Nat):Int):=by rw [w64 (by omega) (by omega)];omega
    have w2:IntKind.i64.wrap ((lo:Int) + 1) = ((lo + 1:Nat):Int):=by rw [w64 (by omega) (by omega)];omega
    have hyl:y.length ≤ 3000:=by
     have h1:=congrArg List.length hy
     have h2:=pieces_len sp
     simp only [List.length_append,List.length_cons,List.length_nil] at h1
     omega
    have il1:=(itemL_len (UInt8.ofNat lo)).2
    have il2:=(itemL_len (UInt8.ofNat hi')).2
    intro Z hZ;apply hZ
    simp -implicitDefEqProofs (maxSteps:=2000000) only [c32,hlt,decide_true,v_ld_e,hget,Int.toNat_natCast,↓reduceIte,S0,Nat.reduceEqDiff,Nat.reduceAdd,PV.leaves,PV.cells,cellL,fillL,Nat.reduceBEq]
    refine ⟨⟨by omega,by simpa using hi⟩,by simpa using hi,?_⟩
    refine wcall_s (h75 lo b1) rfl rfl ?_
    simp -implicitDefEqProofs (maxSteps:=2000000) only [c32,↓reduceIte,S0,Nat.reduceEqDiff,St.clr,outV,ownsV,owns1,ownL,PV.leaves]
    refine pcall_i (r19 _ (Or.inr rfl) y _ (by simp [ByteArray.size];omega)) rfl rfl ?_
    simp -implicitDefEqProofs (maxSteps:=2000000) only [c32,w2,↓reduceIte,S0,Nat.reduceEqDiff,Nat.reduceAdd,outV,ownsV,owns1,ownL,PV.leaves,Nat.reduceMul,Nat.reduceBEq,List.range_zero,isC,cplc,Nat.reduceMod,Nat.reduceDiv]
    have fin:∀ y':List UInt8,y' = y ++ pieceL (lo,hi') → Z { m:=0,tm:=[(3,PV.lf (L.tptr 3 0 56)),(10,PV.lf (L.lst (Tag.own 1280 98) 2 (sp.map rowP) [])),(11,PV.lf (L.int IntKind.i64 sp.length)),(12,PV.lf (L.int IntKind.i64 ((i + 1:Nat):Int)))],ce:=[(3,[L.tptr 3 0 56,L.lst (Tag.own 387 5) 1 (ub y') []])] }:=fun y' e=>ih (i + 1) y' hq' (by omega) (by rw [e,← hy];simp) Z hZ
    clear ih hy
    by_cases c1:lo + 1 < hi'
    ·have c1':((lo + 1:Nat):Int) < (hi':Int):=by omega
     have c2':(lo:Int) < (hi':Int):=by omega
     simp -implicitDefEqProofs (maxSteps:=2000000) only [c32,c1',c2',decide_true,↓reduceIte]
     refine pcall_i (r19 _ (Or.inr rfl) _ _ (by simp [ByteArray.size];omega)) rfl rfl ?_
     simp -implicitDefEqProofs (maxSteps:=2000000) only [c32,c1',c2',decide_true,↓reduceIte,S0,Nat.reduceEqDiff,Nat.reduceAdd,outV,ownsV,owns1,ownL,PV.leaves,Nat.reduceMul,Nat.reduceBEq,isC,cplc,Nat.reduceMod,Nat.reduceDiv]
     refine wcall_s (h75 hi' b2) rfl rfl ?_
     simp -implicitDefEqProofs (maxSteps:=2000000) only [c32,↓reduceIte,S0,Nat.reduceEqDiff,St.clr,outV,ownsV,owns1,ownL,PV.leaves]
     refine pcall_i (r19 _ (Or.inr rfl) _ _ (by simp [ByteArray.size];omega)) rfl rfl ?_
     simp -implicitDefEqProofs (maxSteps:=2000000) only [c32,w1,↓reduceIte,S0,Nat.reduceEqDiff,Nat.reduceAdd,outV,ownsV,owns1,ownL,Nat.reduceMul,Nat.reduceBEq,List.range_zero,isC,cplc,Nat.reduceMod,Nat.reduceDiv]
     exact fin _ (by simp [pieceL,c1,show lo < hi' by omega])
    ·have c1':¬ ((lo + 1:Nat):Int) < (hi':Int):=by omega
     by_cases c2:lo < hi'
     ·have c2':(lo:Int) < (hi':Int):=by omega
      simp -implicitDefEqProofs (maxSteps:=2000000) only [c32,c1',c2',decide_true,decide_false,↓reduceIte]
      refine wcall_s (h75 hi' b2) rfl rfl ?_
      simp -implicitDefEqProofs (maxSteps:=2000000) only [c32,↓reduceIte,S0,Nat.reduceEqDiff,St.clr,outV,ownsV,owns1,ownL,PV.leaves]
      refine pcall_i (r19 _ (Or.inr rfl) _ _ (by simp [ByteArray.size];omega)) rfl rfl ?_
      simp -implicitDefEqProofs (maxSteps:=2000000) only [c32,w1,↓reduceIte,S0,Nat.reduceEqDiff,Nat.reduceAdd,outV,ownsV,owns1,ownL,Nat.reduceMul,Nat.reduceBEq,List.range_zero,isC,cplc,Nat.reduceMod,Nat.reduceDiv]
      exact fin _ (by simp [pieceL,c1,c2])
     ·have c2':¬ (lo:Int) < (hi':Int):=by omega
      simp -implicitDefEqProofs (maxSteps:=2000000) only [c32,c1',c2',decide_true,decide_false,w1,↓reduceIte]
      exact fin _ (by simp [pieceL,c1,c2])
  simp -implicitDefEqProofs (maxSteps:=2000000) only [c32,List.length_map,kc,↓reduceIte,S0,Nat.reduceEqDiff,Nat.reduceAdd,St.clr,outV,ownsV,owns1,ownL,Nat.reduceMul,kps_lo,List.range_zero,plT,kps_t]
  intro _
  exact key sp 0 [91] rfl (Nat.zero_le _) (by simp)
end Go.Proofs.YthcpaohmajjopaaGreatDoor.I
set_option linter.unusedVariables false
set_option linter.unusedSimpArgs false
namespace Go.Proofs.YthcpaohmajjopaaGreatDoor.I
open Go Go.Proofs.YthcpaohmajjopaaGreatDoor.AM
variable {X:Cx}
end Go.Proofs.YthcpaohmajjopaaGreatDoor.I
set_option maxRecDepth 100000
namespace Go.Proofs.YthcpaohmajjopaaGreatDoor.I
open Go Go.Proofs.YthcpaohmajjopaaGreatDoor.AM
abbrev c20_0:AC:=.cond (.t 28) (.ops 0 [⟨some 32,.mv (.t 5),none⟩,⟨some 33,.fa (.t 2) 1,none⟩,⟨some 34,.ld (.t 33) 1 false,none⟩,⟨some 35,.call 30 [(.t 34)],none⟩,⟨some 36,.bin .add (.k (.lf (.str ⟨#[32]⟩))) (.t 35),none⟩,⟨some 37,.bin .add (.t 32) (.t 36),none⟩,⟨some 5,.as 0 0 (.t 37),none⟩] [2,5]) .skip
abbrev c20_1:AC:=.seq (.ops 0 [⟨some 29,.fa (.t 2) 0,none⟩,⟨some 30,.ld (.t 29) 1 false,none⟩,⟨some 31,.call 15 [(.t 30),(.k (.lf (.int .i64 1)))],none⟩,⟨some 28,.as 0 0 (.t 31),none⟩] [2,5,28]) c20_0
abbrev c20_2:AC:=.cond (.t 16) (.ops 0 [⟨some 20,.mv (.t 5),none⟩,⟨some 21,.mv (.t 1),none⟩,⟨some 22,.fa (.t 2) 1,none⟩,⟨some 23,.ld (.t 22) 1 false,none⟩,⟨some 24,.bin .add (.t 21) (.t 23),none⟩,⟨some 25,.call 30 [(.t 24)],none⟩,⟨some 26,.bin .add (.k (.lf (.str ⟨#[32,62]⟩))) (.t 25),none⟩,⟨some 27,.bin .add (.t 20) (.t 26),none⟩,⟨some 5,.as 0 0 (.t 27),none⟩] [2,5]) c20_1
abbrev c20_3:AC:=.seq (.ops 0 [⟨some 17,.fa (.t 2) 0,none⟩,⟨some 18,.ld (.t 17) 1 false,none⟩,⟨some 19,.call 15 [(.t 18),(.k (.lf (.int .i64 32)))],none⟩,⟨some 16,.as 0 0 (.t 19),none⟩] [1,2,5,16]) c20_2
abbrev c20_4:AC:=.block 0 c20_3
abbrev c20_5:AC:=.cond (.t 40) (.ops 0 [⟨some 41,.mv (.t 5),none⟩,⟨some 42,.fa (.t 2) 2,none⟩,⟨some 43,.ld (.t 42) 1 false,none⟩,⟨some 44,.call 30 [(.t 43)],none⟩,⟨some 45,.bin .add (.k (.lf (.str ⟨#[32]⟩))) (.t 44),none⟩,⟨some 46,.bin .add (.t 41) (.t 45),none⟩,⟨some 5,.as 0 0 (.t 46),none⟩] [2,5]) .skip
abbrev c20_6:AC:=.seq (.ops 0 [⟨some 38,.fa (.t 2) 0,none⟩,⟨some 39,.ld (.t 38) 1 false,none⟩,⟨some 40,.call 15 [(.t 39),(.k (.lf (.int .i64 2)))],none⟩] [2,5,40]) c20_5
abbrev c20_7:AC:=.cond (.t 49) (.ops 0 [⟨some 50,.mv (.t 5),none⟩,⟨some 51,.fa (.t 2) 3,none⟩,⟨some 52,.ld (.t 51) 1 false,none⟩,⟨some 53,.call 30 [(.t 52)],none⟩,⟨some 54,.bin .add (.k (.lf (.str ⟨#[32]⟩))) (.t 53),none⟩,⟨some 55,.bin .add (.t 50) (.t 54),none⟩,⟨some 5,.as 0 0 (.t 55),none⟩] [2,5]) .skip
abbrev c20_8:AC:=.seq (.ops 0 [⟨some 47,.fa (.t 2) 0,none⟩,⟨some 48,.ld (.t 47) 1 false,none⟩,⟨some 49,.call 15 [(.t 48),(.k (.lf (.int .i64 4)))],none⟩] [2,5,49]) c20_7
abbrev c20_9:AC:=.seq (.ops 0 [⟨some 60,.fa (.t 2) 4,none⟩,⟨some 61,.ld (.t 60) 1 false,none⟩,⟨some 62,.call 31 [(.t 61)],none⟩,⟨some 59,.mv (.t 62),none⟩,⟨some 63,.ext (.t 59) 0,none⟩,⟨some 64,.ext (.t 59) 1,none⟩,⟨some 6,.as 0 0 (.t 63),none⟩,⟨some 7,.as 0 0 (.t 64),none⟩] [2,5,6]) (.ops 0 [⟨some 65,.mv (.t 5),none⟩,⟨some 66,.mv (.t 6),none⟩,⟨some 67,.bin .add (.k (.lf (.str ⟨#[32]⟩))) (.t 66),none⟩,⟨some 68,.bin .add (.t 65) (.t 67),none⟩,⟨some 5,.as 0 0 (.t 68),none⟩] [2,5])
abbrev c20_10:AC:=.cond (.t 58) c20_9 .skip
abbrev c20_11:AC:=.seq (.ops 0 [⟨some 56,.fa (.t 2) 0,none⟩,⟨some 57,.ld (.t 56) 1 false,none⟩,⟨some 58,.call 15 [(.t 57),(.k (.lf (.int .i64 8)))],none⟩] [2,5,58]) c20_10
abbrev c20_12:AC:=.cond (.t 71) (.ops 0 [⟨some 72,.mv (.t 5),none⟩,⟨some 73,.fa (.t 2) 5,none⟩,⟨some 74,.ld (.t 73) 4 true,none⟩,⟨some 75,.call 32 [(.t 74)],none⟩,⟨some 76,.bin .add (.k (.lf (.str ⟨#[32]⟩))) (.t 75),none⟩,⟨some 77,.bin .add (.t 72) (.t 76),none⟩,⟨some 5,.as 0 0 (.t 77),none⟩] [5]) .skip
abbrev c20_13:AC:=.seq (.ops 0 [⟨some 69,.fa (.t 2) 0,none⟩,⟨some 70,.ld (.t 69) 1 false,none⟩,⟨some 71,.call 15 [(.t 70),(.k (.lf (.int .i64 16)))],none⟩] [2,5,71]) c20_12
abbrev c20_14:AC:=.seq (.ops 0 [⟨some 78,.mv (.t 5),none⟩,⟨some 4,.as 0 0 (.t 78),none⟩] [4]) .ret
abbrev c20_15:AC:=.seq c20_13 c20_14
abbrev c20_16:AC:=.seq c20_11 c20_15
abbrev c20_17:AC:=.seq c20_8 c20_16
abbrev c20_18:AC:=.seq c20_6 c20_17
abbrev c20_19:AC:=.seq c20_4 c20_18
abbrev c20_20:AC:=.seq (.ops 1 [⟨some 8,.mv (.t 1),none⟩,⟨some 9,.call 30 [(.t 8)],none⟩,⟨some 10,.bin .add (.t 9) (.k (.lf (.str ⟨#[32]⟩))),none⟩,⟨some 11,.fa (.t 2) 0,none⟩,⟨some 12,.ld (.t 11) 1 false,none⟩,⟨some 13,.iaa (.k (.lf (.gl 1 0))) (.t 12) 21 1,none⟩,⟨some 14,.ld (.t 13) 1 false,none⟩,⟨some 15,.bin .add (.t 10) (.t 14),none⟩,⟨some 5,.as 0 0 (.t 15),none⟩] [1,2,5]) c20_19
abbrev c20_21:AC:=.seq (.ops 0 [⟨some 2,.bx (.t 0),none⟩,⟨some 4,.as 0 0 (.k (.lf (.str ⟨#[]⟩))),none⟩] [1,2]) c20_20
abbrev c20:AC:=c20_21
theorem c20_ok:compileFn Tryz.prog 20 = some (79,AC.strip c20,[.t 4]):=by kernel_rfl
abbrev c10_0:AC:=.seq (.ops 0 [⟨some 16,.mv (.t 5),none⟩,⟨some 2,.as 0 0 (.k (.lf (.str ⟨#[]⟩))),none⟩,⟨some 3,.as 0 0 (.t 16),none⟩] [2,3]) .ret
abbrev c10_1:AC:=.cond (.t 15) c10_0 .skip
abbrev c10_2:AC:=.seq (.ops 0 [⟨some 14,.mv (.t 5),none⟩,⟨some 15,.bin .neq (.t 14) (.k (.lf (.int .i64 0))),none⟩] [0,5,15]) c10_1
abbrev c10_3:AC:=.seq (.ops 0 [⟨some 10,.mv (.t 0),none⟩,⟨some 11,.call 6 [(.t 10)],none⟩,⟨some 9,.mv (.t 11),none⟩,⟨some 12,.ext (.t 9) 0,none⟩,⟨some 13,.ext (.t 9) 1,none⟩,⟨some 4,.as 0 0 (.t 12),none⟩,⟨some 5,.as 0 0 (.t 13),none⟩] [0,5]) c10_2
abbrev c10_4:AC:=.cond (.t 20) .skip (.exit 0)
abbrev c10_5:AC:=.seq (.ops 0 [⟨some 2,.as 0 0 (.k (.lf (.str ⟨#[]⟩))),none⟩,⟨some 3,.as 0 0 (.k (.lf (.int .i64 2))),none⟩] [2,3]) .ret
abbrev c10_6:AC:=.cond (.t 30) c10_5 .skip
abbrev c10_7:AC:=.seq (.ops 0 [⟨some 29,.callp 22 0 [(.t 6)],none⟩,⟨some 30,.bin .gtr (.t 29) (.k (.lf (.int .i64 65536))),none⟩] [6,17,18,19,30]) c10_6
abbrev c10_8:AC:=.seq (.ops 0 [⟨some 28,.callp 21 0 [(.t 6),(.k (.lf (.int .u8 10)))],none⟩] [6,17,18,19]) c10_7
abbrev c10_9:AC:=.seq (.ops 0 [⟨some 24,.ld (.t 8) 9 true,none⟩,⟨some 25,.mv (.t 7),none⟩,⟨some 26,.call 20 [(.t 24),(.t 25)],none⟩,⟨some 27,.callp 19 0 [(.t 6),(.t 26)],none⟩] [6,17,18,19]) c10_8
abbrev c10_10:AC:=.seq (.ops 0 [⟨some 21,.mv (.t 19),none⟩,⟨some 22,.ia (.t 17) (.t 19) 9,none⟩,⟨some 23,.ld (.t 22) 9 true,none⟩,⟨some 8,.al [.int .i64 0,.int .i64 0,.int .i64 0,.int .i64 0,.str ⟨#[]⟩,.int .u64 0,.int .u64 0,.int .u64 0,.int .u64 0],none⟩,⟨some 7,.as 0 0 (.t 21),none⟩,⟨none,.st (.t 8) (.t 23) 9,none⟩] [6,7,8,17,18,19]) c10_9
abbrev c10_11:AC:=.block 1 c10_10
abbrev c10_12:AC:=.seq c10_11 (.ops 0 [⟨some 31,.bin .add (.t 19) (.k (.lf (.int .i64 1))),none⟩,⟨some 19,.mv (.t 31),none⟩] [6,17,18,19])
abbrev c10_13:AC:=.seq c10_4 c10_12
abbrev c10_14:AC:=.seq (.ops 0 [⟨some 20,.bin .lss (.t 19) (.t 18),none⟩] [6,17,18,19,20]) c10_13
abbrev c10_15:AC:=.loop c10_14 [6,17,18,19]
abbrev c10_16:AC:=.block 0 c10_15
abbrev c10_17:AC:=.seq (.ops 0 [⟨some 17,.mv (.t 0),none⟩,⟨some 18,.len (.t 17),none⟩,⟨some 19,.mv (.k (.lf (.int .i64 0))),none⟩] [6,17,18,19]) c10_16
abbrev c10_18:AC:=.seq (.ops 0 [⟨some 32,.callp 23 0 [(.t 6)],none⟩,⟨some 2,.as 0 0 (.t 32),none⟩,⟨some 3,.as 0 0 (.k (.lf (.int .i64 0))),none⟩] [2,3]) .ret
abbrev c10_19:AC:=.seq c10_17 c10_18
abbrev c10_20:AC:=.seq (.ops 0 [⟨some 6,.alt 56 [.nilp,.lst (.own 771 5) 1 [] []],none⟩] [0,6]) c10_19
abbrev c10_21:AC:=.seq c10_3 c10_20
abbrev c10_22:AC:=.seq (.ops 0 [⟨some 2,.as 0 0 (.k (.lf (.str ⟨#[]⟩))),none⟩,⟨some 3,.as 0 0 (.k (.lf (.int .i64 0))),none⟩] [0]) c10_21
abbrev c10:AC:=c10_22
theorem c10_ok:compileFn Tryz.prog 10 = some (33,AC.strip c10,[.t 2,.t 3]):=by kernel_rfl
end Go.Proofs.YthcpaohmajjopaaGreatDoor.I
set_option maxRecDepth 100000
namespace Go.Proofs.YthcpaohmajjopaaGreatDoor.I
open Go Go.Proofs.YthcpaohmajjopaaGreatDoor.AM
abbrev c5_0:AC:=.seq (.ops 0 [⟨some 16,.mv (.t 5),none⟩,⟨some 2,.as 0 0 (.k (.lf (.str ⟨#[]⟩))),none⟩,⟨some 3,.as 0 0 (.t 16),none⟩] [2,3]) .ret
abbrev c5_1:AC:=.cond (.t 15) c5_0 .skip
abbrev c5_2:AC:=.seq (.ops 0 [⟨some 14,.mv (.t 5),none⟩,⟨some 15,.bin .neq (.t 14) (.k (.lf (.int .i64 0))),none⟩] [0,5,15]) c5_1
abbrev c5_3:AC:=.seq (.ops 0 [⟨some 10,.mv (.t 0),none⟩,⟨some 11,.call 6 [(.t 10)],none⟩,⟨some 9,.mv (.t 11),none⟩,⟨some 12,.ext (.t 9) 0,none⟩,⟨some 13,.ext (.t 9) 1,none⟩,⟨some 4,.as 0 0 (.t 12),none⟩,⟨some 5,.as 0 0 (.t 13),none⟩] [0,5]) c5_2
abbrev c5_4:AC:=.cond (.t 28) .skip (.exit 0)
abbrev c5_5:AC:=.seq (.ops 0 [⟨some 2,.as 0 0 (.k (.lf (.str ⟨#[]⟩))),none⟩,⟨some 3,.as 0 0 (.k (.lf (.int .i64 2))),none⟩] [2,3]) .ret
abbrev c5_6:AC:=.cond (.t 36) c5_5 .skip
abbrev c5_7:AC:=.seq (.ops 0 [⟨some 34,.mv (.t 6),none⟩,⟨some 35,.len (.t 34),none⟩,⟨some 36,.bin .gtr (.t 35) (.k (.lf (.int .i64 1048576))),none⟩] [6,25,26,27,36]) c5_6
abbrev c5_8:AC:=.seq (.ops 0 [⟨some 31,.mv (.t 6),none⟩,⟨some 32,.ld (.t 8) 9 true,none⟩,⟨some 33,.call 12 [(.t 31),(.t 32)],none⟩,⟨some 6,.as 5 1 (.t 33),none⟩] [6,25,26,27]) c5_7
abbrev c5_9:AC:=.seq (.ops 0 [⟨some 29,.ia (.t 25) (.t 27) 9,none⟩,⟨some 30,.ld (.t 29) 9 true,none⟩,⟨some 8,.al [.int .i64 0,.int .i64 0,.int .i64 0,.int .i64 0,.str ⟨#[]⟩,.int .u64 0,.int .u64 0,.int .u64 0,.int .u64 0],none⟩,⟨none,.st (.t 8) (.t 30) 9,none⟩] [6,8,25,26,27]) c5_8
abbrev c5_10:AC:=.block 1 c5_9
abbrev c5_11:AC:=.seq c5_10 (.ops 0 [⟨some 37,.bin .add (.t 27) (.k (.lf (.int .i64 1))),none⟩,⟨some 27,.mv (.t 37),none⟩] [6,25,26,27])
abbrev c5_12:AC:=.seq c5_4 c5_11
abbrev c5_13:AC:=.seq (.ops 0 [⟨some 28,.bin .lss (.t 27) (.t 26),none⟩] [6,25,26,27,28]) c5_12
abbrev c5_14:AC:=.loop c5_13 [6,25,26,27]
abbrev c5_15:AC:=.block 0 c5_14
abbrev c5_16:AC:=.seq (.ops 0 [⟨some 25,.mv (.t 0),none⟩,⟨some 26,.len (.t 25),none⟩,⟨some 27,.mv (.k (.lf (.int .i64 0))),none⟩] [6,25,26,27]) c5_15
abbrev c5_17:AC:=.seq (.ops 0 [⟨some 38,.mv (.t 6),none⟩,⟨some 39,.cbs (.t 38),none⟩,⟨some 2,.as 0 0 (.t 39),none⟩,⟨some 3,.as 0 0 (.k (.lf (.int .i64 0))),none⟩] [2,3]) .ret
abbrev c5_18:AC:=.seq c5_16 c5_17
abbrev c5_19:AC:=.seq (.ops 0 [⟨some 17,.mv (.t 0),none⟩,⟨some 18,.len (.t 17),none⟩,⟨some 19,.bin .shr (.t 18) (.k (.lf (.int .u64 8))),none⟩,⟨some 20,.cvi .u8 (.t 19),none⟩,⟨some 21,.mv (.t 0),none⟩,⟨some 22,.len (.t 21),none⟩,⟨some 23,.cvi .u8 (.t 22),none⟩,⟨some 24,.bs 5 1 2 [.int .u8 0] [(0,(.t 20)),(1,(.t 23))],none⟩,⟨some 6,.as 5 1 (.t 24),none⟩] [0,6]) c5_18
abbrev c5_20:AC:=.seq c5_3 c5_19
abbrev c5_21:AC:=.seq (.ops 0 [⟨some 2,.as 0 0 (.k (.lf (.str ⟨#[]⟩))),none⟩,⟨some 3,.as 0 0 (.k (.lf (.int .i64 0))),none⟩] [0]) c5_20
abbrev c5:AC:=c5_21
theorem c5_ok:compileFn Tryz.prog 5 = some (40,AC.strip c5,[.t 2,.t 3]):=by kernel_rfl
abbrev c12_0:AC:=.cond (.t 14) (.ops 0 [⟨some 15,.mv (.t 0),none⟩,⟨some 16,.fa (.t 3) 1,none⟩,⟨some 17,.ld (.t 16) 1 false,none⟩,⟨some 18,.bin .shr (.t 17) (.k (.lf (.int .u64 8))),none⟩,⟨some 19,.cvi .u8 (.t 18),none⟩,⟨some 20,.fa (.t 3) 1,none⟩,⟨some 21,.ld (.t 20) 1 false,none⟩,⟨some 22,.cvi .u8 (.t 21),none⟩,⟨some 23,.bs 5 1 2 [.int .u8 0] [(0,(.t 19)),(1,(.t 22))],none⟩,⟨some 24,.app 5 1 1 (.t 15) (.t 23),none⟩,⟨some 0,.as 5 1 (.t 24),none⟩] [0,3]) .skip
abbrev c12_1:AC:=.seq (.ops 0 [⟨some 12,.fa (.t 3) 0,none⟩,⟨some 13,.ld (.t 12) 1 false,none⟩,⟨some 14,.call 15 [(.t 13),(.k (.lf (.int .i64 1)))],none⟩] [0,3,14]) c12_0
abbrev c12_2:AC:=.cond (.t 27) (.ops 0 [⟨some 28,.mv (.t 0),none⟩,⟨some 29,.fa (.t 3) 2,none⟩,⟨some 30,.ld (.t 29) 1 false,none⟩,⟨some 31,.cvi .u8 (.t 30),none⟩,⟨some 32,.bs 5 1 1 [.int .u8 0] [(0,(.t 31))],none⟩,⟨some 33,.app 5 1 1 (.t 28) (.t 32),none⟩,⟨some 0,.as 5 1 (.t 33),none⟩] [0,3]) .skip
abbrev c12_3:AC:=.seq (.ops 0 [⟨some 25,.fa (.t 3) 0,none⟩,⟨some 26,.ld (.t 25) 1 false,none⟩,⟨some 27,.call 15 [(.t 26),(.k (.lf (.int .i64 2)))],none⟩] [0,3,27]) c12_2
abbrev c12_4:AC:=.cond (.t 36) (.ops 0 [⟨some 37,.mv (.t 0),none⟩,⟨some 38,.fa (.t 3) 3,none⟩,⟨some 39,.ld (.t 38) 1 false,none⟩,⟨some 40,.cvi .u8 (.t 39),none⟩,⟨some 41,.bs 5 1 1 [.int .u8 0] [(0,(.t 40))],none⟩,⟨some 42,.app 5 1 1 (.t 37) (.t 41),none⟩,⟨some 0,.as 5 1 (.t 42),none⟩] [0,3]) .skip
abbrev c12_5:AC:=.seq (.ops 0 [⟨some 34,.fa (.t 3) 0,none⟩,⟨some 35,.ld (.t 34) 1 false,none⟩,⟨some 36,.call 15 [(.t 35),(.k (.lf (.int .i64 4)))],none⟩] [0,3,36]) c12_4
abbrev c12_6:AC:=.cond (.t 45) (.gdr [3,3] [⟨some 46,.mv (.t 0),none⟩,⟨some 47,.fa (.t 3) 4,none⟩,⟨some 48,.ld (.t 47) 1 false,none⟩,⟨some 53,.fa (.t 3) 4,none⟩,⟨some 54,.ld (.t 53) 1 false,none⟩] [⟨some 49,.lns (.t 48),none⟩,⟨some 50,.cvi .u8 (.t 49),none⟩,⟨some 51,.bs 5 1 1 [.int .u8 0] [(0,(.t 50))],none⟩,⟨some 52,.app 5 1 1 (.t 46) (.t 51),none⟩,⟨some 55,.aps 5 (.t 52) (.t 54),none⟩,⟨some 0,.as 5 1 (.t 55),none⟩] [0,3]) .skip
abbrev c12_7:AC:=.seq (.ops 0 [⟨some 43,.fa (.t 3) 0,none⟩,⟨some 44,.ld (.t 43) 1 false,none⟩,⟨some 45,.call 15 [(.t 44),(.k (.lf (.int .i64 8)))],none⟩] [0,3,45]) c12_6
abbrev c12_8:AC:=.cond (.t 60) .skip (.exit 0)
abbrev c12_9:AC:=.seq (.ops 0 [⟨some 61,.mv (.t 59),none⟩,⟨some 5,.as 0 0 (.t 61),none⟩] [0,3,5,59]) (.ops 0 [⟨some 62,.mv (.t 0),none⟩,⟨some 63,.mv (.t 5),none⟩,⟨some 64,.bin .quo (.t 63) (.k (.lf (.int .i64 8))),none⟩,⟨some 65,.fa (.t 3) 5,none⟩,⟨some 66,.iaa (.t 65) (.t 64) 4 1,none⟩,⟨some 67,.ld (.t 66) 1 false,none⟩,⟨some 68,.mv (.t 5),none⟩,⟨some 69,.bin .rem (.t 68) (.k (.lf (.int .i64 8))),none⟩,⟨some 70,.bin .mul (.t 69) (.k (.lf (.int .i64 8))),none⟩,⟨some 71,.bin .shr (.t 67) (.t 70),none⟩,⟨some 72,.cvi .u8 (.t 71),none⟩,⟨some 73,.bs 5 1 1 [.int .u8 0] [(0,(.t 72))],none⟩,⟨some 74,.app 5 1 1 (.t 62) (.t 73),none⟩,⟨some 0,.as 5 1 (.t 74),none⟩] [0,3,59])
abbrev c12_10:AC:=.block 1 c12_9
abbrev c12_11:AC:=.seq c12_10 (.ops 0 [⟨some 75,.bin .add (.t 59) (.k (.lf (.int .i64 1))),none⟩,⟨some 59,.mv (.t 75),none⟩] [0,3,59])
abbrev c12_12:AC:=.seq c12_8 c12_11
abbrev c12_13:AC:=.seq (.ops 0 [⟨some 60,.bin .lss (.t 59) (.k (.lf (.int .i64 32))),none⟩] [0,3,59,60]) c12_12
abbrev c12_14:AC:=.loop c12_13 [0,3,59]
abbrev c12_15:AC:=.block 0 c12_14
abbrev c12_16:AC:=.seq (.ops 0 [⟨some 59,.mv (.k (.lf (.int .i64 0))),none⟩] [0,3,59]) c12_15
abbrev c12_17:AC:=.cond (.t 58) c12_16 .skip
abbrev c12_18:AC:=.seq (.ops 0 [⟨some 56,.fa (.t 3) 0,none⟩,⟨some 57,.ld (.t 56) 1 false,none⟩,⟨some 58,.call 15 [(.t 57),(.k (.lf (.int .i64 16)))],none⟩] [0,3,58]) c12_17
abbrev c12_19:AC:=.seq (.ops 0 [⟨some 76,.mv (.t 0),none⟩,⟨some 4,.as 5 1 (.t 76),none⟩] [4]) .ret
abbrev c12_20:AC:=.seq c12_18 c12_19
abbrev c12_21:AC:=.seq c12_7 c12_20
abbrev c12_22:AC:=.seq c12_5 c12_21
abbrev c12_23:AC:=.seq c12_3 c12_22
abbrev c12_24:AC:=.seq c12_1 c12_23
abbrev c12_25:AC:=.seq (.ops 0 [⟨some 6,.mv (.t 0),none⟩,⟨some 7,.fa (.t 3) 0,none⟩,⟨some 8,.ld (.t 7) 1 false,none⟩,⟨some 9,.cvi .u8 (.t 8),none⟩,⟨some 10,.bs 5 1 1 [.int .u8 0] [(0,(.t 9))],none⟩,⟨some 11,.app 5 1 1 (.t 6) (.t 10),none⟩,⟨some 0,.as 5 1 (.t 11),none⟩] [0,3]) c12_24
abbrev c12_26:AC:=.seq (.ops 0 [⟨some 3,.bx (.t 1),none⟩,⟨some 4,.as 5 1 (.k (.lf (.lst .nl 1 [] []))),none⟩] [0,3]) c12_25
abbrev c12:AC:=c12_26
theorem c12_ok:compileFn Tryz.prog 12 = some (77,AC.strip c12,[.t 4]):=by kernel_rfl
end Go.Proofs.YthcpaohmajjopaaGreatDoor.I
set_option linter.unusedVariables false
set_option linter.unusedSimpArgs false
namespace Go.Proofs.YthcpaohmajjopaaGreatDoor.I
open Go Go.Proofs.YthcpaohmajjopaaGreatDoor.AM
variable {X:Cx}
theorem byI_mod (z:Int):byI (z % 256) = byI z:=by
 unfold byI
 rw [Int.emod_emod_of_dvd z (by decide:(256:Int) ∣ 256)]
def putF (h1 h2 h4 h8 h16:Bool) (x:Ins):List UInt8 :=
 [byI x.op] ++ (if h1 then numB x.a else []) ++ (if h2 then [byI x.b] else []) ++ (if h4 then [byI x.n] else []) ++ (if h8 then [byI x.t.size] ++ x.t.data.toList else []) ++ (if h16 then memB x.s0.toNat x.s1.toNat x.s2.toNat x.s3.toNat 32 else [])
def putB (x:Ins):List UInt8:=putF (hasB x.op.toNat 1) (hasB x.op.toNat 2) (hasB x.op.toNat 4) (hasB x.op.toNat 8) (hasB x.op.toNat 16) x
theorem put_ins {x:Ins} (h:1 ≤ x.op ∧ x.op ≤ 20):putB x = insB x:=by
 obtain ⟨g1,g2,g4,g8,g16,g48⟩:=flags_tab ⟨x.op.toNat,by omega⟩ (by show 1 ≤ x.op.toNat;omega)
 simp only at g1 g2 g4 g8 g16 g48
 unfold putB insB
 rw [g1,g2,g4,g8,g16]
 generalize refB (refF x.op.toNat) 1 = f1
 generalize refB (refF x.op.toNat) 2 = f2
 generalize refB (refF x.op.toNat) 16 = f16
 cases hf4:refB (refF x.op.toNat) 4<;>cases hf8:refB (refF x.op.toNat) 8
 ·simp [putF,insBF]
 ·simp [putF,insBF]
 ·simp [putF,insBF]
 ·rw [hf4,hf8] at g48;exact absurd (g48 rfl) (by decide)
set_option maxHeartbeats 4000000 in
theorem r12 (hX:X.G 0 = some usesL) (x:Ins) (hop:1 ≤ x.op ∧ x.op ≤ 20) (hok:x.ok) (ht:x.t.size ≤ 255) (acc:List UInt8) (ha:acc.length ≤ 2000000) :
  R X Tryz.prog 12 [.lf (.lst (.own 0 5) 1 (ub acc) []),.ag x.c] [] (.lf (.lst (.own 0 5) 1 (ub (acc ++ putB x)) [])) []:=by
 obtain ⟨k,hk0,hk⟩:=nat_of hop
 have a1:=r15 hX k hk 1
 have a2:=r15 hX k hk 2
 have a3:=r15 hX k hk 4
 have a4:=r15 hX k hk 8
 have a5:=r15 hX k hk 16
 have hs0:=hok.s0
 have hs1:=hok.s1
 have hs2:=hok.s2
 have hs3:=hok.s3
 unfold putB
 clear hok
 obtain ⟨xop,xa,xb,xn,xt,s0,s1,s2,s3⟩:=x
 simp only at *
 subst hk0
 rw [Int.toNat_natCast]
 obtain ⟨s0,rfl⟩:∃ n:Nat,s0 = n:=⟨s0.toNat,by omega⟩
 obtain ⟨s1,rfl⟩:∃ n:Nat,s1 = n:=⟨s1.toNat,by omega⟩
 obtain ⟨s2,rfl⟩:∃ n:Nat,s2 = n:=⟨s2.toNat,by omega⟩
 obtain ⟨s3,rfl⟩:∃ n:Nat,s3 = n:=⟨s3.toNat,by omega⟩
 have inn:∀ (Q:Out → St → Prop) (acc1:List UInt8),acc1.length ≤ 2001000 →
   Q .nrm { m:=0,tm:=[(0,PV.lf (L.lst (Tag.own 0 5) 1 (ub (acc1 ++ memB s0 s1 s2 s3 32)) [])),(3,PV.lf (L.ptr 3 0)),(59,PV.lf (L.int IntKind.i64 32)),(60,PV.lf (L.bool false))],ce:=[(3,[L.int .i64 k,L.int .i64 xa,L.int .i64 xb,L.int .i64 xn,L.str xt,L.int .u64 s0,L.int .u64 s1,L.int .u64 s2,L.int .u64 s3])] } →
   ∀ (j m:Nat) (xs:List (List L)),m + j = 32 → xs = ub (acc1 ++ memB s0 s1 s2 s3 m) →
   LoopAt X Tryz.prog c12_13 [0,3,59] (blkK 0 Q) { m:=0,tm:=[(0,PV.lf (L.lst (Tag.own 0 5) 1 xs [])),(3,PV.lf (L.ptr 3 0)),(59,PV.lf (L.int IntKind.i64 m))],ce:=[(3,[L.int .i64 k,L.int .i64 xa,L.int .i64 xb,L.int .i64 xn,L.str xt,L.int .u64 s0,L.int .u64 s1,L.int .u64 s2,L.int .u64 s3])] }:=by
  intro Q acc1 hacc hQ j
  induction j with
  | zero =>
   intro m xs hm hxs
   obtain rfl:m = 32:=by omega
   rw [← hxs] at hQ
   intro Z2 hZ2;apply hZ2
   have hn:¬ ((32:Nat):Int) < 32:=by omega
   have hn2:((32:Nat):Int) = 32:=rfl
   simp -implicitDefEqProofs (maxSteps:=2000000) only [c12,hn,decide_false,↓reduceIte,S0,Nat.reduceEqDiff,reduceCtorEq]
   exact hQ
  | succ j ihj =>
   intro m xs hm hxs
   intro Z2 hZ2;apply hZ2
   have hn:(m:Int) < 32:=by omega
   have w1:IntKind.i64.wrap ((m:Int) + 1) = ((m + 1:Nat):Int):=by rw [w64 (by omega) (by omega)];omega
   have e2:IntKind.i64.wrap ((m:Int).tmod 8) = ((m % 8:Nat):Int):=by rw [Int.tmod_eq_emod_of_nonneg (by omega),w64 (by omega) (by omega)];omega
   have e3:IntKind.i64.wrap (((m:Int).tmod 8) * 8) = ((8 * (m % 8):Nat):Int):=by rw [Int.tmod_eq_emod_of_nonneg (by omega),w64 (by omega) (by omega)];omega
   have sh:∀ s:Nat,(s:Int).fdiv (2 ^ min (8 * (m % 8)) IntKind.u64.bits) = ((s / 2 ^ (8 * (m % 8)):Nat):Int):=fun s=>by
    rw [show IntKind.u64.bits = 64 from rfl,show min (8 * (m % 8)) 64 = 8 * (m % 8) by omega,show (2:Int) ^ (8 * (m % 8)) = ((2 ^ (8 * (m % 8)):Nat):Int) by rw [Int.natCast_pow];rfl,Int.fdiv_eq_ediv_of_nonneg _ (Int.natCast_nonneg _),← Int.natCast_ediv]
   have bm:∀ s:Nat,byI (((s / 2 ^ (8 * (m % 8)) % 256:Nat)):Int) = byI ((s / 2 ^ (8 * (m % 8)):Nat):Int):=fun s=>by rw [Int.natCast_emod];exact byI_mod _
   have hxl:xs.length = acc1.length + m:=by rw [hxs,ub_len,List.length_append,memB_len]
   have hq:∃ q:Nat,q < 4 ∧ IntKind.i64.wrap ((m:Int).tdiv 8) = (q:Int) ∧ m / 8 = q:=⟨m / 8,by omega,by rw [w64]<;>simp [Int.tdiv_eq_ediv]<;>omega,rfl⟩
   obtain ⟨q,hq4,e1,eq⟩:=hq
   rcases (show q = 0 ∨ q = 1 ∨ q = 2 ∨ q = 3 by omega) with rfl | rfl | rfl | rfl
   all_goals
    simp -implicitDefEqProofs (maxSteps:=2000000) only [c12,hn,decide_true,e1,e2,e3,sh,w1,wrap_u8,Int.toNat_natCast,Nat.reduceMul,Nat.mul_one,List.getElem?_cons_zero,List.getElem?_cons_succ,↓reduceIte,S0,Nat.reduceEqDiff,Nat.reduceAdd,reduceCtorEq,PV.cells,datL,Nat.reduceMul,Nat.reduceBEq,Nat.reduceLeDiff,List.range_zero,plT,ne_eq,List.reduceReplicate,List.set_cons_zero,or_false]
    exact ⟨by decide,⟨by decide,by decide⟩,by decide,by omega,by omega,ihj (m + 1) _ (by omega) (by rw [hxs,← bm,ub_snoc,List.append_assoc,memB,eq];rfl) Z2 hZ2⟩
 refine R_i [(0,512)] [] c12_ok rfl (by simp) ?_
 simp only [Ins.c]
 obtain ⟨p,hp,e1,e2,e3,e4,e5⟩:=pat hk
 rw [e1] at a1
 rw [e2] at a2
 rw [e3] at a3
 rw [e4] at a4
 rw [e5] at a5
 rw [e1,e2,e3,e4,e5]
 clear e1 e2 e3 e4 e5
 have e8:xa.fdiv (2 ^ min (Int.toNat 8) IntKind.i64.bits) = xa / 256:=by
  rw [show IntKind.i64.bits = 64 from rfl]
  exact Int.fdiv_eq_ediv_of_nonneg _ (by decide)
 have hts2:xt.data.toList.length = xt.size:=size_len _
 generalize hr:acc ++ putF p.1 p.2.1 p.2.2.1 p.2.2.2.1 p.2.2.2.2 ⟨(k:Int),xa,xb,xn,xt,(s0:Int),(s1:Int),(s2:Int),(s3:Int)⟩ = r
 simp only [putF,Int.toNat_natCast] at hr
 simp only [List.mem_cons,List.mem_nil_iff,or_false] at hp
 rcases hp with rfl | rfl | rfl | rfl | rfl | rfl | rfl | rfl
 all_goals
  simp only [Bool.false_eq_true,if_true,if_false] at hr
  simp -implicitDefEqProofs (maxSteps:=2000000) only [c12,List.contains_cons,List.contains_nil,↓reduceIte,S0,St.init,enum,Nat.reduceEqDiff,reduceCtorEq,PV.leaves,PV.cells,datL,Nat.reduceMul,Nat.reduceBEq,Nat.reduceLeDiff,plT,List.reduceReplicate,List.set_cons_zero,or_false]
  repeat' (first
   |(refine ⟨by (simp only [List.length_append,List.length_cons,List.length_nil,ub_len] at *;omega),?_⟩)
   |(refine wcall_s a1 rfl rfl ?_)
   |(refine wcall_s a2 rfl rfl ?_)
   |(refine wcall_s a3 rfl rfl ?_)
   |(refine wcall_s a4 rfl rfl ?_)
   |(refine wcall_s a5 rfl rfl ?_)
   |(simp -implicitDefEqProofs (maxSteps:=2000000) only [c12,List.contains_cons,List.contains_nil,e8,List.length_append,ub_len,hts2,↓reduceIte,S0,Nat.reduceEqDiff,Nat.reduceAdd,reduceCtorEq,St.clr,outV,ownsV,owns1,ownL,PV.leaves,PV.cells,datL,Nat.reduceMul,Nat.reduceBEq,Nat.reduceLeDiff,List.range_zero,plT,List.reduceReplicate,List.set_cons_zero,List.set_cons_succ,List.length_append,Nat.reduceLT,true_or,or_false,g_s,cg_u,cg_l]))
  first
   |(rw [← hr];simp [ub,wrap_u8,bytesL,numB];done)
   |(refine inn _ (acc ++ [byI (k:Int)]) ?_ ?_ 32 0 _ rfl ?_
     ·simp;omega
     ·simp -implicitDefEqProofs (maxSteps:=2000000) only [c12,List.contains_cons,List.contains_nil,↓reduceIte,S0,Nat.reduceMul,Nat.reduceBEq,plT,true_or]
      rw [← hr]
      simp
     ·simp [ub,wrap_u8,memB]
      done)
   |(refine inn _ (acc ++ ([byI (k:Int)] ++ numB xa)) ?_ ?_ 32 0 _ rfl ?_
     ·simp [numB];omega
     ·simp -implicitDefEqProofs (maxSteps:=2000000) only [c12,List.contains_cons,List.contains_nil,↓reduceIte,S0,Nat.reduceMul,Nat.reduceBEq,plT,true_or]
      rw [← hr]
      simp
     ·simp [ub,wrap_u8,numB,memB]
      done)
end Go.Proofs.YthcpaohmajjopaaGreatDoor.I
set_option linter.unusedVariables false
set_option linter.unusedSimpArgs false
namespace Go.Proofs.YthcpaohmajjopaaGreatDoor.I
open Go Go.Proofs.YthcpaohmajjopaaGreatDoor.AM
variable {X:Cx}
def namesL:List L:=(List.range 21).map fun k=>.str (nameF k)
theorem namesL_get {k:Nat} (h:k < 21):namesL[k]? = some (.str (nameF k)):=by simp [namesL,h]
end Go.Proofs.YthcpaohmajjopaaGreatDoor.I
set_option linter.unusedVariables false
set_option linter.unusedSimpArgs false
namespace Go.Proofs.YthcpaohmajjopaaGreatDoor.I
open Go Go.Proofs.YthcpaohmajjopaaGreatDoor.AM
variable {X:Cx}
def lineF (h1 h2 h4 h8 h16 h32:Bool) (nm:List UInt8) (at_:Nat) (x:Ins):List UInt8 :=
 Lib.itoa at_ ++ [32] ++ nm ++ (if h32 then [32,62] ++ Lib.itoa ((at_:Int) + x.a) else if h1 then [32] ++ Lib.itoa x.a else []) ++ (if h2 then [32] ++ Lib.itoa x.b else []) ++ (if h4 then [32] ++ Lib.itoa x.n else []) ++
  (if h8 then [32] ++ (quo x.t).1.data.toList else []) ++ (if h16 then [32] ++ showL x.s0.toNat x.s1.toNat x.s2.toNat x.s3.toNat else [])
def lineL (at_:Nat) (x:Ins):List UInt8:=lineF (hasB x.op.toNat 1) (hasB x.op.toNat 2) (hasB x.op.toNat 4) (hasB x.op.toNat 8) (hasB x.op.toNat 16) (hasB x.op.toNat 32) (nameF x.op.toNat).data.toList at_ x
theorem pat6 {k:Nat} (hk:k < 21):∃ p ∈ [(false,false,false,false,false,false),(false,true,false,false,false,false),(false,false,false,false,true,false),(true,false,false,false,false,true),(true,true,false,false,false,true),(true,false,false,false,true,true),(false,true,true,true,false,false),(true,true,true,true,false,false)],
  hasB k 1 = p.1 ∧ hasB k 2 = p.2.1 ∧ hasB k 4 = p.2.2.1 ∧ hasB k 8 = p.2.2.2.1 ∧ hasB k 16 = p.2.2.2.2.1 ∧ hasB k 32 = p.2.2.2.2.2:=by
 have h:∀ i:Fin 21,(hasB i.val 1,hasB i.val 2,hasB i.val 4,hasB i.val 8,hasB i.val 16,hasB i.val 32) ∈ [(false,false,false,false,false,false),(false,true,false,false,false,false),(false,false,false,false,true,false),(true,false,false,false,false,true),(true,true,false,false,false,true),(true,false,false,false,true,true),(false,true,true,true,false,false),(true,true,true,true,false,false)]:=by decide +kernel
 exact ⟨_,h ⟨k,hk⟩,rfl,rfl,rfl,rfl,rfl,rfl⟩
theorem showL_len (a b c d:Nat):(showL a b c d).length ≤ 3000:=by
 unfold showL
 split
 ·simp
 ·have h:=pieces_len (spN (mems a b c d))
  have:=(sp_ok a b c d).1
  simp only [List.length_cons,List.length_append,List.length_nil]
  omega
theorem quo_len (s:ByteArray):(quo s).1.size ≤ 65536:=by
 unfold quo
 split
 ·decide
 ·split
  ·decide
  ·rw [ba_size];omega
structure LineOK (at_:Nat) (x:Ins):Prop where
 lt:at_ < 1099511627776
 op:1 ≤ x.op ∧ x.op ≤ 20
 tg:hasB x.op.toNat 32 = true → -1125899906842624 ≤ (at_:Int) + x.a ∧ (at_:Int) + x.a < 1125899906842624
 a:hasB x.op.toNat 1 = true → -1125899906842624 ≤ x.a ∧ x.a ≤ 1125899906842624
 a0:hasB x.op.toNat 1 = true → hasB x.op.toNat 32 = false → 0 ≤ x.a
 b:hasB x.op.toNat 2 = true → -1125899906842624 ≤ x.b ∧ x.b ≤ 1125899906842624
 n:hasB x.op.toNat 4 = true → -1125899906842624 ≤ x.n ∧ x.n ≤ 1125899906842624
 ok:x.ok
structure HX (X:Cx):Prop where
 h0:X.G 1 = some namesL
 h1:X.G 0 = some usesL
 h2:X.G 3 = some powL
 h3:X.G 4 = some deBL
theorem name_len:∀ k:Fin 21,(nameF k.val).size ≤ 20:=by decide +kernel
set_option maxHeartbeats 4000000 in
theorem r20 (hX:HX X) (at_:Nat) (x:Ins) (h:LineOK at_ x):R X Tryz.prog 20 [.ag x.c,.lf (.int .i64 (at_:Int))] [] (.lf (.str ⟨(lineL at_ x).toArray⟩)) []:=by
 obtain ⟨k,hk0,hk⟩:=nat_of h.op
 have a1:=r15 hX.h1 k hk 1
 have a2:=r15 hX.h1 k hk 2
 have a4:=r15 hX.h1 k hk 4
 have a8:=r15 hX.h1 k hk 8
 have a16:=r15 hX.h1 k hk 16
 have a32:=r15 hX.h1 k hk 32
 have hnm:=name_len ⟨k,hk⟩
 simp only at hnm
 have hs0:=h.ok.s0
 have hs1:=h.ok.s1
 have hs2:=h.ok.s2
 have hs3:=h.ok.s3
 have ta:=h.tg
 have tb:=h.a
 have tc:=h.a0
 have td:=h.b
 have te:=h.n
 have hat:=h.lt
 unfold lineL
 clear h
 obtain ⟨xop,xa,xb,xn,xt,s0,s1,s2,s3⟩:=x
 simp only at *
 subst hk0
 rw [Int.toNat_natCast] at *
 obtain ⟨s0,rfl⟩:∃ n:Nat,s0 = n:=⟨s0.toNat,by omega⟩
 obtain ⟨s1,rfl⟩:∃ n:Nat,s1 = n:=⟨s1.toNat,by omega⟩
 obtain ⟨s2,rfl⟩:∃ n:Nat,s2 = n:=⟨s2.toNat,by omega⟩
 obtain ⟨s3,rfl⟩:∃ n:Nat,s3 = n:=⟨s3.toNat,by omega⟩
 have hn1:namesL[(k:Int).toNat * 1]? = some (.str (nameF k)):=by simpa using namesL_get hk
 have i59:=fun n h0 h1=>r30 hX.h2 n h0 h1
 have q60:=r31 (X:=X) xt
 have q61:=r32 hX.h3 s0 s1 s2 s3 (by omega) (by omega) (by omega) (by omega)
 have ql:=quo_len xt
 have sl:=showL_len s0 s1 s2 s3
 have il:=fun n h0 h1=>Lib.itoa_length_le n h0 h1
 have hX0:=hX.h0
 clear hX
 refine R_i [] [] c20_ok rfl (by simp) ?_
 simp only [Ins.c]
 obtain ⟨p,hp,e1,e2,e3,e4,e5,e6⟩:=pat6 hk
 rw [e1] at a1 tb tc
 rw [e2] at a2 td
 rw [e3] at a4 te
 rw [e4] at a8
 rw [e5] at a16
 rw [e6] at a32 ta tc
 rw [e1,e2,e3,e4,e5,e6]
 clear e1 e2 e3 e4 e5 e6
 have sa:∀ (x y:ByteArray),(x ++ y).size = x.size + y.size:=fun x y=>ByteArray.size_append
 generalize nameF k = nm at hn1 hnm ⊢
 have i0:=i59 at_ (by omega) (by omega)
 have l0:=il at_ (by omega) (by omega)
 have ba_one:∀ a:UInt8,(ByteArray.mk #[a]).size = 1:=fun _=>rfl
 have ba_two:∀ a b:UInt8,(ByteArray.mk #[a,b]).size = 2:=fun _ _=>rfl
 have fT:p.2.2.2.2.2 = true → R X Tryz.prog 30 [.lf (.int .i64 ((at_:Int) + xa))] [] (.lf (.str ⟨(Lib.itoa ((at_:Int) + xa)).toArray⟩)) [] ∧ (Lib.itoa ((at_:Int) + xa)).length ≤ 21 ∧ IntKind.i64.wrap ((at_:Int) + xa) = (at_:Int) + xa:=fun e=>by
  have:=ta e
  exact ⟨i59 _ (by omega) (by omega),il _ (by omega) (by omega),w64 (by omega) (by omega)⟩
 have fA:p.1 = true → p.2.2.2.2.2 = false → R X Tryz.prog 30 [.lf (.int .i64 xa)] [] (.lf (.str ⟨(Lib.itoa xa).toArray⟩)) [] ∧ (Lib.itoa xa).length ≤ 21:=fun e e2=>by
  have:=tb e
  exact ⟨i59 _ (by omega) (by omega),il _ (by omega) (by omega)⟩
 have fB:p.2.1 = true → R X Tryz.prog 30 [.lf (.int .i64 xb)] [] (.lf (.str ⟨(Lib.itoa xb).toArray⟩)) [] ∧ (Lib.itoa xb).length ≤ 21:=fun e=>by
  have:=td e
  exact ⟨i59 _ (by omega) (by omega),il _ (by omega) (by omega)⟩
 have fN:p.2.2.1 = true → R X Tryz.prog 30 [.lf (.int .i64 xn)] [] (.lf (.str ⟨(Lib.itoa xn).toArray⟩)) [] ∧ (Lib.itoa xn).length ≤ 21:=fun e=>by
  have:=te e
  exact ⟨i59 _ (by omega) (by omega),il _ (by omega) (by omega)⟩
 clear ta tb tc td te i59 il
 simp only [List.mem_cons,List.mem_nil_iff,or_false] at hp
 rcases hp with rfl | rfl | rfl | rfl | rfl | rfl | rfl | rfl
 ·simp -implicitDefEqProofs (maxSteps:=2000000) only [c20,hX0,hn1,↓reduceIte,S0,St.init,enum,Nat.reduceEqDiff,reduceCtorEq]
  refine wcallq_i i0 rfl ?_
  simp -implicitDefEqProofs (maxSteps:=2000000) only [c20,hX0,hn1,↓reduceIte,S0,Nat.reduceEqDiff,PV.leaves]
  repeat' (first
   |(refine ⟨by ((try simp only [sa,ba_size,ba_one,ba_two]);omega),?_⟩)
   |(refine ⟨⟨by omega,by omega⟩,?_⟩)
   |(refine wcall_s a1 rfl rfl ?_)
   |(refine wcall_s a2 rfl rfl ?_)
   |(refine wcall_s a4 rfl rfl ?_)
   |(refine wcall_s a8 rfl rfl ?_)
   |(refine wcall_s a16 rfl rfl ?_)
   |(refine wcall_s a32 rfl rfl ?_)
   |(refine wcall_s q60 rfl rfl ?_)
   |(refine wcall_s q61 rfl rfl ?_)
   |(simp -implicitDefEqProofs (maxSteps:=2000000) only [c20,hX0,hn1,↓reduceIte,S0,Nat.reduceEqDiff,St.clr,outV,ownsV,owns1,ownL,PV.leaves]))
  all_goals (apply ByteArray.ext;apply Array.toList_inj.1;simp [lineF];done)
 ·obtain ⟨iB,lB⟩:=fB rfl
  simp -implicitDefEqProofs (maxSteps:=2000000) only [c20,hX0,hn1,↓reduceIte,S0,St.init,enum,Nat.reduceEqDiff,reduceCtorEq]
  refine wcallq_i i0 rfl ?_
  simp -implicitDefEqProofs (maxSteps:=2000000) only [c20,hX0,hn1,↓reduceIte,S0,Nat.reduceEqDiff,PV.leaves]
  repeat' (first
   |(refine ⟨by ((try simp only [sa,ba_size,ba_one,ba_two]);omega),?_⟩)
   |(refine ⟨⟨by omega,by omega⟩,?_⟩)
   |(refine wcall_s a1 rfl rfl ?_)
   |(refine wcall_s a2 rfl rfl ?_)
   |(refine wcall_s a4 rfl rfl ?_)
   |(refine wcall_s a8 rfl rfl ?_)
   |(refine wcall_s a16 rfl rfl ?_)
   |(refine wcall_s a32 rfl rfl ?_)
   |(refine wcall_s q60 rfl rfl ?_)
   |(refine wcall_s q61 rfl rfl ?_)
   |(refine wcall_s iB rfl rfl ?_)
   |(simp -implicitDefEqProofs (maxSteps:=2000000) only [c20,hX0,hn1,↓reduceIte,S0,Nat.reduceEqDiff,St.clr,outV,ownsV,owns1,ownL,PV.leaves]))
  all_goals (apply ByteArray.ext;apply Array.toList_inj.1;simp [lineF];done)
 ·simp -implicitDefEqProofs (maxSteps:=2000000) only [c20,hX0,hn1,↓reduceIte,S0,St.init,enum,Nat.reduceEqDiff,reduceCtorEq]
  refine wcallq_i i0 rfl ?_
  simp -implicitDefEqProofs (maxSteps:=2000000) only [c20,hX0,hn1,↓reduceIte,S0,Nat.reduceEqDiff,PV.leaves]
  repeat' (first
   |(refine ⟨by ((try simp only [sa,ba_size,ba_one,ba_two]);omega),?_⟩)
   |(refine ⟨⟨by omega,by omega⟩,?_⟩)
   |(refine wcall_s a1 rfl rfl ?_)
   |(refine wcall_s a2 rfl rfl ?_)
   |(refine wcall_s a4 rfl rfl ?_)
   |(refine wcall_s a8 rfl rfl ?_)
   |(refine wcall_s a16 rfl rfl ?_)
   |(refine wcall_s a32 rfl rfl ?_)
   |(refine wcall_s q60 rfl rfl ?_)
   |(refine wcall_s q61 rfl rfl ?_)
   |(simp -implicitDefEqProofs (maxSteps:=2000000) only [c20,hX0,hn1,↓reduceIte,S0,Nat.reduceEqDiff,Nat.reduceAdd,St.clr,outV,ownsV,owns1,ownL,PV.leaves]))
  all_goals (apply ByteArray.ext;apply Array.toList_inj.1;simp [lineF];done)
 ·obtain ⟨iT,lT,eT⟩:=fT rfl
  simp -implicitDefEqProofs (maxSteps:=2000000) only [c20,hX0,hn1,eT,↓reduceIte,S0,St.init,enum,Nat.reduceEqDiff,reduceCtorEq]
  refine wcallq_i i0 rfl ?_
  simp -implicitDefEqProofs (maxSteps:=2000000) only [c20,hX0,hn1,eT,↓reduceIte,S0,Nat.reduceEqDiff,PV.leaves]
  repeat' (first
   |(refine ⟨by ((try simp only [sa,ba_size,ba_one,ba_two]);omega),?_⟩)
   |(refine ⟨⟨by omega,by omega⟩,?_⟩)
   |(refine wcall_s a1 rfl rfl ?_)
   |(refine wcall_s a2 rfl rfl ?_)
   |(refine wcall_s a4 rfl rfl ?_)
   |(refine wcall_s a8 rfl rfl ?_)
   |(refine wcall_s a16 rfl rfl ?_)
   |(refine wcall_s a32 rfl rfl ?_)
   |(refine wcall_s q60 rfl rfl ?_)
   |(refine wcall_s q61 rfl rfl ?_)
   |(refine wcall_s iT rfl rfl ?_)
   |(simp -implicitDefEqProofs (maxSteps:=2000000) only [c20,hX0,hn1,eT,↓reduceIte,S0,Nat.reduceEqDiff,St.clr,outV,ownsV,owns1,ownL,PV.leaves]))
  all_goals (apply ByteArray.ext;apply Array.toList_inj.1;simp [lineF];done)
 ·obtain ⟨iT,lT,eT⟩:=fT rfl
  obtain ⟨iB,lB⟩:=fB rfl
  simp -implicitDefEqProofs (maxSteps:=2000000) only [c20,hX0,hn1,eT,↓reduceIte,S0,St.init,enum,Nat.reduceEqDiff,reduceCtorEq]
  refine wcallq_i i0 rfl ?_
  simp -implicitDefEqProofs (maxSteps:=2000000) only [c20,hX0,hn1,eT,↓reduceIte,S0,Nat.reduceEqDiff,PV.leaves]
  repeat' (first
   |(refine ⟨by ((try simp only [sa,ba_size,ba_one,ba_two]);omega),?_⟩)
   |(refine ⟨⟨by omega,by omega⟩,?_⟩)
   |(refine wcall_s a1 rfl rfl ?_)
   |(refine wcall_s a2 rfl rfl ?_)
   |(refine wcall_s a4 rfl rfl ?_)
   |(refine wcall_s a8 rfl rfl ?_)
   |(refine wcall_s a16 rfl rfl ?_)
   |(refine wcall_s a32 rfl rfl ?_)
   |(refine wcall_s q60 rfl rfl ?_)
   |(refine wcall_s q61 rfl rfl ?_)
   |(refine wcall_s iT rfl rfl ?_)
   |(refine wcall_s iB rfl rfl ?_)
   |(simp -implicitDefEqProofs (maxSteps:=2000000) only [c20,hX0,hn1,eT,↓reduceIte,S0,Nat.reduceEqDiff,St.clr,outV,ownsV,owns1,ownL,PV.leaves]))
  all_goals (apply ByteArray.ext;apply Array.toList_inj.1;simp [lineF];done)
 ·obtain ⟨iT,lT,eT⟩:=fT rfl
  simp -implicitDefEqProofs (maxSteps:=2000000) only [c20,hX0,hn1,eT,↓reduceIte,S0,St.init,enum,Nat.reduceEqDiff,reduceCtorEq]
  refine wcallq_i i0 rfl ?_
  simp -implicitDefEqProofs (maxSteps:=2000000) only [c20,hX0,hn1,eT,↓reduceIte,S0,Nat.reduceEqDiff,PV.leaves]
  repeat' (first
   |(refine ⟨by ((try simp only [sa,ba_size,ba_one,ba_two]);omega),?_⟩)
   |(refine ⟨⟨by omega,by omega⟩,?_⟩)
   |(refine wcall_s a1 rfl rfl ?_)
   |(refine wcall_s a2 rfl rfl ?_)
   |(refine wcall_s a4 rfl rfl ?_)
   |(refine wcall_s a8 rfl rfl ?_)
   |(refine wcall_s a16 rfl rfl ?_)
   |(refine wcall_s a32 rfl rfl ?_)
   |(refine wcall_s q60 rfl rfl ?_)
   |(refine wcall_s q61 rfl rfl ?_)
   |(refine wcall_s iT rfl rfl ?_)
   |(simp -implicitDefEqProofs (maxSteps:=2000000) only [c20,hX0,hn1,eT,↓reduceIte,S0,Nat.reduceEqDiff,Nat.reduceAdd,St.clr,outV,ownsV,owns1,ownL,PV.leaves]))
  all_goals (apply ByteArray.ext;apply Array.toList_inj.1;simp [lineF];done)
 ·obtain ⟨iB,lB⟩:=fB rfl
  obtain ⟨iN,lN⟩:=fN rfl
  simp -implicitDefEqProofs (maxSteps:=2000000) only [c20,hX0,hn1,↓reduceIte,S0,St.init,enum,Nat.reduceEqDiff,reduceCtorEq]
  refine wcallq_i i0 rfl ?_
  simp -implicitDefEqProofs (maxSteps:=2000000) only [c20,hX0,hn1,↓reduceIte,S0,Nat.reduceEqDiff,PV.leaves]
  repeat' (first
   |(refine ⟨by ((try simp only [sa,ba_size,ba_one,ba_two]);omega),?_⟩)
   |(refine ⟨⟨by omega,by omega⟩,?_⟩)
   |(refine wcall_s a1 rfl rfl ?_)
   |(refine wcall_s a2 rfl rfl ?_)
   |(refine wcall_s a4 rfl rfl ?_)
   |(refine wcall_s a8 rfl rfl ?_)
   |(refine wcall_s a16 rfl rfl ?_)
   |(refine wcall_s a32 rfl rfl ?_)
   |(refine wcall_s q60 rfl rfl ?_)
   |(refine wcall_s q61 rfl rfl ?_)
   |(refine wcall_s iB rfl rfl ?_)
   |(refine wcall_s iN rfl rfl ?_)
   |(simp -implicitDefEqProofs (maxSteps:=2000000) only [c20,hX0,hn1,↓reduceIte,S0,Nat.reduceEqDiff,St.clr,outV,ownsV,owns1,ownL,PV.leaves]))
  all_goals (apply ByteArray.ext;apply Array.toList_inj.1;simp [lineF];done)
 ·obtain ⟨iA,lA⟩:=fA rfl rfl
  obtain ⟨iB,lB⟩:=fB rfl
  obtain ⟨iN,lN⟩:=fN rfl
  simp -implicitDefEqProofs (maxSteps:=2000000) only [c20,hX0,hn1,↓reduceIte,S0,St.init,enum,Nat.reduceEqDiff,reduceCtorEq]
  refine wcallq_i i0 rfl ?_
  simp -implicitDefEqProofs (maxSteps:=2000000) only [c20,hX0,hn1,↓reduceIte,S0,Nat.reduceEqDiff,PV.leaves]
  repeat' (first
   |(refine ⟨by ((try simp only [sa,ba_size,ba_one,ba_two]);omega),?_⟩)
   |(refine ⟨⟨by omega,by omega⟩,?_⟩)
   |(refine wcall_s a1 rfl rfl ?_)
   |(refine wcall_s a2 rfl rfl ?_)
   |(refine wcall_s a4 rfl rfl ?_)
   |(refine wcall_s a8 rfl rfl ?_)
   |(refine wcall_s a16 rfl rfl ?_)
   |(refine wcall_s a32 rfl rfl ?_)
   |(refine wcall_s q60 rfl rfl ?_)
   |(refine wcall_s q61 rfl rfl ?_)
   |(refine wcall_s iA rfl rfl ?_)
   |(refine wcall_s iB rfl rfl ?_)
   |(refine wcall_s iN rfl rfl ?_)
   |(simp -implicitDefEqProofs (maxSteps:=2000000) only [c20,hX0,hn1,↓reduceIte,S0,Nat.reduceEqDiff,St.clr,outV,ownsV,owns1,ownL,PV.leaves]))
  all_goals (apply ByteArray.ext;apply Array.toList_inj.1;simp [lineF];done)
end Go.Proofs.YthcpaohmajjopaaGreatDoor.I
set_option linter.unusedVariables false
set_option linter.unusedSimpArgs false
namespace Go.Proofs.YthcpaohmajjopaaGreatDoor.I
open Go Go.Proofs.YthcpaohmajjopaaGreatDoor.AM
variable {X:Cx}
theorem a_of20 {len i:Nat} {x:Ins} (h:errAt capX len i x = 0) (h20:x.op.toNat = 20):0 ≤ x.a:=by
 unfold errAt at h
 split at h
 ·cases h
 split at h
 ·cases h
 rename_i h2
 have hf:fitB (capX x) x.op.toNat x = true:=by simpa using h2
 unfold fitB at hf
 simp only [Bool.and_eq_true] at hf
 have harg:=hf.2
 unfold argB at harg
 rw [h20] at harg
 simp at harg
 omega
theorem only20:∀ k:Fin 21,hasB k.val 1 = true → hasB k.val 32 = false → k.val = 20:=by decide +kernel
theorem line_ok {code:List Ins} (h:(chk capX code).2 = 0) (hok:∀ x ∈ code,x.ok) (i:Nat) (x:Ins) (hx:code[i]? = some x):LineOK i x:=by
 have hc:=chk_ok h
 have hmem:=List.mem_of_getElem? hx
 have hf:=fit_all h x hmem
 have hil:=(List.getElem?_eq_some_iff.1 hx).1
 have hlen:=hc.len
 refine ⟨by omega,hf.op,fun h32=>?_,fun e=>by have:=hf.a e;omega,fun h1 h32=>?_,fun e=>by have:=hf.b e;omega,fun e=>by have:=hf.n e;omega,hok x hmem⟩
 ·have:=hc.tg i x hx h32
  omega
 ·have hop:=hf.op
  have h20:=only20 ⟨x.op.toNat,by omega⟩ h1 h32
  unfold chk at h
  split at h
  ·cases h
  split at h
  ·cases h
  cases hg:chkGo capX code.length 0 code with
  | some p =>
   rw [hg] at h
   exact absurd h (chkGo_ne _ _ _ _ _ hg)
  | none =>
   have:=chkGo_ok _ _ _ _ hg i x hx
   exact a_of20 this h20
theorem lineL_len {i:Nat} {x:Ins} (h:LineOK i x):1 ≤ (lineL i x).length ∧ (lineL i x).length ≤ 70000:=by
 have hop:=h.op
 have hnm:=name_len ⟨x.op.toNat,by omega⟩
 simp only at hnm
 have ql:=quo_len x.t
 have sl:=showL_len x.s0.toNat x.s1.toNat x.s2.toNat x.s3.toNat
 have l0:=Lib.itoa_length_le i (by omega) (by have:=h.lt;omega)
 have ta:=h.tg
 have tb:=h.a
 have td:=h.b
 have te:=h.n
 have e1:(nameF x.op.toNat).data.toList.length = (nameF x.op.toNat).size:=size_len _
 have e2:(quo x.t).1.data.toList.length = (quo x.t).1.size:=size_len _
 have s1:(if hasB x.op.toNat 32 = true then [32,62] ++ Lib.itoa ((i:Int) + x.a) else if hasB x.op.toNat 1 = true then [32] ++ Lib.itoa x.a else []).length ≤ 23:=by
  split
  ·rename_i hh;have:=ta hh;have:=Lib.itoa_length_le ((i:Int) + x.a) (by omega) (by omega);simp;omega
  ·split
   ·rename_i hh;have:=tb hh;have:=Lib.itoa_length_le x.a (by omega) (by omega);simp;omega
   ·simp
 have s2:(if hasB x.op.toNat 2 = true then [32] ++ Lib.itoa x.b else []).length ≤ 23:=by
  split
  ·rename_i hh;have:=td hh;have:=Lib.itoa_length_le x.b (by omega) (by omega);simp;omega
  ·simp
 have s3:(if hasB x.op.toNat 4 = true then [32] ++ Lib.itoa x.n else []).length ≤ 23:=by
  split
  ·rename_i hh;have:=te hh;have:=Lib.itoa_length_le x.n (by omega) (by omega);simp;omega
  ·simp
 have s4:(if hasB x.op.toNat 8 = true then [32] ++ (quo x.t).1.data.toList else []).length ≤ 65540:=by
  split<;>simp;omega
 have s5:(if hasB x.op.toNat 16 = true then [32] ++ showL x.s0.toNat x.s1.toNat x.s2.toNat x.s3.toNat else []).length ≤ 3010:=by
  split<;>simp;omega
 unfold lineL lineF
 rw [List.length_append,List.length_append,List.length_append,List.length_append,List.length_append,List.length_append,List.length_append,e1]
 simp only [List.length_cons,List.length_nil]
 constructor<;>omega
def lsG:Nat → List Ins → List UInt8 → List UInt8
 | _,[],acc=>acc
 | i,x :: q,acc=>if acc.length ≤ 65536 then lsG (i + 1) q (acc ++ (lineL i x ++ [10])) else acc
def listA (code:List Ins):ByteArray × Int:=if ¬ (chk capX code).2 = 0 then (⟨#[]⟩,(chk capX code).2) else
 if 65536 < (lsG 0 code []).length then (⟨#[]⟩,2) else (⟨(lsG 0 code []).toArray⟩,0)
theorem lsG_mono:∀ (q:List Ins) (i:Nat) (acc:List UInt8),acc.length ≤ (lsG i q acc).length
 | [],i,acc=>Nat.le_refl _
 | x :: q,i,acc=>by
  simp only [lsG]
  split
  ·have:=lsG_mono q (i + 1) (acc ++ (lineL i x ++ [10]))
   simp only [List.length_append] at this
   omega
  ·exact Nat.le_refl _
theorem r10 (hX:HX X) (code:List Ins) (hok:∀ x ∈ code,x.ok) (sp:List (List L)) (r:ByteArray × Int) (hr:listA code = r) :
  R X Tryz.prog 10 [.lf (.lst .ro 9 (code.map Ins.c) sp)] [] (.tp [.lf (.str r.1),.lf (.int .i64 r.2)]) []:=by
 have h28:=r6x (X:=X) hX.h1 code sp
 have hl:(code.map Ins.c).length = code.length:=List.length_map _
 unfold listA at hr
 by_cases h:(chk capX code).2 = 0
 ·rw [if_neg (by omega)] at hr
  have hlen:=(chk_ok h).len
  have hpos:=(chk_ok h).pos
  generalize hG:lsG 0 code [] = G at hr
  have key:∀ (q:List Ins) (i:Nat) (acc:List UInt8) (y:L),code.drop i = q → (y = .nilp ∨ y = .tptr 6 0 56) → acc.length ≤ 65536 → (0 < i → 0 < acc.length) → lsG i q acc = G → LoopAt X Tryz.prog c10_14 [6,17,18,19]
    (blkK 0 (seqK X Tryz.prog c10_18 (retS [] [] 0 [RV.t 2,RV.t 3] (PV.tp [PV.lf (L.str r.fst),PV.lf (L.int IntKind.i64 r.snd)]) [])))
    {m:=0,tm:=[(6,PV.lf (L.tptr 6 0 56)),(17,PV.lf (L.lst Tag.ro 9 (List.map Ins.c code) sp)),(18,PV.lf (L.int IntKind.i64 code.length)),(19,PV.lf (L.int IntKind.i64 i))],ce:=[(6,[y,L.lst (Tag.own 771 5) 1 (ub acc) []])] }:=by
   intro q
   induction q with
   | nil =>
    intro i acc y hq hy ha hp hg
    have hi:code.length ≤ i:=by simpa using hq
    have hn:¬ (i:Int) < (code.length:Int):=by omega
    have hpa:=hp (by omega)
    simp only [lsG] at hg
    rw [← hg,if_neg (by omega)] at hr
    rw [← hr]
    intro Z hZ;apply hZ
    rcases hy with rfl | rfl
    all_goals
     simp -implicitDefEqProofs (maxSteps:=2000000) only [c10,hn,decide_false,↓reduceIte,S0,Nat.reduceEqDiff,PV.leaves]
     refine pcall_i (r23 _ (by simp [frsh,toC]) _ hpa) rfl rfl ?_
     simp -implicitDefEqProofs (maxSteps:=2000000) only [c10,↓reduceIte,S0,Nat.reduceEqDiff,outV,ownsV,owns1,ownL,tc_np,tc_t,fc_np,isC,Nat.reduceMod,Nat.reduceDiv]
   | cons x q ih =>
    intro i acc y hq hy ha hp hg
    have hi:i < code.length:=by
     rcases Nat.lt_or_ge i code.length with h | h
     ·exact h
     ·rw [List.drop_eq_nil_of_le h] at hq;cases hq
    have hx:code[i]? = some x:=by rw [← List.head?_drop,hq];rfl
    have hq':code.drop (i + 1) = q:=by rw [← List.tail_drop,hq];rfl
    have hlo:=line_ok h hok i x hx
    have hlt:(i:Int) < (code.length:Int):=by omega
    have hll:=lineL_len hlo
    have hget:(code.map Ins.c).getD i [] = x.c:=by rw [List.getD_eq_getElem?_getD,List.getElem?_map,hx];rfl
    have w1:IntKind.i64.wrap ((i:Int) + 1) = ((i + 1:Nat):Int):=by rw [w64 (by omega) (by omega)];omega
    have h44:=r20 (X:=X) hX i x hlo
    have hgc:x.c = [.int .i64 x.op,.int .i64 x.a,.int .i64 x.b,.int .i64 x.n,.str x.t,.int .u64 x.s0,.int .u64 x.s1,.int .u64 x.s2,.int .u64 x.s3]:=rfl
    rw [hgc] at hget h44
    simp only [lsG] at hg
    rw [if_pos ha] at hg
    have hba:(ByteArray.mk (lineL i x).toArray).size = (lineL i x).length:=ba_size
    have b10:b8 10 = 10:=rfl
    intro Z hZ;apply hZ
    have ihk:=fun acc' h1 h2 h3=>ih (i + 1) acc' (.tptr 6 0 56) hq' (.inr rfl) h1 (fun _=>h2) h3 Z hZ
    have hmono:=lsG_mono q (i + 1) (acc ++ (lineL i x ++ [10]))
    rw [hg] at hmono
    simp only [List.length_append,List.length_cons,List.length_nil] at hmono
    clear ih hZ
    rcases hy with rfl | rfl
    all_goals
     simp -implicitDefEqProofs (maxSteps:=2000000) only [c10,hl,hlt,Int.toNat_natCast,v_ld_e,hget,decide_true,↓reduceIte,S0,Nat.reduceEqDiff,Nat.reduceAdd,PV.leaves,PV.cells,cellL,fillL,Nat.reduceBEq,kc_np]
     refine ⟨⟨by omega,by omega⟩,by omega,?_⟩
     refine wcall_s h44 rfl rfl ?_
     simp -implicitDefEqProofs (maxSteps:=2000000) only [c10,↓reduceIte,S0,Nat.reduceEqDiff,St.clr,outV,ownsV,owns1,ownL,PV.leaves]
     refine pcall_i (r19 _ (by simp [frsh,toC]) acc _ (by rw [hba];omega)) rfl rfl ?_
     simp -implicitDefEqProofs (maxSteps:=2000000) only [c10,↓reduceIte,S0,Nat.reduceEqDiff,Nat.reduceAdd,outV,ownsV,owns1,ownL,PV.leaves,Nat.reduceMul,isC,cplc,Nat.reduceMod,Nat.reduceDiv]
     refine pcall_i (r21 _ (Or.inr rfl) _ 10 (by omega) (by omega) (by simp;omega)) rfl rfl ?_
     simp -implicitDefEqProofs (maxSteps:=2000000) only [c10,↓reduceIte,S0,Nat.reduceEqDiff,Nat.reduceAdd,outV,ownsV,owns1,ownL,PV.leaves,Nat.reduceMul,isC,cplc,Nat.reduceMod,Nat.reduceDiv]
     refine pcall_i (r22 _ (Or.inr rfl) _) rfl rfl ?_
     simp -implicitDefEqProofs (maxSteps:=2000000) only [c10,w1,b10,↓reduceIte,S0,Nat.reduceEqDiff,Nat.reduceAdd,outV,ownsV,owns1,ownL,Nat.reduceMul,List.range_zero,List.length_append,isC,cplc,Nat.reduceMod,Nat.reduceDiv]
     with_reducible refine ite_pr (fun h1=>?_) (fun h1=>?_)
     ·rw [if_pos (by omega)] at hr
      rw [← hr];exact ⟨rfl,rfl⟩
     ·rw [List.append_assoc]
      exact ihk _ (by simp only [List.length_append,List.length_cons,List.length_nil];omega) (by simp only [List.length_append,List.length_cons,List.length_nil];omega) hg
  refine R_i [] [] c10_ok rfl (by simp) ?_
  simp -implicitDefEqProofs (maxSteps:=2000000) only [c10,↓reduceIte,S0,St.init,enum,reduceCtorEq,PV.leaves]
  refine wcall_s h28 rfl rfl ?_
  simp -implicitDefEqProofs (maxSteps:=2000000) only [c10,h,hl,↓reduceIte,S0,Nat.reduceEqDiff,reduceCtorEq,St.clr,outV,ownsV,owns1,ownL,List.range_zero,ne_eq,ite_not]
  intro _
  exact key code 0 [] .nilp rfl (.inl rfl) (by simp) (by simp) hG
 ·rw [if_pos h] at hr
  subst hr
  refine R_i [] [] c10_ok rfl (by simp) ?_
  simp -implicitDefEqProofs (maxSteps:=2000000) only [c10,↓reduceIte,S0,St.init,enum,reduceCtorEq,PV.leaves]
  refine wcall_s h28 rfl rfl ?_
  simp -implicitDefEqProofs (maxSteps:=2000000) only [c10,h,↓reduceIte,S0,Nat.reduceEqDiff,reduceCtorEq,St.clr,outV,ownsV,owns1,ownL,ne_eq]
  done
end Go.Proofs.YthcpaohmajjopaaGreatDoor.I
set_option linter.unusedVariables false
set_option linter.unusedSimpArgs false
namespace Go.Proofs.YthcpaohmajjopaaGreatDoor.I
open Go Go.Proofs.YthcpaohmajjopaaGreatDoor.AM
variable {X:Cx}
theorem goB_mono:∀ (q:List Ins) (acc:List UInt8),acc.length ≤ (goB q acc).length
 | [],acc=>Nat.le_refl _
 | x :: q,acc=>by
  simp only [goB]
  split
  ·have:=goB_mono q (acc ++ insB x)
   simp only [List.length_append] at this
   omega
  ·exact Nat.le_refl _
set_option maxHeartbeats 1000000 in
theorem r5 (hX:X.G 0 = some usesL) (code:List Ins) (hok:∀ x ∈ code,x.ok) (sp:List (List L)) (r:ByteArray × Int) (hr:bytesA code = r) :
  R X Tryz.prog 5 [.lf (.lst .ro 9 (code.map Ins.c) sp)] [] (.tp [.lf (.str r.1),.lf (.int .i64 r.2)]) []:=by
 have h28:=r6x (X:=X) hX code sp
 have hl:(code.map Ins.c).length = code.length:=List.length_map _
 unfold bytesA at hr
 by_cases h:(chk capX code).2 = 0
 ·rw [if_neg (by omega)] at hr
  have hfit:=fit_all h
  have hlen:=(chk_ok h).len
  generalize hG:goB code (numB code.length) = G at hr
  have key:∀ (q:List Ins) (i:Nat) (acc:List UInt8),code.drop i = q → acc.length ≤ 1048576 → goB q acc = G → LoopAt X Tryz.prog c5_13 [6,25,26,27]
    (blkK 0 (seqK X Tryz.prog c5_17 (retS [] [] 0 [RV.t 2,RV.t 3] (PV.tp [PV.lf (L.str r.fst),PV.lf (L.int IntKind.i64 r.snd)]) [])))
    {m:=0,tm:=[(6,PV.lf (L.lst (Tag.own 768 5) 1 (ub acc) [])),(25,PV.lf (L.lst Tag.ro 9 (List.map Ins.c code) sp)),(26,PV.lf (L.int IntKind.i64 code.length)),(27,PV.lf (L.int IntKind.i64 i))],ce:=[] }:=by
   intro q
   induction q with
   | nil =>
    intro i acc hq ha hg
    have hi:code.length ≤ i:=by simpa using hq
    have hn:¬ (i:Int) < (code.length:Int):=by omega
    simp only [goB] at hg
    rw [← hg,if_neg (by omega)] at hr
    rw [← hr]
    intro Z hZ;apply hZ
    simp -implicitDefEqProofs (maxSteps:=2000000) only [c5,hn,decide_false,v_cbs_ub,↓reduceIte,S0,Nat.reduceEqDiff]
    done
   | cons x q ih =>
    intro i acc hq ha hg
    have hi:i < code.length:=by
     rcases Nat.lt_or_ge i code.length with h | h
     ·exact h
     ·rw [List.drop_eq_nil_of_le h] at hq;cases hq
    have hx:code[i]? = some x:=by rw [← List.head?_drop,hq];rfl
    have hq':code.drop (i + 1) = q:=by rw [← List.tail_drop,hq];rfl
    have hmem:=List.mem_of_getElem? hx
    have hf:=hfit x hmem
    have hlt:(i:Int) < (code.length:Int):=by omega
    have hbl:=insB_len hf
    have hput:=put_ins hf.op
    have h38:=r12 (X:=X) hX x hf.op (hok x hmem) hf.t acc (by omega)
    rw [hput] at h38
    have hget:(code.map Ins.c).getD i [] = x.c:=by rw [List.getD_eq_getElem?_getD,List.getElem?_map,hx];rfl
    have w1:IntKind.i64.wrap ((i:Int) + 1) = ((i + 1:Nat):Int):=by rw [w64 (by omega) (by omega)];omega
    have hgc:x.c = [.int .i64 x.op,.int .i64 x.a,.int .i64 x.b,.int .i64 x.n,.str x.t,.int .u64 x.s0,.int .u64 x.s1,.int .u64 x.s2,.int .u64 x.s3]:=rfl
    rw [hgc] at hget h38
    have ihk:=ih (i + 1) (acc ++ insB x) hq'
    have hmono:=goB_mono q (acc ++ insB x)
    simp only [goB] at hg
    rw [if_pos ha] at hg
    rw [hg] at hmono
    simp only [List.length_append] at hmono
    intro Z hZ;apply hZ
    simp -implicitDefEqProofs (maxSteps:=2000000) only [c5,hl,hlt,Int.toNat_natCast,v_ld_e,hget,decide_true,↓reduceIte,S0,Nat.reduceEqDiff,Nat.reduceAdd,PV.leaves,PV.cells,cellL,fillL]
    refine ⟨⟨by omega,by omega⟩,by omega,?_⟩
    refine wcall_m [] 0 rfl rfl h38 rfl rfl (flat_ub _) ?_
    simp -implicitDefEqProofs (maxSteps:=2000000) only [c5,ub_len,List.length_append,w1,↓reduceIte,S0,Nat.reduceEqDiff,Nat.reduceAdd,St.clr,outV,ownsV,owns1,ownL,Nat.reduceMul,Nat.reduceBEq,kps_s,kps_u,kps_lro,List.range_zero,plT,List.length_append]
    intro _
    with_reducible refine ite_pr (fun h1=>?_) (fun h1=>?_)
    ·rw [if_pos (by omega)] at hr
     rw [← hr];exact ⟨rfl,rfl⟩
    ·exact ihk (by simp only [List.length_append];omega) hg Z hZ
  refine R_i [] [] c5_ok rfl (by simp) ?_
  simp -implicitDefEqProofs (maxSteps:=2000000) only [c5,↓reduceIte,S0,St.init,enum,reduceCtorEq,PV.leaves]
  refine wcall_s h28 rfl rfl ?_
  simp -implicitDefEqProofs (maxSteps:=2000000) only [c5,h,hl,↓reduceIte,S0,Nat.reduceEqDiff,Nat.reduceAdd,reduceCtorEq,St.clr,outV,ownsV,owns1,ownL,PV.cells,datL,Nat.reduceMul,Nat.reduceBEq,Nat.reduceLeDiff,List.range_zero,plT,ne_eq,List.reduceReplicate,List.set_cons_zero,List.set_cons_succ,Nat.reduceLT,ite_not]
  intro _
  refine ⟨by decide,fun _ _=>?_⟩
  have e8:((code.length:Nat):Int).fdiv (2 ^ min (Int.toNat 8) IntKind.i64.bits) = (code.length:Int) / 256:=by
   rw [show IntKind.i64.bits = 64 from rfl]
   exact Int.fdiv_eq_ediv_of_nonneg _ (by decide)
  have e9:ub (numB code.length) = [[L.int IntKind.u8 (IntKind.u8.wrap ((code.length:Int).fdiv (2 ^ min (Int.toNat 8) IntKind.i64.bits)))],[L.int IntKind.u8 (IntKind.u8.wrap code.length)]]:=by
   rw [e8]
   simp [ub,wrap_u8,bytesL,numB]
  rw [← e9]
  exact key code 0 (numB code.length) rfl (by simp [numB]) hG
 ·rw [if_pos h] at hr
  subst hr
  refine R_i [] [] c5_ok rfl (by simp) ?_
  simp -implicitDefEqProofs (maxSteps:=2000000) only [c5,↓reduceIte,S0,St.init,enum,reduceCtorEq,PV.leaves]
  refine wcall_s h28 rfl rfl ?_
  simp -implicitDefEqProofs (maxSteps:=2000000) only [c5,h,↓reduceIte,S0,Nat.reduceEqDiff,reduceCtorEq,St.clr,outV,ownsV,owns1,ownL,ne_eq]
  done
end Go.Proofs.YthcpaohmajjopaaGreatDoor.I
