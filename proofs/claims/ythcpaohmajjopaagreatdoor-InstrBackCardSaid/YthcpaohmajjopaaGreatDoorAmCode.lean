/- The abstract machine, part Code. -/
import Derived.Test.YthcpaohmajjopaaGreatDoorAmOpsA
import Derived.Test.YthcpaohmajjopaaGreatDoorAmCallz
import Derived.Test.YthcpaohmajjopaaGreatDoorAmCallw
import Derived.Test.YthcpaohmajjopaaGreatDoorAmCallg
import Derived.Test.YthcpaohmajjopaaGreatDoorAmOpsC
set_option linter.unusedVariables false
set_option linter.unusedSimpArgs false
namespace Go.Proofs.YthcpaohmajjopaaGreatDoor.AM
open Go
variable {X:Cx}
theorem zero_own {P:Program} {t:TypeId} {d:Nat} {zero:List L} (h:zeroOf (fun k e n=>.lst (.own (plC d k) e) n [] []) P t = some zero):∃ i z,P.info? t = some i ∧ i.zero = some z ∧ ∀ (E:Env) (w:World),All2 (LeafV E w) zero z.cells.toList:=by
 obtain ⟨i,z,hi,hz,hc⟩:=zeroOf_spec h
 exact ⟨i,z,hi,hz,fun E w=>cZero_all (lst:=fun k e n=>.lst (.own (plC d k) e) n [] []) (fun _ _ n=>⟨none,0,rfl,.inl ⟨rfl,rfl,rfl,rfl⟩⟩) _ _ _ _ hc⟩
theorem isStr_of {P:Program} {t:TypeId} (h:isStrT P t = true):P.underlying t = some .string:=by
 unfold isStrT at h;split at h
 ·assumption
 ·cases h
theorem isZ8_of {z:Value} (h:isZ8 z = true):z = .int .u8 0:=by
 unfold isZ8 at h;split at h
 ·rfl
 ·cases h
abbrev Sound3 (X:Cx) (P:Program) (o:Oper) (ao:AOp):Prop:=Sound X P o ao ∧ (isQ ao = true → SoundP X P o ao) ∧ (isU ao = true → SoundU X P o ao) ∧ (isLd ao = true → SoundL X P o ao) ∧ (isN ao = true → SoundN X P o ao) ∧ (isSt ao = true → SoundT X P o ao)
theorem both {P:Program} {o:Oper} {ao:AOp} (h:SoundP X P o ao) (hu:isU ao = false:=by rfl) (hl:isLd ao = false:=by rfl) (hn:isN ao = false:=by rfl) (ht:isSt ao = false:=by rfl):Sound3 X P o ao:=⟨SoundP.sound h,fun _=>h,fun e=>(by rw [hu] at e;cases e),fun e=>(by rw [hl] at e;cases e),fun e=>(by rw [hn] at e;cases e),fun e=>(by rw [ht] at e;cases e)⟩
theorem bothL {P:Program} {o:Oper} {ao:AOp} (h:SoundP X P o ao) (h2:SoundL X P o ao) (hu:isU ao = false:=by rfl) (hn:isN ao = false:=by rfl) (ht:isSt ao = false:=by rfl):Sound3 X P o ao:=⟨SoundP.sound h,fun _=>h,fun e=>(by rw [hu] at e;cases e),fun _=>h2,fun e=>(by rw [hn] at e;cases e),fun e=>(by rw [ht] at e;cases e)⟩
theorem onlyN {P:Program} {o:Oper} {ao:AOp} (h:SoundN X P o ao) (hq:isQ ao = false) (hu:isU ao = false:=by rfl) (hl:isLd ao = false:=by rfl) (ht:isSt ao = false:=by rfl):Sound3 X P o ao:=⟨h.sound,fun e=>(by rw [hq] at e;cases e),fun e=>(by rw [hu] at e;cases e),fun e=>(by rw [hl] at e;cases e),fun _=>h,fun e=>(by rw [ht] at e;cases e)⟩
theorem onlyT {P:Program} {o:Oper} {ao:AOp} (h:Sound X P o ao) (h2:SoundT X P o ao) (hq:isQ ao = false) (hu:isU ao = false:=by rfl) (hl:isLd ao = false:=by rfl) (hn:isN ao = false:=by rfl):Sound3 X P o ao:=⟨h,fun e=>(by rw [hq] at e;cases e),fun e=>(by rw [hu] at e;cases e),fun e=>(by rw [hl] at e;cases e),fun e=>(by rw [hn] at e;cases e),fun _=>h2⟩
theorem bothU {P:Program} {o:Oper} {ao:AOp} (h:SoundU X P o ao) (hl:isLd ao = false:=by rfl) (hn:isN ao = false:=by rfl) (ht:isSt ao = false:=by rfl):Sound3 X P o ao:=⟨SoundP.sound h.P,fun _=>h.P,fun _=>h,fun e=>(by rw [hl] at e;cases e),fun e=>(by rw [hn] at e;cases e),fun e=>(by rw [ht] at e;cases e)⟩
theorem only {P:Program} {o:Oper} {ao:AOp} (h:Sound X P o ao) (hq:isQ ao = false) (hu:isU ao = false:=by rfl) (hl:isLd ao = false:=by rfl) (hn:isN ao = false:=by rfl) (ht:isSt ao = false:=by rfl):Sound3 X P o ao:=⟨h,fun e=>(by rw [hq] at e;cases e),fun e=>(by rw [hu] at e;cases e),fun e=>(by rw [hl] at e;cases e),fun e=>(by rw [hn] at e;cases e),fun e=>(by rw [ht] at e;cases e)⟩
set_option maxHeartbeats 1000000 in
theorem sound_op' {P:Program} {o:Oper} {ao:AOp} (h:compileOp P o = some ao):Sound3 X P o ao:=by
 unfold compileOp at h
 split at h
 ·rename_i x ho
  obtain ⟨y,h1,rfl⟩:=Option.map_eq_some_iff.1 h
  exact bothU (sound_mvU ho h1)
 ·rename_i x ho
  split at h
  ·rename_i y h1
   split at h
   ·obtain ⟨n,h2,rfl⟩:=Option.map_eq_some_iff.1 h
    exact only (sound_as ho h1) rfl
   ·cases h;exact only (sound_as ho h1) rfl
  ·cases h
 ·rename_i c x y ho
  split at h
  ·rename_i a b c h1 h2 h3
   cases h
   exact both (sound_pk ho h1 h2 h3)
  ·cases h
 ·rename_i op t x y u ho
  split at h
  ·rename_i ax ay h1 h2
   split at h
   ·rename_i hu
    cases op<;>simp only [reduceCtorEq] at h
    case eql=>cases h;exact both (sound_bqb (neg:=false) (by simpa using ho) h1 h2 hu)
    case neq=>cases h;exact both (sound_bqb (neg:=true) (by simpa using ho) h1 h2 hu)
   ·cases h;exact bothU (sound_binU ho h1 h2)
   ·cases h;exact bothU (sound_binU ho h1 h2)
   ·rename_i e hu
    split at h
    ·rename_i j hj;cases h;exact both (sound_peq (neg:=false) (by simpa using ho) h1 h2 hu hj)
    ·rename_i j hj;cases h;exact both (sound_peq (neg:=true) (by simpa using ho) h1 h2 hu hj)
    ·cases h
   ·rename_i ms hu
    split at h
    ·cases h;exact both (sound_ieq (neg:=false) (by simpa using ho) h1 h2 hu)
    ·cases h;exact both (sound_ieq (neg:=true) (by simpa using ho) h1 h2 hu)
    ·cases h
   ·split at h
    ·rename_i hc
     simp only [Bool.and_eq_true,Bool.not_eq_true'] at hc
     cases op<;>simp only [reduceCtorEq] at h
     case eql=>cases h;exact both (sound_beq (neg:=false) (by simpa using ho) h1 h2 hc.1.2 hc.1.1 hc.2)
     case neq=>cases h;exact both (sound_beq (neg:=true) (by simpa using ho) h1 h2 hc.1.2 hc.1.1 hc.2)
    ·cases h
  ·cases h
 ·rename_i op t x ho
  obtain ⟨y,h1,rfl⟩:=Option.map_eq_some_iff.1 h
  exact both (sound_un ho h1)
 ·rename_i s d x ho
  split at h
  ·rename_i y k0 k h1 h2 h3;cases h;exact bothU (sound_cvi ho h1 h2 h3)
  ·rename_i y h1 h2 h3;cases h;exact both (sound_cvs ho h1 h2 h3)
  ·rename_i y e h1 h2 h3
   split at h
   ·rename_i h4;cases h;exact only (sound_cbs ho h1 h2 h3 h4) rfl
   ·cases h
  ·rename_i y t h1 h2 h3
   split at h
   ·rename_i j hj
    split at h
    ·cases h
    ·rename_i h4;cases h;exact both (sound_p2u ho h1 h2 h3 hj h4)
   ·cases h
  ·rename_i y u h1 h2 h3
   split at h
   ·rename_i j hj;cases h;exact both (sound_u2p ho h1 h2 h3 hj)
   ·cases h
  ·cases h
 ·rename_i x i ho
  obtain ⟨y,h1,rfl⟩:=Option.map_eq_some_iff.1 h
  exact bothU (sound_ext ho h1)
 ·rename_i t x f ho
  split at h
  ·rename_i y fs h1 h2
   split at h
   ·rename_i fd h3
    split at h
    ·rename_i dd h5
     obtain ⟨n,h4,rfl⟩:=Option.map_eq_some_iff.1 h
     exact both (sound_fld ho h1 h2 h3 h4 h5)
    ·cases h
   ·cases h
  ·cases h
 ·rename_i t x i ho
  split at h
  ·rename_i y z h1 h2 h3;cases h;exact both (sound_ixs ho h1 h2 h3)
  ·cases h
 ·rename_i t ho
  split at h
  ·rename_i d hd
   obtain ⟨z,h1,rfl⟩:=Option.map_eq_some_iff.1 h
   obtain ⟨i,zv,hi,hz,hall⟩:=zero_own h1
   split
   ·exact only (sound_alt ho hi hz hall) rfl
   ·exact only (sound_al ho hi hz hall) rfl
  ·cases h
 ·rename_i t x ho
  obtain ⟨y,h1,rfl⟩:=Option.map_eq_some_iff.1 h
  split
  ·exact only (sound_bxt ho h1) rfl
  ·exact only (sound_bx ho h1) rfl
 ·rename_i t x f ho
  split at h
  ·rename_i y fs h1 h2
   split at h
   ·rename_i fd h3
    split at h
    ·rename_i n h4
     split at h
     ·cases h
     ·rename_i h5;cases h;exact bothU (sound_fa ho h1 h2 h3 h4 h5)
    ·cases h
   ·cases h
  ·cases h
 ·rename_i t x i ho
  split at h
  ·rename_i y z e h1 h2 h3
   obtain ⟨n,h4,rfl⟩:=Option.map_eq_some_iff.1 h
   exact bothU (sound_iaU ho h1 h2 h3 h4)
  ·rename_i y z len e h1 h2 h3
   obtain ⟨n,h4,rfl⟩:=Option.map_eq_some_iff.1 h
   exact bothU (sound_iaa ho h1 h2 h3 h4)
  ·cases h
 ·rename_i t x ho
  split at h
  ·rename_i y n d h1 h2 h3;cases h;exact bothL (sound_ld ho h1 h2 h3) (sound_ldL ho h1 h2 h3)
  ·cases h
 ·rename_i t x v ho
  split at h
  ·rename_i y z n h1 h2 h3
   split at h
   ·cases h
   ·rename_i h4;cases h
    simp only [not_or] at h4
    exact onlyT (sound_st ho h1 h2 h3 h4.1 (by simpa using h4.2)) (sound_stT ho h1 h2 h3 h4.1 (by simpa using h4.2)) rfl
  ·cases h
 ·rename_i x ho
  obtain ⟨y,h1,rfl⟩:=Option.map_eq_some_iff.1 h
  exact bothU (sound_nc ho h1)
 ·rename_i t parts ho
  split at h
  ·rename_i fs hu
   split at h
   ·rename_i z ps pl h1 h2 h3;cases h;exact both (sound_bd ho hu h1 h2 h3)
   ·cases h
  ·rename_i m e hu
   split at h
   ·rename_i n hn
    split at h
    ·rename_i z ps h1 h2;cases h;exact both (sound_bda ho hu hn h1 h2)
    ·cases h
   ·cases h
  ·cases h
 ·rename_i t len parts ho
  split at h
  ·rename_i e hu
   split at h
   ·rename_i n z ps h1 h2 h3
    split at h
    ·cases h
    ·rename_i h4
     split at h
     ·cases h;exact only (sound_bsf ho hu h1 h2 h3 h4) rfl
     ·cases h;exact onlyN (sound_bs ho hu h1 h2 h3 h4) rfl
   ·cases h
  ·cases h
 ·rename_i t l c ho
  split at h
  ·rename_i e hu
   split at h
   ·rename_i i z y w h1 h2 h3 h4
    split at h
    ·cases h
    ·rename_i h5;cases h;exact only (sound_ms ho h3 h4 hu h1 h2) rfl
   ·cases h
  ·cases h
 ·rename_i t x lo hi ho
  split at h
  ·rename_i y l u h1 h2 h3
   split at h
   ·rename_i hu;cases h;exact both (sound_sls ho h1 h2 h3 hu)
   ·rename_i e hu
    obtain ⟨n,h4,rfl⟩:=Option.map_eq_some_iff.1 h
    exact bothU (sound_sll ho h1 h2 h3 hu h4)
   ·cases h
  ·cases h
 ·rename_i t x ho
  split at h
  ·rename_i y k h1 h2;cases h;exact both (sound_mi ho h1 h2 (.inl ⟨k,rfl⟩))
  ·rename_i y h1 h2;cases h;exact both (sound_mi ho h1 h2 (.inr rfl))
  ·cases h
 ·rename_i t x ho
  split at h
  ·rename_i y h1 h2;cases h;exact only (sound_rng ho h1 h2) rfl
  ·cases h
 ·rename_i x ho
  obtain ⟨y,h1,rfl⟩:=Option.map_eq_some_iff.1 h
  exact only (sound_nxt ho h1) rfl
 ·cases h
  exact only (fun {E0 E w0 w n σ a K Q} _ _ _ hw=>hw.elim) rfl
 ·rename_i f a b ho
  split at h
  ·rename_i x y h1 h2;cases h;exact only (sound_mkf ho h1 h2) rfl
  ·cases h
 ·rename_i c ho
  split at h
  ·rename_i hc
   split at h
   ·rename_i x t ha ht
    obtain ⟨y,h1,rfl⟩:=Option.map_eq_some_iff.1 h
    exact both (sound_usd ho hc ha ht h1)
   ·cases h
  ·rename_i hc
   split at h
   ·rename_i x y t u ha ht
    split at h
    ·rename_i ax ay e h1 h2 hu
     split at h
     ·rename_i h4;cases h;exact only (sound_ust ho hc ha ht h1 h2 hu (by simpa [isU8] using h4)) rfl
     ·cases h
    ·cases h
   ·cases h
  ·rename_i hc
   split at h
   ·rename_i x y t u ha ht
    split at h
    ·rename_i ax ay h1 h2;cases h;exact both (sound_mm (mx:=true) ho (by simpa using hc) ha h1 h2)
    ·cases h
   ·cases h
  ·rename_i hc
   split at h
   ·rename_i x y t u ha ht
    split at h
    ·rename_i ax ay h1 h2;cases h;exact both (sound_mm (mx:=false) ho (by simpa using hc) ha h1 h2)
    ·cases h
   ·cases h
  ·rename_i hc
   split at h
   ·rename_i x t ha ht
    split at h
    ·rename_i y e h1 h2;cases h;exact both (sound_len ho hc ha ht h1 h2)
    ·rename_i y h1 h2;cases h;exact both (sound_lns ho hc ha ht h1 h2)
    ·cases h
   ·cases h
  ·rename_i hc
   split at h
   ·rename_i x y t u ha ht
    split at h
    ·rename_i e hu
     split at h
     ·rename_i i ax ay h1 h2 h3
      split at h
      ·rename_i z hz
       split at h
       ·cases h
       ·rename_i h4
        split at h
        ·rename_i h5
         subst h5
         cases h
         exact onlyN (sound_app ho hc ha ht h2 h3 hu h1 hz (by simp at h4;omega) (by simp at h4;omega) (by simp at h4;omega)) rfl
        ·split at h
         ·rename_i h5
          cases h
          simp only [Bool.and_eq_true,beq_iff_eq] at h5
          obtain ⟨⟨⟨q1,q2⟩,q3⟩,q4⟩:=h5
          exact only (sound_aps ho hc ha ht h2 h3 hu (isStr_of q3) h1 (by rw [hz,isZ8_of q4]) q1 q2) rfl
         ·cases h
      ·cases h
     ·cases h
    ·cases h
   ·cases h
  ·rename_i f hc
   split at h
   ·rename_i fn hf
    split at h
    ·split at h
     ·rename_i k args h1 h2;cases h;exact both (sound_ex ho hc hf h1 h2)
     ·cases h
    ·rename_i h1
     obtain ⟨args,h2,rfl⟩:=Option.map_eq_some_iff.1 h
     unfold callOf
     split
     ·split
      ·exact only (sound_callg ho hc hf (by simpa using fun e=>h1 (.inr e)) (by cases hb:fn.body with | none=>exact absurd (.inl (by rw [hb];rfl)) h1 | some _=>rfl) h2) rfl
      ·exact only (sound_callp ho hc hf (by simpa using fun e=>h1 (.inr e)) (by cases hb:fn.body with | none=>exact absurd (.inl (by rw [hb];rfl)) h1 | some _=>rfl) h2) rfl
     ·exact only (sound_call ho hc hf (by simpa using fun e=>h1 (.inr e)) (by cases hb:fn.body with | none=>exact absurd (.inl (by rw [hb];rfl)) h1 | some _=>rfl) h2) rfl
   ·cases h
  ·rename_i x hc
   obtain ⟨args,h2,rfl⟩:=Option.map_eq_some_iff.1 h
   exact only (sound_cald (t0:=0) ho hc rfl h2) rfl
  ·cases h
 ·cases h
theorem sound_op {P:Program} {o:Oper} {ao:AOp} (h:compileOp P o = some ao):Sound X P o ao:=(sound_op' h).1
end Go.Proofs.YthcpaohmajjopaaGreatDoor.AM
