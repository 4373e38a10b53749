/- Contracts, part Z7. -/
import Derived.Test.YthcpaohmajjopaaGreatDoorZ6
import Derived.Stop.LaidErr
import Derived.Test.YthcpaohmajjopaaGreatDoorAmLaid
set_option linter.unusedVariables false
set_option linter.unusedSimpArgs false
namespace Go.Proofs.YthcpaohmajjopaaGreatDoor.I
open Go Go.Proofs Go.Proofs.YthcpaohmajjopaaGreatDoor.AM
theorem pk_at {s:ByteArray} {p:Nat} {l:List UInt8} (h:At s p l) {j:Nat} {y:UInt8} (hy:l[j]? = some y):pkF s (p + j) = y.toNat:=by
 have:=h.get hy
 unfold pkF
 rw [if_pos this.2];exact this.1
theorem hex_hd:∀ c:UInt8,0 ≤ hexF ((hd (c / 16)).toNat) ∧ 0 ≤ hexF ((hd (c % 16)).toNat) ∧ 16 * hexF ((hd (c / 16)).toNat) + hexF ((hd (c % 16)).toNat) = (c.toNat:Int):=all8 (by decide +kernel)
theorem itm_back {s:ByteArray} {q:Nat} {c:UInt8} (h:At s q (itemL c)):itmF s ⟨q,0,0⟩ = ((c.toNat:Int),⟨q + (itemL c).length,0,0⟩):=by
 have hw:=itemL_int c
 have hc:=c.toNat_lt
 have two:∀ y:UInt8,itemL c = [92,y] → pkF s q = 92 ∧ pkF s (q + 1) = y.toNat:=by
  intro y hy
  rw [hy] at h
  exact ⟨pk_at h (j:=0) rfl,pk_at h (j:=1) rfl⟩
 unfold itmF escF
 simp only
 by_cases e1:(c.toNat:Int) = 10
 ·rw [if_pos e1] at hw
  have k:=two _ hw
  rw [if_pos k.1,if_pos (by rw [k.2];rfl),e1,hw];rfl
 rw [if_neg e1] at hw
 by_cases e2:(c.toNat:Int) = 13
 ·rw [if_pos e2] at hw
  have k:=two _ hw
  rw [if_pos k.1,if_neg (by rw [k.2];decide),if_pos (by rw [k.2];rfl),e2,hw];rfl
 rw [if_neg e2] at hw
 by_cases e3:(c.toNat:Int) = 9
 ·rw [if_pos e3] at hw
  have k:=two _ hw
  rw [if_pos k.1,if_neg (by rw [k.2];decide),if_neg (by rw [k.2];decide),if_pos (by rw [k.2];rfl),e3,hw];rfl
 rw [if_neg e3] at hw
 by_cases e4:(c.toNat:Int) = 92 ∨ (c.toNat:Int) = 93 ∨ (c.toNat:Int) = 91 ∨ (c.toNat:Int) = 94 ∨ (c.toNat:Int) = 45 ∨ (c.toNat:Int) = 37
 ·rw [if_pos e4] at hw
  have k:=two _ hw
  rw [if_pos k.1,k.2,if_neg (by omega),if_neg (by omega),if_neg (by omega),if_pos e4,hw];rfl
 rw [if_neg e4] at hw
 by_cases e5:32 ≤ (c.toNat:Int) ∧ (c.toNat:Int) ≤ 126
 ·rw [if_pos e5] at hw
  rw [hw] at h
  have k:pkF s q = c.toNat:=pk_at h (j:=0) rfl
  rw [k,if_neg (by omega),if_neg (by omega),hw];rfl
 ·rw [if_neg e5] at hw
  rw [hw] at h
  have k0:pkF s q = 92:=pk_at h (j:=0) rfl
  have k1:pkF s (q + 1) = 120:=pk_at h (j:=1) rfl
  have k2:=h.get (j:=2) rfl
  have k3:=h.get (j:=3) rfl
  have hx:=hex_hd c
  have kh:hxF s (q + 2) = (c.toNat:Int):=by
   unfold hxF
   rw [if_pos (by have:=k3.2;omega),k2.1,show (((q + 2 + 1:Nat)):Int) = ((q + 3:Nat):Int) from rfl,k3.1,if_pos ⟨hx.1,hx.2.1⟩,hx.2.2]
  rw [if_pos k0,k1,if_neg (by decide),if_neg (by decide),if_neg (by decide),if_neg (by decide),kh,if_pos ⟨rfl,by omega⟩,hw];rfl
theorem item_hd:∀ c:UInt8,(itemL c).getD 0 93 ≠ 37 ∧ (itemL c).getD 0 93 ≠ 45 ∧ (itemL c).getD 0 93 ≠ 93 ∧ (itemL c).getD 0 93 ≠ 94:=all8 (by decide +kernel)
theorem item_ex (c:UInt8):∃ y r,itemL c = y :: r ∧ y ≠ 37 ∧ y ≠ 45 ∧ y ≠ 93 ∧ y ≠ 94:=by
 have h:=item_hd c
 cases hl:itemL c with
 | nil=>rw [hl] at h;exact absurd rfl h.2.2.1
 | cons y r=>rw [hl] at h;exact ⟨y,r,rfl,h⟩
theorem item_pr:∀ c:UInt8,∀ b ∈ itemL c,32 ≤ b.toNat:=all8 (by decide +kernel)
def memT (p:Nat × Nat):List UInt8:=if p.1 = p.2 then itemL (UInt8.ofNat p.1) else itemL (UInt8.ofNat p.1) ++ 45 :: itemL (UInt8.ofNat p.2)
def expP (p:Nat × Nat):List (Nat × Nat):=if p.1 < p.2 then (if p.1 + 1 < p.2 then [p] else [(p.1,p.1),(p.2,p.2)]) else [(p.1,p.1)]
theorem piece_exp (p:Nat × Nat):pieceL p = (expP p).flatMap memT:=by
 unfold pieceL expP
 by_cases h:p.1 < p.2
 ·by_cases h2:p.1 + 1 < p.2
  ·have hne:¬ p.1 = p.2:=by omega
   simp [h,h2,hne,memT]
  ·simp [h,h2,memT]
 ·have h2:¬ p.1 + 1 < p.2:=by omega
  simp [h,h2,memT]
theorem memT_ex (p:Nat × Nat):∃ y r,memT p = y :: r ∧ y ≠ 37 ∧ y ≠ 45 ∧ y ≠ 93 ∧ y ≠ 94:=by
 obtain ⟨y,r,h,k⟩:=item_ex (UInt8.ofNat p.1)
 unfold memT
 split
 ·exact ⟨y,r,h,k⟩
 ·rw [h];exact ⟨y,_,rfl,k⟩
theorem ne_nat {a b:UInt8} (h:a ≠ b):¬ ((a.toNat:Int) = b.toNat):=fun e=>h (UInt8.toNat.inj (by omega))
theorem of_n {n:Nat} (h:n < 256):(UInt8.ofNat n).toNat = n:=by rw [UInt8.toNat_ofNat'];omega
theorem mem_back {s:ByteArray} {q:Nat} {p:Nat × Nat} (h1:p.1 ≤ p.2) (h2:p.2 < 256) {y:UInt8} (hy:y ≠ 45) (h:At s q (memT p ++ [y])):memF s ⟨q,0,0⟩ = (spnF p.1 p.2,⟨q + (memT p).length,0,0⟩):=by
 obtain ⟨z,r,hz,hz37,_⟩:=memT_ex p
 have hp37:¬ pkF s q = 37:=by
  have k:pkF s q = z.toNat:=pk_at h (j:=0) (by rw [hz];rfl)
  rw [k];exact ne_nat hz37
 have hy45:¬ ((y.toNat:Int) = 45):=ne_nat hy
 unfold memF mem2
 simp only
 rw [if_neg hp37]
 unfold memT at h ⊢
 by_cases he:p.1 = p.2
 ·rw [if_pos he] at h ⊢
  rw [itm_back h.app.1]
  have k:pkF s (q + (itemL (UInt8.ofNat p.1)).length) = y.toNat:=pk_at h.app.2 (j:=0) rfl
  simp only
  rw [if_neg (by rw [k];exact fun g=>hy45 g.2),of_n (by omega),he]
 ·rw [if_neg he] at h ⊢
  rw [List.append_assoc] at h
  rw [itm_back h.app.1]
  have k:pkF s (q + (itemL (UInt8.ofNat p.1)).length) = 45:=pk_at h.app.2 (j:=0) rfl
  have h3:At s (q + (itemL (UInt8.ofNat p.1)).length) ([45] ++ (itemL (UInt8.ofNat p.2) ++ [y])):=h.app.2
  have h4:=itm_back h3.app.2.app.1
  simp only [List.length_cons,List.length_nil,Nat.zero_add] at h4
  simp only
  rw [if_pos ⟨trivial,k⟩,h4,of_n h2,of_n (by omega)]
  simp only
  rw [if_neg (by omega)]
  simp only [List.length_append,List.length_cons,Nat.add_assoc,Nat.add_comm 1]
theorem mems_back {s:ByteArray}:∀ (ms:List (Nat × Nat)) (n:Nat) (S:Nat → Nat) (q:Nat),(∀ p ∈ ms,p.1 ≤ p.2 ∧ p.2 < 256) → ms.length < n → At s q (ms.flatMap memT ++ [93]) →
  memsF s n S ⟨q,0,0⟩ = (ms.foldl (fun S p=>uniS S (spnF p.1 p.2)) S,⟨q + (ms.flatMap memT).length,0,0⟩)
 | [],n + 1,S,q,_,_,h=>by
  have k:pkF s q = 93:=pk_at h (j:=0) rfl
  unfold memsF
  rw [if_neg (fun g=>g.2 k)]
  rfl
 | p :: ms,n + 1,S,q,hv,hn,h=>by
  obtain ⟨z,r,hz,_,_,hz93,_⟩:=memT_ex p
  rw [List.flatMap_cons,List.append_assoc] at h
  have k:pkF s q = z.toNat:=pk_at h (j:=0) (by rw [hz];rfl)
  have hp:=hv p (List.mem_cons_self ..)
  have hnx:∃ y r,ms.flatMap memT ++ [93] = y :: r ∧ y ≠ 45:=by
   cases ms with
   | nil=>exact ⟨93,[],rfl,by decide⟩
   | cons p2 ms =>
    obtain ⟨z,r,hz,_,hz45,_⟩:=memT_ex p2
    rw [List.flatMap_cons,hz]
    exact ⟨z,_,rfl,hz45⟩
  obtain ⟨y,r2,hy,hy45⟩:=hnx
  have h':=h
  rw [hy,show memT p ++ y :: r2 = (memT p ++ [y]) ++ r2 by simp] at h'
  have hm:=mem_back hp.1 hp.2 hy45 h'.app.1
  unfold memsF
  rw [if_pos ⟨rfl,by rw [k];exact ne_nat hz93⟩,hm]
  simp only
  rw [mems_back ms n _ _ (fun p h=>hv p (List.mem_cons_of_mem _ h)) (by simpa using hn) h.app.2]
  simp only [List.foldl_cons,List.flatMap_cons,List.length_append,Nat.add_assoc]
theorem spa_bit (lo:Nat):∀ (n q t:Nat),t < 64 → (spaS lo n q).testBit t = decide (lo ≤ 64 * q + t ∧ 64 * q + t < lo + n)
 | 0,q,t,_=>by
  have:¬ (lo ≤ 64 * q + t ∧ 64 * q + t < lo + 0):=by omega
  simp [spaS,noS,this]
 | n + 1,q,t,ht=>by
  have ih:=spa_bit lo n q t ht
  unfold spaS withS
  split
  ·rename_i h
   rw [Nat.testBit_or,ih,Nat.testBit_two_pow,Bool.eq_iff_iff]
   simp only [Bool.or_eq_true,decide_eq_true_eq]
   omega
  ·rename_i h
   rw [ih,Bool.eq_iff_iff]
   simp only [decide_eq_true_eq]
   omega
def cov (ms:List (Nat × Nat)) (k:Nat):Prop:=∃ p ∈ ms,p.1 ≤ k ∧ k ≤ p.2
theorem fold_bit:∀ (ms:List (Nat × Nat)) (S:Nat → Nat) (q t:Nat),t < 64 → ((ms.foldl (fun S p=>uniS S (spnF p.1 p.2)) S q).testBit t = true ↔ (S q).testBit t = true ∨ cov ms (64 * q + t))
 | [],S,q,t,_=>by simp [cov]
 | p :: ms,S,q,t,ht=>by
  rw [List.foldl_cons,fold_bit ms _ q t ht]
  have:(uniS S (spnF p.1 p.2) q).testBit t = true ↔ (S q).testBit t = true ∨ (p.1 ≤ 64 * q + t ∧ 64 * q + t ≤ p.2):=by
   unfold uniS spnF
   rw [Nat.testBit_or,spa_bit _ _ _ _ ht]
   simp only [Bool.or_eq_true,decide_eq_true_eq,Int.toNat_natCast]
   constructor
   ·rintro (h | h)
    ·exact .inl h
    ·right;omega
   ·rintro (h | h)
    ·exact .inl h
    ·right;omega
  rw [this]
  unfold cov
  simp only [List.mem_cons,exists_eq_or_imp]
  rw [or_assoc]
theorem bd_fold:∀ (ms:List (Nat × Nat)) (S:Nat → Nat),bd4 S → bd4 (ms.foldl (fun S p=>uniS S (spnF p.1 p.2)) S)
 | [],S,h=>h
 | p :: ms,S,h=>bd_fold ms _ (bd_uni h (bd_spn _ _))
theorem cov_app (a b:List (Nat × Nat)) (k:Nat):cov (a ++ b) k ↔ cov a k ∨ cov b k:=by
 unfold cov
 simp only [List.mem_append,or_and_right,exists_or]
theorem cov_one (p:Nat × Nat) (k:Nat):cov [p] k ↔ p.1 ≤ k ∧ k ≤ p.2:=by
 unfold cov;simp
theorem step_cov (acc:List (Nat × Nat)) (b k:Nat) (h:∀ p ∈ acc,p.1 ≤ p.2):(cov (stepN acc b) k ↔ cov acc k ∨ k = b) ∧ ∀ p ∈ stepN acc b,p.1 ≤ p.2:=by
 unfold stepN
 cases hg:acc.getLast? with
 | none =>
  have:acc = []:=List.getLast?_eq_none_iff.1 hg
  subst this
  refine ⟨?_,by simp⟩
  rw [cov_one]
  have:¬ cov [] k:=by simp [cov]
  simp only [this,false_or]
  omega
 | some p =>
  obtain ⟨lo,hi⟩:=p
  obtain ⟨ini,hini⟩:=List.getLast?_eq_some_iff.1 hg
  subst hini
  have hl:=h (lo,hi) (by simp)
  simp only at hl ⊢
  split
  ·rename_i he
   rw [List.dropLast_concat]
   refine ⟨?_,?_⟩
   ·rw [cov_app,cov_app,cov_one,cov_one,or_assoc]
    have:lo ≤ k ∧ k ≤ b ↔ (lo ≤ k ∧ k ≤ hi) ∨ k = b:=by omega
    simp only [this]
   ·intro p hp
    rcases List.mem_append.1 hp with hp | hp
    ·exact h p (List.mem_append_left _ hp)
    ·obtain rfl:=List.mem_singleton.1 hp
     simp only;omega
  ·refine ⟨?_,?_⟩
   ·rw [cov_app (ini ++ [(lo,hi)]),cov_one]
    have:b ≤ k ∧ k ≤ b ↔ k = b:=by omega
    simp only [this]
   ·intro p hp
    rcases List.mem_append.1 hp with hp | hp
    ·exact h p hp
    ·obtain rfl:=List.mem_singleton.1 hp
     exact Nat.le_refl _
theorem spN_cov:∀ (xs:List Nat) (acc:List (Nat × Nat)) (k:Nat),(∀ p ∈ acc,p.1 ≤ p.2) → (cov (xs.foldl stepN acc) k ↔ cov acc k ∨ k ∈ xs) ∧ ∀ p ∈ xs.foldl stepN acc,p.1 ≤ p.2
 | [],acc,k,h=>⟨by simp,h⟩
 | x :: xs,acc,k,h=>by
  have h1:=step_cov acc x k h
  have h2:=spN_cov xs (stepN acc x) k h1.2
  refine ⟨?_,h2.2⟩
  rw [List.foldl_cons,h2.1,h1.1,List.mem_cons,or_assoc]
theorem exp_ok (p:Nat × Nat) (h:p.1 ≤ p.2) (h2:p.2 < 256):(∀ k,cov (expP p) k ↔ p.1 ≤ k ∧ k ≤ p.2) ∧ (∀ r ∈ expP p,r.1 ≤ r.2 ∧ r.2 < 256):=by
 unfold expP
 split
 ·split
  ·refine ⟨fun k=>cov_one p k,fun r hr=>?_⟩
   obtain rfl:=List.mem_singleton.1 hr
   exact ⟨h,h2⟩
  ·refine ⟨fun k=>?_,fun r hr=>?_⟩
   ·unfold cov;simp;omega
   ·simp only [List.mem_cons,List.mem_nil_iff,or_false] at hr
    rcases hr with rfl | rfl
    ·simp only;omega
    ·simp only;omega
 ·refine ⟨fun k=>?_,fun r hr=>?_⟩
  ·rw [cov_one];simp only;omega
  ·obtain rfl:=List.mem_singleton.1 hr
   simp only;omega
theorem exp_all (ps:List (Nat × Nat)) (h:∀ p ∈ ps,p.1 ≤ p.2 ∧ p.2 < 256):(∀ k,cov (ps.flatMap expP) k ↔ cov ps k) ∧ (∀ r ∈ ps.flatMap expP,r.1 ≤ r.2 ∧ r.2 < 256):=by
 refine ⟨fun k=>?_,fun r hr=>?_⟩
 ·constructor
  ·rintro ⟨r,hr,hk⟩
   obtain ⟨p,hp,hr⟩:=List.mem_flatMap.1 hr
   exact ⟨p,hp,((exp_ok p (h p hp).1 (h p hp).2).1 k).1 ⟨r,hr,hk⟩⟩
  ·rintro ⟨p,hp,hk⟩
   obtain ⟨r,hr,hk⟩:=((exp_ok p (h p hp).1 (h p hp).2).1 k).2 hk
   exact ⟨r,List.mem_flatMap.2 ⟨p,hp,hr⟩,hk⟩
 ·obtain ⟨p,hp,hr⟩:=List.mem_flatMap.1 hr
  exact (exp_ok p (h p hp).1 (h p hp).2).2 r hr
theorem len_mem:∀ ms:List (Nat × Nat),ms.length ≤ (ms.flatMap memT).length
 | []=>Nat.le_refl 0
 | p :: ms=>by
  obtain ⟨y,r,h,_⟩:=memT_ex p
  have:=len_mem ms
  rw [List.flatMap_cons,h]
  simp only [List.length_cons,List.length_append];omega
theorem set_back {a b c d:Nat} (ha:a < 2 ^ 64) (hb:b < 2 ^ 64) (hc:c < 2 ^ 64) (hd:d < 2 ^ 64):∃ S,setF ([32] ++ showL a b c d) false = (S,([],false)) ∧ S 0 = a ∧ S 1 = b ∧ S 2 = c ∧ S 3 = d:=by
 have hp:hasP 32 ([32] ++ showL a b c d) = true:=rfl
 have hfull:=show fullN a b c d = true → a = 18446744073709551615 ∧ b = 18446744073709551615 ∧ c = 18446744073709551615 ∧ d = 18446744073709551615 by unfold fullN;simp
 suffices hs:∃ S,clrF ⟨([32] ++ showL a b c d).toArray⟩ 1 = (S,((([32] ++ showL a b c d).length:Nat):Int),0,0) ∧ S 0 = a ∧ S 1 = b ∧ S 2 = c ∧ S 3 = d by
  obtain ⟨S,h,hS⟩:=hs
  refine ⟨S,?_,hS⟩
  unfold setF
  rw [h,if_pos ⟨hp,rfl,rfl⟩,Int.toNat_natCast,List.drop_length]
 generalize hU:(⟨([32] ++ showL a b c d).toArray⟩:ByteArray) = u
 have hus:u.size = ([32] ++ showL a b c d).length:=by rw [← hU,ba_size]
 have hat:At u 1 (showL a b c d):=⟨[],by rw [← hU];simp⟩
 unfold showL at hat hus ⊢
 unfold clrF
 simp only
 by_cases hf:fullN a b c d = true
 ·rw [if_pos hf] at hat hus ⊢
  obtain ⟨rfl,rfl,rfl,rfl⟩:=hfull hf
  have k1:pkF u 1 = 91:=pk_at hat (j:=0) rfl
  have k2:pkF u 2 = 94:=pk_at hat (j:=1) rfl
  have k3:pkF u 3 = 93:=pk_at hat (j:=2) rfl
  have hm:memsF u (u.size + 1) noS ⟨3,0,0⟩ = (noS,⟨3,0,0⟩):=by
   unfold memsF
   rw [if_neg (fun g=>g.2 k3)]
  have e1:(1:Int).toNat = 1:=rfl
  have hus4:u.size = 4:=hus
  rw [if_neg (by omega),e1,k1,if_neg (by decide),show (1 + 1:Nat) = 2 from rfl,k2]
  simp only [if_true,show (1 + 2:Nat) = 3 from rfl,hm]
  rw [if_neg (by decide)]
  exact ⟨_,rfl,rfl,rfl,rfl,rfl⟩
 ·rw [if_neg hf] at hat hus ⊢
  have hok:=sp_ok a b c d
  have hcv:=spN_cov (mems a b c d) [] 0 (by simp)
  have hbd:=spN_bound (mems a b c d) 256 (by intro x hx;unfold mems at hx;exact List.mem_range.1 (List.mem_filter.1 hx).1)
  have hps:∀ p ∈ spN (mems a b c d),p.1 ≤ p.2 ∧ p.2 < 256:=fun p hp=>⟨hcv.2 p hp,(hbd p hp).2⟩
  obtain ⟨hx1,hx2⟩:=exp_all _ hps
  have hflat:(spN (mems a b c d)).flatMap pieceL = ((spN (mems a b c d)).flatMap expP).flatMap memT:=by
   rw [List.flatMap_assoc]
   congr 1
   funext p
   exact piece_exp p
  have hcov:∀ k,cov ((spN (mems a b c d)).flatMap expP) k ↔ k ∈ mems a b c d:=by
   intro k
   rw [hx1]
   have:=(spN_cov (mems a b c d) [] k (by simp)).1
   have hn:¬ cov [] k:=by simp [cov]
   simp only [hn,false_or] at this
   exact this
  rw [hflat] at hat hus ⊢
  generalize (spN (mems a b c d)).flatMap expP = ms at *
  have hl:=len_mem ms
  simp only [List.length_append,List.length_cons,List.length_nil] at hus ⊢
  have k1:pkF u 1 = 91:=pk_at hat (j:=0) rfl
  have hat2:At u 2 (ms.flatMap memT ++ [93]):=(show At u 1 ([91] ++ (ms.flatMap memT ++ [93])) from hat).app.2
  have k2:¬ pkF u 2 = 94:=by
   cases ms with
   | nil=>rw [show pkF u 2 = 93 from pk_at hat2 (j:=0) rfl];decide
   | cons p ms =>
    obtain ⟨z,r,hz,_,_,_,hz94⟩:=memT_ex p
    rw [List.flatMap_cons,hz] at hat2
    rw [show pkF u 2 = z.toNat from pk_at hat2 (j:=0) rfl]
    exact ne_nat hz94
  have hm:=mems_back ms (u.size + 1) noS 2 hx2 (by omega) hat2
  have e1:(1:Int).toNat = 1:=rfl
  rw [if_neg (by omega),e1,k1,if_neg (by decide),show (1 + 1:Nat) = 2 from rfl,if_neg k2,if_neg k2,hm]
  simp only
  rw [if_neg (by decide)]
  have hS:=bd_fold ms noS bd_no
  have bit:∀ q w,q < 4 → w < 2 ^ 64 → wd a b c d q = w → ms.foldl (fun S p=>uniS S (spnF p.1 p.2)) noS q = w:=by
   intro q w hq hw he
   apply Nat.eq_of_testBit_eq
   intro t
   by_cases ht:t < 64
   ·rw [Bool.eq_iff_iff,fold_bit ms noS q t ht,hcov]
    have hz:¬ (noS q).testBit t = true:=by simp [noS]
    have hm:64 * q + t ∈ mems a b c d ↔ hasN a b c d (64 * q + t) = true:=by
     unfold mems
     rw [List.mem_filter,List.mem_range]
     constructor
     ·exact fun h=>h.2
     ·exact fun h=>⟨by omega,h⟩
    have hh:hasN a b c d (64 * q + t) = w.testBit t:=by
     unfold hasN
     rw [show (64 * q + t) / 64 = q by omega,show (64 * q + t) % 64 = t by omega,he,Nat.testBit_eq_decide_div_mod_eq]
    rw [hm,hh]
    simp [hz]
   ·rw [Nat.testBit_lt_two_pow (Nat.lt_of_lt_of_le (hS q) (Nat.pow_le_pow_right (by decide) (by omega))),Nat.testBit_lt_two_pow (Nat.lt_of_lt_of_le hw (Nat.pow_le_pow_right (by decide) (by omega)))]
  refine ⟨_,?_,bit 0 a (by omega) ha rfl,bit 1 b (by omega) hb rfl,bit 2 c (by omega) hc rfl,bit 3 d (by omega) hd rfl⟩
  rw [Prod.mk.injEq]
  exact ⟨rfl,by rw [Prod.mk.injEq];exact ⟨by omega,rfl⟩⟩
theorem show_pr (a b c d:Nat):∀ x ∈ showL a b c d,32 ≤ x.toNat:=by
 intro x hx
 unfold showL at hx
 split at hx
 ·simp only [List.mem_cons,List.mem_nil_iff,or_false] at hx
  rcases hx with rfl | rfl | rfl<;>decide
 ·rcases List.mem_cons.1 hx with rfl | hx
  ·decide
  rcases List.mem_append.1 hx with hx | hx
  ·obtain ⟨p,_,hp⟩:=List.mem_flatMap.1 hx
   unfold pieceL at hp
   rcases List.mem_append.1 hp with hp | hp
   ·rcases List.mem_append.1 hp with hp | hp
    ·exact item_pr _ _ hp
    ·split at hp
     ·obtain rfl:=List.mem_singleton.1 hp;decide
     ·cases hp
   ·split at hp
    ·exact item_pr _ _ hp
    ·cases hp
  ·obtain rfl:=List.mem_singleton.1 hx;decide
end Go.Proofs.YthcpaohmajjopaaGreatDoor.I
set_option linter.unusedVariables false
set_option linter.unusedSimpArgs false
namespace Go.Proofs.YthcpaohmajjopaaGreatDoor.I
open Go Go.Proofs Go.Proofs.YthcpaohmajjopaaGreatDoor.AM
theorem f1_32:∀ k:Fin 21,(hasB k.val 32 = true → hasB k.val 1 = true):=by decide +kernel
theorem aF_back (h1 h32:Bool) (i:Nat) (a:Int) {m:List UInt8} (hm:Blk m) (ht:h32 = true → 0 ≤ (i:Int) + a ∧ (i:Int) + a < 32768) (hv:h1 = true → h32 = false → 0 ≤ a ∧ a < 32768) (h0:h1 = false → a = 0) :
  aF h1 h32 i ((if h32 = true then [32,62] ++ Lib.itoa ((i:Int) + a) else if h1 = true then [32] ++ Lib.itoa a else []) ++ m,false) = (a,(m,false)):=by
 unfold aF
 cases h32
 ·cases h1
  ·rw [h0 rfl];rfl
  ·simp only [Bool.false_eq_true,if_false,if_true]
   exact num_back (hv rfl rfl).1 (hv rfl rfl).2 hm
 ·simp only [if_true]
  rw [tgt_back (ht rfl).1 (ht rfl).2 i hm,show (i:Int) + a - i = a by omega]
theorem bF_back (h:Bool) (b:Int) {m:List UInt8} (hm:Blk m) (hb:h = true → 0 ≤ b ∧ b < 32768) (h0:h = false → b = 0):bF h ((if h = true then [32] ++ Lib.itoa b else []) ++ m,false) = (b,(m,false)):=by
 unfold bF
 cases h
 ·rw [h0 rfl];rfl
 ·simp only [if_true]
  exact num_back (hb rfl).1 (hb rfl).2 hm
theorem tF_back (h:Bool) (t:ByteArray) {m:List UInt8} (ht:t.size ≤ 255) (h0:h = false → t = ⟨#[]⟩) (hl:((if h = true then [32] ++ (quo t).1.data.toList else []) ++ m).length ≤ 65536):tF h ((if h = true then [32] ++ (quo t).1.data.toList else []) ++ m,false) = (t,(m,false)):=by
 unfold tF
 cases h
 ·rw [h0 rfl];rfl
 ·simp only [if_true] at hl ⊢
  exact text_back ht hl
theorem sF_back (h:Bool) (a b c d:Nat) (ha:a < 2 ^ 64) (hb:b < 2 ^ 64) (hc:c < 2 ^ 64) (hd:d < 2 ^ 64) (h0:h = false → a = 0 ∧ b = 0 ∧ c = 0 ∧ d = 0) :
  ∃ S,sF h ((if h = true then [32] ++ showL a b c d else []),false) = (S,([],false)) ∧ S 0 = a ∧ S 1 = b ∧ S 2 = c ∧ S 3 = d:=by
 unfold sF
 cases h
 ·obtain ⟨rfl,rfl,rfl,rfl⟩:=h0 rfl
  exact ⟨noS,rfl,rfl,rfl,rfl,rfl⟩
 ·simp only [if_true]
  exact set_back ha hb hc hd
theorem line_back {i:Nat} {x:Ins} (hf:FitI x) (hk:x.ok) (tg:hasB x.op.toNat 32 = true → 0 ≤ (i:Int) + x.a ∧ (i:Int) + x.a < 32768) (ha0:hasB x.op.toNat 1 = true → hasB x.op.toNat 32 = false → 0 ≤ x.a)
  (hl:(lineL i x).length ≤ 65536):readF (lineL i x) i = (x,true):=by
 have hop:=hf.op
 have hpl:=hf.pl
 have ha:=hf.a
 have hb:=hf.b
 have hn:=hf.n
 have ht:=hf.t
 have s0:=hk.s0
 have s1:=hk.s1
 have s2:=hk.s2
 have s3:=hk.s3
 have hfb:=find_back ⟨x.op.toNat,by omega⟩ (by show 1 ≤ x.op.toNat;omega)
 have hno:=nm_no ⟨x.op.toNat,by omega⟩
 have h132:=f1_32 ⟨x.op.toNat,by omega⟩
 simp only at hfb hno h132
 have pa:x.a = if hasB x.op.toNat 1 = true then x.a else 0:=congrArg Ins.a hpl
 have pb:x.b = if hasB x.op.toNat 2 = true then x.b else 0:=congrArg Ins.b hpl
 have pn:x.n = if hasB x.op.toNat 4 = true then x.n else 0:=congrArg Ins.n hpl
 have pt:x.t = if hasB x.op.toNat 8 = true then x.t else ⟨#[]⟩:=congrArg Ins.t hpl
 have p0:x.s0 = if hasB x.op.toNat 16 = true then x.s0 else 0:=congrArg Ins.s0 hpl
 have p1:x.s1 = if hasB x.op.toNat 16 = true then x.s1 else 0:=congrArg Ins.s1 hpl
 have p2:x.s2 = if hasB x.op.toNat 16 = true then x.s2 else 0:=congrArg Ins.s2 hpl
 have p3:x.s3 = if hasB x.op.toNat 16 = true then x.s3 else 0:=congrArg Ins.s3 hpl
 obtain ⟨S,eS,z0,z1,z2,z3⟩:=sF_back (hasB x.op.toNat 16) x.s0.toNat x.s1.toNat x.s2.toNat x.s3.toNat (by omega) (by omega) (by omega) (by omega) (fun e=>by rw [p0,p1,p2,p3,e];exact ⟨rfl,rfl,rfl,rfl⟩)
 have bS:Blk (if hasB x.op.toNat 16 = true then [32] ++ showL x.s0.toNat x.s1.toNat x.s2.toNat x.s3.toNat else []):=Blk.ite (Blk.one _) (.inl rfl)
 have hl2:=hl
 unfold lineL lineF at hl2
 have eL:lineL i x = Lib.itoa i ++ 32 :: ((nameF x.op.toNat).data.toList ++ ((if hasB x.op.toNat 32 = true then [32,62] ++ Lib.itoa ((i:Int) + x.a) else if hasB x.op.toNat 1 = true then [32] ++ Lib.itoa x.a else []) ++ ((if hasB x.op.toNat 2 = true then [32] ++ Lib.itoa x.b else []) ++ ((if hasB x.op.toNat 4 = true then [32] ++ Lib.itoa x.n else []) ++
   ((if hasB x.op.toNat 8 = true then [32] ++ (quo x.t).1.data.toList else []) ++ (if hasB x.op.toNat 16 = true then [32] ++ showL x.s0.toNat x.s1.toNat x.s2.toNat x.s3.toNat else [])))))):=by
  unfold lineL lineF
  simp only [List.append_assoc]
  rfl
 have eT:=tF_back (hasB x.op.toNat 8) x.t (m:=if hasB x.op.toNat 16 = true then [32] ++ showL x.s0.toNat x.s1.toNat x.s2.toNat x.s3.toNat else []) ht (fun e=>by rw [pt,e];rfl) (by
  simp only [List.length_append] at hl2 ⊢
  omega)
 have bT:Blk ((if hasB x.op.toNat 8 = true then [32] ++ (quo x.t).1.data.toList else []) ++ (if hasB x.op.toNat 16 = true then [32] ++ showL x.s0.toNat x.s1.toNat x.s2.toNat x.s3.toNat else [])):=(Blk.ite (Blk.one _) (.inl rfl)).app bS
 have eN:=bF_back (hasB x.op.toNat 4) x.n bT (fun e=>by have:=hn e;omega) (fun e=>by rw [pn,e];rfl)
 have bN:=(Blk.ite (c:=hasB x.op.toNat 4 = true) (Blk.one (Lib.itoa x.n)) (.inl rfl)).app bT
 have eB:=bF_back (hasB x.op.toNat 2) x.b bN (fun e=>by have:=hb e;omega) (fun e=>by rw [pb,e];rfl)
 have bB:=(Blk.ite (c:=hasB x.op.toNat 2 = true) (Blk.one (Lib.itoa x.b)) (.inl rfl)).app bN
 have eA:=aF_back (hasB x.op.toNat 1) (hasB x.op.toNat 32) i x.a bB tg (fun e1 e2=>⟨ha0 e1 e2,by have:=ha e1;omega⟩) (fun e=>by rw [pa,e];rfl)
 have bA:=(Blk.ite (c:=hasB x.op.toNat 32 = true) (show Blk ([32,62] ++ Lib.itoa ((i:Int) + x.a)) from .inr ⟨_,rfl⟩) (Blk.ite (c:=hasB x.op.toNat 1 = true) (Blk.one (Lib.itoa x.a)) (.inl rfl))).app bB
 have eW:=word_back (w:=(nameF x.op.toNat).data.toList) (fun e=>(hno 32 e).1 rfl) bA
 have eC:=cut_mid 32 (Lib.itoa i) ((nameF x.op.toNat).data.toList ++ ((if hasB x.op.toNat 32 = true then [32,62] ++ Lib.itoa ((i:Int) + x.a) else if hasB x.op.toNat 1 = true then [32] ++ Lib.itoa x.a else []) ++ ((if hasB x.op.toNat 2 = true then [32] ++ Lib.itoa x.b else []) ++ ((if hasB x.op.toNat 4 = true then [32] ++ Lib.itoa x.n else []) ++
   ((if hasB x.op.toNat 8 = true then [32] ++ (quo x.t).1.data.toList else []) ++ (if hasB x.op.toNat 16 = true then [32] ++ showL x.s0.toNat x.s1.toNat x.s2.toNat x.s3.toNat else [])))))) (no_dig (by decide) (by omega))
 rw [← eL] at eC
 generalize ((if hasB x.op.toNat 32 = true then [32,62] ++ Lib.itoa ((i:Int) + x.a) else if hasB x.op.toNat 1 = true then [32] ++ Lib.itoa x.a else []) ++ ((if hasB x.op.toNat 2 = true then [32] ++ Lib.itoa x.b else []) ++ ((if hasB x.op.toNat 4 = true then [32] ++ Lib.itoa x.n else []) ++
   ((if hasB x.op.toNat 8 = true then [32] ++ (quo x.t).1.data.toList else []) ++ (if hasB x.op.toNat 16 = true then [32] ++ showL x.s0.toNat x.s1.toNat x.s2.toNat x.s3.toNat else []))))) = R at *
 have b1:=(congrArg (bF (hasB x.op.toNat 2)) (congrArg Prod.snd eA)).trans eB
 have n1:=(congrArg (bF (hasB x.op.toNat 4)) (congrArg Prod.snd b1)).trans eN
 have t1:=(congrArg (tF (hasB x.op.toNat 8)) (congrArg Prod.snd n1)).trans eT
 have s1':=(congrArg (sF (hasB x.op.toNat 16)) (congrArg Prod.snd t1)).trans eS
 have s1:(insK' x.op.toNat i (R,false)).s = (S,([],false)):=s1'
 have hx:(insK' x.op.toNat i (R,false)).ins x.op.toNat = x:=by
  unfold Fld.ins
  rw [show (insK' x.op.toNat i (R,false)).a = _ from eA,show (insK' x.op.toNat i (R,false)).b = _ from b1,show (insK' x.op.toNat i (R,false)).n = _ from n1,show (insK' x.op.toNat i (R,false)).t = _ from t1,s1]
  clear b1 n1 t1 s1 s1' eA eB eN eT eS eL eC eW hl hl2 pa pb pn pt p0 p1 p2 p3 hpl bA bB bN bT bS hfb hno h132 ha hb hn ht ha0 tg hf hk
  obtain ⟨op,a,b,n,t,q0,q1,q2,q3⟩:=x
  simp only at *
  simp only [Ins.mk.injEq,true_and]
  rw [z0,z1,z2,z3]
  exact ⟨by omega,by omega,by omega,by omega,by omega⟩
 have hne:¬ x.op.toNat = 0:=by omega
 unfold readF
 simp only
 rw [eC]
 simp only [Option.getD_some]
 rw [eW]
 simp only
 rw [hfb,if_neg (by rintro (h | h);exact hne h;exact h rfl)]
 rw [hx,if_neg ?_]
 rw [s1]
 simp
theorem line_no10 {i:Nat} {x:Ins} (hf:FitI x) (tg:hasB x.op.toNat 32 = true → 0 ≤ (i:Int) + x.a) (ha0:hasB x.op.toNat 1 = true → hasB x.op.toNat 32 = false → 0 ≤ x.a):10 ∉ lineL i x:=by
 have hop:=hf.op
 have hb:=hf.b
 have hn:=hf.n
 have hno:=nm_no ⟨x.op.toNat,by omega⟩
 simp only at hno
 have n1:∀ v:Int,0 ≤ v → 10 ∉ Lib.itoa v:=fun v hv=>no_dig (by decide) hv
 have hq:=quo_small hf.t
 intro h
 unfold lineL lineF at h
 rcases List.mem_append.1 h with h | h
 ·rcases List.mem_append.1 h with h | h
  ·rcases List.mem_append.1 h with h | h
   ·rcases List.mem_append.1 h with h | h
    ·rcases List.mem_append.1 h with h | h
     ·rcases List.mem_append.1 h with h | h
      ·rcases List.mem_append.1 h with h | h
       ·exact n1 i (by omega) h
       ·exact absurd (List.mem_singleton.1 h) (by decide)
      ·exact (hno 10 h).2 rfl
     ·split at h
      ·rename_i e
       rcases List.mem_append.1 h with h | h
       ·revert h;decide
       ·exact n1 _ (tg e) h
      ·rename_i e
       split at h
       ·rename_i e1
        rcases List.mem_append.1 h with h | h
        ·revert h;decide
        ·exact n1 _ (ha0 e1 (by simpa using e)) h
       ·cases h
    ·split at h
     ·rename_i e
      rcases List.mem_append.1 h with h | h
      ·revert h;decide
      ·exact n1 _ (hb e).1 h
     ·cases h
   ·split at h
    ·rename_i e
     rcases List.mem_append.1 h with h | h
     ·revert h;decide
     ·exact n1 _ (hn e).1 h
    ·cases h
  ·split at h
   ·rcases List.mem_append.1 h with h | h
    ·revert h;decide
    ·rw [hq] at h
     rcases List.mem_append.1 h with h | h
     ·rcases List.mem_cons.1 h with h | h
      ·revert h;decide
      ·have:=body_pr _ _ h
       revert this;decide
     ·revert h;decide
   ·cases h
 ·split at h
  ·rcases List.mem_append.1 h with h | h
   ·revert h;decide
   ·have:=show_pr _ _ _ _ _ h
    revert this;decide
  ·cases h
theorem ls_all:∀ (q:List Ins) (i:Nat) (acc:List UInt8),(lsG i q acc).length ≤ 65536 → lsG i q acc = acc ++ linG i q
 | [],i,acc,_=>by simp [lsG,linG]
 | x :: q,i,acc,h=>by
  unfold lsG at h ⊢
  split at h
  ·rename_i g
   rw [if_pos g,ls_all q _ _ h]
   simp [linG]
  ·rename_i g
   exact absurd h g
theorem unl_back:∀ (q:List Ins) (n i:Nat) (code:List Ins) (pl:List Int),(∀ (j:Nat) (x:Ins),q[j]? = some x → (lineL (code.length + j) x).length ≤ 65536 → readF (lineL (code.length + j) x) (code.length + j) = (x,true) ∧ 10 ∉ lineL (code.length + j) x) →
  (linG code.length q).length < n → (linG code.length q).length ≤ 65536 → (chk capX (code ++ q)).2 = 0 → unlG n (linG code.length q) i code pl = (code ++ q,0,0)
 | [],n + 1,i,code,pl,_,_,_,hc=>by
  rw [List.append_nil] at hc ⊢
  unfold unlG
  rw [if_pos (show linG code.length [] = [] from rfl)]
  unfold chkAns
  simp only [hc,if_true]
 | x :: q,n + 1,i,code,pl,hr,hn,hs,hc=>by
  have hlen:(linG code.length (x :: q)).length = (lineL code.length x).length + 1 + (linG (code.length + 1) q).length:=by
   simp only [linG,List.length_append,List.length_cons,List.length_nil]
  obtain ⟨h1,h2⟩:=hr 0 x rfl (by simp only [Nat.add_zero];omega)
  rw [Nat.add_zero] at h1 h2
  have hcut:=cut_mid 10 (lineL code.length x) (linG (code.length + 1) q) h2
  have e:linG code.length (x :: q) = lineL code.length x ++ 10 :: linG (code.length + 1) q:=by simp [linG]
  unfold unlG
  rw [if_neg (by rw [e];simp),e,hcut]
  simp only
  rw [h1,if_pos ⟨rfl,rfl⟩]
  simp only [Option.getD_some]
  have ih:=unl_back q n (i + (lineL code.length x).length + 1) (code ++ [x]) (pl ++ [(i:Int)]) (by
   intro j y hy hl
   have e2:(code ++ [x]).length + j = code.length + (j + 1):=by simp;omega
   rw [e2] at hl ⊢
   exact hr (j + 1) y hy hl) (by simp only [List.length_append,List.length_cons,List.length_nil,Nat.zero_add];omega) (by simp only [List.length_append,List.length_cons,List.length_nil,Nat.zero_add];omega) (by simpa using hc)
  simp only [List.length_append,List.length_cons,List.length_nil,Nat.zero_add] at ih
  rw [ih]
  simp
theorem list_back {code:List Ins} (hok:∀ x ∈ code,x.ok) (h:(listA code).2 = 0):unlA (listA code).1 = (code,0,0) ∧ (listA code).1.size ≤ 65536:=by
 unfold listA at h ⊢
 by_cases hc:(chk capX code).2 = 0
 ·rw [if_neg (by omega)] at h ⊢
  split at h
  ·cases h
  rename_i hle
  rw [if_neg hle]
  have hg:=ls_all code 0 [] (by omega)
  rw [List.nil_append] at hg
  rw [hg] at hle ⊢
  generalize hs:(⟨(linG 0 code).toArray⟩:ByteArray) = s
  have hsl:s.data.toList = linG 0 code:=by rw [← hs]
  have hsz:s.size = (linG 0 code).length:=by rw [← hs,ba_size]
  show unlA s = (code,0,0) ∧ s.size ≤ 65536
  refine ⟨?_,by omega⟩
  unfold unlA
  rw [if_neg (by omega),hsl]
  have hfit:=fit_all hc
  have hck:=chk_ok hc
  exact unl_back code (s.size + 1) 0 [] [] (by
   intro j x hx hl
   rw [List.length_nil,Nat.zero_add] at hl ⊢
   have hm:=List.mem_of_getElem? hx
   have lo:=line_ok hc hok j x hx
   have hlen:=hck.len
   have tg:hasB x.op.toNat 32 = true → 0 ≤ (j:Int) + x.a ∧ (j:Int) + x.a < 32768:=fun e=>by
    have:=hck.tg j x hx e;omega
   exact ⟨line_back (hfit x hm) (hok x hm) tg lo.a0 hl,line_no10 (hfit x hm) (fun e=>(tg e).1) lo.a0⟩) (by rw [List.length_nil];omega) (by rw [List.length_nil];omega) (by simpa using hc)
 ·rw [if_pos hc] at h
  exact absurd h hc
end Go.Proofs.YthcpaohmajjopaaGreatDoor.I
set_option linter.unusedVariables false
set_option linter.unusedSimpArgs false
namespace Go.Proofs.YthcpaohmajjopaaGreatDoor.I
open Go Go.Proofs Go.Proofs.YthcpaohmajjopaaGreatDoor.AM
variable {X:Cx}
end Go.Proofs.YthcpaohmajjopaaGreatDoor.I
set_option linter.unusedVariables false
set_option linter.unusedSimpArgs false
namespace Go.Proofs.YthcpaohmajjopaaGreatDoor.I
open Go Go.Proofs Go.Proofs.YthcpaohmajjopaaGreatDoor.AM
variable {X:Cx}
theorem chk_zero {code:List Ins} (h:(chk capX code).2 = 0):(chk capX code).1 = 0:=by
 unfold chk at h ⊢
 split at h
 ·exact absurd (show (2:Int) = 0 from h) (by decide)
 rename_i h1
 rw [if_neg h1]
 split at h
 ·exact absurd (show (3:Int) = 0 from h) (by decide)
 rename_i h2
 rw [if_neg h2]
 cases hg:chkGo capX code.length 0 code with
 | some p =>
  rw [hg] at h
  exact absurd h (chkGo_ne _ _ _ _ _ hg)
 | none =>
  rw [hg] at h
  simp only [Option.getD_none] at h ⊢
  unfold chkEnd at h ⊢
  split at h
  ·exact absurd (show (163:Int) = 0 from h) (by decide)
  ·rename_i h3
   rw [if_neg h3]
theorem bytes_err {code:List Ins} (h:¬ (bytesA code).2 = 0):(bytesA code).1 = ⟨#[]⟩ ∧ ((chk capX code).2 = (bytesA code).2 ∨ ((chk capX code).2 = 0 ∧ (bytesA code).2 = 2)):=by
 unfold bytesA at h ⊢
 split
 ·exact ⟨rfl,.inl rfl⟩
 ·rename_i h1
  rw [if_neg h1] at h
  split
  ·exact ⟨rfl,.inr ⟨Decidable.not_not.1 h1,rfl⟩⟩
  ·rename_i h2
   rw [if_neg h2] at h
   exact absurd rfl h
theorem list_err {code:List Ins} (hc:(chk capX code).2 = 0) (h:¬ (listA code).2 = 0):listA code = (⟨#[]⟩,2):=by
 unfold listA at h ⊢
 rw [if_neg (by omega)] at h ⊢
 split
 ·rfl
 ·rename_i h2
  rw [if_neg h2] at h
  exact absurd rfl h
theorem r3 (hX:HY X) (code:List Ins) (hok:∀ x ∈ code,x.ok) (sp:List (List L)):R X Tryz.prog 3 [.lf (.lst .ro 9 (code.map Ins.c) sp)] [] (.lf (.bool true)) []:=by
 have h5:=r5 hX.h1 code hok sp _ rfl
 have h6:=r6x (X:=X) hX.h1 code sp
 have h7:=r7 (X:=X) hX.h1
 have h9:=r9 (X:=X) code code [] sp
 have h10:=r10 hX.toHX code hok sp _ rfl
 have hrb:=read_back hok
 have hlb:=list_back hok
 have hbe:=bytes_err (code:=code)
 have hle:=list_err (code:=code)
 have hc0:=chk_zero (code:=code)
 rw [sameL_self] at h9
 generalize bytesA code = B at *
 generalize listA code = S at *
 generalize chk capX code = C at *
 obtain ⟨b,e⟩:=B
 obtain ⟨s,g⟩:=S
 obtain ⟨ca,ce⟩:=C
 simp only at *
 refine R_i [] [] c3_ok rfl (by simp) ?_
 simp -implicitDefEqProofs (maxSteps:=2000000) only [c3,↓reduceIte,S0,St.init,enum,reduceCtorEq,PV.leaves]
 refine wcall_s h5 rfl rfl ?_
 simp -implicitDefEqProofs (maxSteps:=2000000) only [c3,↓reduceIte,S0,Nat.reduceEqDiff,reduceCtorEq,St.clr,outV,ownsV,owns1,ownL,PV.leaves,ne_eq,ite_not]
 with_reducible refine ite_pr (fun h1=>?_) (fun h1=>?_)
 ·obtain ⟨hrd,hbs,hck⟩:=hrb h1
  have h8:=r8 (X:=X) hX.h1 b (by omega) (cntR_bd b) _ hrd
  refine wcall_down h8 rfl ?_
  simp -implicitDefEqProofs (maxSteps:=2000000) only [c3,↓reduceIte,S0,Nat.reduceEqDiff,Nat.reduceAdd,reduceCtorEq,cond_false,St.clr,outV,ownsV,owns1,ownL,PV.leaves,PV.cells,cellL,fillL,Bool.not_eq_eq_eq_not]
  refine wcall_s h9 rfl rfl ?_
  simp -implicitDefEqProofs (maxSteps:=2000000) only [c3,↓reduceIte,S0,Nat.reduceEqDiff,reduceCtorEq,cond_false,St.clr,outV,ownsV,owns1,ownL,PV.leaves]
  refine wcall_s h10 rfl rfl ?_
  simp -implicitDefEqProofs (maxSteps:=2000000) only [c3,↓reduceIte,S0,Nat.reduceEqDiff,reduceCtorEq,cond_false,St.clr,outV,ownsV,owns1,ownL,PV.leaves,ne_eq,ite_not]
  with_reducible refine ite_pr (fun h2=>?_) (fun h2=>?_)
  ·obtain ⟨hun,hus⟩:=hlb h2
   have h11:=r11 hX s _ hun
   refine wcall_down h11 rfl ?_
   simp -implicitDefEqProofs (maxSteps:=2000000) only [c3,↓reduceIte,S0,Nat.reduceEqDiff,Nat.reduceAdd,reduceCtorEq,cond_false,St.clr,outV,ownsV,owns1,ownL,PV.leaves,PV.cells,cellL,fillL]
   refine wcall_s h9 rfl rfl ?_
   simp -implicitDefEqProofs (maxSteps:=2000000) only [c3,↓reduceIte,S0,Nat.reduceEqDiff,cond_false,St.clr,outV,ownsV,owns1,ownL,PV.leaves]
   refine wcall_s h7 rfl rfl ?_
   simp -implicitDefEqProofs (maxSteps:=2000000) only [c3,↓reduceIte,S0,Nat.reduceEqDiff,St.clr,outV,ownsV,owns1,ownL]
   done
  ·obtain ⟨rfl,rfl⟩:=Prod.mk.injEq _ _ _ _ ▸ hle hck h2
   simp -implicitDefEqProofs (maxSteps:=2000000) only [c3,↓reduceIte]
   refine wcall_s h7 rfl rfl ?_
   simp -implicitDefEqProofs (maxSteps:=2000000) only [c3,↓reduceIte,S0,Nat.reduceEqDiff,St.clr,outV,ownsV,owns1,ownL]
   done
 ·obtain ⟨hb,he⟩:=hbe h1
  subst hb
  refine wcall_s h6 rfl rfl ?_
  simp -implicitDefEqProofs (maxSteps:=2000000) only [c3,↓reduceIte,S0,Nat.reduceEqDiff,reduceCtorEq,St.clr,outV,ownsV,owns1,ownL,PV.leaves]
  refine wcall_s h7 rfl rfl ?_
  simp -implicitDefEqProofs (maxSteps:=2000000) only [c3,↓reduceIte,S0,Nat.reduceEqDiff,cond_false,St.clr,outV,ownsV,owns1,ownL,ite_not]
  rcases he with he | ⟨he,h2⟩
  ·subst he
   simp -implicitDefEqProofs (maxSteps:=2000000) only [c3,↓reduceIte]
   done
  ·have:=hc0 he
   subst this he h2
   simp -implicitDefEqProofs (maxSteps:=2000000) only [c3,↓reduceIte]
   split<;>trivial
end Go.Proofs.YthcpaohmajjopaaGreatDoor.I
set_option linter.unusedVariables false
namespace Go.Proofs.YthcpaohmajjopaaGreatDoor.I
open Go Go.Proofs Go.Proofs.YthcpaohmajjopaaGreatDoor.AM
def cxY (o5 o6:Nat):Cx:=⟨fun g=>if g = 0 then some usesL else if g = 1 then some namesL else if g = 3 then some powL else if g = 4 then some deBL else if g = 5 then some [.iface 164 (.rp [] o5)] else if g = 6 then some [.iface 164 (.rp [] o6)] else none⟩
theorem cxY_h (o5 o6:Nat):HY (cxY o5 o6):=⟨⟨rfl,rfl,rfl,rfl⟩,⟨164,_,rfl⟩,⟨164,_,rfl⟩⟩
theorem namesL_is:namesL = nameT.map fun n=>L.str ⟨n.toArray⟩:=by
 unfold namesL
 apply List.ext_getElem?
 intro i
 by_cases h:i < 21
 ·have h2:i < nameT.length:=by have:nameT.length = 21:=rfl;omega
  simp [h,nameF,List.getElem?_eq_getElem h2]
 ·have h2:nameT.length ≤ i:=by have:nameT.length = 21:=rfl;omega
  simp [h,List.getElem?_eq_none h2]
theorem names_glob {w:World} {fuel:Nat} {cs:Array Value} {ps:List MemPlace} {d:DataW Unit} (hv:w.var? Tryz.prog "harrow/instr.names" = some cs)
  (h:DataW.trod (fun _=>()) Tryz.prog w 0 (fun _=>true) false fuel 73 cs.toList = some (d,ps)) (hd:d = .agg (nameT.map fun n=>.lit (.string n))):GlobOK w 1 namesL:=by
 subst hd
 rw [namesL_is]
 exact glob_strs (by kernel_rfl) hv (table_strs Tryz.underlying73 Tryz.underlying9 (by kernel_rfl) (by kernel_rfl) h) (by decide)
theorem pow_glob {w:World} {fuel:Nat} {cs:Array Value} {ps:List MemPlace} {d:DataW Unit} (hv:w.var? Tryz.prog "internal/strconv.uint64pow10" = some cs)
  (h:DataW.trod (fun _=>()) Tryz.prog w 0 (fun _=>true) false fuel 149 cs.toList = some (d,ps)) (hd:d = .agg (Lib.pow10Tab.map fun n=>.lit (.int .u64 n))):GlobOK w 3 powL:=by
 subst hd
 exact glob_ints (by kernel_rfl) hv (table_ints Tryz.underlying149 Tryz.underlying38 (by kernel_rfl) (by kernel_rfl) h) (by decide)
theorem deB_glob {w:World} {fuel:Nat} {cs:Array Value} {ps:List MemPlace} {d:DataW Unit} (hv:w.var? Tryz.prog "math/bits.deBruijn64tab" = some cs)
  (h:DataW.trod (fun _=>()) Tryz.prog w 0 (fun _=>true) false fuel 152 cs.toList = some (d,ps)) (hd:d = .agg (Lib.deBruijn64tab.map fun n=>.lit (.int .u8 (n:Nat)))):GlobOK w 4 deBL:=by
 have e:deBL = (Lib.deBruijn64tab.map fun n=>((n:Nat):Int)).map (L.int .u8):=by rw [List.map_map];rfl
 have e2:d = .agg ((Lib.deBruijn64tab.map fun n=>((n:Nat):Int)).map fun n=>.lit (.int .u8 n)):=by rw [hd,List.map_map];rfl
 subst e2
 rw [e]
 exact glob_ints (by kernel_rfl) hv (table_ints Tryz.underlying152 Tryz.underlying5 (by kernel_rfl) (by kernel_rfl) h) (by decide)
theorem star_err:"*" ++ "errors.errorString" = "*errors.errorString":=by decide
theorem err_row (u:TypeId) (h:Tryz.prog.typeName? 3 u = some "*errors.errorString"):u = 164 :=
 typeName_ptr_named (nm:="errors.errorString") (by rw [star_err];kernel_rfl) (by kernel_rfl) (by decide) u (by rw [star_err];exact h)
theorem err_glob {w:World} {n:String} {g:Nat} {a:Addr} {s:ByteArray} (hg:Tryz.prog.globalNamed n = some g) (hv:w.var? Tryz.prog n = some #[.iface 164 (.pointer (some a))]) (hc:w.cell? a = some (.string s)):GlobOK w g [.iface 164 (.rp [] a.off)]:=by
 obtain ⟨b,off,spot⟩:=a
 have hsp:spot = none:=by
  cases spot with
  | none=>rfl
  | some k =>
   unfold World.cell? at hc
   split at hc<;>simp at hc
 subst hsp
 have hlt:b < w.heap.size:=by
  rcases Nat.lt_or_ge b w.heap.size with h | h
  ·exact h
  ·unfold World.cell? at hc
   simp [Array.getElem?_eq_none h] at hc
 refine ⟨by simp,by rw [World.var?_cell hg hv];rfl,fun j c hj=>?_⟩
 cases j with
 | zero =>
  obtain rfl:=Option.some.inj hj
  exact ⟨_,World.var?_cell hg hv 0,D.iface _ _ _ (D.rp [] off b [] trivial hlt rfl (fun i u h=>by simp at h) (fun i c u h=>by simp at h))⟩
 | succ j=>simp at hj
theorem err_of {n:String} {text:List UInt8} {r:List (String × DataW Unit)} {W:World} {g:Nat} (h:laidMet Tryz.prog ((n,.iface "*errors.errorString" (.ptr (.agg [.lit (.string text)]))) :: r) W)
  (hg:Tryz.prog.globalNamed n = some g) (ht:(Tryz.prog.globals[g]?).map (·.type) = some 58):∃ o,GlobOK W g [.iface 164 (.rp [] o)]:=by
 obtain ⟨a,s,hv,hc,_,_⟩:=laid_sentinel h hg ht Tryz.underlying58 err_row Tryz.underlying164 Tryz.underlying166 rfl rfl Tryz.underlying9 (by kernel_rfl) (by kernel_rfl)
 exact ⟨a.off,err_glob hg hv hc⟩
theorem cxY_ok {W:World} {o5 o6:Nat} (h0:GlobOK W 0 usesL) (h1:GlobOK W 1 namesL) (h3:GlobOK W 3 powL) (h4:GlobOK W 4 deBL) (h5:GlobOK W 5 [.iface 164 (.rp [] o5)]) (h6:GlobOK W 6 [.iface 164 (.rp [] o6)]):CxOK (cxY o5 o6) env0 W:=by
 refine cx_ok fun g cs hg=>?_
 simp only [cxY] at hg
 split at hg
 ·rename_i e;subst e;obtain rfl:=Option.some.inj hg;exact h0
 split at hg
 ·rename_i e;subst e;obtain rfl:=Option.some.inj hg;exact h1
 split at hg
 ·rename_i e;subst e;obtain rfl:=Option.some.inj hg;exact h3
 split at hg
 ·rename_i e;subst e;obtain rfl:=Option.some.inj hg;exact h4
 split at hg
 ·rename_i e;subst e;obtain rfl:=Option.some.inj hg;exact h5
 split at hg
 ·rename_i e;subst e;obtain rfl:=Option.some.inj hg;exact h6
 ·cases hg
end Go.Proofs.YthcpaohmajjopaaGreatDoor.I
