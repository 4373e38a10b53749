/- Contracts, part S7. -/
import Derived.Test.YtdoefdmaecaacaaDoorS6
import Derived.Test.YtdoefdmaecaacaaDoorS4
import Derived.Test.YtdoefdmaecaacaaDoorS3
import Derived.Test.YtdoefdmaecaacaaDoorAmLaid
set_option linter.unusedVariables false
set_option linter.unusedSimpArgs false
namespace Go.Proofs.YtdoefdmaecaacaaDoor.S
open Go Go.Proofs.YtdoefdmaecaacaaDoor.AM Go.Proofs
variable {X : Cx}
structure Nd.ri (x : Nd) : Prop where
  wf : x.wf
  ar : ¬ arF x.op < 0
  fl : fldB x = true
theorem chkR_fl {p : List Nd} : ∀ (q : List Nd) (i : Int) (sh : List (Int × Int)), (chkR p q i sh).2.1 = 0 → ∀ x ∈ q, ¬ arF x.op < 0 ∧ fldB x = true
  | [], _, _, _, x, hx => by simp at hx
  | y :: q, i, sh, h, x, hx => by
    simp only [chkR] at h
    split at h
    · rename_i h0
      have h1 := chkR_fl q (i + 1) _ h
      rcases List.mem_cons.1 hx with rfl | hx
      · unfold shC at h0
        split at h0
        · cases h0
        · rename_i ha
          split at h0
          · cases h0
          · rename_i hf
            exact ⟨ha, by simpa using hf⟩
      · exact h1 x hx
    · rename_i h0
      exact absurd h h0
theorem chk_fl {p : List Nd} (hw : ∀ x ∈ p, x.wf) (h : (chk p).2 = 0) : ∀ x ∈ p, x.ri := by
  unfold chk at h
  split at h
  · cases h
  unfold eachF at h
  split at h
  · rename_i h0
    intro x hx
    obtain ⟨h1, h2⟩ := chkR_fl p 0 [] h0 x hx
    exact ⟨hw x hx, h1, h2⟩
  · rename_i h0
    exact absurd h h0
def Tr.post : Tr → List Nd
  | .l0 x => [x]
  | .l1 x a => a.post ++ [x]
  | .l2 x a b => a.post ++ b.post ++ [x]
theorem build_post : ∀ (p : List Nd) (st st' : List Tr), buildT p st = some st' → st.reverse.flatMap Tr.post ++ p = st'.reverse.flatMap Tr.post
  | [], st, st', h => by cases h; simp
  | x :: p, st, st', h => by
    simp only [buildT] at h
    cases hs : stepT x st with
    | none => rw [hs] at h; cases h
    | some s1 =>
      rw [hs] at h
      have h2 := build_post p s1 st' h
      rw [← h2]
      rcases step_cases hs with ⟨_, rfl⟩ | ⟨a, r, _, rfl, rfl⟩ | ⟨a, b, r, _, rfl, rfl⟩ <;> simp [Tr.post]
theorem tree_post {p : List Nd} {t : Tr} (h : buildT p [] = some [t]) : p = t.post := by
  have := build_post p [] [t] h
  simpa using this
section
variable (T : Txt X)
def wordB (op : Int) : List UInt8 := SL.wordsL.getD op.toNat []
def sfxB (x : Nd) : List UInt8 :=
  if x.op = 4 ∨ x.op = 22 then 32 :: (T.lit x.t).data.toList else if x.op = 5 then 32 :: (T.set x.s0 x.s1 x.s2 x.s3).data.toList else if x.op = 6 then 32 :: x.t.data.toList
  else if x.op = 19 then (if x.t = ⟨#[]⟩ then [] else 32 :: x.t.data.toList) else if x.op = 14 ∨ x.op = 15 ∨ x.op = 16 ∨ x.op = 23 then 32 :: (T.dec x.n).data.toList else []
theorem bapp (a b : ByteArray) : (a ++ b).data.toList = a.data.toList ++ b.data.toList := by rw [ByteArray.data_append, Array.toList_append]
theorem lnT_b (x : Nd) (i : Nat) : (lnT T x i).data.toList = List.replicate i 32 ++ (wordB x.op ++ sfxB T x) ++ [10] := by
  have e1 : (SL.sps i).data.toList = List.replicate i 32 := rfl
  have e2 : (SL.wordF x.op).data.toList = wordB x.op := rfl
  have e3 : (⟨#[32]⟩ : ByteArray).data.toList = [32] := rfl
  have e4 : (⟨#[10]⟩ : ByteArray).data.toList = [10] := rfl
  unfold lnT lnS sfxB
  rw [bapp, e4]
  (repeat' split) <;> simp only [bapp, e1, e2, e3, List.append_assoc, List.cons_append, List.nil_append, List.append_nil]
def linB (t : Tr) (i : Nat) : List UInt8 := (linesT T t i).flatMap fun s => s.data.toList
theorem linB0 (x : Nd) (i : Nat) : linB T (.l0 x) i = (List.replicate i 32 ++ (wordB x.op ++ sfxB T x)) ++ [10] := by
  simp only [linB, linesT, List.flatMap_cons, List.flatMap_nil, List.append_nil, lnT_b]
theorem linB1 (x : Nd) (a : Tr) (i : Nat) : linB T (.l1 x a) i = (List.replicate i 32 ++ (wordB x.op ++ sfxB T x)) ++ 10 :: linB T a (i + 2) := by
  simp only [linB, linesT, List.flatMap_cons, lnT_b]
  simp
theorem linB2 (x : Nd) (a b : Tr) (i : Nat) : linB T (.l2 x a b) i = (List.replicate i 32 ++ (wordB x.op ++ sfxB T x)) ++ 10 :: (linB T a (i + 2) ++ linB T b (i + 2)) := by
  simp only [linB, linesT, List.flatMap_cons, List.flatMap_append, lnT_b]
  simp
theorem linR0 (x : Nd) (i : Nat) (r : List UInt8) : linB T (.l0 x) i ++ r = (List.replicate i 32 ++ (wordB x.op ++ sfxB T x)) ++ 10 :: r := by rw [linB0]; simp
theorem linR1 (x : Nd) (a : Tr) (i : Nat) (r : List UInt8) : linB T (.l1 x a) i ++ r = (List.replicate i 32 ++ (wordB x.op ++ sfxB T x)) ++ 10 :: (linB T a (i + 2) ++ r) := by rw [linB1]; simp
theorem linR2 (x : Nd) (a b : Tr) (i : Nat) (r : List UInt8) : linB T (.l2 x a b) i ++ r = (List.replicate i 32 ++ (wordB x.op ++ sfxB T x)) ++ 10 :: (linB T a (i + 2) ++ (linB T b (i + 2) ++ r)) := by rw [linB2]; simp
structure TxI : Prop where
  lit10 : ∀ s : ByteArray, s.size ≤ 255 → (10 : UInt8) ∉ (T.lit s).data.toList
  litI : ∀ s s' : ByteArray, s.size ≤ 255 → s'.size ≤ 255 → (T.lit s).data.toList = (T.lit s').data.toList → s = s'
  dec10 : ∀ n : Int, 0 ≤ n → n ≤ 50 → (10 : UInt8) ∉ (T.dec n).data.toList
  decI : ∀ n m : Int, 0 ≤ n → n ≤ 50 → 0 ≤ m → m ≤ 50 → (T.dec n).data.toList = (T.dec m).data.toList → n = m
  set10 : ∀ a b c d : Int, (10 : UInt8) ∉ (T.set a b c d).data.toList
  setI : ∀ a b c d a' b' c' d' : Int, 0 ≤ a → a ≤ 18446744073709551615 → 0 ≤ b → b ≤ 18446744073709551615 → 0 ≤ c → c ≤ 18446744073709551615 → 0 ≤ d → d ≤ 18446744073709551615 →
    0 ≤ a' → a' ≤ 18446744073709551615 → 0 ≤ b' → b' ≤ 18446744073709551615 → 0 ≤ c' → c' ≤ 18446744073709551615 → 0 ≤ d' → d' ≤ 18446744073709551615 →
    (T.set a b c d).data.toList = (T.set a' b' c' d').data.toList → a = a' ∧ b = b' ∧ c = c' ∧ d = d'
end
theorem name10 {s : ByteArray} (h : nameP s) : (10 : UInt8) ∉ s.data.toList := by
  intro hm
  obtain ⟨i, hi⟩ := List.getElem?_of_mem hm
  have hl : i < s.size := by
    have := (List.getElem?_eq_some_iff.1 hi).1
    rw [Array.length_toList] at this; exact this
  have hw := h.2.2.2 i hl
  have e : byteAt s (i : Int) = ((SL.btq s i).toNat : Int) := SL.btq_int s i
  have e2 : SL.btq s i = 10 := by
    unfold SL.btq
    rw [List.getD_eq_getElem?_getD, hi]; rfl
  rw [e, e2] at hw
  revert hw
  decide
theorem txt_of {x : Nd} (h : fldB x = true) : txtB x.op x.t = true := by
  simp only [fldB, Bool.and_eq_true] at h; exact h.2
theorem g_of {x : Nd} (h : fldB x = true) : x.G := by
  simp only [fldB, Bool.and_eq_true, decide_eq_true_eq] at h; exact h.1
theorem t_name {x : Nd} (h : fldB x = true) (h6 : x.op = 6) : nameP x.t := by
  have := txt_of h
  unfold txtB at this
  rw [if_neg (by omega), if_pos h6, decide_eq_true_eq] at this
  exact this
theorem t_group {x : Nd} (h : fldB x = true) (h19 : x.op = 19) : x.t = ⟨#[]⟩ ∨ nameP x.t := by
  have := txt_of h
  unfold txtB at this
  rw [if_neg (by omega), if_neg (by omega), if_pos h19, Bool.or_eq_true, decide_eq_true_eq, decide_eq_true_eq] at this
  exact this
theorem t_none {x : Nd} (h : fldB x = true) (h4 : ¬ x.op = 4) (h6 : ¬ x.op = 6) (h19 : ¬ x.op = 19) (h22 : ¬ x.op = 22) : x.t = ⟨#[]⟩ := by
  have := txt_of h
  unfold txtB at this
  rw [if_neg h4, if_neg h6, if_neg h19, if_neg h22, decide_eq_true_eq] at this
  exact this
theorem sfx10 (T : Txt X) (I : TxI T) {x : Nd} (hx : x.ri) : (10 : UInt8) ∉ sfxB T x := by
  have hk := nd_ok hx.wf hx.ar hx.fl
  have h32 : ¬ (10 : UInt8) = 32 := by decide
  unfold sfxB
  split
  · simp only [List.mem_cons, not_or]; exact ⟨h32, I.lit10 _ hk.t⟩
  split
  · simp only [List.mem_cons, not_or]; exact ⟨h32, I.set10 _ _ _ _⟩
  split
  · rename_i h6
    simp only [List.mem_cons, not_or]; exact ⟨h32, name10 (t_name hx.fl h6)⟩
  split
  · rename_i h19
    split
    · simp
    · rename_i hn
      simp only [List.mem_cons, not_or]; exact ⟨h32, name10 ((t_group hx.fl h19).resolve_left hn)⟩
  split
  · simp only [List.mem_cons, not_or]; exact ⟨h32, I.dec10 _ hk.n.1 hk.n.2⟩
  · simp
theorem word_ok : ∀ n : Fin 24, (10 : UInt8) ∉ wordB (n.val : Int) ∧ (32 : UInt8) ∉ wordB (n.val : Int) := by decide
theorem word_inj : ∀ n m : Fin 24, wordB (n.val : Int) = wordB (m.val : Int) → n = m := by decide
theorem word10 {op : Int} (h0 : 0 ≤ op) (h1 : op ≤ 23) : (10 : UInt8) ∉ wordB op ∧ (32 : UInt8) ∉ wordB op := by
  have := word_ok ⟨op.toNat, by omega⟩
  rwa [show ((op.toNat : Nat) : Int) = op by omega] at this
theorem wordI {a b : Int} (h0 : 0 ≤ a) (h1 : a ≤ 23) (h2 : 0 ≤ b) (h3 : b ≤ 23) (h : wordB a = wordB b) : a = b := by
  have := word_inj ⟨a.toNat, by omega⟩ ⟨b.toNat, by omega⟩
  simp only [show ((a.toNat : Nat) : Int) = a by omega, show ((b.toNat : Nat) : Int) = b by omega] at this
  have := congrArg Fin.val (this h)
  simp only at this
  omega
theorem cut_eq {c : UInt8} : ∀ {u v r s : List UInt8}, c ∉ u → c ∉ v → u ++ c :: r = v ++ c :: s → u = v ∧ r = s
  | [], [], r, s, _, _, h => by simpa using h
  | [], b :: v, r, s, _, hv, h => by
    simp only [List.nil_append, List.cons_append, List.cons.injEq] at h
    simp only [List.mem_cons, not_or] at hv
    exact absurd h.1 hv.1
  | a :: u, [], r, s, hu, _, h => by
    simp only [List.nil_append, List.cons_append, List.cons.injEq] at h
    simp only [List.mem_cons, not_or] at hu
    exact absurd h.1.symm hu.1
  | a :: u, b :: v, r, s, hu, hv, h => by
    simp only [List.cons_append, List.cons.injEq] at h
    simp only [List.mem_cons, not_or] at hu hv
    obtain ⟨h1, h2⟩ := cut_eq hu.2 hv.2 h.2
    exact ⟨by rw [h.1, h1], h2⟩
theorem word_cut {u v r s : List UInt8} (hu : (32 : UInt8) ∉ u) (hv : (32 : UInt8) ∉ v) (hr : r = [] ∨ ∃ z, r = 32 :: z) (hs : s = [] ∨ ∃ z, s = 32 :: z) (h : u ++ r = v ++ s) : u = v ∧ r = s := by
  rcases hr with rfl | ⟨z, rfl⟩ <;> rcases hs with rfl | ⟨y, rfl⟩
  · simpa using h
  · rw [List.append_nil] at h; subst h; simp at hu
  · rw [List.append_nil] at h; subst h; simp at hv
  · obtain ⟨h1, h2⟩ := cut_eq hu hv h
    exact ⟨h1, by rw [h2]⟩
theorem sfx_c (T : Txt X) (x : Nd) : sfxB T x = [] ∨ ∃ z, sfxB T x = 32 :: z := by
  unfold sfxB
  (repeat' split) <;> first | exact .inl rfl | exact .inr ⟨_, rfl⟩
theorem line10 (T : Txt X) (I : TxI T) {x : Nd} (hx : x.ri) (i : Nat) : (10 : UInt8) ∉ List.replicate i 32 ++ (wordB x.op ++ sfxB T x) := by
  have hk := nd_ok hx.wf hx.ar hx.fl
  have h1 := (word10 (by have := hk.op; omega) hk.op.2).1
  have h2 := sfx10 T I hx
  simp only [List.mem_append, not_or]
  refine ⟨?_, h1, h2⟩
  intro h
  have := List.eq_of_mem_replicate h
  exact absurd this (by decide)
theorem ba_inj {a b : ByteArray} (h : a.data.toList = b.data.toList) : a = b := by
  apply ByteArray.ext; apply Array.ext'; exact h
theorem node_inj (T : Txt X) (I : TxI T) {x y : Nd} (hx : x.ri) (hy : y.ri) (h : wordB x.op ++ sfxB T x = wordB y.op ++ sfxB T y) : x = y := by
  have kx := nd_ok hx.wf hx.ar hx.fl
  have ky := nd_ok hy.wf hy.ar hy.fl
  have ox := kx.op
  have oy := ky.op
  obtain ⟨h1, h2⟩ := word_cut (word10 (by omega) ox.2).2 (word10 (by omega) oy.2).2 (sfx_c T x) (sfx_c T y) h
  have ho := wordI (by omega) ox.2 (by omega) oy.2 h1
  have gx := g_of hx.fl
  have gy := g_of hy.fl
  have n4 := fun a b c d => t_none hx.fl a b c d
  have m4 := fun a b c d => t_none hy.fl a b c d
  have p6 := t_group hx.fl
  have q6 := t_group hy.fl
  obtain ⟨op, n, tx, s0, s1, s2, s3⟩ := x
  obtain ⟨op', n', ty, z0, z1, z2, z3⟩ := y
  simp only at ho
  subst ho
  unfold Nd.G at gx gy
  unfold sfxB at h2
  have kt := kx.t; have lt := ky.t
  have kn := kx.n; have ln := ky.n
  have k0 := kx.s0; have k1 := kx.s1; have k2 := kx.s2; have k3 := kx.s3
  have l0 := ky.s0; have l1 := ky.s1; have l2 := ky.s2; have l3 := ky.s3
  simp only at h2 gx gy n4 m4 p6 q6 kt lt kn ln k0 k1 k2 k3 l0 l1 l2 l3
  clear kx ky hx hy
  have fin : tx = ty → n = n' → s0 = z0 → s1 = z1 → s2 = z2 → s3 = z3 → (⟨op, n, tx, s0, s1, s2, s3⟩ : Nd) = ⟨op, n', ty, z0, z1, z2, z3⟩ := by
    rintro rfl rfl rfl rfl rfl rfl; rfl
  by_cases c4 : op = 4 ∨ op = 22
  · rw [if_pos c4, if_pos c4, List.cons.injEq] at h2
    exact fin (I.litI _ _ kt lt h2.2) (by omega) (by omega) (by omega) (by omega) (by omega)
  rw [if_neg c4, if_neg c4] at h2
  by_cases c5 : op = 5
  · rw [if_pos c5, if_pos c5, List.cons.injEq] at h2
    obtain ⟨e0, e1, e2, e3⟩ := I.setI _ _ _ _ _ _ _ _ k0.1 k0.2 k1.1 k1.2 k2.1 k2.2 k3.1 k3.2 l0.1 l0.2 l1.1 l1.2 l2.1 l2.2 l3.1 l3.2 h2.2
    exact fin (by rw [n4 (by omega) (by omega) (by omega) (by omega), m4 (by omega) (by omega) (by omega) (by omega)]) (by omega) e0 e1 e2 e3
  rw [if_neg c5, if_neg c5] at h2
  by_cases c6 : op = 6
  · rw [if_pos c6, if_pos c6, List.cons.injEq] at h2
    exact fin (ba_inj h2.2) (by omega) (by omega) (by omega) (by omega) (by omega)
  rw [if_neg c6, if_neg c6] at h2
  by_cases c19 : op = 19
  · rw [if_pos c19, if_pos c19] at h2
    refine fin ?_ (by omega) (by omega) (by omega) (by omega) (by omega)
    by_cases a : tx = ⟨#[]⟩ <;> by_cases b : ty = ⟨#[]⟩
    · rw [a, b]
    · rw [if_pos a, if_neg b] at h2; cases h2
    · rw [if_neg a, if_pos b] at h2; cases h2
    · rw [if_neg a, if_neg b, List.cons.injEq] at h2; exact ba_inj h2.2
  rw [if_neg c19, if_neg c19] at h2
  have et : tx = ty := by rw [n4 (by omega) c6 c19 (by omega), m4 (by omega) c6 c19 (by omega)]
  by_cases c14 : op = 14 ∨ op = 15 ∨ op = 16 ∨ op = 23
  · rw [if_pos c14, if_pos c14, List.cons.injEq] at h2
    exact fin et (I.decI _ _ kn.1 kn.2 ln.1 ln.2 h2.2) (by omega) (by omega) (by omega) (by omega)
  · exact fin et (by omega) (by omega) (by omega) (by omega) (by omega)
theorem lines_inj (T : Txt X) (I : TxI T) : ∀ (a b : Tr) (i : Nat) (r s : List UInt8), a.ok → b.ok → (∀ x ∈ a.post, x.ri) → (∀ x ∈ b.post, x.ri) → linB T a i ++ r = linB T b i ++ s → a = b ∧ r = s := by
  have hd : ∀ (x y : Nd) (i : Nat) (r s : List UInt8), x.ri → y.ri → (List.replicate i 32 ++ (wordB x.op ++ sfxB T x)) ++ 10 :: r = (List.replicate i 32 ++ (wordB y.op ++ sfxB T y)) ++ 10 :: s → x = y ∧ r = s := by
    intro x y i r s hx hy h
    obtain ⟨h1, h2⟩ := cut_eq (line10 T I hx i) (line10 T I hy i) h
    exact ⟨node_inj T I hx hy (List.append_cancel_left h1), h2⟩
  have n01 : ∀ {x y : Nd}, arF x.op = 0 → arF y.op = 1 → x = y → False := fun h1 h2 e => by subst e; omega
  have n02 : ∀ {x y : Nd}, arF x.op = 0 → arF y.op = 2 → x = y → False := fun h1 h2 e => by subst e; omega
  have n12 : ∀ {x y : Nd}, arF x.op = 1 → arF y.op = 2 → x = y → False := fun h1 h2 e => by subst e; omega
  intro a
  induction a with
  | l0 x =>
    intro b i r s ha hb pa pb h
    cases ha with | l0 hx hn =>
    cases hb with
    | @l0 y hy hm =>
      rw [linR0, linR0] at h
      obtain ⟨e, h2⟩ := hd x y i r s (pa _ (by simp [Tr.post])) (pb _ (by simp [Tr.post])) h
      exact ⟨by rw [e], h2⟩
    | @l1 y c hy hm hc =>
      rw [linR0, linR1] at h
      exact (n01 hn hm (hd x y i _ _ (pa _ (by simp [Tr.post])) (pb _ (by simp [Tr.post])) h).1).elim
    | @l2 y c d hy hm hc hd' =>
      rw [linR0, linR2] at h
      exact (n02 hn hm (hd x y i _ _ (pa _ (by simp [Tr.post])) (pb _ (by simp [Tr.post])) h).1).elim
  | l1 x a ih =>
    intro b i r s ha hb pa pb h
    cases ha with | l1 hx hn hca =>
    cases hb with
    | @l0 y hy hm =>
      rw [linR1, linR0] at h
      exact (n01 hm hn (hd x y i _ _ (pa _ (by simp [Tr.post])) (pb _ (by simp [Tr.post])) h).1.symm).elim
    | @l1 y c hy hm hc =>
      rw [linR1, linR1] at h
      obtain ⟨e, h2⟩ := hd x y i _ _ (pa _ (by simp [Tr.post])) (pb _ (by simp [Tr.post])) h
      obtain ⟨e2, h3⟩ := ih c (i + 2) r s hca hc (fun z hz => pa z (by simp [Tr.post, hz])) (fun z hz => pb z (by simp [Tr.post, hz])) h2
      exact ⟨by rw [e, e2], h3⟩
    | @l2 y c d hy hm hc hd' =>
      rw [linR1, linR2] at h
      exact (n12 hn hm (hd x y i _ _ (pa _ (by simp [Tr.post])) (pb _ (by simp [Tr.post])) h).1).elim
  | l2 x a a2 ih ih2 =>
    intro b i r s ha hb pa pb h
    cases ha with | l2 hx hn hca hca2 =>
    cases hb with
    | @l0 y hy hm =>
      rw [linR2, linR0] at h
      exact (n02 hm hn (hd x y i _ _ (pa _ (by simp [Tr.post])) (pb _ (by simp [Tr.post])) h).1.symm).elim
    | @l1 y c hy hm hc =>
      rw [linR2, linR1] at h
      exact (n12 hm hn (hd x y i _ _ (pa _ (by simp [Tr.post])) (pb _ (by simp [Tr.post])) h).1.symm).elim
    | @l2 y c d hy hm hc hcd =>
      rw [linR2, linR2] at h
      obtain ⟨e, h2⟩ := hd x y i _ _ (pa _ (by simp [Tr.post])) (pb _ (by simp [Tr.post])) h
      obtain ⟨e2, h3⟩ := ih c (i + 2) _ _ hca hc (fun z hz => pa z (by simp [Tr.post, hz])) (fun z hz => pb z (by simp [Tr.post, hz])) h2
      obtain ⟨e3, h4⟩ := ih2 d (i + 2) _ _ hca2 hcd (fun z hz => pa z (by simp [Tr.post, hz])) (fun z hz => pb z (by simp [Tr.post, hz])) h3
      exact ⟨by rw [e, e2, e3], h4⟩
theorem lines_cnt (T : Txt X) (I : TxI T) : ∀ (t : Tr) (i : Nat), (∀ x ∈ t.post, x.ri) → (linB T t i).count 10 = t.size := by
  have hd : ∀ (x : Nd) (i : Nat) (r : List UInt8), x.ri → ((List.replicate i 32 ++ (wordB x.op ++ sfxB T x)) ++ 10 :: r).count 10 = r.count 10 + 1 := by
    intro x i r hx
    rw [List.count_append, List.count_eq_zero.2 (line10 T I hx i), List.count_cons_self, Nat.zero_add]
  intro t
  induction t with
  | l0 x => intro i h; rw [linB0, hd x i [] (h x (by simp [Tr.post]))]; rfl
  | l1 x a ih =>
    intro i h
    rw [linB1, hd x i _ (h x (by simp [Tr.post])), ih _ (fun z hz => h z (by simp [Tr.post, hz]))]
    simp [Tr.size]; try omega
  | l2 x a b ih ih2 =>
    intro i h
    rw [linB2, hd x i _ (h x (by simp [Tr.post])), List.count_append, ih _ (fun z hz => h z (by simp [Tr.post, hz])), ih2 _ (fun z hz => h z (by simp [Tr.post, hz]))]
    simp [Tr.size]; try omega
end Go.Proofs.YtdoefdmaecaacaaDoor.S
set_option linter.unusedVariables false
set_option linter.unusedSimpArgs false
namespace Go.Proofs.YtdoefdmaecaacaaDoor.SL
open Go Go.Proofs.YtdoefdmaecaacaaDoor.AM Go.Proofs Go.Proofs.YtdoefdmaecaacaaDoor.S
variable {X : Cx}
def wlen : List UInt8 → Nat
  | a :: b :: _ => if a = 92 then (if b = 120 then 4 else 2) else 1
  | _ => 1
theorem code_inj {α : Type} (f : α → List UInt8) (hl : ∀ c r, wlen (f c ++ r) = (f c).length) (hi : ∀ c d, f c = f d → c = d) (hne : ∀ c, f c ≠ []) : ∀ a b : List α, a.flatMap f = b.flatMap f → a = b
  | [], [], _ => rfl
  | [], d :: b, h => by
    simp only [List.flatMap_nil, List.flatMap_cons] at h
    exact absurd (List.append_eq_nil_iff.1 h.symm).1 (hne d)
  | c :: a, [], h => by
    simp only [List.flatMap_nil, List.flatMap_cons] at h
    exact absurd (List.append_eq_nil_iff.1 h).1 (hne c)
  | c :: a, d :: b, h => by
    simp only [List.flatMap_cons] at h
    have h1 := hl c (a.flatMap f)
    rw [h, hl d] at h1
    obtain ⟨e1, e2⟩ := List.append_inj h h1.symm
    rw [hi c d e1, code_inj f hl hi hne a b e2]
def unh (h : UInt8) : UInt8 := if h < 58 then h - 48 else h - 87
def unw : List UInt8 → UInt8
  | [c] => c
  | [_, c] => if c = 110 then 10 else if c = 114 then 13 else if c = 116 then 9 else c
  | [_, _, a, b] => unh a * 16 + unh b
  | _ => 0
theorem wb_un : ∀ c : UInt8, unw (wb c) = c := all8 (by decide +kernel)
theorem wb_10 : ∀ c : UInt8, (10 : UInt8) ∉ wb c := all8 (by decide +kernel)
theorem wb_ne : ∀ c : UInt8, wb c ≠ [] := all8 (by decide +kernel)
theorem wb_l (c : UInt8) (r : List UInt8) : wlen (wb c ++ r) = (wb c).length := by
  unfold wb
  split
  · rfl
  split
  · rfl
  split
  · rfl
  split
  · rename_i h
    rcases h with rfl | rfl <;> rfl
  split
  · rename_i h _
    have hc : ¬ c = 92 := fun e => h (.inr e)
    cases r with
    | nil => rfl
    | cons b r => simp [wlen, hc]
  · rfl
theorem body_inj {a b : List UInt8} (h : body a = body b) : a = b :=
  code_inj wb wb_l (fun c d e => by rw [← wb_un c, ← wb_un d, e]) wb_ne a b h
theorem lit_b {s : ByteArray} (h : s.size ≤ 255) : (litF s).data.toList = 39 :: (body s.data.toList ++ [39]) := by
  unfold litF
  rw [quo_s h]
  rfl
theorem lit_10 (s : ByteArray) (h : s.size ≤ 255) : (10 : UInt8) ∉ (litF s).data.toList := by
  rw [lit_b h]
  simp only [List.mem_cons, List.mem_append, List.not_mem_nil, or_false, not_or]
  refine ⟨by decide, ?_, by decide⟩
  unfold body
  intro hm
  obtain ⟨c, _, hc⟩ := List.mem_flatMap.1 hm
  exact wb_10 c hc
theorem lit_I (s s' : ByteArray) (h : s.size ≤ 255) (h' : s'.size ≤ 255) (e : (litF s).data.toList = (litF s').data.toList) : s = s' := by
  rw [lit_b h, lit_b h', List.cons.injEq] at e
  exact ba_inj (body_inj (List.append_cancel_right e.2))
theorem dec_all : ∀ n : Fin 51, (10 : UInt8) ∉ (decF (n.val : Int)).data.toList := by decide +kernel
theorem dec_inj : ∀ n m : Fin 51, (decF (n.val : Int)).data.toList = (decF (m.val : Int)).data.toList → n = m := by decide +kernel
theorem dec_10 (n : Int) (h0 : 0 ≤ n) (h1 : n ≤ 50) : (10 : UInt8) ∉ (decF n).data.toList := by
  have := dec_all ⟨n.toNat, by omega⟩
  rwa [show ((n.toNat : Nat) : Int) = n by omega] at this
theorem dec_I (n m : Int) (h0 : 0 ≤ n) (h1 : n ≤ 50) (h2 : 0 ≤ m) (h3 : m ≤ 50) (h : (decF n).data.toList = (decF m).data.toList) : n = m := by
  have := dec_inj ⟨n.toNat, by omega⟩ ⟨m.toNat, by omega⟩
  simp only [show ((n.toNat : Nat) : Int) = n by omega, show ((m.toNat : Nat) : Int) = m by omega] at this
  have := congrArg Fin.val (this h)
  simp only at this
  omega
theorem item_un : ∀ c : UInt8, unw (itemL c) = c := all8 (by decide +kernel)
theorem item_10 : ∀ c : UInt8, (10 : UInt8) ∉ itemL c := all8 (by decide +kernel)
theorem item_ne : ∀ c : UInt8, itemL c ≠ [] := all8 (by decide +kernel)
theorem item_45 : ∀ c : UInt8, itemL c ≠ [45] := all8 (by decide +kernel)
theorem item_94 : ∀ c : UInt8, (itemL c).head? ≠ some 94 := all8 (by decide +kernel)
theorem item_l (c : UInt8) (r : List UInt8) : wlen (itemL c ++ r) = (itemL c).length := by
  unfold itemL
  split
  · rfl
  split
  · rfl
  split
  · rfl
  split
  · rename_i h
    rcases h with rfl | rfl | rfl | rfl | rfl | rfl <;> rfl
  split
  · rename_i h _
    have hc : ¬ c = 92 := fun e => h (.inl e)
    cases r with
    | nil => rfl
    | cons b r => simp [wlen, hc]
  · rfl
def tokB : Option UInt8 → List UInt8
  | some c => itemL c
  | none => [45]
theorem tok_l (c : Option UInt8) (r : List UInt8) : wlen (tokB c ++ r) = (tokB c).length := by
  cases c with
  | some c => exact item_l c r
  | none => cases r <;> rfl
theorem tok_i (c d : Option UInt8) (h : tokB c = tokB d) : c = d := by
  cases c with
  | some c => cases d with
    | some d => rw [← item_un c, ← item_un d]; exact congrArg (fun z => some (unw z)) h
    | none => exact absurd h (item_45 c)
  | none => cases d with
    | some d => exact absurd h.symm (item_45 d)
    | none => rfl
theorem tok_ne (c : Option UInt8) : tokB c ≠ [] := by
  cases c with
  | some c => exact item_ne c
  | none => exact fun h => by cases h
def tokP (p : Nat × Nat) : List (Option UInt8) := some (UInt8.ofNat p.1) :: ((if p.1 + 1 < p.2 then [none] else []) ++ (if p.1 < p.2 then [some (UInt8.ofNat p.2)] else []))
theorem piece_tok (p : Nat × Nat) : pieceL p = (tokP p).flatMap tokB := by
  unfold pieceL tokP
  simp only [List.flatMap_cons, List.flatMap_append, List.append_assoc]
  congr 1
  congr 1
  · split <;> rfl
  · split <;> simp [tokB]
def expP (p : Nat × Nat) : List Nat := List.range' p.1 (p.2 + 1 - p.1)
def den : List (Option UInt8) → List Nat
  | some a :: none :: some b :: r => List.range' a.toNat (b.toNat + 1 - a.toNat) ++ den r
  | some a :: r => a.toNat :: den r
  | _ => []
theorem of_n {n : Nat} (h : n < 256) : (UInt8.ofNat n).toNat = n := by rw [UInt8.toNat_ofNat']; omega
theorem den_some {a : UInt8} {r : List (Option UInt8)} (h : r = [] ∨ ∃ b s, r = some b :: s) : den (some a :: r) = a.toNat :: den r := by
  rcases h with rfl | ⟨b, s, rfl⟩
  · rfl
  · rw [den]; intro b' r' h; cases h
theorem toks_head (l : List (Nat × Nat)) : l.flatMap tokP = [] ∨ ∃ b s, l.flatMap tokP = some b :: s := by
  cases l with
  | nil => exact .inl rfl
  | cons p l => exact .inr ⟨UInt8.ofNat p.1, _, by rw [List.flatMap_cons]; rfl⟩
theorem den_toks : ∀ l : List (Nat × Nat), (∀ p ∈ l, p.1 < 256 ∧ p.2 < 256 ∧ p.1 ≤ p.2) → den (l.flatMap tokP) = l.flatMap expP
  | [], _ => rfl
  | (lo, hi) :: l, h => by
    obtain ⟨h1, h2, h3⟩ := h (lo, hi) (by simp)
    simp only at h1 h2 h3
    have ih := den_toks l (fun p hp => h p (by simp [hp]))
    have hh := toks_head l
    rw [List.flatMap_cons, List.flatMap_cons, ← ih]
    generalize l.flatMap tokP = r at *
    unfold tokP expP
    simp only
    by_cases c1 : lo + 1 < hi
    · rw [if_pos c1, if_pos (show lo < hi by omega)]
      show den (some _ :: none :: some _ :: r) = _
      rw [den, of_n h1, of_n h2]
    · by_cases c2 : lo < hi
      · obtain rfl : hi = lo + 1 := by omega
        rw [if_neg c1, if_pos c2]
        show den (some _ :: some _ :: r) = _
        rw [den_some (.inr ⟨_, _, rfl⟩), den_some hh, of_n h1, of_n h2, show lo + 1 + 1 - lo = 2 by omega]
        rfl
      · obtain rfl : hi = lo := by omega
        rw [if_neg c1, if_neg c2]
        show den (some _ :: r) = _
        rw [den_some hh, of_n h1, show hi + 1 - hi = 1 by omega]
        rfl
theorem spN_exp : ∀ (n : Nat) (xs : List Nat), xs.length = n → (spN xs).flatMap expP = xs ∧ ∀ p ∈ spN xs, p.1 ≤ p.2
  | 0, xs, h => by
    have : xs = [] := List.eq_nil_of_length_eq_zero h
    subst this
    exact ⟨rfl, fun p hp => by cases hp⟩
  | n + 1, xs, h => by
    rcases List.eq_nil_or_concat xs with e | ⟨m, b, e⟩
    · rw [e] at h; simp at h
    · rw [List.concat_eq_append] at e
      subst e
      obtain ⟨i1, i2⟩ := spN_exp n m (by simpa using h)
      rw [spN_snoc]
      unfold stepN
      generalize spN m = S at *
      split
      · rename_i lo hi hl
        have hmem := List.mem_of_getLast? hl
        have hle := i2 _ hmem
        simp only at hle
        split
        · rename_i hb
          subst hb
          have hs : S = (S).dropLast ++ [(lo, hi)] := by
            have hne : S ≠ [] := by intro e; rw [e] at hl; cases hl
            have := List.dropLast_concat_getLast hne
            rw [List.getLast?_eq_some_getLast hne] at hl
            rw [Option.some.inj hl] at this
            exact this.symm
          constructor
          · rw [hs, List.flatMap_append] at i1
            rw [List.flatMap_append, ← i1, List.append_assoc]
            congr 1
            simp only [List.flatMap_cons, List.flatMap_nil, List.append_nil, expP]
            rw [show hi + 1 + 1 - lo = (hi + 1 - lo) + 1 by omega, List.range'_concat]
            congr 2
            omega
          · intro p hp
            rcases List.mem_append.1 hp with hp | hp
            · exact i2 p (List.dropLast_subset _ hp)
            · simp at hp; subst hp; simp only; omega
        · constructor
          · rw [List.flatMap_append, i1]
            simp [expP]
          · intro p hp
            rcases List.mem_append.1 hp with hp | hp
            · exact i2 p hp
            · simp at hp; subst hp; simp
      · rename_i hl
        have hn : S = [] := by simpa using hl
        rw [hn] at i1
        have hm : m = [] := i1.symm
        subst hm
        constructor
        · simp [expP]
        · intro p hp
          simp at hp; subst hp; simp
theorem set_10 (a b c d : Int) : (10 : UInt8) ∉ (setF a b c d).data.toList := by
  show (10 : UInt8) ∉ showL _ _ _ _
  unfold showL
  split
  · decide
  · simp only [List.mem_cons, List.mem_append, List.not_mem_nil, or_false, not_or]
    refine ⟨by decide, ?_, by decide⟩
    intro hm
    obtain ⟨p, _, hp⟩ := List.mem_flatMap.1 hm
    rw [piece_tok] at hp
    obtain ⟨t, _, ht⟩ := List.mem_flatMap.1 hp
    cases t with
    | some c => exact item_10 c ht
    | none => revert ht; decide
theorem pieces_inj {l l' : List (Nat × Nat)} (h : ∀ p ∈ l, p.1 < 256 ∧ p.2 < 256 ∧ p.1 ≤ p.2) (h' : ∀ p ∈ l', p.1 < 256 ∧ p.2 < 256 ∧ p.1 ≤ p.2) (e : l.flatMap pieceL = l'.flatMap pieceL) : l.flatMap expP = l'.flatMap expP := by
  have e1 : ∀ l : List (Nat × Nat), l.flatMap pieceL = (l.flatMap tokP).flatMap tokB := fun l => by
    rw [List.flatMap_assoc]
    congr 1
    funext p
    exact piece_tok p
  rw [e1, e1] at e
  rw [← den_toks l h, ← den_toks l' h', code_inj tokB tok_l tok_i tok_ne _ _ e]
theorem words_eq {a b c d a' b' c' d' : Nat} (ha : a < 2 ^ 64) (hb : b < 2 ^ 64) (hc : c < 2 ^ 64) (hd : d < 2 ^ 64) (ha' : a' < 2 ^ 64) (hb' : b' < 2 ^ 64) (hc' : c' < 2 ^ 64) (hd' : d' < 2 ^ 64)
    (h : mems a b c d = mems a' b' c' d') : a = a' ∧ b = b' ∧ c = c' ∧ d = d' := by
  have hh : ∀ k, k < 256 → hasN a b c d k = hasN a' b' c' d' k := by
    intro k hk
    have : k ∈ mems a b c d ↔ k ∈ mems a' b' c' d' := by rw [h]
    unfold mems at this
    simp only [List.mem_filter, List.mem_range, hk, true_and] at this
    exact Bool.eq_iff_iff.2 this
  have hb2 : ∀ a b c d k, hasN a b c d k = (wd a b c d (k / 64)).testBit (k % 64) := fun a b c d k => by unfold hasN; rw [Nat.testBit_eq_decide_div_mod_eq]
  have one : ∀ (w w' i : Nat), i < 4 → w < 2 ^ 64 → w' < 2 ^ 64 → wd a b c d i = w → wd a' b' c' d' i = w' → w = w' := by
    intro w w' i hi hw hw' e e'
    apply Nat.eq_of_testBit_eq
    intro t
    by_cases ht : t < 64
    · have := hh (64 * i + t) (by omega)
      rw [hb2, hb2, show (64 * i + t) / 64 = i by omega, show (64 * i + t) % 64 = t by omega, e, e'] at this
      exact this
    · rw [Nat.testBit_lt_two_pow (Nat.lt_of_lt_of_le hw (Nat.pow_le_pow_right (by decide) (by omega))), Nat.testBit_lt_two_pow (Nat.lt_of_lt_of_le hw' (Nat.pow_le_pow_right (by decide) (by omega)))]
  exact ⟨one a a' 0 (by decide) ha ha' rfl rfl, one b b' 1 (by decide) hb hb' rfl rfl, one c c' 2 (by decide) hc hc' rfl rfl, one d d' 3 (by decide) hd hd' rfl rfl⟩
theorem sp_all (a b c d : Nat) : ∀ p ∈ spN (mems a b c d), p.1 < 256 ∧ p.2 < 256 ∧ p.1 ≤ p.2 := fun p hp =>
  ⟨((sp_ok a b c d).2 p hp).1, ((sp_ok a b c d).2 p hp).2, (spN_exp _ _ rfl).2 p hp⟩
theorem not94 (l : List (Nat × Nat)) : l.flatMap pieceL ++ [93] ≠ [94, 93] := by
  intro h
  cases l with
  | nil => cases h
  | cons p l =>
    rw [List.flatMap_cons] at h
    unfold pieceL at h
    have h1 := congrArg List.head? h
    have h2 := item_94 (UInt8.ofNat p.1)
    have h3 := item_ne (UInt8.ofNat p.1)
    generalize itemL (UInt8.ofNat p.1) = z at *
    cases z with
    | nil => exact h3 rfl
    | cons x z =>
      simp at h1 h2
      exact h2 h1
theorem set_I (a b c d a' b' c' d' : Int) (a0 : 0 ≤ a) (a1 : a ≤ 18446744073709551615) (b0 : 0 ≤ b) (b1 : b ≤ 18446744073709551615) (c0 : 0 ≤ c) (c1 : c ≤ 18446744073709551615) (d0 : 0 ≤ d) (d1 : d ≤ 18446744073709551615)
    (a0' : 0 ≤ a') (a1' : a' ≤ 18446744073709551615) (b0' : 0 ≤ b') (b1' : b' ≤ 18446744073709551615) (c0' : 0 ≤ c') (c1' : c' ≤ 18446744073709551615) (d0' : 0 ≤ d') (d1' : d' ≤ 18446744073709551615)
    (h : (setF a b c d).data.toList = (setF a' b' c' d').data.toList) : a = a' ∧ b = b' ∧ c = c' ∧ d = d' := by
  have h : showL a.toNat b.toNat c.toNat d.toNat = showL a'.toNat b'.toNat c'.toNat d'.toNat := h
  have key : a.toNat = a'.toNat ∧ b.toNat = b'.toNat ∧ c.toNat = c'.toNat ∧ d.toNat = d'.toNat := by
    have A := sp_all a.toNat b.toNat c.toNat d.toNat
    have B := sp_all a'.toNat b'.toNat c'.toNat d'.toNat
    have w : ∀ z : Int, 0 ≤ z → z ≤ 18446744073709551615 → z.toNat < 2 ^ 64 := fun z h0 h1 => by omega
    have W := words_eq (w a a0 a1) (w b b0 b1) (w c c0 c1) (w d d0 d1) (w a' a0' a1') (w b' b0' b1') (w c' c0' c1') (w d' d0' d1')
    have E1 := (spN_exp _ (mems a.toNat b.toNat c.toNat d.toNat) rfl).1
    have E2 := (spN_exp _ (mems a'.toNat b'.toNat c'.toNat d'.toNat) rfl).1
    unfold showL at h
    by_cases f1 : fullN a.toNat b.toNat c.toNat d.toNat = true <;> by_cases f2 : fullN a'.toNat b'.toNat c'.toNat d'.toNat = true
    · simp only [fullN, decide_eq_true_eq] at f1 f2
      omega
    · rw [if_pos f1, if_neg f2, List.cons.injEq] at h
      exact absurd h.2.symm (not94 _)
    · rw [if_neg f1, if_pos f2, List.cons.injEq] at h
      exact absurd h.2 (not94 _)
    · rw [if_neg f1, if_neg f2, List.cons.injEq] at h
      have e := pieces_inj A B (List.append_cancel_right h.2)
      rw [E1, E2] at e
      exact W e
  omega
theorem txI (hX : X.G 2 = some deBL) : TxI (txt hX) where
  lit10 := lit_10
  litI := lit_I
  dec10 := dec_10
  decI := dec_I
  set10 := set_10
  setI := set_I
end Go.Proofs.YtdoefdmaecaacaaDoor.SL
set_option linter.unusedVariables false
set_option linter.unusedSimpArgs false
namespace Go.Proofs.YtdoefdmaecaacaaDoor.S
open Go Go.Proofs.YtdoefdmaecaacaaDoor.AM Go.Proofs
theorem deB_glob {w : World} {fuel : Nat} {cs : Array Value} {ps : List MemPlace} {d : DataW Unit} (hv : w.var? Tryd.prog "math/bits.deBruijn64tab" = some cs)
    (h : DataW.trod (fun _ => ()) Tryd.prog w 0 (fun _ => true) false fuel 146 cs.toList = some (d, ps)) (hd : d = .agg (Lib.deBruijn64tab.map fun n => .lit (.int .u8 (n : Nat)))) : GlobOK w 2 SL.deBL := by
  have e : SL.deBL = (Lib.deBruijn64tab.map fun n => ((n : Nat) : Int)).map (L.int .u8) := by rw [List.map_map]; rfl
  have e2 : d = .agg ((Lib.deBruijn64tab.map fun n => ((n : Nat) : Int)).map fun n => .lit (.int .u8 n)) := by rw [hd, List.map_map]; rfl
  subst e2
  rw [e]
  exact glob_ints (by kernel_rfl) hv (table_ints Tryd.underlying146 Tryd.underlying5 (by kernel_rfl) (by kernel_rfl) h) (by decide)
theorem wfu64 {n : Int} (h : (Lit.int .u64 n).wf = true) : 0 ≤ n ∧ n ≤ 18446744073709551615 := by
  simp only [Lit.wf, IntKind.min, IntKind.max, Bool.and_eq_true] at h; simp [IntKind.bits, IntKind.signed] at h; omega
theorem nd_of {l : List L} (h : WT Tryd.prog 58 l) : ∃ x : Nd, l = x.c ∧ x.wf := by
  obtain ⟨lss, rfl, m0⟩ := h.inv_struct Tryd.underlying58
  obtain ⟨e0, es0, rfl, m1, n1⟩ := All2.cons_inv m0
  obtain ⟨e1, es1, rfl, m2, n2⟩ := All2.cons_inv n1
  obtain ⟨e2, es2, rfl, m3, n3⟩ := All2.cons_inv n2
  obtain ⟨e3, es3, rfl, m4, n4⟩ := All2.cons_inv n3
  obtain rfl := All2.nil_inv n4
  obtain ⟨op, rfl, w1⟩ := m1.inv_int Tryd.underlying3
  obtain ⟨n, rfl, w2⟩ := m2.inv_int Tryd.underlying3
  obtain ⟨t, rfl, w3⟩ := m3.inv_str Tryd.underlying9
  obtain ⟨ss, rfl, hn, hs⟩ := m4.inv_array Tryd.underlying56
  match ss, hn, hs with
  | [z0, z1, z2, z3], _, hs =>
    obtain ⟨s0, rfl, q0⟩ := (hs 0 z0 rfl).inv_int Tryd.underlying54
    obtain ⟨s1, rfl, q1⟩ := (hs 1 z1 rfl).inv_int Tryd.underlying54
    obtain ⟨s2, rfl, q2⟩ := (hs 2 z2 rfl).inv_int Tryd.underlying54
    obtain ⟨s3, rfl, q3⟩ := (hs 3 z3 rfl).inv_int Tryd.underlying54
    exact ⟨⟨op, n, t, s0, s1, s2, s3⟩, rfl, ⟨wfu64 q0, wfu64 q1, wfu64 q2, wfu64 q3⟩⟩
theorem list_of {α : Type} {c : α → List L} {ok : α → Prop} : ∀ (xs : List (List L)), (∀ x ∈ xs, ∃ y : α, x = c y ∧ ok y) → ∃ g : List α, xs = g.map c ∧ ∀ y ∈ g, ok y
  | [], _ => ⟨[], rfl, fun y h => by simp at h⟩
  | x :: xs, h => by
    obtain ⟨y, rfl, h1⟩ := h x (by simp)
    obtain ⟨g, rfl, h2⟩ := list_of xs (fun z hz => h z (by simp [hz]))
    refine ⟨y :: g, rfl, fun z hz => ?_⟩
    simp only [List.mem_cons] at hz
    rcases hz with rfl | hz
    · exact h1
    · exact h2 z hz
theorem elems_of {P : Program} {e : TypeId} {xs sp : List (List L)} (hx : ∀ (i : Nat) (x : List L), (xs ++ sp)[i]? = some x → WT P e x) : ∀ x ∈ xs, WT P e x := by
  intro x h
  obtain ⟨i, hi⟩ := List.getElem?_of_mem h
  exact hx i x (by rw [List.getElem?_append_left (List.getElem?_eq_some_iff.1 hi).1]; exact hi)
theorem pat_of {ls : List L} (h : WT Tryd.prog 33 ls) : ∃ (p : List Nd) (sp : List (List L)), ls = [.lst .ro 7 (p.map Nd.c) sp] ∧ (∀ x ∈ p, x.wf) ∧ p.length ≤ 2199023255488 := by
  obtain ⟨xs, sp, rfl, hb, hm, hx⟩ := h.inv_lst Tryd.underlying33
  obtain ⟨p, rfl, hc⟩ := list_of (c := Nd.c) (ok := Nd.wf) xs (fun x h => nd_of (elems_of hx x h))
  have h9 : Tryd.prog.cellsOf 58 = 7 := by kernel_rfl
  have hbb : Tryd.prog.bytesOf 58 = 64 := by kernel_rfl
  rw [hbb] at hb
  refine ⟨p, sp, by rw [h9], hc, ?_⟩
  simp only [List.length_map] at hb
  omega
structure Ru.wf (r : Ru) : Prop where
  n : ∀ x ∈ r.bd, x.wf
  l : r.bd.length ≤ 2199023255488
end Go.Proofs.YtdoefdmaecaacaaDoor.S
set_option linter.unusedVariables false
set_option linter.unusedSimpArgs false
namespace Go.Proofs.YtdoefdmaecaacaaDoor.S
open Go Go.Proofs.YtdoefdmaecaacaaDoor.AM Go.Proofs
variable {X : Cx}
theorem tree_txt (T : Txt X) {p : List Nd} (hw : ∀ x ∈ p, x.wf) (h : (treeG T p).2 = 0) : ∃ t : Tr, p = t.post ∧ t.ok ∧ t.size = p.length ∧ (∀ x ∈ t.post, x.ri) ∧ (treeG T p).1.data.toList = linB T t 0 := by
  have hc : (chk p).2 = 0 := by
    unfold treeG at h
    split at h
    · exact h
    · rename_i h1; exact Decidable.not_not.1 h1
  obtain ⟨t, hb, hto, hts, hpl⟩ := chk_tree hw hc
  have hp := tree_post hb
  have hri := chk_fl hw hc
  refine ⟨t, hp, hto, hts, by rw [← hp]; exact hri, ?_⟩
  have htk : linP T p = linesT T t 0 := by simp only [linP, treeP, hb]
  unfold treeG at h ⊢
  rw [if_neg (fun h => h hc), htk] at h ⊢
  split
  · rename_i hg; rw [if_pos hg] at h; cases h
  · rename_i hg
    have hy := puts_y (linesT T t 0) (w := w0) (by simpa using hg)
    show (putsW (linesT T t 0) w0).y.toArray.toList = _
    rw [List.toList_toArray, hy]
    rfl
theorem tree_cnt (T : Txt X) (I : TxI T) {p : List Nd} (hw : ∀ x ∈ p, x.wf) (h : (treeG T p).2 = 0) : (treeG T p).1.data.toList.count 10 = p.length := by
  obtain ⟨t, _, _, hs, hri, e⟩ := tree_txt T hw h
  rw [e, lines_cnt T I t 0 hri, hs]
theorem tree_inj (T : Txt X) (I : TxI T) {p q : List Nd} (hw : ∀ x ∈ p, x.wf) (hv : ∀ x ∈ q, x.wf) (h : (treeG T p).2 = 0) (g : (treeG T q).2 = 0) : (treeG T p).1 = (treeG T q).1 ↔ p = q := by
  constructor
  · intro e
    obtain ⟨t, h1, h2, _, h3, h4⟩ := tree_txt T hw h
    obtain ⟨u, g1, g2, _, g3, g4⟩ := tree_txt T hv g
    rw [e, g4] at h4
    have := (lines_inj T I t u 0 [] [] h2 g2 h3 g3 (by rw [List.append_nil, List.append_nil]; exact h4.symm)).1
    rw [h1, g1, this]
  · rintro rfl; rfl
def cxT : Cx := ⟨fun g => if g = 2 then some SL.deBL else if g = 0 then some SL.asciiL else none⟩
theorem cxT_2 : cxT.G 2 = some SL.deBL := rfl
theorem cxT_0 : cxT.G 0 = some SL.asciiL := rfl
set_option maxRecDepth 100000 in
theorem asc_glob {w : World} {fuel : Nat} {cs : Array Value} {ps : List MemPlace} {d : DataW Unit} (hv : w.var? Tryd.prog "strings.asciiSpace" = some cs)
    (h : DataW.trod (fun _ => ()) Tryd.prog w 0 (fun _ => true) false fuel 129 cs.toList = some (d, ps)) (hd : d = .agg (Lib.asciiSpaceTab.map fun n => .lit (.int .u8 n))) : GlobOK w 0 SL.asciiL := by
  subst hd
  exact glob_ints (by kernel_rfl) hv (table_ints Tryd.underlying129 Tryd.underlying5 (by kernel_rfl) (by kernel_rfl) h) (by decide +kernel)
theorem r4S (p q : List Nd) (sp sq : List (List L)) (hwp : ∀ x ∈ p, x.wf) (hwq : ∀ x ∈ q, x.wf) (hp : p.length ≤ 2199023255488) (hq : q.length ≤ 2199023255488) :
    R cxT Tryd.prog 4 [.lf (.lst .ro 7 (p.map Nd.c) sp), .lf (.lst .ro 7 (q.map Nd.c) sq)] [] (.lf (.bool true)) [] :=
  r4 cxT_0 (SL.txt cxT_2) (by decide +kernel) (by decide +kernel) p q sp sq hwp hwq hp hq (tree_cnt _ (SL.txI cxT_2) hwp) (tree_inj _ (SL.txI cxT_2) hwp hwq)
end Go.Proofs.YtdoefdmaecaacaaDoor.S
