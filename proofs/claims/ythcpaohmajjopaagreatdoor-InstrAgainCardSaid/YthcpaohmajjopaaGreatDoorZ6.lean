/- Contracts, part Z6. -/
import Derived.Test.YthcpaohmajjopaaGreatDoorZ5
import Derived.Test.YthcpaohmajjopaaGreatDoorZ2
import Derived.Test.YthcpaohmajjopaaGreatDoorZ4
import Derived.Test.YthcpaohmajjopaaGreatDoorZ3
set_option linter.unusedVariables false
set_option linter.unusedSimpArgs false
namespace Go.Proofs.YthcpaohmajjopaaGreatDoor.I
open Go Go.Proofs Go.Proofs.YthcpaohmajjopaaGreatDoor.AM
variable {X : Cx}
abbrev St2 : Type := List UInt8 × Bool
def numW (p : St2) : Int × St2 := ((numF (wordF p.1 p.2).1 (wordF p.1 p.2).2.2).1, ((wordF p.1 p.2).2.1, (numF (wordF p.1 p.2).1 (wordF p.1 p.2).2.2).2))
def tgtB (p : St2) : Bool := (wordF p.1 p.2).2.2 || !hasP 62 (wordF p.1 p.2).1
def tgtN (p : St2) : Int × Bool := numF (if hasP 62 (wordF p.1 p.2).1 = true then (wordF p.1 p.2).1.tail else (wordF p.1 p.2).1) (tgtB p)
def tgtW (at_ : Nat) (p : St2) : Int × St2 := ((tgtN p).1 - at_, ((wordF p.1 p.2).2.1, (tgtN p).2))
def aF (h1 h32 : Bool) (at_ : Nat) (p : St2) : Int × St2 := if h32 then tgtW at_ p else if h1 then numW p else (0, p)
def bF (h : Bool) (p : St2) : Int × St2 := if h then numW p else (0, p)
def tF (h : Bool) (p : St2) : ByteArray × St2 := if h then textF p.1 p.2 else (⟨#[]⟩, p)
def sF (h : Bool) (p : St2) : (Nat → Nat) × St2 := if h then setF p.1 p.2 else (noS, p)
structure Fld where
 a : Int × St2
 b : Int × St2
 n : Int × St2
 t : ByteArray × St2
 s : (Nat → Nat) × St2
def insF (h1 h2 h4 h8 h16 h32 : Bool) (at_ : Nat) (p : St2) : Fld :=
 {a := aF h1 h32 at_ p, b := bF h2 (aF h1 h32 at_ p).2, n := bF h4 (bF h2 (aF h1 h32 at_ p).2).2, t := tF h8 (bF h4 (bF h2 (aF h1 h32 at_ p).2).2).2,
  s := sF h16 (tF h8 (bF h4 (bF h2 (aF h1 h32 at_ p).2).2).2).2 }
def Fld.ins (f : Fld) (k : Nat) : Ins := ⟨k, f.a.1, f.b.1, f.n.1, f.t.1, f.s.1 0, f.s.1 1, f.s.1 2, f.s.1 3⟩
def zeroI : Ins := ⟨0, 0, 0, 0, ⟨#[]⟩, 0, 0, 0, 0⟩
def insK' (k at_ : Nat) (p : St2) : Fld := insF (hasB k 1) (hasB k 2) (hasB k 4) (hasB k 8) (hasB k 16) (hasB k 32) at_ p
def readF (l : List UInt8) (at_ : Nat) : Ins × Bool :=
 let c := cutB 32 l
 let w := wordF (32 :: c.2.getD []) false
 let k := findF w.1
 if k = 0 ∨ c.1 ≠ Lib.itoa at_ then (zeroI, false)
 else if (insK' k at_ w.2).s.2.2 = true ∨ (insK' k at_ w.2).s.2.1 ≠ [] ∨ lineL at_ ((insK' k at_ w.2).ins k) ≠ l then (zeroI, false)
 else ((insK' k at_ w.2).ins k, true)
theorem find_bd (w : List UInt8) : ∀ n op, 1 ≤ op → findG w n op = 0 ∨ (op ≤ findG w n op ∧ findG w n op < op + n)
 | 0, op, _ => .inl rfl
 | n + 1, op, h => by
  unfold findG
  split
  ·right; omega
  ·rcases find_bd w n (op + 1) (by omega) with h1 | h1
   ·exact .inl h1
   ·right; omega
theorem num_bd (w : List UInt8) (b : Bool) : 0 ≤ (numF w b).1 ∧ (numF w b).1 < 32768 := by
 unfold numF numO
 cases Lib.atoiAll w with
 | ok v =>
  simp only
  split
  ·rename_i v' hv
   split at hv
   ·cases hv; simp only; omega
   ·cases hv
  ·exact ⟨Int.le_refl _, by show (0 : Int) < 32768; decide⟩
 | «syntax» => exact ⟨Int.le_refl _, by show (0 : Int) < 32768; decide⟩
 | range => exact ⟨Int.le_refl _, by show (0 : Int) < 32768; decide⟩
theorem bF_bd (h : Bool) (p : St2) : 0 ≤ (bF h p).1 ∧ (bF h p).1 < 32768 := by
 unfold bF
 cases h
 ·exact ⟨Int.le_refl _, by show (0 : Int) < 32768; decide⟩
 ·exact num_bd _ _
theorem sF_bd (h : Bool) (p : St2) : bd4 (sF h p).1 := by
 unfold sF
 cases h
 ·exact bd_no
 ·simp only [if_true]
  unfold setF
  split
  ·exact (clr_ok _ _).1
  ·exact bd_no
theorem aF_bd (h1 h32 : Bool) (at_ : Nat) (p : St2) (hat : at_ ≤ 1000000) : -1000000 ≤ (aF h1 h32 at_ p).1 ∧ (aF h1 h32 at_ p).1 < 32768 ∧ (h32 = true → 0 ≤ (at_ : Int) + (aF h1 h32 at_ p).1 ∧ (at_ : Int) + (aF h1 h32 at_ p).1 < 32768) ∧ (h32 = false → 0 ≤ (aF h1 h32 at_ p).1) := by
 unfold aF
 cases h32
 ·cases h1
  ·exact ⟨by show (-1000000 : Int) ≤ 0; decide, by show (0 : Int) < 32768; decide, (fun h => by cases h), fun _ => Int.le_refl _⟩
  ·have := num_bd (wordF p.1 p.2).1 (wordF p.1 p.2).2.2
   simp only [numW, if_true]
   exact ⟨by simp; omega, by simp; omega, (fun h => by cases h), fun _ => by simp; omega⟩
 ·have : 0 ≤ (tgtN p).1 ∧ (tgtN p).1 < 32768 := num_bd _ _
  simp only [tgtW, if_true]
  exact ⟨by omega, by omega, fun _ => by omega, fun h => by cases h⟩
theorem scan_size (t : ByteArray) (q : Int) : ∀ (n : Nat) (i : Int) (acc : List Int), (scan t q n i acc).1.size ≤ acc.length + n
 | 0, i, acc => Nat.zero_le _
 | n + 1, i, acc => by
  rw [scan_succ]
  have hs : (strOfNums acc).size = acc.length := by unfold strOfNums; rw [ba_size]; simp
  have e0 : (⟨#[]⟩ : ByteArray).size = 0 := rfl
  split
  ·split
   ·show (strOfNums acc).size ≤ _; omega
   ·split
    ·exact Nat.zero_le _
    ·split
     ·split
      ·exact Nat.zero_le _
      ·have := scan_size t q n (i + (esc t i).2) (acc ++ [(esc t i).1])
       simp only [List.length_append, List.length_cons, List.length_nil] at this
       omega
     ·have := scan_size t q n (i + 1) (acc ++ [byteAt t i])
      simp only [List.length_append, List.length_cons, List.length_nil] at this
      omega
  ·exact Nat.zero_le _
theorem cut_size (t : ByteArray) (a : Int) : (cut t a).1.size ≤ 65537 := by
 unfold cut
 split
 ·exact Nat.zero_le _
 rename_i h1
 split
 ·exact Nat.zero_le _
 split
 ·exact Nat.zero_le _
 ·have := scan_size t (byteAt t a) (t.size + 1) (a + 1) []
  simp only [List.length_nil] at this
  omega
theorem tF_bd (h : Bool) (p : St2) : (tF h p).1.size ≤ 65537 := by
 unfold tF
 cases h
 ·exact Nat.zero_le _
 ·simp only [if_true]
  unfold textF
  split
  ·exact cut_size _ _
  ·exact Nat.zero_le _
theorem u64b {S : Nat → Nat} (h : bd4 S) (q : Nat) : 0 ≤ ((S q : Nat) : Int) ∧ ((S q : Nat) : Int) ≤ 18446744073709551615 := by
 have := h q
 omega
theorem ins_line {k at_ : Nat} (hk : 1 ≤ k) (hk2 : k ≤ 20) (hat : at_ ≤ 1000000) (p : St2) : LineOK at_ ((insK' k at_ p).ins k) := by
 have ha := aF_bd (hasB k 1) (hasB k 32) at_ p hat
 have hb := bF_bd (hasB k 2) (aF (hasB k 1) (hasB k 32) at_ p).2
 have hn := bF_bd (hasB k 4) (bF (hasB k 2) (aF (hasB k 1) (hasB k 32) at_ p).2).2
 have hs := sF_bd (hasB k 16) (tF (hasB k 8) (bF (hasB k 4) (bF (hasB k 2) (aF (hasB k 1) (hasB k 32) at_ p).2).2).2).2
 have s0 := hs 0
 have s1 := hs 1
 have s2 := hs 2
 have s3 := hs 3
 refine ⟨by omega, ?_, ?_, ?_, ?_, ?_, ?_, ?_⟩
 ·show 1 ≤ (k : Int) ∧ (k : Int) ≤ 20; omega
 ·intro h
  have h' : hasB k 32 = true := h
  have := ha.2.2.1 h'
  show _ ≤ (at_ : Int) + (aF (hasB k 1) (hasB k 32) at_ p).1 ∧ (at_ : Int) + (aF (hasB k 1) (hasB k 32) at_ p).1 < _
  omega
 ·intro h
  show _ ≤ (aF (hasB k 1) (hasB k 32) at_ p).1 ∧ (aF (hasB k 1) (hasB k 32) at_ p).1 ≤ _
  omega
 ·intro h1 h32
  exact ha.2.2.2 h32
 ·intro h
  show _ ≤ (bF (hasB k 2) (aF (hasB k 1) (hasB k 32) at_ p).2).1 ∧ (bF (hasB k 2) (aF (hasB k 1) (hasB k 32) at_ p).2).1 ≤ _
  omega
 ·intro h
  show _ ≤ (bF (hasB k 4) (bF (hasB k 2) (aF (hasB k 1) (hasB k 32) at_ p).2).2).1 ∧ (bF (hasB k 4) (bF (hasB k 2) (aF (hasB k 1) (hasB k 32) at_ p).2).2).1 ≤ _
  omega
 ·have ht := tF_bd (hasB k 8) (bF (hasB k 4) (bF (hasB k 2) (aF (hasB k 1) (hasB k 32) at_ p).2).2).2
  refine ⟨?_, ?_, ?_, ?_, ?_, ?_, ?_, ?_, ?_⟩
  ·show _ ≤ (k : Int) ∧ (k : Int) ≤ _; omega
  ·show _ ≤ (aF (hasB k 1) (hasB k 32) at_ p).1 ∧ (aF (hasB k 1) (hasB k 32) at_ p).1 ≤ _; omega
  ·show _ ≤ (bF (hasB k 2) (aF (hasB k 1) (hasB k 32) at_ p).2).1 ∧ (bF (hasB k 2) (aF (hasB k 1) (hasB k 32) at_ p).2).1 ≤ _; omega
  ·show _ ≤ (bF (hasB k 4) (bF (hasB k 2) (aF (hasB k 1) (hasB k 32) at_ p).2).2).1 ∧ (bF (hasB k 4) (bF (hasB k 2) (aF (hasB k 1) (hasB k 32) at_ p).2).2).1 ≤ _; omega
  ·show (tF (hasB k 8) (bF (hasB k 4) (bF (hasB k 2) (aF (hasB k 1) (hasB k 32) at_ p).2).2).2).1.size ≤ _; omega
  ·exact u64b hs 0
  ·exact u64b hs 1
  ·exact u64b hs 2
  ·exact u64b hs 3
theorem cut_le (c : UInt8) (l : List UInt8) : (cutB c l).1.length ≤ l.length ∧ ((cutB c l).2.getD []).length ≤ l.length := by
 have := cut_len c l
 cases h : (cutB c l).2 with
 | none => rw [h] at this; simp only [Option.getD_none, List.length_nil] at this ⊢; omega
 | some r => rw [h] at this; simp only [Option.getD_some] at this ⊢; omega
theorem word_le (l : List UInt8) (b : Bool) : (wordF l b).1.length ≤ l.length ∧ (wordF l b).2.1.length ≤ l.length := by
 unfold wordF
 split
 ·have := (cut_le 32 l.tail).1
  simp only [List.length_tail, List.length_drop] at this ⊢
  omega
 ·simp
theorem aF_le (h1 h32 : Bool) (at_ : Nat) (p : St2) : (aF h1 h32 at_ p).2.1.length ≤ p.1.length := by
 unfold aF
 cases h32
 ·cases h1
  ·exact Nat.le_refl _
  ·exact (word_le p.1 p.2).2
 ·exact (word_le p.1 p.2).2
theorem bF_le (h : Bool) (p : St2) : (bF h p).2.1.length ≤ p.1.length := by
 unfold bF
 cases h
 ·exact Nat.le_refl _
 ·exact (word_le p.1 p.2).2
theorem tF_le (h : Bool) (p : St2) : (tF h p).2.1.length ≤ p.1.length := by
 unfold tF
 cases h
 ·exact Nat.le_refl _
 ·simp only [if_true]
  unfold textF
  split
  ·simp only [List.length_drop]; omega
  ·exact Nat.le_refl _
theorem num_r (hX : HY X) (p : St2) (hl : p.1.length ≤ 100000000000000) :
  R X Tryz.prog 35 [.lf (.ptr 0 0)] [liL p.1 p.2] (.lf (.str ⟨(wordF p.1 p.2).1.toArray⟩)) [liL (wordF p.1 p.2).2.1 (wordF p.1 p.2).2.2] ∧
  R X Tryz.prog 37 [.lf (.ptr 0 0), .lf (.str ⟨(wordF p.1 p.2).1.toArray⟩)] [liL (wordF p.1 p.2).2.1 (wordF p.1 p.2).2.2] (.lf (.int .i64 (numW p).1)) [liL (numW p).2.1 (numW p).2.2] :=
 ⟨r35 _ (by omega) _, r37 hX _ _ (by have := (word_le p.1 p.2).1; omega) _⟩
theorem lst_of {a b : List UInt8} (h : (⟨a.toArray⟩ : ByteArray) = ⟨b.toArray⟩) : a = b := by simpa using congrArg (fun s : ByteArray => s.data.toList) h
theorem tt_of {b : Bool} (h : ¬ b = false) : b = true := by simpa using h
theorem nil_of {a : List UInt8} (h : (⟨a.toArray⟩ : ByteArray) = ⟨#[]⟩) : a = [] := by simpa using congrArg (fun s : ByteArray => s.data.toList) h
theorem of_nil {a : List UInt8} (h : a = []) : (⟨a.toArray⟩ : ByteArray) = ⟨#[]⟩ := by rw [h]
theorem tgt_r (hX : HY X) (p : St2) (hl : p.1.length ≤ 100000000000000) :
  R X Tryz.prog 35 [.lf (.ptr 0 0)] [liL p.1 p.2] (.lf (.str ⟨(wordF p.1 p.2).1.toArray⟩)) [liL (wordF p.1 p.2).2.1 (wordF p.1 p.2).2.2] ∧
  R X Tryz.prog 36 [.lf (.str ⟨(wordF p.1 p.2).1.toArray⟩), .lf (.str ⟨#[62]⟩)] [] (.lf (.bool (hasP 62 (wordF p.1 p.2).1))) [] ∧
  R X Tryz.prog 38 [.lf (.str ⟨(wordF p.1 p.2).1.toArray⟩), .lf (.str ⟨#[62]⟩)] [] (.lf (.str ⟨(if hasP 62 (wordF p.1 p.2).1 = true then (wordF p.1 p.2).1.tail else (wordF p.1 p.2).1).toArray⟩)) [] ∧
  R X Tryz.prog 37 [.lf (.ptr 0 0), .lf (.str ⟨(if hasP 62 (wordF p.1 p.2).1 = true then (wordF p.1 p.2).1.tail else (wordF p.1 p.2).1).toArray⟩)] [liL (wordF p.1 p.2).2.1 (tgtB p)] (.lf (.int .i64 (tgtN p).1)) [liL (wordF p.1 p.2).2.1 (tgtN p).2] :=
 ⟨r35 _ (by omega) _, r36 _ _, r38 _ _, r37 hX _ _ (by
  have := (word_le p.1 p.2).1
  split
  ·simp only [List.length_tail]; omega
  ·omega) _⟩
set_option maxHeartbeats 4000000 in
theorem r25 (hX : HY X) (l : List UInt8) (hl : l.length ≤ 1000000000000) (at_ : Nat) (hat : at_ ≤ 1000000) (r : Ins × Bool) (hr : readF l at_ = r) :
  R X Tryz.prog 25 [.lf (.str ⟨l.toArray⟩), .lf (.int .i64 (at_ : Int))] [] (.tp [.ag r.1.c, .lf (.bool r.2)]) [] := by
 have hz : (⟨l.toArray⟩ : ByteArray).size = l.length := ba_size
 have h24 := r24 (X := X) ⟨l.toArray⟩ (by omega) 32 _ rfl
 have cl := cut_le 32 l
 unfold readF at hr
 simp only at hr h24
 generalize cutB 32 l = C at *
 obtain ⟨c1, c2⟩ := C
 simp only at *
 generalize c2.getD [] = rest at *
 have hb32 : (⟨#[32]⟩ : ByteArray) ++ ⟨rest.toArray⟩ = ⟨(32 :: rest).toArray⟩ := by apply ba_eq; simp
 have hrz : (⟨rest.toArray⟩ : ByteArray).size = rest.length := ba_size
 have h35 := r35 (X := X) (32 :: rest) (by simp only [List.length_cons]; omega) false
 have hwl := word_le (32 :: rest) false
 generalize wordF (32 :: rest) false = W at *
 obtain ⟨w, p⟩ := W
 simp only at *
 have h34 := r34 (X := X) hX.h0 w _ rfl
 have h30 := r30 (X := X) hX.h2 at_ (by omega) (by omega)
 have hfb := find_bd w 20 1 (by omega)
 rw [show findG w 20 1 = findF w from rfl] at hfb
 generalize findF w = k at *
 refine R_i [] [] c25_ok rfl (by simp) ?_
 have h1 : (⟨#[32]⟩ : ByteArray).size = 1 := rfl
 simp -implicitDefEqProofs (maxSteps := 2000000) only [c25,↓reduceIte,S0,St.init,enum,Nat.reduceEqDiff,reduceCtorEq,PV.leaves]
 refine wcall_s h24 rfl rfl ?_
 simp -implicitDefEqProofs (maxSteps := 2000000) only [c25,hb32,hrz,h1,↓reduceIte,S0,Nat.reduceEqDiff,Nat.reduceAdd,reduceCtorEq,St.clr,outV,ownsV,owns1,ownL,PV.leaves,PV.cells,cellL,fillL,Nat.reduceBEq,Nat.reduceLeDiff,ne_eq]
 refine ⟨by omega, ?_⟩
 refine pcall_i h35 rfl rfl ?_
 simp -implicitDefEqProofs (maxSteps := 2000000) only [c25,↓reduceIte,S0,Nat.reduceEqDiff,outV,ownsV,owns1,ownL,PV.leaves]
 refine wcall_s h34 rfl rfl ?_
 by_cases hk0 : k = 0
 ·subst hk0
  rw [if_pos (.inl rfl)] at hr
  subst hr
  have e5 : fndE 0 = 5 := rfl
  have d5 : ¬ (5 : Int) = 0 := by decide
  simp -implicitDefEqProofs (maxSteps := 2000000) only [c25,e5,d5,zeroI,Ins.c,↓reduceIte,S0,Nat.reduceEqDiff,Nat.reduceAdd,reduceCtorEq,cond_false,St.clr,outV,ownsV,owns1,ownL,PV.leaves,PV.cells,cellL,fillL,ne_eq,ite_not]
  done
 have hf0 : fndE k = 0 := by unfold fndE; rw [if_neg hk0]
 simp -implicitDefEqProofs (maxSteps := 2000000) only [c25,hf0,↓reduceIte,S0,Nat.reduceEqDiff,reduceCtorEq,cond_false,St.clr,outV,ownsV,owns1,ownL,PV.leaves,ne_eq,Decidable.not_not]
 refine wcall_s h30 rfl rfl ?_
 by_cases hc1 : c1 = Lib.itoa at_
 rotate_left
 ·rw [if_pos (.inr hc1)] at hr
  subst hr
  have hne : ¬ (⟨c1.toArray⟩ : ByteArray) = ⟨(Lib.itoa at_).toArray⟩ := fun h => hc1 (by simpa using congrArg (fun s : ByteArray => s.data.toList) h)
  simp -implicitDefEqProofs (maxSteps := 2000000) only [c25,zeroI,Ins.c,hne,↓reduceIte,S0,Nat.reduceEqDiff,Nat.reduceAdd,reduceCtorEq,cond_false,St.clr,outV,ownsV,owns1,ownL,PV.cells,cellL,fillL,ne_eq]
  done
 rw [if_neg (fun h => h.elim hk0 (fun h => h hc1))] at hr
 subst hc1
 have hkn : k < 21 := by omega
 have a1 := r15 (X := X) hX.h1 k hkn 1
 have a2 := r15 (X := X) hX.h1 k hkn 2
 have a4 := r15 (X := X) hX.h1 k hkn 4
 have a8 := r15 (X := X) hX.h1 k hkn 8
 have a16 := r15 (X := X) hX.h1 k hkn 16
 have a32 := r15 (X := X) hX.h1 k hkn 32
 have hli := ins_line (k := k) (at_ := at_) (by omega) (by omega) hat p
 have h20 := r20 hX.toHX at_ _ hli
 have hab := aF_bd (hasB k 1) (hasB k 32) at_ p hat
 have l1 := aF_le (hasB k 1) (hasB k 32) at_ p
 have l2 := bF_le (hasB k 2) (aF (hasB k 1) (hasB k 32) at_ p).2
 have l3 := bF_le (hasB k 4) (bF (hasB k 2) (aF (hasB k 1) (hasB k 32) at_ p).2).2
 have l4 := tF_le (hasB k 8) (bF (hasB k 4) (bF (hasB k 2) (aF (hasB k 1) (hasB k 32) at_ p).2).2).2
 simp only [List.length_cons] at hwl
 have nA := num_r hX p (by omega)
 have tA := tgt_r hX p (by omega)
 have nB := num_r hX (aF (hasB k 1) (hasB k 32) at_ p).2 (by omega)
 have nN := num_r hX (bF (hasB k 2) (aF (hasB k 1) (hasB k 32) at_ p).2).2 (by omega)
 have tT := r39 (X := X) (bF (hasB k 4) (bF (hasB k 2) (aF (hasB k 1) (hasB k 32) at_ p).2).2).2.1 (bF (hasB k 4) (bF (hasB k 2) (aF (hasB k 1) (hasB k 32) at_ p).2).2).2.2
 have sS := r40 (X := X) (tF (hasB k 8) (bF (hasB k 4) (bF (hasB k 2) (aF (hasB k 1) (hasB k 32) at_ p).2).2).2).2.1 (by omega) (tF (hasB k 8) (bF (hasB k 4) (bF (hasB k 2) (aF (hasB k 1) (hasB k 32) at_ p).2).2).2).2.2
 have tN : 0 ≤ (tgtN p).1 ∧ (tgtN p).1 < 32768 := num_bd _ _
 unfold insK' at hr h20
 obtain ⟨q, hq, e1, e2, e3, e4, e5, e6⟩ := pat6 hkn
 rw [e1] at a1
 rw [e2] at a2
 rw [e3] at a4
 rw [e4] at a8
 rw [e5] at a16
 rw [e6] at a32
 rw [e1, e2, e3, e4, e5, e6] at hr h20
 rw [e1, e6] at hab nB
 rw [e1, e2, e6] at nN
 rw [e1, e2, e3, e6] at tT
 rw [e1, e2, e3, e4, e6] at sS
 clear e1 e2 e3 e4 e5 e6 l1 l2 l3 l4 hli
 simp only [List.mem_cons, List.mem_nil_iff, or_false] at hq
 rcases hq with rfl | rfl | rfl | rfl | rfl | rfl | rfl | rfl
 all_goals simp only at a1 a2 a4 a8 a16 a32 hr h20 hab nB nN tT sS
 ·simp -implicitDefEqProofs (maxSteps := 2000000) only [c25,↓reduceIte,S0,Nat.reduceEqDiff,Nat.reduceAdd,reduceCtorEq,cond_false,St.clr,outV,ownsV,owns1,ownL,PV.leaves,PV.cells,cellL,fillL,Nat.reduceBEq,Nat.reduceLeDiff,ne_eq,ite_not]
  refine wcall_s a32 rfl rfl ?_
  simp -implicitDefEqProofs (maxSteps := 2000000) only [c25,↓reduceIte,S0,Nat.reduceEqDiff,reduceCtorEq,St.clr,outV,ownsV,owns1,ownL,PV.leaves]
  refine wcall_s a1 rfl rfl ?_
  simp -implicitDefEqProofs (maxSteps := 2000000) only [c25,↓reduceIte,S0,Nat.reduceEqDiff,reduceCtorEq,St.clr,outV,ownsV,owns1,ownL,PV.leaves]
  refine wcall_s a2 rfl rfl ?_
  simp -implicitDefEqProofs (maxSteps := 2000000) only [c25,↓reduceIte,S0,Nat.reduceEqDiff,reduceCtorEq,St.clr,outV,ownsV,owns1,ownL,PV.leaves]
  refine wcall_s a4 rfl rfl ?_
  simp -implicitDefEqProofs (maxSteps := 2000000) only [c25,↓reduceIte,S0,Nat.reduceEqDiff,reduceCtorEq,St.clr,outV,ownsV,owns1,ownL,PV.leaves]
  refine wcall_s a8 rfl rfl ?_
  simp -implicitDefEqProofs (maxSteps := 2000000) only [c25,↓reduceIte,S0,Nat.reduceEqDiff,reduceCtorEq,St.clr,outV,ownsV,owns1,ownL,PV.leaves]
  refine wcall_s a16 rfl rfl ?_
  simp -implicitDefEqProofs (maxSteps := 2000000) only [c25,↓reduceIte,S0,Nat.reduceEqDiff,Nat.reduceAdd,reduceCtorEq,cond_false,St.clr,outV,ownsV,owns1,ownL,PV.leaves,PV.cells,cellL,fillL,ne_eq,Decidable.not_not]
  with_reducible refine ite_pr (fun g1 => ?_) (fun g1 => ?_)
  ·with_reducible refine ite_pr (fun g2 => ?_) (fun g2 => ?_)
   ·refine wcall_s h20 rfl rfl ?_
    simp -implicitDefEqProofs (maxSteps := 2000000) only [c25,↓reduceIte,S0,Nat.reduceEqDiff,Nat.reduceAdd,reduceCtorEq,cond_false,St.clr,outV,ownsV,owns1,ownL,PV.cells,cellL,fillL,ne_eq,ite_not]
    with_reducible refine ite_pr (fun g3 => ?_) (fun g3 => ?_)
    ·rw [if_neg (by
      rintro (g | g | g)
      ·exact Bool.noConfusion (g1.symm.trans g)
      ·exact g (nil_of g2)
      ·exact g (lst_of g3))] at hr
     subst hr
     simp -implicitDefEqProofs (maxSteps := 2000000) only [c25,Fld.ins,Ins.c,↓reduceIte,S0]
     (repeat' (with_reducible refine And.intro ?_ ?_)) <;> rfl
    ·rw [if_pos (.inr (.inr (fun g => g3 (by rw [g]))))] at hr
     subst hr
     simp -implicitDefEqProofs (maxSteps := 2000000) only [c25,zeroI,Ins.c,↓reduceIte,S0]
     done
   ·rw [if_pos (.inr (.inl (fun g => g2 (of_nil g))))] at hr
    subst hr
    simp -implicitDefEqProofs (maxSteps := 2000000) only [c25,zeroI,Ins.c,↓reduceIte,S0]
    done
  ·rw [if_pos (.inl (tt_of g1))] at hr
   subst hr
   simp -implicitDefEqProofs (maxSteps := 2000000) only [c25,zeroI,Ins.c,↓reduceIte,S0]
   done
 ·simp -implicitDefEqProofs (maxSteps := 2000000) only [c25,↓reduceIte,S0,Nat.reduceEqDiff,Nat.reduceAdd,reduceCtorEq,cond_false,St.clr,outV,ownsV,owns1,ownL,PV.leaves,PV.cells,cellL,fillL,Nat.reduceBEq,Nat.reduceLeDiff,ne_eq,ite_not]
  refine wcall_s a32 rfl rfl ?_
  simp -implicitDefEqProofs (maxSteps := 2000000) only [c25,↓reduceIte,S0,Nat.reduceEqDiff,reduceCtorEq,St.clr,outV,ownsV,owns1,ownL,PV.leaves]
  refine wcall_s a1 rfl rfl ?_
  simp -implicitDefEqProofs (maxSteps := 2000000) only [c25,↓reduceIte,S0,Nat.reduceEqDiff,reduceCtorEq,St.clr,outV,ownsV,owns1,ownL,PV.leaves]
  refine wcall_s a2 rfl rfl ?_
  simp -implicitDefEqProofs (maxSteps := 2000000) only [c25,↓reduceIte,S0,Nat.reduceEqDiff,reduceCtorEq,St.clr,outV,ownsV,owns1,ownL,PV.leaves]
  refine pcall_i nB.1 rfl rfl ?_
  simp -implicitDefEqProofs (maxSteps := 2000000) only [c25,↓reduceIte,S0,Nat.reduceEqDiff,outV,ownsV,owns1,ownL,PV.leaves]
  refine pcall_i nB.2 rfl rfl ?_
  simp -implicitDefEqProofs (maxSteps := 2000000) only [c25,↓reduceIte,S0,Nat.reduceEqDiff,Nat.reduceAdd,reduceCtorEq,outV,ownsV,owns1,ownL,PV.leaves,PV.cells,cellL,fillL,Nat.reduceLeDiff]
  refine wcall_s a4 rfl rfl ?_
  simp -implicitDefEqProofs (maxSteps := 2000000) only [c25,↓reduceIte,S0,Nat.reduceEqDiff,reduceCtorEq,St.clr,outV,ownsV,owns1,ownL,PV.leaves]
  refine wcall_s a8 rfl rfl ?_
  simp -implicitDefEqProofs (maxSteps := 2000000) only [c25,↓reduceIte,S0,Nat.reduceEqDiff,reduceCtorEq,St.clr,outV,ownsV,owns1,ownL,PV.leaves]
  refine wcall_s a16 rfl rfl ?_
  simp -implicitDefEqProofs (maxSteps := 2000000) only [c25,↓reduceIte,S0,Nat.reduceEqDiff,Nat.reduceAdd,reduceCtorEq,cond_false,St.clr,outV,ownsV,owns1,ownL,PV.leaves,PV.cells,cellL,fillL,ne_eq,Decidable.not_not]
  with_reducible refine ite_pr (fun g1 => ?_) (fun g1 => ?_)
  ·with_reducible refine ite_pr (fun g2 => ?_) (fun g2 => ?_)
   ·refine wcall_s h20 rfl rfl ?_
    simp -implicitDefEqProofs (maxSteps := 2000000) only [c25,↓reduceIte,S0,Nat.reduceEqDiff,Nat.reduceAdd,reduceCtorEq,cond_false,St.clr,outV,ownsV,owns1,ownL,PV.cells,cellL,fillL,ne_eq,ite_not]
    with_reducible refine ite_pr (fun g3 => ?_) (fun g3 => ?_)
    ·rw [if_neg (by
      rintro (g | g | g)
      ·exact Bool.noConfusion (g1.symm.trans g)
      ·exact g (nil_of g2)
      ·exact g (lst_of g3))] at hr
     subst hr
     simp -implicitDefEqProofs (maxSteps := 2000000) only [c25,Fld.ins,Ins.c,↓reduceIte,S0]
     (repeat' (with_reducible refine And.intro ?_ ?_)) <;> rfl
    ·rw [if_pos (.inr (.inr (fun g => g3 (by rw [g]))))] at hr
     subst hr
     simp -implicitDefEqProofs (maxSteps := 2000000) only [c25,zeroI,Ins.c,↓reduceIte,S0]
     done
   ·rw [if_pos (.inr (.inl (fun g => g2 (of_nil g))))] at hr
    subst hr
    simp -implicitDefEqProofs (maxSteps := 2000000) only [c25,zeroI,Ins.c,↓reduceIte,S0]
    done
  ·rw [if_pos (.inl (tt_of g1))] at hr
   subst hr
   simp -implicitDefEqProofs (maxSteps := 2000000) only [c25,zeroI,Ins.c,↓reduceIte,S0]
   done
 ·simp -implicitDefEqProofs (maxSteps := 2000000) only [c25,↓reduceIte,S0,Nat.reduceEqDiff,Nat.reduceAdd,reduceCtorEq,cond_false,St.clr,outV,ownsV,owns1,ownL,PV.leaves,PV.cells,cellL,fillL,Nat.reduceBEq,Nat.reduceLeDiff,ne_eq,ite_not]
  refine wcall_s a32 rfl rfl ?_
  simp -implicitDefEqProofs (maxSteps := 2000000) only [c25,↓reduceIte,S0,Nat.reduceEqDiff,reduceCtorEq,St.clr,outV,ownsV,owns1,ownL,PV.leaves]
  refine wcall_s a1 rfl rfl ?_
  simp -implicitDefEqProofs (maxSteps := 2000000) only [c25,↓reduceIte,S0,Nat.reduceEqDiff,reduceCtorEq,St.clr,outV,ownsV,owns1,ownL,PV.leaves]
  refine wcall_s a2 rfl rfl ?_
  simp -implicitDefEqProofs (maxSteps := 2000000) only [c25,↓reduceIte,S0,Nat.reduceEqDiff,reduceCtorEq,St.clr,outV,ownsV,owns1,ownL,PV.leaves]
  refine wcall_s a4 rfl rfl ?_
  simp -implicitDefEqProofs (maxSteps := 2000000) only [c25,↓reduceIte,S0,Nat.reduceEqDiff,reduceCtorEq,St.clr,outV,ownsV,owns1,ownL,PV.leaves]
  refine wcall_s a8 rfl rfl ?_
  simp -implicitDefEqProofs (maxSteps := 2000000) only [c25,↓reduceIte,S0,Nat.reduceEqDiff,reduceCtorEq,St.clr,outV,ownsV,owns1,ownL,PV.leaves]
  refine wcall_s a16 rfl rfl ?_
  simp -implicitDefEqProofs (maxSteps := 2000000) only [c25,↓reduceIte,S0,Nat.reduceEqDiff,reduceCtorEq,St.clr,outV,ownsV,owns1,ownL,PV.leaves]
  refine pcall_i sS rfl rfl ?_
  simp -implicitDefEqProofs (maxSteps := 2000000) only [c25,↓reduceIte,S0,Nat.reduceEqDiff,Nat.reduceAdd,reduceCtorEq,cond_false,outV,ownsV,owns1,ownL,PV.leaves,PV.cells,cellL,fillL,ne_eq,Decidable.not_not]
  with_reducible refine ite_pr (fun g1 => ?_) (fun g1 => ?_)
  ·with_reducible refine ite_pr (fun g2 => ?_) (fun g2 => ?_)
   ·refine wcall_s h20 rfl rfl ?_
    simp -implicitDefEqProofs (maxSteps := 2000000) only [c25,↓reduceIte,S0,Nat.reduceEqDiff,Nat.reduceAdd,reduceCtorEq,cond_false,St.clr,outV,ownsV,owns1,ownL,PV.cells,cellL,fillL,ne_eq,ite_not]
    with_reducible refine ite_pr (fun g3 => ?_) (fun g3 => ?_)
    ·rw [if_neg (by
      rintro (g | g | g)
      ·exact Bool.noConfusion (g1.symm.trans g)
      ·exact g (nil_of g2)
      ·exact g (lst_of g3))] at hr
     subst hr
     simp -implicitDefEqProofs (maxSteps := 2000000) only [c25,Fld.ins,Ins.c,↓reduceIte,S0]
     (repeat' (with_reducible refine And.intro ?_ ?_)) <;> rfl
    ·rw [if_pos (.inr (.inr (fun g => g3 (by rw [g]))))] at hr
     subst hr
     simp -implicitDefEqProofs (maxSteps := 2000000) only [c25,zeroI,Ins.c,↓reduceIte,S0]
     done
   ·rw [if_pos (.inr (.inl (fun g => g2 (of_nil g))))] at hr
    subst hr
    simp -implicitDefEqProofs (maxSteps := 2000000) only [c25,zeroI,Ins.c,↓reduceIte,S0]
    done
  ·rw [if_pos (.inl (tt_of g1))] at hr
   subst hr
   simp -implicitDefEqProofs (maxSteps := 2000000) only [c25,zeroI,Ins.c,↓reduceIte,S0]
   done
 ·simp -implicitDefEqProofs (maxSteps := 2000000) only [c25,↓reduceIte,S0,Nat.reduceEqDiff,Nat.reduceAdd,reduceCtorEq,cond_false,St.clr,outV,ownsV,owns1,ownL,PV.leaves,PV.cells,cellL,fillL,Nat.reduceBEq,Nat.reduceLeDiff,ne_eq,ite_not]
  refine wcall_s a32 rfl rfl ?_
  simp -implicitDefEqProofs (maxSteps := 2000000) only [c25,↓reduceIte,S0,Nat.reduceEqDiff,reduceCtorEq,St.clr,outV,ownsV,owns1,ownL,PV.leaves]
  refine pcall_i tA.1 rfl rfl ?_
  simp -implicitDefEqProofs (maxSteps := 2000000) only [c25,↓reduceIte,S0,Nat.reduceEqDiff,Nat.reduceAdd,reduceCtorEq,cond_false,outV,ownsV,owns1,ownL,PV.leaves,PV.cells,cellL,fillL]
  have hB : tgtB p = ((wordF p.1 p.2).2.2 || !hasP 62 (wordF p.1 p.2).1) := rfl
  have tA4 := tA.2.2.2
  have wT := w64 (x := (tgtN p).1 - at_) (by have := tN; omega) (by have := tN; omega)
  with_reducible refine ite_pr (fun g0 => ?_) (fun g0 => ?_)
  ·rw [hB, g0] at tA4
   rw [Bool.false_or] at tA4
   refine wcall_s tA.2.1 rfl rfl ?_
   simp -implicitDefEqProofs (maxSteps := 2000000) only [c25,↓reduceIte,S0,Nat.reduceEqDiff,Nat.reduceAdd,reduceCtorEq,cond_false,St.clr,outV,ownsV,owns1,ownL,PV.leaves,PV.cells,cellL,fillL]
   refine wcall_s tA.2.2.1 rfl rfl ?_
   simp -implicitDefEqProofs (maxSteps := 2000000) only [c25,↓reduceIte,S0,Nat.reduceEqDiff,St.clr,outV,ownsV,owns1,ownL,PV.leaves]
   refine pcall_i tA4 rfl rfl ?_
   simp -implicitDefEqProofs (maxSteps := 2000000) only [c25,wT,↓reduceIte,S0,Nat.reduceEqDiff,Nat.reduceAdd,reduceCtorEq,outV,ownsV,owns1,ownL,PV.leaves,PV.cells,cellL,fillL,Nat.reduceLeDiff]
   refine wcall_s a2 rfl rfl ?_
   simp -implicitDefEqProofs (maxSteps := 2000000) only [c25,↓reduceIte,S0,Nat.reduceEqDiff,reduceCtorEq,St.clr,outV,ownsV,owns1,ownL,PV.leaves]
   refine wcall_s a4 rfl rfl ?_
   simp -implicitDefEqProofs (maxSteps := 2000000) only [c25,↓reduceIte,S0,Nat.reduceEqDiff,reduceCtorEq,St.clr,outV,ownsV,owns1,ownL,PV.leaves]
   refine wcall_s a8 rfl rfl ?_
   simp -implicitDefEqProofs (maxSteps := 2000000) only [c25,↓reduceIte,S0,Nat.reduceEqDiff,reduceCtorEq,St.clr,outV,ownsV,owns1,ownL,PV.leaves]
   refine wcall_s a16 rfl rfl ?_
   simp -implicitDefEqProofs (maxSteps := 2000000) only [c25,↓reduceIte,S0,Nat.reduceEqDiff,Nat.reduceAdd,reduceCtorEq,cond_false,St.clr,outV,ownsV,owns1,ownL,PV.leaves,PV.cells,cellL,fillL,ne_eq,Decidable.not_not]
   with_reducible refine ite_pr (fun g1 => ?_) (fun g1 => ?_)
   ·with_reducible refine ite_pr (fun g2 => ?_) (fun g2 => ?_)
    ·refine wcall_s h20 rfl rfl ?_
     simp -implicitDefEqProofs (maxSteps := 2000000) only [c25,↓reduceIte,S0,Nat.reduceEqDiff,Nat.reduceAdd,reduceCtorEq,cond_false,St.clr,outV,ownsV,owns1,ownL,PV.cells,cellL,fillL,ne_eq,ite_not]
     with_reducible refine ite_pr (fun g3 => ?_) (fun g3 => ?_)
     ·rw [if_neg (by
       rintro (g | g | g)
       ·exact Bool.noConfusion (g1.symm.trans g)
       ·exact g (nil_of g2)
       ·exact g (lst_of g3))] at hr
      subst hr
      simp -implicitDefEqProofs (maxSteps := 2000000) only [c25,Fld.ins,Ins.c,↓reduceIte,S0]
      (repeat' (with_reducible refine And.intro ?_ ?_)) <;> rfl
     ·rw [if_pos (.inr (.inr (fun g => g3 (by rw [g]))))] at hr
      subst hr
      simp -implicitDefEqProofs (maxSteps := 2000000) only [c25,zeroI,Ins.c,↓reduceIte,S0]
      done
    ·rw [if_pos (.inr (.inl (fun g => g2 (of_nil g))))] at hr
     subst hr
     simp -implicitDefEqProofs (maxSteps := 2000000) only [c25,zeroI,Ins.c,↓reduceIte,S0]
     done
   ·rw [if_pos (.inl (tt_of g1))] at hr
    subst hr
    simp -implicitDefEqProofs (maxSteps := 2000000) only [c25,zeroI,Ins.c,↓reduceIte,S0]
    done
  ·rw [hB, show (wordF p.1 p.2).2.2 = true from tt_of g0] at tA4
   rw [Bool.true_or] at tA4
   refine wcall_s tA.2.2.1 rfl rfl ?_
   simp -implicitDefEqProofs (maxSteps := 2000000) only [c25,↓reduceIte,S0,Nat.reduceEqDiff,St.clr,outV,ownsV,owns1,ownL,PV.leaves]
   refine pcall_i tA4 rfl rfl ?_
   simp -implicitDefEqProofs (maxSteps := 2000000) only [c25,wT,↓reduceIte,S0,Nat.reduceEqDiff,Nat.reduceAdd,reduceCtorEq,outV,ownsV,owns1,ownL,PV.leaves,PV.cells,cellL,fillL,Nat.reduceLeDiff]
   refine wcall_s a2 rfl rfl ?_
   simp -implicitDefEqProofs (maxSteps := 2000000) only [c25,↓reduceIte,S0,Nat.reduceEqDiff,reduceCtorEq,St.clr,outV,ownsV,owns1,ownL,PV.leaves]
   refine wcall_s a4 rfl rfl ?_
   simp -implicitDefEqProofs (maxSteps := 2000000) only [c25,↓reduceIte,S0,Nat.reduceEqDiff,reduceCtorEq,St.clr,outV,ownsV,owns1,ownL,PV.leaves]
   refine wcall_s a8 rfl rfl ?_
   simp -implicitDefEqProofs (maxSteps := 2000000) only [c25,↓reduceIte,S0,Nat.reduceEqDiff,reduceCtorEq,St.clr,outV,ownsV,owns1,ownL,PV.leaves]
   refine wcall_s a16 rfl rfl ?_
   simp -implicitDefEqProofs (maxSteps := 2000000) only [c25,↓reduceIte,S0,Nat.reduceEqDiff,Nat.reduceAdd,reduceCtorEq,cond_false,St.clr,outV,ownsV,owns1,ownL,PV.leaves,PV.cells,cellL,fillL,ne_eq,Decidable.not_not]
   with_reducible refine ite_pr (fun g1 => ?_) (fun g1 => ?_)
   ·with_reducible refine ite_pr (fun g2 => ?_) (fun g2 => ?_)
    ·refine wcall_s h20 rfl rfl ?_
     simp -implicitDefEqProofs (maxSteps := 2000000) only [c25,↓reduceIte,S0,Nat.reduceEqDiff,Nat.reduceAdd,reduceCtorEq,cond_false,St.clr,outV,ownsV,owns1,ownL,PV.cells,cellL,fillL,ne_eq,ite_not]
     with_reducible refine ite_pr (fun g3 => ?_) (fun g3 => ?_)
     ·rw [if_neg (by
       rintro (g | g | g)
       ·exact Bool.noConfusion (g1.symm.trans g)
       ·exact g (nil_of g2)
       ·exact g (lst_of g3))] at hr
      subst hr
      simp -implicitDefEqProofs (maxSteps := 2000000) only [c25,Fld.ins,Ins.c,↓reduceIte,S0]
      (repeat' (with_reducible refine And.intro ?_ ?_)) <;> rfl
     ·rw [if_pos (.inr (.inr (fun g => g3 (by rw [g]))))] at hr
      subst hr
      simp -implicitDefEqProofs (maxSteps := 2000000) only [c25,zeroI,Ins.c,↓reduceIte,S0]
      done
    ·rw [if_pos (.inr (.inl (fun g => g2 (of_nil g))))] at hr
     subst hr
     simp -implicitDefEqProofs (maxSteps := 2000000) only [c25,zeroI,Ins.c,↓reduceIte,S0]
     done
   ·rw [if_pos (.inl (tt_of g1))] at hr
    subst hr
    simp -implicitDefEqProofs (maxSteps := 2000000) only [c25,zeroI,Ins.c,↓reduceIte,S0]
    done
 ·simp -implicitDefEqProofs (maxSteps := 2000000) only [c25,↓reduceIte,S0,Nat.reduceEqDiff,Nat.reduceAdd,reduceCtorEq,cond_false,St.clr,outV,ownsV,owns1,ownL,PV.leaves,PV.cells,cellL,fillL,Nat.reduceBEq,Nat.reduceLeDiff,ne_eq,ite_not]
  refine wcall_s a32 rfl rfl ?_
  simp -implicitDefEqProofs (maxSteps := 2000000) only [c25,↓reduceIte,S0,Nat.reduceEqDiff,reduceCtorEq,St.clr,outV,ownsV,owns1,ownL,PV.leaves]
  refine pcall_i tA.1 rfl rfl ?_
  simp -implicitDefEqProofs (maxSteps := 2000000) only [c25,↓reduceIte,S0,Nat.reduceEqDiff,Nat.reduceAdd,reduceCtorEq,cond_false,outV,ownsV,owns1,ownL,PV.leaves,PV.cells,cellL,fillL]
  have hB : tgtB p = ((wordF p.1 p.2).2.2 || !hasP 62 (wordF p.1 p.2).1) := rfl
  have tA4 := tA.2.2.2
  have wT := w64 (x := (tgtN p).1 - at_) (by have := tN; omega) (by have := tN; omega)
  with_reducible refine ite_pr (fun g0 => ?_) (fun g0 => ?_)
  ·rw [hB, g0] at tA4
   rw [Bool.false_or] at tA4
   refine wcall_s tA.2.1 rfl rfl ?_
   simp -implicitDefEqProofs (maxSteps := 2000000) only [c25,↓reduceIte,S0,Nat.reduceEqDiff,Nat.reduceAdd,reduceCtorEq,cond_false,St.clr,outV,ownsV,owns1,ownL,PV.leaves,PV.cells,cellL,fillL]
   refine wcall_s tA.2.2.1 rfl rfl ?_
   simp -implicitDefEqProofs (maxSteps := 2000000) only [c25,↓reduceIte,S0,Nat.reduceEqDiff,St.clr,outV,ownsV,owns1,ownL,PV.leaves]
   refine pcall_i tA4 rfl rfl ?_
   simp -implicitDefEqProofs (maxSteps := 2000000) only [c25,wT,↓reduceIte,S0,Nat.reduceEqDiff,Nat.reduceAdd,reduceCtorEq,outV,ownsV,owns1,ownL,PV.leaves,PV.cells,cellL,fillL,Nat.reduceLeDiff]
   refine wcall_s a2 rfl rfl ?_
   simp -implicitDefEqProofs (maxSteps := 2000000) only [c25,↓reduceIte,S0,Nat.reduceEqDiff,reduceCtorEq,St.clr,outV,ownsV,owns1,ownL,PV.leaves]
   refine pcall_i nB.1 rfl rfl ?_
   simp -implicitDefEqProofs (maxSteps := 2000000) only [c25,↓reduceIte,S0,Nat.reduceEqDiff,outV,ownsV,owns1,ownL,PV.leaves]
   refine pcall_i nB.2 rfl rfl ?_
   simp -implicitDefEqProofs (maxSteps := 2000000) only [c25,↓reduceIte,S0,Nat.reduceEqDiff,Nat.reduceAdd,reduceCtorEq,outV,ownsV,owns1,ownL,PV.leaves,PV.cells,cellL,fillL,Nat.reduceLeDiff]
   refine wcall_s a4 rfl rfl ?_
   simp -implicitDefEqProofs (maxSteps := 2000000) only [c25,↓reduceIte,S0,Nat.reduceEqDiff,reduceCtorEq,St.clr,outV,ownsV,owns1,ownL,PV.leaves]
   refine wcall_s a8 rfl rfl ?_
   simp -implicitDefEqProofs (maxSteps := 2000000) only [c25,↓reduceIte,S0,Nat.reduceEqDiff,reduceCtorEq,St.clr,outV,ownsV,owns1,ownL,PV.leaves]
   refine wcall_s a16 rfl rfl ?_
   simp -implicitDefEqProofs (maxSteps := 2000000) only [c25,↓reduceIte,S0,Nat.reduceEqDiff,Nat.reduceAdd,reduceCtorEq,cond_false,St.clr,outV,ownsV,owns1,ownL,PV.leaves,PV.cells,cellL,fillL,ne_eq,Decidable.not_not]
   with_reducible refine ite_pr (fun g1 => ?_) (fun g1 => ?_)
   ·with_reducible refine ite_pr (fun g2 => ?_) (fun g2 => ?_)
    ·refine wcall_s h20 rfl rfl ?_
     simp -implicitDefEqProofs (maxSteps := 2000000) only [c25,↓reduceIte,S0,Nat.reduceEqDiff,Nat.reduceAdd,reduceCtorEq,cond_false,St.clr,outV,ownsV,owns1,ownL,PV.cells,cellL,fillL,ne_eq,ite_not]
     with_reducible refine ite_pr (fun g3 => ?_) (fun g3 => ?_)
     ·rw [if_neg (by
       rintro (g | g | g)
       ·exact Bool.noConfusion (g1.symm.trans g)
       ·exact g (nil_of g2)
       ·exact g (lst_of g3))] at hr
      subst hr
      simp -implicitDefEqProofs (maxSteps := 2000000) only [c25,Fld.ins,Ins.c,↓reduceIte,S0]
      (repeat' (with_reducible refine And.intro ?_ ?_)) <;> rfl
     ·rw [if_pos (.inr (.inr (fun g => g3 (by rw [g]))))] at hr
      subst hr
      simp -implicitDefEqProofs (maxSteps := 2000000) only [c25,zeroI,Ins.c,↓reduceIte,S0]
      done
    ·rw [if_pos (.inr (.inl (fun g => g2 (of_nil g))))] at hr
     subst hr
     simp -implicitDefEqProofs (maxSteps := 2000000) only [c25,zeroI,Ins.c,↓reduceIte,S0]
     done
   ·rw [if_pos (.inl (tt_of g1))] at hr
    subst hr
    simp -implicitDefEqProofs (maxSteps := 2000000) only [c25,zeroI,Ins.c,↓reduceIte,S0]
    done
  ·rw [hB, show (wordF p.1 p.2).2.2 = true from tt_of g0] at tA4
   rw [Bool.true_or] at tA4
   refine wcall_s tA.2.2.1 rfl rfl ?_
   simp -implicitDefEqProofs (maxSteps := 2000000) only [c25,↓reduceIte,S0,Nat.reduceEqDiff,St.clr,outV,ownsV,owns1,ownL,PV.leaves]
   refine pcall_i tA4 rfl rfl ?_
   simp -implicitDefEqProofs (maxSteps := 2000000) only [c25,wT,↓reduceIte,S0,Nat.reduceEqDiff,Nat.reduceAdd,reduceCtorEq,outV,ownsV,owns1,ownL,PV.leaves,PV.cells,cellL,fillL,Nat.reduceLeDiff]
   refine wcall_s a2 rfl rfl ?_
   simp -implicitDefEqProofs (maxSteps := 2000000) only [c25,↓reduceIte,S0,Nat.reduceEqDiff,reduceCtorEq,St.clr,outV,ownsV,owns1,ownL,PV.leaves]
   refine pcall_i nB.1 rfl rfl ?_
   simp -implicitDefEqProofs (maxSteps := 2000000) only [c25,↓reduceIte,S0,Nat.reduceEqDiff,outV,ownsV,owns1,ownL,PV.leaves]
   refine pcall_i nB.2 rfl rfl ?_
   simp -implicitDefEqProofs (maxSteps := 2000000) only [c25,↓reduceIte,S0,Nat.reduceEqDiff,Nat.reduceAdd,reduceCtorEq,outV,ownsV,owns1,ownL,PV.leaves,PV.cells,cellL,fillL,Nat.reduceLeDiff]
   refine wcall_s a4 rfl rfl ?_
   simp -implicitDefEqProofs (maxSteps := 2000000) only [c25,↓reduceIte,S0,Nat.reduceEqDiff,reduceCtorEq,St.clr,outV,ownsV,owns1,ownL,PV.leaves]
   refine wcall_s a8 rfl rfl ?_
   simp -implicitDefEqProofs (maxSteps := 2000000) only [c25,↓reduceIte,S0,Nat.reduceEqDiff,reduceCtorEq,St.clr,outV,ownsV,owns1,ownL,PV.leaves]
   refine wcall_s a16 rfl rfl ?_
   simp -implicitDefEqProofs (maxSteps := 2000000) only [c25,↓reduceIte,S0,Nat.reduceEqDiff,Nat.reduceAdd,reduceCtorEq,cond_false,St.clr,outV,ownsV,owns1,ownL,PV.leaves,PV.cells,cellL,fillL,ne_eq,Decidable.not_not]
   with_reducible refine ite_pr (fun g1 => ?_) (fun g1 => ?_)
   ·with_reducible refine ite_pr (fun g2 => ?_) (fun g2 => ?_)
    ·refine wcall_s h20 rfl rfl ?_
     simp -implicitDefEqProofs (maxSteps := 2000000) only [c25,↓reduceIte,S0,Nat.reduceEqDiff,Nat.reduceAdd,reduceCtorEq,cond_false,St.clr,outV,ownsV,owns1,ownL,PV.cells,cellL,fillL,ne_eq,ite_not]
     with_reducible refine ite_pr (fun g3 => ?_) (fun g3 => ?_)
     ·rw [if_neg (by
       rintro (g | g | g)
       ·exact Bool.noConfusion (g1.symm.trans g)
       ·exact g (nil_of g2)
       ·exact g (lst_of g3))] at hr
      subst hr
      simp -implicitDefEqProofs (maxSteps := 2000000) only [c25,Fld.ins,Ins.c,↓reduceIte,S0]
      (repeat' (with_reducible refine And.intro ?_ ?_)) <;> rfl
     ·rw [if_pos (.inr (.inr (fun g => g3 (by rw [g]))))] at hr
      subst hr
      simp -implicitDefEqProofs (maxSteps := 2000000) only [c25,zeroI,Ins.c,↓reduceIte,S0]
      done
    ·rw [if_pos (.inr (.inl (fun g => g2 (of_nil g))))] at hr
     subst hr
     simp -implicitDefEqProofs (maxSteps := 2000000) only [c25,zeroI,Ins.c,↓reduceIte,S0]
     done
   ·rw [if_pos (.inl (tt_of g1))] at hr
    subst hr
    simp -implicitDefEqProofs (maxSteps := 2000000) only [c25,zeroI,Ins.c,↓reduceIte,S0]
    done
 ·simp -implicitDefEqProofs (maxSteps := 2000000) only [c25,↓reduceIte,S0,Nat.reduceEqDiff,Nat.reduceAdd,reduceCtorEq,cond_false,St.clr,outV,ownsV,owns1,ownL,PV.leaves,PV.cells,cellL,fillL,Nat.reduceBEq,Nat.reduceLeDiff,ne_eq,ite_not]
  refine wcall_s a32 rfl rfl ?_
  simp -implicitDefEqProofs (maxSteps := 2000000) only [c25,↓reduceIte,S0,Nat.reduceEqDiff,reduceCtorEq,St.clr,outV,ownsV,owns1,ownL,PV.leaves]
  refine pcall_i tA.1 rfl rfl ?_
  simp -implicitDefEqProofs (maxSteps := 2000000) only [c25,↓reduceIte,S0,Nat.reduceEqDiff,Nat.reduceAdd,reduceCtorEq,cond_false,outV,ownsV,owns1,ownL,PV.leaves,PV.cells,cellL,fillL]
  have hB : tgtB p = ((wordF p.1 p.2).2.2 || !hasP 62 (wordF p.1 p.2).1) := rfl
  have tA4 := tA.2.2.2
  have wT := w64 (x := (tgtN p).1 - at_) (by have := tN; omega) (by have := tN; omega)
  with_reducible refine ite_pr (fun g0 => ?_) (fun g0 => ?_)
  ·rw [hB, g0] at tA4
   rw [Bool.false_or] at tA4
   refine wcall_s tA.2.1 rfl rfl ?_
   simp -implicitDefEqProofs (maxSteps := 2000000) only [c25,↓reduceIte,S0,Nat.reduceEqDiff,Nat.reduceAdd,reduceCtorEq,cond_false,St.clr,outV,ownsV,owns1,ownL,PV.leaves,PV.cells,cellL,fillL]
   refine wcall_s tA.2.2.1 rfl rfl ?_
   simp -implicitDefEqProofs (maxSteps := 2000000) only [c25,↓reduceIte,S0,Nat.reduceEqDiff,St.clr,outV,ownsV,owns1,ownL,PV.leaves]
   refine pcall_i tA4 rfl rfl ?_
   simp -implicitDefEqProofs (maxSteps := 2000000) only [c25,wT,↓reduceIte,S0,Nat.reduceEqDiff,Nat.reduceAdd,reduceCtorEq,outV,ownsV,owns1,ownL,PV.leaves,PV.cells,cellL,fillL,Nat.reduceLeDiff]
   refine wcall_s a2 rfl rfl ?_
   simp -implicitDefEqProofs (maxSteps := 2000000) only [c25,↓reduceIte,S0,Nat.reduceEqDiff,reduceCtorEq,St.clr,outV,ownsV,owns1,ownL,PV.leaves]
   refine wcall_s a4 rfl rfl ?_
   simp -implicitDefEqProofs (maxSteps := 2000000) only [c25,↓reduceIte,S0,Nat.reduceEqDiff,reduceCtorEq,St.clr,outV,ownsV,owns1,ownL,PV.leaves]
   refine wcall_s a8 rfl rfl ?_
   simp -implicitDefEqProofs (maxSteps := 2000000) only [c25,↓reduceIte,S0,Nat.reduceEqDiff,reduceCtorEq,St.clr,outV,ownsV,owns1,ownL,PV.leaves]
   refine wcall_s a16 rfl rfl ?_
   simp -implicitDefEqProofs (maxSteps := 2000000) only [c25,↓reduceIte,S0,Nat.reduceEqDiff,reduceCtorEq,St.clr,outV,ownsV,owns1,ownL,PV.leaves]
   refine pcall_i sS rfl rfl ?_
   simp -implicitDefEqProofs (maxSteps := 2000000) only [c25,↓reduceIte,S0,Nat.reduceEqDiff,Nat.reduceAdd,reduceCtorEq,cond_false,outV,ownsV,owns1,ownL,PV.leaves,PV.cells,cellL,fillL,ne_eq,Decidable.not_not]
   with_reducible refine ite_pr (fun g1 => ?_) (fun g1 => ?_)
   ·with_reducible refine ite_pr (fun g2 => ?_) (fun g2 => ?_)
    ·refine wcall_s h20 rfl rfl ?_
     simp -implicitDefEqProofs (maxSteps := 2000000) only [c25,↓reduceIte,S0,Nat.reduceEqDiff,Nat.reduceAdd,reduceCtorEq,cond_false,St.clr,outV,ownsV,owns1,ownL,PV.cells,cellL,fillL,ne_eq,ite_not]
     with_reducible refine ite_pr (fun g3 => ?_) (fun g3 => ?_)
     ·rw [if_neg (by
       rintro (g | g | g)
       ·exact Bool.noConfusion (g1.symm.trans g)
       ·exact g (nil_of g2)
       ·exact g (lst_of g3))] at hr
      subst hr
      simp -implicitDefEqProofs (maxSteps := 2000000) only [c25,Fld.ins,Ins.c,↓reduceIte,S0]
      (repeat' (with_reducible refine And.intro ?_ ?_)) <;> rfl
     ·rw [if_pos (.inr (.inr (fun g => g3 (by rw [g]))))] at hr
      subst hr
      simp -implicitDefEqProofs (maxSteps := 2000000) only [c25,zeroI,Ins.c,↓reduceIte,S0]
      done
    ·rw [if_pos (.inr (.inl (fun g => g2 (of_nil g))))] at hr
     subst hr
     simp -implicitDefEqProofs (maxSteps := 2000000) only [c25,zeroI,Ins.c,↓reduceIte,S0]
     done
   ·rw [if_pos (.inl (tt_of g1))] at hr
    subst hr
    simp -implicitDefEqProofs (maxSteps := 2000000) only [c25,zeroI,Ins.c,↓reduceIte,S0]
    done
  ·rw [hB, show (wordF p.1 p.2).2.2 = true from tt_of g0] at tA4
   rw [Bool.true_or] at tA4
   refine wcall_s tA.2.2.1 rfl rfl ?_
   simp -implicitDefEqProofs (maxSteps := 2000000) only [c25,↓reduceIte,S0,Nat.reduceEqDiff,St.clr,outV,ownsV,owns1,ownL,PV.leaves]
   refine pcall_i tA4 rfl rfl ?_
   simp -implicitDefEqProofs (maxSteps := 2000000) only [c25,wT,↓reduceIte,S0,Nat.reduceEqDiff,Nat.reduceAdd,reduceCtorEq,outV,ownsV,owns1,ownL,PV.leaves,PV.cells,cellL,fillL,Nat.reduceLeDiff]
   refine wcall_s a2 rfl rfl ?_
   simp -implicitDefEqProofs (maxSteps := 2000000) only [c25,↓reduceIte,S0,Nat.reduceEqDiff,reduceCtorEq,St.clr,outV,ownsV,owns1,ownL,PV.leaves]
   refine wcall_s a4 rfl rfl ?_
   simp -implicitDefEqProofs (maxSteps := 2000000) only [c25,↓reduceIte,S0,Nat.reduceEqDiff,reduceCtorEq,St.clr,outV,ownsV,owns1,ownL,PV.leaves]
   refine wcall_s a8 rfl rfl ?_
   simp -implicitDefEqProofs (maxSteps := 2000000) only [c25,↓reduceIte,S0,Nat.reduceEqDiff,reduceCtorEq,St.clr,outV,ownsV,owns1,ownL,PV.leaves]
   refine wcall_s a16 rfl rfl ?_
   simp -implicitDefEqProofs (maxSteps := 2000000) only [c25,↓reduceIte,S0,Nat.reduceEqDiff,reduceCtorEq,St.clr,outV,ownsV,owns1,ownL,PV.leaves]
   refine pcall_i sS rfl rfl ?_
   simp -implicitDefEqProofs (maxSteps := 2000000) only [c25,↓reduceIte,S0,Nat.reduceEqDiff,Nat.reduceAdd,reduceCtorEq,cond_false,outV,ownsV,owns1,ownL,PV.leaves,PV.cells,cellL,fillL,ne_eq,Decidable.not_not]
   with_reducible refine ite_pr (fun g1 => ?_) (fun g1 => ?_)
   ·with_reducible refine ite_pr (fun g2 => ?_) (fun g2 => ?_)
    ·refine wcall_s h20 rfl rfl ?_
     simp -implicitDefEqProofs (maxSteps := 2000000) only [c25,↓reduceIte,S0,Nat.reduceEqDiff,Nat.reduceAdd,reduceCtorEq,cond_false,St.clr,outV,ownsV,owns1,ownL,PV.cells,cellL,fillL,ne_eq,ite_not]
     with_reducible refine ite_pr (fun g3 => ?_) (fun g3 => ?_)
     ·rw [if_neg (by
       rintro (g | g | g)
       ·exact Bool.noConfusion (g1.symm.trans g)
       ·exact g (nil_of g2)
       ·exact g (lst_of g3))] at hr
      subst hr
      simp -implicitDefEqProofs (maxSteps := 2000000) only [c25,Fld.ins,Ins.c,↓reduceIte,S0]
      (repeat' (with_reducible refine And.intro ?_ ?_)) <;> rfl
     ·rw [if_pos (.inr (.inr (fun g => g3 (by rw [g]))))] at hr
      subst hr
      simp -implicitDefEqProofs (maxSteps := 2000000) only [c25,zeroI,Ins.c,↓reduceIte,S0]
      done
    ·rw [if_pos (.inr (.inl (fun g => g2 (of_nil g))))] at hr
     subst hr
     simp -implicitDefEqProofs (maxSteps := 2000000) only [c25,zeroI,Ins.c,↓reduceIte,S0]
     done
   ·rw [if_pos (.inl (tt_of g1))] at hr
    subst hr
    simp -implicitDefEqProofs (maxSteps := 2000000) only [c25,zeroI,Ins.c,↓reduceIte,S0]
    done
 ·simp -implicitDefEqProofs (maxSteps := 2000000) only [c25,↓reduceIte,S0,Nat.reduceEqDiff,Nat.reduceAdd,reduceCtorEq,cond_false,St.clr,outV,ownsV,owns1,ownL,PV.leaves,PV.cells,cellL,fillL,Nat.reduceBEq,Nat.reduceLeDiff,ne_eq,ite_not]
  refine wcall_s a32 rfl rfl ?_
  simp -implicitDefEqProofs (maxSteps := 2000000) only [c25,↓reduceIte,S0,Nat.reduceEqDiff,reduceCtorEq,St.clr,outV,ownsV,owns1,ownL,PV.leaves]
  refine wcall_s a1 rfl rfl ?_
  simp -implicitDefEqProofs (maxSteps := 2000000) only [c25,↓reduceIte,S0,Nat.reduceEqDiff,reduceCtorEq,St.clr,outV,ownsV,owns1,ownL,PV.leaves]
  refine wcall_s a2 rfl rfl ?_
  simp -implicitDefEqProofs (maxSteps := 2000000) only [c25,↓reduceIte,S0,Nat.reduceEqDiff,reduceCtorEq,St.clr,outV,ownsV,owns1,ownL,PV.leaves]
  refine pcall_i nB.1 rfl rfl ?_
  simp -implicitDefEqProofs (maxSteps := 2000000) only [c25,↓reduceIte,S0,Nat.reduceEqDiff,outV,ownsV,owns1,ownL,PV.leaves]
  refine pcall_i nB.2 rfl rfl ?_
  simp -implicitDefEqProofs (maxSteps := 2000000) only [c25,↓reduceIte,S0,Nat.reduceEqDiff,Nat.reduceAdd,reduceCtorEq,outV,ownsV,owns1,ownL,PV.leaves,PV.cells,cellL,fillL,Nat.reduceLeDiff]
  refine wcall_s a4 rfl rfl ?_
  simp -implicitDefEqProofs (maxSteps := 2000000) only [c25,↓reduceIte,S0,Nat.reduceEqDiff,reduceCtorEq,St.clr,outV,ownsV,owns1,ownL,PV.leaves]
  refine pcall_i nN.1 rfl rfl ?_
  simp -implicitDefEqProofs (maxSteps := 2000000) only [c25,↓reduceIte,S0,Nat.reduceEqDiff,outV,ownsV,owns1,ownL,PV.leaves]
  refine pcall_i nN.2 rfl rfl ?_
  simp -implicitDefEqProofs (maxSteps := 2000000) only [c25,↓reduceIte,S0,Nat.reduceEqDiff,Nat.reduceAdd,reduceCtorEq,outV,ownsV,owns1,ownL,PV.leaves,PV.cells,cellL,fillL,Nat.reduceLeDiff]
  refine wcall_s a8 rfl rfl ?_
  simp -implicitDefEqProofs (maxSteps := 2000000) only [c25,↓reduceIte,S0,Nat.reduceEqDiff,reduceCtorEq,St.clr,outV,ownsV,owns1,ownL,PV.leaves]
  refine pcall_i tT rfl rfl ?_
  simp -implicitDefEqProofs (maxSteps := 2000000) only [c25,↓reduceIte,S0,Nat.reduceEqDiff,Nat.reduceAdd,reduceCtorEq,outV,ownsV,owns1,ownL,PV.leaves,PV.cells,cellL,fillL,Nat.reduceLeDiff]
  refine wcall_s a16 rfl rfl ?_
  simp -implicitDefEqProofs (maxSteps := 2000000) only [c25,↓reduceIte,S0,Nat.reduceEqDiff,Nat.reduceAdd,reduceCtorEq,cond_false,St.clr,outV,ownsV,owns1,ownL,PV.leaves,PV.cells,cellL,fillL,ne_eq,Decidable.not_not]
  with_reducible refine ite_pr (fun g1 => ?_) (fun g1 => ?_)
  ·with_reducible refine ite_pr (fun g2 => ?_) (fun g2 => ?_)
   ·refine wcall_s h20 rfl rfl ?_
    simp -implicitDefEqProofs (maxSteps := 2000000) only [c25,↓reduceIte,S0,Nat.reduceEqDiff,Nat.reduceAdd,reduceCtorEq,cond_false,St.clr,outV,ownsV,owns1,ownL,PV.cells,cellL,fillL,ne_eq,ite_not]
    with_reducible refine ite_pr (fun g3 => ?_) (fun g3 => ?_)
    ·rw [if_neg (by
      rintro (g | g | g)
      ·exact Bool.noConfusion (g1.symm.trans g)
      ·exact g (nil_of g2)
      ·exact g (lst_of g3))] at hr
     subst hr
     simp -implicitDefEqProofs (maxSteps := 2000000) only [c25,Fld.ins,Ins.c,↓reduceIte,S0]
     (repeat' (with_reducible refine And.intro ?_ ?_)) <;> rfl
    ·rw [if_pos (.inr (.inr (fun g => g3 (by rw [g]))))] at hr
     subst hr
     simp -implicitDefEqProofs (maxSteps := 2000000) only [c25,zeroI,Ins.c,↓reduceIte,S0]
     done
   ·rw [if_pos (.inr (.inl (fun g => g2 (of_nil g))))] at hr
    subst hr
    simp -implicitDefEqProofs (maxSteps := 2000000) only [c25,zeroI,Ins.c,↓reduceIte,S0]
    done
  ·rw [if_pos (.inl (tt_of g1))] at hr
   subst hr
   simp -implicitDefEqProofs (maxSteps := 2000000) only [c25,zeroI,Ins.c,↓reduceIte,S0]
   done
 ·simp -implicitDefEqProofs (maxSteps := 2000000) only [c25,↓reduceIte,S0,Nat.reduceEqDiff,Nat.reduceAdd,reduceCtorEq,cond_false,St.clr,outV,ownsV,owns1,ownL,PV.leaves,PV.cells,cellL,fillL,Nat.reduceBEq,Nat.reduceLeDiff,ne_eq,ite_not]
  refine wcall_s a32 rfl rfl ?_
  simp -implicitDefEqProofs (maxSteps := 2000000) only [c25,↓reduceIte,S0,Nat.reduceEqDiff,reduceCtorEq,St.clr,outV,ownsV,owns1,ownL,PV.leaves]
  refine wcall_s a1 rfl rfl ?_
  simp -implicitDefEqProofs (maxSteps := 2000000) only [c25,↓reduceIte,S0,Nat.reduceEqDiff,reduceCtorEq,St.clr,outV,ownsV,owns1,ownL,PV.leaves]
  refine pcall_i nA.1 rfl rfl ?_
  simp -implicitDefEqProofs (maxSteps := 2000000) only [c25,↓reduceIte,S0,Nat.reduceEqDiff,outV,ownsV,owns1,ownL,PV.leaves]
  refine pcall_i nA.2 rfl rfl ?_
  simp -implicitDefEqProofs (maxSteps := 2000000) only [c25,↓reduceIte,S0,Nat.reduceEqDiff,Nat.reduceAdd,reduceCtorEq,outV,ownsV,owns1,ownL,PV.leaves,PV.cells,cellL,fillL,Nat.reduceLeDiff]
  refine wcall_s a2 rfl rfl ?_
  simp -implicitDefEqProofs (maxSteps := 2000000) only [c25,↓reduceIte,S0,Nat.reduceEqDiff,reduceCtorEq,St.clr,outV,ownsV,owns1,ownL,PV.leaves]
  refine pcall_i nB.1 rfl rfl ?_
  simp -implicitDefEqProofs (maxSteps := 2000000) only [c25,↓reduceIte,S0,Nat.reduceEqDiff,outV,ownsV,owns1,ownL,PV.leaves]
  refine pcall_i nB.2 rfl rfl ?_
  simp -implicitDefEqProofs (maxSteps := 2000000) only [c25,↓reduceIte,S0,Nat.reduceEqDiff,Nat.reduceAdd,reduceCtorEq,outV,ownsV,owns1,ownL,PV.leaves,PV.cells,cellL,fillL,Nat.reduceLeDiff]
  refine wcall_s a4 rfl rfl ?_
  simp -implicitDefEqProofs (maxSteps := 2000000) only [c25,↓reduceIte,S0,Nat.reduceEqDiff,reduceCtorEq,St.clr,outV,ownsV,owns1,ownL,PV.leaves]
  refine pcall_i nN.1 rfl rfl ?_
  simp -implicitDefEqProofs (maxSteps := 2000000) only [c25,↓reduceIte,S0,Nat.reduceEqDiff,outV,ownsV,owns1,ownL,PV.leaves]
  refine pcall_i nN.2 rfl rfl ?_
  simp -implicitDefEqProofs (maxSteps := 2000000) only [c25,↓reduceIte,S0,Nat.reduceEqDiff,Nat.reduceAdd,reduceCtorEq,outV,ownsV,owns1,ownL,PV.leaves,PV.cells,cellL,fillL,Nat.reduceLeDiff]
  refine wcall_s a8 rfl rfl ?_
  simp -implicitDefEqProofs (maxSteps := 2000000) only [c25,↓reduceIte,S0,Nat.reduceEqDiff,reduceCtorEq,St.clr,outV,ownsV,owns1,ownL,PV.leaves]
  refine pcall_i tT rfl rfl ?_
  simp -implicitDefEqProofs (maxSteps := 2000000) only [c25,↓reduceIte,S0,Nat.reduceEqDiff,Nat.reduceAdd,reduceCtorEq,outV,ownsV,owns1,ownL,PV.leaves,PV.cells,cellL,fillL,Nat.reduceLeDiff]
  refine wcall_s a16 rfl rfl ?_
  simp -implicitDefEqProofs (maxSteps := 2000000) only [c25,↓reduceIte,S0,Nat.reduceEqDiff,Nat.reduceAdd,reduceCtorEq,cond_false,St.clr,outV,ownsV,owns1,ownL,PV.leaves,PV.cells,cellL,fillL,ne_eq,Decidable.not_not]
  with_reducible refine ite_pr (fun g1 => ?_) (fun g1 => ?_)
  ·with_reducible refine ite_pr (fun g2 => ?_) (fun g2 => ?_)
   ·refine wcall_s h20 rfl rfl ?_
    simp -implicitDefEqProofs (maxSteps := 2000000) only [c25,↓reduceIte,S0,Nat.reduceEqDiff,Nat.reduceAdd,reduceCtorEq,cond_false,St.clr,outV,ownsV,owns1,ownL,PV.cells,cellL,fillL,ne_eq,ite_not]
    with_reducible refine ite_pr (fun g3 => ?_) (fun g3 => ?_)
    ·rw [if_neg (by
      rintro (g | g | g)
      ·exact Bool.noConfusion (g1.symm.trans g)
      ·exact g (nil_of g2)
      ·exact g (lst_of g3))] at hr
     subst hr
     simp -implicitDefEqProofs (maxSteps := 2000000) only [c25,Fld.ins,Ins.c,↓reduceIte,S0]
     (repeat' (with_reducible refine And.intro ?_ ?_)) <;> rfl
    ·rw [if_pos (.inr (.inr (fun g => g3 (by rw [g]))))] at hr
     subst hr
     simp -implicitDefEqProofs (maxSteps := 2000000) only [c25,zeroI,Ins.c,↓reduceIte,S0]
     done
   ·rw [if_pos (.inr (.inl (fun g => g2 (of_nil g))))] at hr
    subst hr
    simp -implicitDefEqProofs (maxSteps := 2000000) only [c25,zeroI,Ins.c,↓reduceIte,S0]
    done
  ·rw [if_pos (.inl (tt_of g1))] at hr
   subst hr
   simp -implicitDefEqProofs (maxSteps := 2000000) only [c25,zeroI,Ins.c,↓reduceIte,S0]
   done
end Go.Proofs.YthcpaohmajjopaaGreatDoor.I
set_option linter.unusedVariables false
set_option linter.unusedSimpArgs false
namespace Go.Proofs.YthcpaohmajjopaaGreatDoor.I
open Go Go.Proofs Go.Proofs.YthcpaohmajjopaaGreatDoor.AM
variable {X : Cx}
def unlG : Nat → List UInt8 → Nat → List Ins → List Int → List Ins × Int × Int
 | 0, _, _, _, _ => ([], 0, 0)
 | n + 1, l, i, code, pl =>
  if l = [] then chkAns code pl
  else if (readF (cutB 10 l).1 code.length).2 = true ∧ (cutB 10 l).2.isSome = true then
   unlG n ((cutB 10 l).2.getD []) (i + (cutB 10 l).1.length + 1) (code ++ [(readF (cutB 10 l).1 code.length).1]) (pl ++ [(i : Int)])
  else ([], i, 6)
def unlA (s : ByteArray) : List Ins × Int × Int := if 65536 < s.size then ([], 0, 2) else unlG (s.size + 1) s.data.toList 0 [] []
set_option maxHeartbeats 1000000 in
theorem r11 (hX : HY X) (s : ByteArray) (r : List Ins × Int × Int) (hr : unlA s = r) : R X Tryz.prog 11 [.lf (.str s)] []
   (.tp [.lf (.lst .ro 9 (r.1.map Ins.c) []), .ag [.int .i64 r.2.1, .int .i64 r.2.2]]) [] := by
 unfold unlA at hr
 have key : s.size ≤ 65536 → ∀ (n i : Nat) (code : List Ins) (pl : List Int) (ls ps : List (List L)), ls = code.map Ins.c → ps = (pl.map fun x => [L.int .i64 x]) → pl.length = code.length → i ≤ s.size → s.size < i + n → code.length ≤ i → unlG n (s.data.toList.drop i) i code pl = r →
   LoopAt X Tryz.prog c11_13 [0, 3, 4, 5, 6] (blkK 0 (seqK X Tryz.prog c11_17 (retS [] [256] 0 [RV.t 2, RV.c 3 2 true] (PV.tp [PV.lf (L.lst Tag.ro 9 (List.map Ins.c r.fst) []), PV.ag [L.int IntKind.i64 r.snd.fst, L.int IntKind.i64 r.snd.snd]]) [])))
    {m := 0, tm := [(0, PV.lf (L.str s)), (3, PV.lf (L.ptr 3 0)), (4, PV.lf (L.lst (Tag.own 512 42) 9 ls [])), (5, PV.lf (L.lst (Tag.own 640 3) 1 ps [])), (6, PV.lf (L.int IntKind.i64 (i : Int)))],
     ce := [(3, [L.int IntKind.i64 0, L.int IntKind.i64 0])] } := by
  intro hs n
  have hsl : s.data.toList.length = s.size := size_len s
  induction n with
  | zero => intro i code pl ls ps _ _ _ h1 h2; omega
  | succ n ih =>
   intro i code pl ls ps hls hps hpl h1 h2 h3 hu
   unfold unlG at hu
   by_cases hd : s.data.toList.drop i = []
   ·rw [if_pos hd] at hu
    have hi : s.data.toList.length ≤ i := List.drop_eq_nil_iff.1 hd
    have hn : ¬ (i : Int) < s.size := by omega
    intro Z hZ; apply hZ
    simp -implicitDefEqProofs (maxSteps := 2000000) only [c11,hn,↓reduceIte,S0,Nat.reduceEqDiff,reduceCtorEq,PV.leaves]
    subst hls hps
    refine wcall_down (r18 hX.h1 code pl hpl [] []) rfl ?_
    rw [hu]
    simp -implicitDefEqProofs (maxSteps := 2000000) only [c11,↓reduceIte,S0,Nat.reduceEqDiff,Nat.reduceAdd,reduceCtorEq,St.clr,outV,ownsV,owns1,ownL,PV.cells,cellL,fillL,Nat.reduceBEq,true_or]
    done
   ·rw [if_neg hd] at hu
    have hlt : i < s.size := by
     rcases Nat.lt_or_ge i s.size with h | h
     ·exact h
     ·exact absurd (List.drop_eq_nil_iff.2 (by omega)) hd
    have hn : (i : Int) < s.size := by omega
    have hx := ext_drop s i
    have hll : (s.data.toList.drop i).length = s.size - i := by rw [List.length_drop]; omega
    have hdd : ∀ k, (s.data.toList.drop i).drop k = s.data.toList.drop (i + k) := fun k => List.drop_drop
    have hcl := cut_len 10 (s.data.toList.drop i)
    have hix := ix_cut 10 (s.data.toList.drop i)
    generalize s.data.toList.drop i = l at *
    have hz : (⟨l.toArray⟩ : ByteArray).size = l.length := ba_size
    have h24 := r24 (X := X) ⟨l.toArray⟩ (by omega) 10 _ rfl
    have hrest : (cutB 10 l).2.isSome = true → (cutB 10 l).2.getD [] = s.data.toList.drop (i + (cutB 10 l).1.length + 1) := by
     intro hsome
     rcases hix with ⟨_, g⟩ | ⟨k, _, g2, g⟩
     ·rw [g] at hsome; cases hsome
     ·rw [g]
      simp only [Option.getD_some]
      rw [hdd, List.length_take]
      congr 1; omega
    simp only at h24
    generalize cutB 10 l = C at *
    obtain ⟨c1, c2⟩ := C
    simp only at *
    have hc1 : c1.length ≤ l.length := by omega
    have h25 := r25 (X := X) hX c1 (by omega) code.length (by omega) _ rfl
    have hlsl : ls.length = code.length := by rw [hls, List.length_map]
    have hpsl : ps.length = code.length := by rw [hps, List.length_map, hpl]
    generalize readF c1 code.length = A at *
    obtain ⟨x, ok⟩ := A
    simp only at *
    have hcz : (⟨c1.toArray⟩ : ByteArray).size = c1.length := ba_size
    intro Z hZ; apply hZ
    simp -implicitDefEqProofs (maxSteps := 2000000) only [c11,hn,Int.toNat_natCast,hx,↓reduceIte,S0,Option.map_none,Nat.reduceEqDiff,reduceCtorEq,PV.leaves]
    refine ⟨⟨by omega, by omega⟩, ?_⟩
    refine wcall_s h24 rfl rfl ?_
    simp -implicitDefEqProofs (maxSteps := 2000000) only [c11,hlsl,↓reduceIte,S0,Nat.reduceEqDiff,reduceCtorEq,St.clr,outV,ownsV,owns1,ownL,PV.leaves]
    intro _
    refine wcall_s h25 rfl rfl ?_
    by_cases hb : ok = true ∧ c2.isSome = true
    ·rw [if_pos hb] at hu
     have hr := hrest hb.2
     obtain ⟨rfl, hb⟩ := hb
     have wi : IntKind.i64.wrap ((i : Int) + IntKind.i64.wrap ((c1.length : Int) + 1)) = ((i + c1.length + 1 : Nat) : Int) := by
      rw [w64 (x := (c1.length : Int) + 1) (by omega) (by omega), w64 (by omega) (by omega)]; omega
     rw [hb]
     have hc2 : ∃ q, c2 = some q := by cases c2 with | none => cases hb | some q => exact ⟨q, rfl⟩
     obtain ⟨q, rfl⟩ := hc2
     simp only [Option.getD_some] at hr hu
     simp only at hcl
     simp -implicitDefEqProofs (maxSteps := 2000000) only [c11,Ins.c,hcz,wi,↓reduceIte,S0,Nat.reduceEqDiff,Nat.reduceAdd,reduceCtorEq,cond_false,St.clr,outV,ownsV,owns1,ownL,PV.cells,cellL,datL,fillL,Nat.reduceMul,Nat.reduceBEq,Nat.reduceLeDiff,List.range_zero,plT,List.reduceReplicate,List.set_cons_zero,or_false,lp_lk]
     refine ⟨by omega, by omega, ?_⟩
     exact ih (i + c1.length + 1) (code ++ [x]) (pl ++ [(i : Int)]) _ _ (by simp [hls, Ins.c]) (by simp [hps]) (by simp [hpl]) (by omega) (by omega) (by simp; omega) (by rw [← hr]; exact hu) Z hZ
    ·rw [if_neg hb] at hu
     subst hu
     have hk : [256].contains 256 = true := rfl
     cases ok with
     | false =>
      simp -implicitDefEqProofs (maxSteps := 2000000) only [c11,Ins.c,hk,↓reduceIte,S0,Nat.reduceEqDiff,Nat.reduceAdd,reduceCtorEq,St.clr,outV,ownsV,owns1,ownL,PV.cells,cellL,fillL,Nat.reduceMul,Nat.reduceBEq,Nat.reduceLeDiff,plT,ne_eq,true_or]
      done
     | true =>
      have hs : c2.isSome = false := by
       cases h : c2.isSome with
       | false => rfl
       | true => exact absurd ⟨rfl, h⟩ hb
      rw [hs]
      simp -implicitDefEqProofs (maxSteps := 2000000) only [c11,Ins.c,hk,↓reduceIte,S0,Nat.reduceEqDiff,Nat.reduceAdd,reduceCtorEq,cond_false,St.clr,outV,ownsV,owns1,ownL,PV.cells,cellL,fillL,Nat.reduceMul,Nat.reduceBEq,Nat.reduceLeDiff,plT,ne_eq,true_or]
      done
 refine R_i [] [256] c11_ok rfl (by simp) ?_
 simp -implicitDefEqProofs (maxSteps := 2000000) only [c11,↓reduceIte,S0,St.init,enum,Nat.reduceEqDiff,Nat.reduceAdd,reduceCtorEq,PV.cells,cellL,fillL,Nat.reduceMul,Nat.reduceBEq,List.range_zero,plT,ne_eq,true_or]
 with_reducible refine ite_pr (fun h => ?_) (fun h => ?_)
 ·rw [if_pos (by omega)] at hr
  subst hr
  exact ⟨⟨rfl, rfl⟩, rfl, rfl⟩
 rw [if_neg (by omega)] at hr
 exact key (by omega) (s.size + 1) 0 [] [] [] [] rfl rfl rfl (by omega) (by omega) (by simp) hr
end Go.Proofs.YthcpaohmajjopaaGreatDoor.I
set_option linter.unusedVariables false
set_option linter.unusedSimpArgs false
namespace Go.Proofs.YthcpaohmajjopaaGreatDoor.I
open Go Go.Proofs Go.Proofs.YthcpaohmajjopaaGreatDoor.AM
theorem cut_eq (c : UInt8) : ∀ (l r : List UInt8), (cutB c l).2 = some r → l = (cutB c l).1 ++ c :: r
 | [], r, h => by cases h
 | x :: l, r, h => by
  unfold cutB at h ⊢
  by_cases hx : x = c
  ·rw [if_pos hx] at h ⊢
   obtain rfl := Option.some.inj h
   rw [hx]; rfl
  ·rw [if_neg hx] at h ⊢
   have := cut_eq c l r h
   simp only [List.cons_append, List.cons.injEq, true_and]
   exact this
theorem read_law {l : List UInt8} {at_ : Nat} (hat : at_ ≤ 1000000) (h : (readF l at_).2 = true) : lineL at_ (readF l at_).1 = l ∧ (readF l at_).1.ok := by
 unfold readF at h ⊢
 simp only at h ⊢
 split at h
 ·cases h
 rename_i h1
 split at h
 ·cases h
 rename_i h2
 rw [if_neg h1, if_neg h2]
 refine ⟨Decidable.not_not.1 fun g => h2 (.inr (.inr g)), ?_⟩
 have hb := find_bd (wordF (32 :: (cutB 32 l).2.getD []) false).1 20 1 (by omega)
 have hk : ¬ findF (wordF (32 :: (cutB 32 l).2.getD []) false).1 = 0 := fun g => h1 (.inl g)
 unfold findF at hk ⊢
 exact (ins_line (by omega) (by omega) hat _).ok
def linG : Nat → List Ins → List UInt8
 | _, [] => []
 | i, x :: q => (lineL i x ++ [10]) ++ linG (i + 1) q
theorem ls_lin : ∀ (q : List Ins) (i : Nat) (acc : List UInt8), (acc ++ linG i q).length ≤ 65536 → lsG i q acc = acc ++ linG i q
 | [], i, acc, h => by simp [lsG, linG]
 | x :: q, i, acc, h => by
  have e : acc ++ linG i (x :: q) = (acc ++ (lineL i x ++ [10])) ++ linG (i + 1) q := by simp [linG]
  rw [e] at h ⊢
  have h' := h
  simp only [List.length_append] at h'
  unfold lsG
  rw [if_pos (by omega)]
  exact ls_lin q (i + 1) _ h
theorem unl_law : ∀ (n : Nat) (l : List UInt8) (i : Nat) (code : List Ins) (pl : List Int), l.length < n → code.length + l.length ≤ 1000000 → (unlG n l i code pl).2.2 = 0 →
  ∃ add, (unlG n l i code pl).1 = code ++ add ∧ (chk capX (code ++ add)).2 = 0 ∧ l = linG code.length add ∧ ∀ x ∈ add, x.ok
 | 0, l, i, code, pl, h, _, _ => by omega
 | n + 1, l, i, code, pl, h, hc, h0 => by
  unfold unlG at h0 ⊢
  by_cases hl : l = []
  ·rw [if_pos hl] at h0 ⊢
   refine ⟨[], ?_, ?_, ?_, by simp⟩
   ·unfold chkAns at h0 ⊢
    simp only at h0 ⊢
    split
    ·simp
    ·rename_i g
     rw [if_neg g] at h0
     split at h0
     ·exact absurd h0 g
     ·exact absurd h0 g
   ·unfold chkAns at h0
    simp only at h0
    split at h0
    ·rename_i g; simpa using g
    ·rename_i g
     split at h0
     ·exact absurd h0 g
     ·exact absurd h0 g
   ·rw [hl]; rfl
  ·rw [if_neg hl] at h0 ⊢
   by_cases hb : (readF (cutB 10 l).1 code.length).2 = true ∧ (cutB 10 l).2.isSome = true
   ·rw [if_pos hb] at h0 ⊢
    obtain ⟨r, hr⟩ := Option.isSome_iff_exists.1 hb.2
    have he := cut_eq 10 l r hr
    have hlen := congrArg List.length he
    simp only [List.length_append, List.length_cons] at hlen
    obtain ⟨hx, hok⟩ := read_law (l := (cutB 10 l).1) (at_ := code.length) (by omega) hb.1
    rw [hr, Option.getD_some] at h0 ⊢
    obtain ⟨add, e1, e2, e3, e4⟩ := unl_law n r _ _ _ (by omega) (by simp only [List.length_append, List.length_cons, List.length_nil]; omega) h0
    refine ⟨(readF (cutB 10 l).1 code.length).1 :: add, ?_, ?_, ?_, ?_⟩
    ·rw [e1]; simp
    ·rw [← e2]; simp
    ·rw [List.length_append, List.length_cons, List.length_nil] at e3
     rw [linG, hx, ← e3, List.append_assoc]
     exact he
    ·intro x hx
     rcases List.mem_cons.1 hx with rfl | hx
     ·exact hok
     ·exact e4 x hx
   ·rw [if_neg hb] at h0
    exact absurd (show (6 : Int) = 0 from h0) (by decide)
theorem unl_again (s : ByteArray) (h : (unlA s).2.2 = 0) : listA (unlA s).1 = (s, 0) ∧ ∀ x ∈ (unlA s).1, x.ok := by
 unfold unlA at h ⊢
 by_cases hs : 65536 < s.size
 ·rw [if_pos hs] at h; exact absurd (show (2 : Int) = 0 from h) (by decide)
 rw [if_neg hs] at h ⊢
 have hsl : s.data.toList.length = s.size := size_len s
 obtain ⟨add, e1, e2, e3, e4⟩ := unl_law (s.size + 1) s.data.toList 0 [] [] (by omega) (by simp only [List.length_nil]; omega) h
 rw [List.nil_append] at e1 e2
 rw [List.length_nil] at e3
 rw [e1]
 refine ⟨?_, e4⟩
 have hg := ls_lin add 0 [] (by rw [List.nil_append, ← e3]; omega)
 rw [List.nil_append, ← e3] at hg
 unfold listA
 rw [e2, if_neg (by simp), hg, if_neg (by omega)]
end Go.Proofs.YthcpaohmajjopaaGreatDoor.I
set_option linter.unusedVariables false
set_option linter.unusedSimpArgs false
namespace Go.Proofs.YthcpaohmajjopaaGreatDoor.I
open Go Go.Proofs Go.Proofs.YthcpaohmajjopaaGreatDoor.AM
theorem At.nil (b : ByteArray) (p : Nat) : At b p [] := ⟨_, rfl⟩
theorem At.cat {b : ByteArray} {p : Nat} {l1 l2 : List UInt8} (h1 : At b p l1) (h2 : At b (p + l1.length) l2) : At b p (l1 ++ l2) := by
 obtain ⟨q1, h1⟩ := h1
 obtain ⟨q2, h2⟩ := h2
 rw [← List.drop_drop, h1, List.drop_left' rfl] at h2
 exact ⟨q2, by rw [h1, h2, List.append_assoc]⟩
theorem byI_cg {z w : Int} (h : z % 256 = w % 256) : byI z = byI w := by unfold byI; rw [h]
theorem byI_self (y : UInt8) : byI (y.toNat : Int) = y := by
 apply UInt8.toNat.inj
 have := byI_nat (y.toNat : Int)
 have := y.toNat_lt
 omega
theorem at_byte {b : ByteArray} {p : Nat} (h : p < b.size) : At b p [byI (byteAt b (p : Int))] := by
 have hl : p < b.data.toList.length := by rw [size_len]; exact h
 refine ⟨b.data.toList.drop (p + 1), ?_⟩
 rw [List.drop_eq_getElem_cons hl]
 unfold byteAt
 rw [Int.toNat_natCast, List.getD_eq_getElem?_getD, List.getElem?_eq_getElem hl, Option.getD_some, byI_self]
 rfl
theorem gA_again {f : Bool} {b : ByteArray} {p : Nat} (h : (gA f b p false).2.2 = false) : At b p (if f then numB (gA f b p false).1 else []) ∧ (gA f b p false).2.1 = p + (if f then numB (gA f b p false).1 else []).length ∧ -32768 ≤ (gA f b p false).1 ∧ (gA f b p false).1 ≤ 65535 := by
 cases f
 ·exact ⟨At.nil _ _, rfl, by show (-32768 : Int) ≤ 0; decide, by show (0 : Int) ≤ 65535; decide⟩
 ·by_cases hs : p + 2 ≤ b.size
  ·rw [gA_ok false hs]
   have a0 := byteAt_0 b p
   have a1 := byteAt_1 b p
   have b0 := byteAt_0 b ((p : Int) + 1)
   have b1 := byteAt_1 b ((p : Int) + 1)
   have k0 := at_byte (b := b) (p := p) (by omega)
   have k1 := at_byte (b := b) (p := p + 1) (by omega)
   have e : (((p + 1 : Nat)) : Int) = (p : Int) + 1 := by omega
   rw [e] at k1
   have hcat := At.cat k0 (l2 := [byI (byteAt b ((p : Int) + 1))]) k1
   simp only [if_true]
   refine ⟨?_, rfl, ?_, ?_⟩
   ·have e0 : byI (twoF b p / 256) = byI (byteAt b (p : Int)) := byI_cg (by unfold twoF; split <;> omega)
    have e1 : byI (twoF b p) = byI (byteAt b ((p : Int) + 1)) := byI_cg (by unfold twoF; split <;> omega)
    unfold numB
    rw [e0, e1]
    exact hcat
   ·unfold twoF; split <;> omega
   ·unfold twoF; split <;> omega
  ·rw [gA_short false (by omega)] at h; cases h
theorem gB_again {f : Bool} {b : ByteArray} {p : Nat} (h : (gB f b p false).2.2 = false) : At b p (if f then [byI (gB f b p false).1] else []) ∧ (gB f b p false).2.1 = p + (if f then [byI (gB f b p false).1] else []).length ∧ 0 ≤ (gB f b p false).1 ∧ (gB f b p false).1 ≤ 255 := by
 cases f
 ·exact ⟨At.nil _ _, rfl, by show (0 : Int) ≤ 0; decide, by show (0 : Int) ≤ 255; decide⟩
 ·by_cases hs : p + 1 ≤ b.size
  ·rw [gB_ok false hs]
   simp only [if_true]
   exact ⟨at_byte (by omega), rfl, byteAt_0 b _, byteAt_1 b _⟩
  ·rw [gB_short false (by omega)] at h; cases h
theorem gT_again {f : Bool} {b : ByteArray} {p : Nat} (h : (gT f b p false).2.2 = false) : At b p (if f then [byI (gT f b p false).1.size] ++ (gT f b p false).1.data.toList else []) ∧ (gT f b p false).2.1 = p + (if f then [byI (gT f b p false).1.size] ++ (gT f b p false).1.data.toList else []).length ∧ (gT f b p false).1.size ≤ 255 := by
 cases f
 ·exact ⟨At.nil _ _, rfl, by show 0 ≤ 255; decide⟩
 ·by_cases hs : b.size < p + 1 ∨ b.size < p + 1 + (byteAt b (p : Int)).toNat
  ·rw [gT_short false hs] at h; cases h
  ·rw [gT_ok false (by omega)]
   have a0 := byteAt_0 b p
   have a1 := byteAt_1 b p
   have hsz : (b.extract (p + 1) (p + 1 + (byteAt b (p : Int)).toNat)).size = (byteAt b (p : Int)).toNat := by
    rw [ByteArray.size_extract]; omega
   have hl : (b.extract (p + 1) (p + 1 + (byteAt b (p : Int)).toNat)).data.toList.length = (byteAt b (p : Int)).toNat := by rw [size_len, hsz]
   simp only [if_true]
   rw [hsz, Int.toNat_of_nonneg a0]
   refine ⟨At.cat (at_byte (by omega)) ⟨b.data.toList.drop (p + 1 + (byteAt b (p : Int)).toNat), ?_⟩, ?_, by omega⟩
   ·rw [ba_ext, List.drop_take, show p + 1 + (byteAt b (p : Int)).toNat - (p + 1) = (byteAt b (p : Int)).toNat by omega]
    have := List.take_append_drop (byteAt b (p : Int)).toNat (b.data.toList.drop (p + 1))
    rw [List.drop_drop] at this
    exact this.symm
   ·rw [List.length_append, hl]
    simp only [List.length_cons, List.length_nil]
    omega
theorem memb_at {b : ByteArray} {p : Nat} (hp : p + 32 ≤ b.size) : ∀ m, m ≤ 32 → At b p (memB (W (bt b p) 0 8) (W (bt b p) 1 8) (W (bt b p) 2 8) (W (bt b p) 3 8) m)
 | 0, _ => At.nil _ _
 | m + 1, h => by
  rw [memB]
  refine At.cat (memb_at hp m (by omega)) ?_
  rw [memB_len]
  have hk := at_byte (b := b) (p := p + m) (by omega)
  have hw : wd (W (bt b p) 0 8) (W (bt b p) 1 8) (W (bt b p) 2 8) (W (bt b p) 3 8) (m / 8) = W (bt b p) (m / 8) 8 := by
   have : m / 8 = 0 ∨ m / 8 = 1 ∨ m / 8 = 2 ∨ m / 8 = 3 := by omega
   unfold wd
   rcases this with h | h | h | h <;> rw [h] <;> rfl
  obtain ⟨t, ht⟩ := W_split (bt b p) (m / 8) (m % 8) (7 - m % 8)
  rw [show m % 8 + 1 + (7 - m % 8) = 8 by omega, show 8 * (m / 8) + m % 8 = m by omega] at ht
  have e : W (bt b p) (m / 8) 8 / 2 ^ (8 * (m % 8)) % 256 = bt b p m := by
   rw [ht, Nat.add_mul_div_left _ _ (Nat.two_pow_pos _), Nat.div_eq_of_lt (W_lt (bt_lt b p) (m / 8) (m % 8)), Nat.zero_add]
   have := bt_lt b p m
   omega
  rw [hw, e, bt_eq]
  exact hk
theorem gSet_again {f : Bool} {b : ByteArray} {p : Nat} (h : (gSet f b p false).2.2 = false) :
  At b p (if f then memB (gSet f b p false).1.1.toNat (gSet f b p false).1.2.1.toNat (gSet f b p false).1.2.2.1.toNat (gSet f b p false).1.2.2.2.toNat 32 else []) ∧
  (gSet f b p false).2.1 = p + (if f then memB (gSet f b p false).1.1.toNat (gSet f b p false).1.2.1.toNat (gSet f b p false).1.2.2.1.toNat (gSet f b p false).1.2.2.2.toNat 32 else []).length ∧
  (0 ≤ (gSet f b p false).1.1 ∧ (gSet f b p false).1.1 ≤ 18446744073709551615) ∧ (0 ≤ (gSet f b p false).1.2.1 ∧ (gSet f b p false).1.2.1 ≤ 18446744073709551615) ∧ (0 ≤ (gSet f b p false).1.2.2.1 ∧ (gSet f b p false).1.2.2.1 ≤ 18446744073709551615) ∧ (0 ≤ (gSet f b p false).1.2.2.2 ∧ (gSet f b p false).1.2.2.2 ≤ 18446744073709551615) := by
 cases f
 ·refine ⟨At.nil _ _, rfl, ?_, ?_, ?_, ?_⟩ <;> exact ⟨by show (0 : Int) ≤ 0; decide, by show (0 : Int) ≤ 18446744073709551615; decide⟩
 ·by_cases hs : p + 32 ≤ b.size
  ·have hg : gSet true b p false = ((((W (bt b p) 0 8 : Nat) : Int), ((W (bt b p) 1 8 : Nat) : Int), ((W (bt b p) 2 8 : Nat) : Int), ((W (bt b p) 3 8 : Nat) : Int)), p + 32, false) := gS_ok b p hs false 32 0 rfl
   have w0 := W_lt (bt_lt b p) 0 8
   have w1 := W_lt (bt_lt b p) 1 8
   have w2 := W_lt (bt_lt b p) 2 8
   have w3 := W_lt (bt_lt b p) 3 8
   rw [hg]
   simp only [if_true, Int.toNat_natCast, memB_len]
   exact ⟨memb_at hs 32 (Nat.le_refl _), trivial, ⟨by omega, by omega⟩, ⟨by omega, by omega⟩, ⟨by omega, by omega⟩, ⟨by omega, by omega⟩⟩
  ·rw [gSet_short false (by omega)] at h; cases h
theorem bb {f : Bool → Bool} (h1 : f true = true) {s : Bool} (h : f s = false) : s = false := by
 cases s
 ·rfl
 ·rw [h1] at h; cases h
theorem ins_again (f1 f2 f4 f8 f16 : Bool) (h48 : f4 = true → f8 = false) (b : ByteArray) (p : Nat) (hp : p < b.size) (h : (insR (f1 || f2) (f4 || f8) f8 f8 f16 (byteAt b (p : Int)) b (p + 1) false).2.2 = false) :
  At b p (insBF f1 f2 f4 f8 f16 (insR (f1 || f2) (f4 || f8) f8 f8 f16 (byteAt b (p : Int)) b (p + 1) false).1) ∧
  (insR (f1 || f2) (f4 || f8) f8 f8 f16 (byteAt b (p : Int)) b (p + 1) false).2.1 = p + (insBF f1 f2 f4 f8 f16 (insR (f1 || f2) (f4 || f8) f8 f8 f16 (byteAt b (p : Int)) b (p + 1) false).1).length ∧
  (insR (f1 || f2) (f4 || f8) f8 f8 f16 (byteAt b (p : Int)) b (p + 1) false).1.ok := by
 have k0 := at_byte hp
 have op0 := byteAt_0 b p
 have op1 := byteAt_1 b p
 generalize byteAt b (p : Int) = op at *
 unfold insR at h ⊢
 unfold insBF
 simp only at h ⊢
 generalize (f1 || f2) = F at *
 have hA : (gA F b (p + 1) false).2.2 = false := by
  cases hh : (gA F b (p + 1) false).2.2 with
  | false => rfl
  | true => rw [hh, gB_t, gB_t, gT_t, gSet_t] at h; cases h
 have aA := gA_again hA
 rw [hA] at h ⊢
 generalize gA F b (p + 1) false = GA at *
 obtain ⟨A, q1, sA⟩ := GA
 simp only at aA h hA ⊢
 obtain ⟨aA1, aA2, aA3, aA4⟩ := aA
 have k1 : At b p ([byI op] ++ (if F = true then numB A else [])) := At.cat k0 aA1
 have e1 : q1 = p + ([byI op] ++ (if F = true then numB A else [])).length := by rw [aA2, List.length_append]; simp only [List.length_cons, List.length_nil]; omega
 generalize [byI op] ++ (if F = true then numB A else []) = L1 at *
 clear aA1 aA2 hA k0
 have hB : (gB (f4 || f8) b q1 false).2.2 = false := by
  cases hh : (gB (f4 || f8) b q1 false).2.2 with
  | false => rfl
  | true => rw [hh, gB_t, gT_t, gSet_t] at h; cases h
 have aB := gB_again hB
 rw [hB] at h ⊢
 generalize gB (f4 || f8) b q1 false = GB at *
 obtain ⟨B, q2, sB⟩ := GB
 simp only at aB h hB ⊢
 obtain ⟨aB1, aB2, aB3, aB4⟩ := aB
 have hN : (gB f8 b q2 false).2.2 = false := by
  cases hh : (gB f8 b q2 false).2.2 with
  | false => rfl
  | true => rw [hh, gT_t, gSet_t] at h; cases h
 have aN := gB_again hN
 rw [hN] at h ⊢
 generalize gB f8 b q2 false = GN at *
 obtain ⟨N, q3, sN⟩ := GN
 simp only at aN h hN ⊢
 obtain ⟨aN1, aN2, aN3, aN4⟩ := aN
 have hT : (gT f8 b q3 false).2.2 = false := by
  cases hh : (gT f8 b q3 false).2.2 with
  | false => rfl
  | true => rw [hh, gSet_t] at h; cases h
 have aT := gT_again hT
 rw [hT] at h ⊢
 generalize gT f8 b q3 false = GT at *
 obtain ⟨T, q4, sT⟩ := GT
 simp only at aT h hT ⊢
 obtain ⟨aT1, aT2, aT3⟩ := aT
 have aS := gSet_again h
 generalize gSet f16 b q4 false = GS at *
 obtain ⟨⟨S0, S1, S2, S3⟩, q5, sS⟩ := GS
 simp only at aS h ⊢
 obtain ⟨aS1, aS2, aS3, aS4, aS5, aS6⟩ := aS
 have k2 : At b p (L1 ++ (if f4 = true then [byI B] else []) ++ (if f8 = true then [byI B, byI N, byI T.size] ++ T.data.toList else [])) ∧ q4 = p + (L1 ++ (if f4 = true then [byI B] else []) ++ (if f8 = true then [byI B, byI N, byI T.size] ++ T.data.toList else [])).length := by
  cases f8
  ·simp only [Bool.or_false, Bool.false_eq_true, if_false, List.length_nil, Nat.add_zero, List.append_nil] at *
   rw [aT2, aN2, aB2, e1] at *
   refine ⟨At.cat k1 aB1, by rw [List.length_append]; omega⟩
  ·have h4 : f4 = false := by
    cases f4
    ·rfl
    ·exact absurd (h48 rfl) (by decide)
   subst h4
   simp only [Bool.or_true, Bool.false_eq_true, if_false, if_true, List.append_nil, List.length_append, List.length_cons, List.length_nil] at *
   refine ⟨?_, by omega⟩
   have l1 := At.cat aN1 (by rw [show q2 + [byI N].length = q3 from aN2.symm]; exact aT1)
   have l2 := At.cat aB1 (by rw [show q1 + [byI B].length = q2 from aB2.symm]; exact l1)
   rw [e1] at l2
   exact At.cat k1 l2
 obtain ⟨k2, e2⟩ := k2
 generalize L1 ++ (if f4 = true then [byI B] else []) ++ (if f8 = true then [byI B, byI N, byI T.size] ++ T.data.toList else []) = L2 at *
 rw [e2] at aS1 aS2
 refine ⟨At.cat k2 aS1, by rw [List.length_append]; omega, ⟨by show _ ≤ op; omega, by show op ≤ _; omega⟩, ⟨by show _ ≤ A; omega, by show A ≤ _; omega⟩, ⟨by show _ ≤ B; omega, by show B ≤ _; omega⟩, ⟨by show _ ≤ N; omega, by show N ≤ _; omega⟩, by show T.size ≤ _; omega, aS3, aS4, aS5, aS6⟩
theorem insK_again {b : ByteArray} {p : Nat} (hp : p < b.size) (h1 : 1 ≤ byteAt b (p : Int)) (h2 : byteAt b (p : Int) ≤ 20) (h : (insK b p).2.2 = false) : At b p (insB (insK b p).1) ∧ (insK b p).2.1 = p + (insB (insK b p).1).length ∧ (insK b p).1.ok := by
 obtain ⟨hk, ek⟩ := byte_k b p
 obtain ⟨g1, g2, g4, g8, g16, g48⟩ := flags_tab ⟨(byteAt b (p : Int)).toNat, by omega⟩ (by show 1 ≤ (byteAt b (p : Int)).toNat; omega)
 simp only at g1 g2 g4 g8 g16 g48
 unfold insK at h ⊢
 rw [g1, g2, g4, g8, g16, ek] at h ⊢
 have := ins_again _ _ _ _ _ g48 b p hp h
 unfold insB
 exact this
theorem rd_again {b : ByteArray} : ∀ (m p : Nat) (code : List Ins) (pl : List Int), p ≤ b.size → (rd b m p code pl).2.2 = 0 → ∃ add, (rd b m p code pl).1 = code ++ add ∧ add.length = m ∧ At b p (add.flatMap insB) ∧ p + (add.flatMap insB).length = b.size ∧ (chk capX (code ++ add)).2 = 0 ∧ ∀ x ∈ add, x.ok
 | 0, p, code, pl, hp, h => by
  unfold rd at h ⊢
  by_cases hlt : p < b.size
  ·rw [if_pos hlt] at h; exact absurd (show (164 : Int) = 0 from h) (by decide)
  rw [if_neg hlt] at h ⊢
  unfold chkAns at h ⊢
  simp only at h ⊢
  split at h
  ·rename_i g
   rw [if_pos g]
   exact ⟨[], by simp, rfl, At.nil _ _, by simp; omega, by simpa using g, by simp⟩
  ·rename_i g
   split at h
   ·exact absurd h g
   ·exact absurd h g
 | m + 1, p, code, pl, hp, h => by
  unfold rd at h ⊢
  by_cases h1 : b.size ≤ p
  ·rw [if_pos h1] at h; exact absurd (show (164 : Int) = 0 from h) (by decide)
  rw [if_neg h1] at h ⊢
  by_cases h2 : byteAt b p < 1 ∨ 20 < byteAt b p
  ·rw [if_pos h2] at h; exact absurd (show (164 : Int) = 0 from h) (by decide)
  rw [if_neg h2] at h ⊢
  cases h3 : (insK b p).2.2 with
  | true => rw [h3, if_pos rfl] at h; exact absurd (show (164 : Int) = 0 from h) (by decide)
  | false =>
   rw [h3, if_neg (by decide)] at h
   rw [if_neg (by decide)]
   obtain ⟨a1, a2, a3⟩ := insK_again (by omega) (by omega) (by omega) h3
   have hle : (insK b p).2.1 ≤ b.size := by unfold insK; exact insR_le (by omega)
   obtain ⟨add, e1, e2, e3, e4, e5, e6⟩ := rd_again m _ _ _ hle h
   refine ⟨(insK b p).1 :: add, by rw [e1]; simp, by simp [e2], ?_, ?_, by rw [← e5]; simp, ?_⟩
   ·rw [List.flatMap_cons]
    exact At.cat a1 (by rw [← a2]; exact e3)
   ·rw [List.flatMap_cons, List.length_append]; omega
   ·intro x hx
    rcases List.mem_cons.1 hx with rfl | hx
    ·exact a3
    ·exact e6 x hx
theorem go_all : ∀ (q : List Ins) (acc : List UInt8), (acc ++ q.flatMap insB).length ≤ 1048576 → goB q acc = acc ++ q.flatMap insB
 | [], acc, _ => by simp [goB]
 | x :: q, acc, h => by
  rw [List.flatMap_cons, ← List.append_assoc] at h ⊢
  have h' := h
  simp only [List.length_append] at h'
  unfold goB
  rw [if_pos (by omega)]
  exact go_all q _ h
theorem read_again (b : ByteArray) (h : (readA b).2.2 = 0) : bytesA (readA b).1 = (b, 0) ∧ ∀ x ∈ (readA b).1, x.ok := by
 unfold readA at h ⊢
 by_cases h1 : 1048576 < b.size
 ·rw [if_pos h1] at h; exact absurd (show (2 : Int) = 0 from h) (by decide)
 rw [if_neg h1] at h ⊢
 by_cases h2 : b.size < 2
 ·rw [if_pos h2] at h; exact absurd (show (164 : Int) = 0 from h) (by decide)
 rw [if_neg h2] at h ⊢
 obtain ⟨add, e1, e2, e3, e4, e5, e6⟩ := rd_again _ 2 [] [] (by omega) h
 rw [List.nil_append] at e1 e5
 rw [e1]
 refine ⟨?_, e6⟩
 have hc := cntR_eq (b := b) (by omega)
 have a0 := byteAt_0 b 0
 have a1 := byteAt_1 b 0
 have b0 := byteAt_0 b 1
 have b1 := byteAt_1 b 1
 have hn : (add.length : Int) = byteAt b 0 * 256 + byteAt b 1 := by rw [e2, hc]; omega
 have hat : At b 0 (numB add.length) := by
  have k0 := at_byte (b := b) (p := 0) (by omega)
  have k1 := at_byte (b := b) (p := 0 + 1) (by omega)
  have g0 : byI ((add.length : Int) / 256) = byI (byteAt b ((0 : Nat) : Int)) := byI_cg (by rw [hn]; simp only [Int.natCast_zero]; omega)
  have g1 : byI (add.length : Int) = byI (byteAt b ((0 + 1 : Nat) : Int)) := byI_cg (by rw [hn]; simp only [Nat.zero_add, Int.natCast_one]; omega)
  unfold numB
  rw [g0, g1]
  exact At.cat k0 k1
 have hall := At.cat hat (show At b (0 + (numB add.length).length) (add.flatMap insB) from e3)
 have hlen : (numB (add.length : Int) ++ add.flatMap insB).length = b.size := by rw [List.length_append]; exact e4
 have hg := go_all add (numB add.length) (by omega)
 unfold bytesA
 rw [e5, if_neg (by simp), hg, if_neg (by omega)]
 have hb : numB (add.length : Int) ++ add.flatMap insB = b.data.toList := by
  obtain ⟨post, hp⟩ := hall
  rw [List.drop_zero] at hp
  have hl := congrArg List.length hp
  rw [List.length_append, hlen, size_len] at hl
  have : post = [] := List.length_eq_zero_iff.1 (by omega)
  rw [this, List.append_nil] at hp
  exact hp.symm
 rw [hb]
end Go.Proofs.YthcpaohmajjopaaGreatDoor.I
set_option linter.unusedVariables false
set_option linter.unusedSimpArgs false
namespace Go.Proofs.YthcpaohmajjopaaGreatDoor.I
open Go Go.Proofs Go.Proofs.YthcpaohmajjopaaGreatDoor.AM
def Blk (m : List UInt8) : Prop := m = [] ∨ ∃ r, m = 32 :: r
theorem Blk.app {a b : List UInt8} (ha : Blk a) (hb : Blk b) : Blk (a ++ b) := by
 rcases ha with rfl | ⟨r, rfl⟩
 ·exact hb
 ·exact .inr ⟨r ++ b, rfl⟩
theorem Blk.one (r : List UInt8) : Blk ([32] ++ r) := .inr ⟨r, rfl⟩
end Go.Proofs.YthcpaohmajjopaaGreatDoor.I
