/- Contracts, part S6. -/
import Derived.Shelf.Strings.Repeat
import Derived.Shelf.Strings.Fields
import Derived.Below
import Derived.Test.YtdoefdmaecaacaaDoorProg
import Derived.Test.YtdoefdmaecaacaaDoorS3
import Derived.Test.YtdoefdmaecaacaaDoorS1
import Derived.Test.YtdoefdmaecaacaaDoorS4
import Derived.Test.YtdoefdmaecaacaaDoorS5
namespace Go.Proofs.YtdoefdmaecaacaaDoor.SL
open Go Go.Shelf Go.Proofs Go.RowKit Go.Lib
def lays105_ren : Go.Shelf.Ren := ⟨fun | 105 => 42 | 212 => 58 | 99 => 59 | 165 => 60 | 166 => 27 | 170 => 26 | 169 => 34 | 263 => 81 | 264 => 82 | 206 => 83 | 240 => 45 | 241 => 84 | 276 => 63 | 277 => 97 | n => n, fun | 9 => 9 | 3 => 3 | 4 => 4 | 20 => 20 | 0 => 0 | 46 => 105 | 109 => 106 | 5 => 5 | 72 => 44 | 76 => 66 | 51 => 124 | 146 => 125 | 53 => 54 | 148 => 127 | 70 => 41 | 37 => 42 | 75 => 65 | 127 => 96 | 164 => 112 | 80 => 77 | n => n, fun | n => n⟩
theorem lays105 : Go.Proofs.Lays.n105 Tryd.prog lays105_ren := {
  mixed := by kernel_rfl
  f99 := Tryd.func59.trans (congrArg some (by kernel_rfl))
  f105 := Tryd.func42.trans (congrArg some (by kernel_rfl))
  f165 := Tryd.func60.trans (congrArg some (by kernel_rfl))
  f166 := Tryd.func27.trans (congrArg some (by kernel_rfl))
  f169 := Tryd.func34.trans (congrArg some (by kernel_rfl))
  f170 := Tryd.func26.trans (congrArg some (by kernel_rfl))
  f206 := Tryd.func83.trans (congrArg some (by kernel_rfl))
  f212 := Tryd.func58.trans (congrArg some (by kernel_rfl))
  f240 := Tryd.func45.trans (congrArg some (by kernel_rfl))
  f241 := Tryd.func84.trans (congrArg some (by kernel_rfl))
  f263 := Tryd.func81.trans (congrArg some (by kernel_rfl))
  f264 := Tryd.func82.trans (congrArg some (by kernel_rfl))
  f276 := Tryd.func63.trans (congrArg some (by kernel_rfl))
  f277 := Tryd.func97.trans (congrArg some (by kernel_rfl))
  t0 := Tryd.underlying0
  a0 := Tryd.isAgg0
  z0 := Tryd.sizeOf0
  v0 := Tryd.zeroValue0
  t3 := Tryd.underlying3
  a3 := Tryd.isAgg3
  z3 := Tryd.sizeOf3
  v3 := Tryd.zeroValue3
  t4 := Tryd.underlying4
  a4 := Tryd.isAgg4
  z4 := Tryd.sizeOf4
  v4 := Tryd.zeroValue4
  t5 := Tryd.underlying5
  a5 := Tryd.isAgg5
  z5 := Tryd.sizeOf5
  v5 := Tryd.zeroValue5
  t9 := Tryd.underlying9
  a9 := Tryd.isAgg9
  z9 := Tryd.sizeOf9
  v9 := Tryd.zeroValue9
  t20 := Tryd.underlying20
  a20 := Tryd.isAgg20
  z20 := Tryd.sizeOf20
  v20 := Tryd.zeroValue20
  t37 := Tryd.underlying42
  a37 := Tryd.isAgg42
  z37 := Tryd.sizeOf42
  v37 := Tryd.zeroValue42
  t46 := Tryd.underlying105
  a46 := Tryd.isAgg105
  z46 := Tryd.sizeOf105
  v46 := Tryd.zeroValue105
  t51 := Tryd.underlying124
  a51 := Tryd.isAgg124
  z51 := Tryd.sizeOf124
  v51 := Tryd.zeroValue124
  t53 := Tryd.underlying54
  a53 := Tryd.isAgg54
  z53 := Tryd.sizeOf54
  v53 := Tryd.zeroValue54
  t70 := Tryd.underlying41
  a70 := Tryd.isAgg41
  z70 := Tryd.sizeOf41
  v70 := Tryd.zeroValue41
  t72 := Tryd.underlying44
  a72 := Tryd.isAgg44
  z72 := Tryd.sizeOf44
  v72 := Tryd.zeroValue44
  t75 := Tryd.underlying65
  a75 := Tryd.isAgg65
  z75 := Tryd.sizeOf65
  v75 := Tryd.zeroValue65
  t76 := Tryd.underlying66
  a76 := Tryd.isAgg66
  z76 := Tryd.sizeOf66
  v76 := Tryd.zeroValue66
  t109 := Tryd.underlying106
  a109 := Tryd.isAgg106
  z109 := Tryd.sizeOf106
  v109 := Tryd.zeroValue106
  t127 := Tryd.underlying96
  a127 := Tryd.isAgg96
  z127 := Tryd.sizeOf96
  v127 := Tryd.zeroValue96
  t146 := Tryd.underlying125
  a146 := Tryd.isAgg125
  z146 := Tryd.sizeOf125
  v146 := Tryd.zeroValue125
  t148 := Tryd.underlying127
  a148 := Tryd.isAgg127
  z148 := Tryd.sizeOf127
  v148 := Tryd.zeroValue127
  t164 := Tryd.underlying112
  a164 := Tryd.isAgg112
  z164 := Tryd.sizeOf112
  v164 := Tryd.zeroValue112 }
theorem bx105 : Builder.Extra Tryd.prog lays105_ren := {
  sizeBuilder := by kernel_rfl
  liesBuilder := by kernel_rfl
  t5 := Tryd.underlying5
  a5 := Tryd.isAgg5
  z5 := Tryd.sizeOf5
  v5 := Tryd.zeroValue5
  infoByte := by kernel_rfl
  cellsByte := by kernel_rfl
  sizeByte := by kernel_rfl
  neB5 := by decide }
theorem rep42 (s : ByteArray) (c : Nat) (w : World) (hc : c ≤ 9223372036854775807) (hlen : s.size * c ≤ 140737488355328) :
    Calls Tryd.prog 42 #[.string s, .int .i64 c] w fun e w' => e = .returned (.string ⟨(Lib.repeatL s.data.toList c).toArray⟩) ∧ Below w.heap.size w w' := Any.strings_Repeat lays105 bx105 s c w hc hlen
def lays157_ren : Go.Shelf.Ren := ⟨fun | 157 => 61 | 229 => 85 | 199 => 86 | 261 => 98 | 311 => 106 | 312 => 107 | n => n, fun | 9 => 9 | 31 => 110 | 3 => 3 | 5 => 5 | 4 => 4 | 119 => 129 | 0 => 0 | 40 => 131 | 152 => 137 | 21 => 21 | 154 => 139 | 51 => 124 | 141 => 141 | 196 => 151 | 193 => 148 | 198 => 154 | 49 => 152 | 194 => 149 | 201 => 157 | 226 => 163 | 46 => 105 | 227 => 164 | n => n, fun | 0 => 0 | 6 => 1 | n => n⟩
theorem lays157 : Go.Proofs.Lays.n157 Tryd.prog lays157_ren := {
  mixed := by kernel_rfl
  f157 := Tryd.func61.trans (congrArg some (by kernel_rfl))
  f199 := Tryd.func86.trans (congrArg some (by kernel_rfl))
  f229 := Tryd.func85.trans (congrArg some (by kernel_rfl))
  f261 := Tryd.func98.trans (congrArg some (by kernel_rfl))
  f311 := Tryd.func106.trans (congrArg some (by kernel_rfl))
  f312 := Tryd.func107.trans (congrArg some (by kernel_rfl))
  t0 := Tryd.underlying0
  a0 := Tryd.isAgg0
  z0 := Tryd.sizeOf0
  v0 := Tryd.zeroValue0
  t3 := Tryd.underlying3
  a3 := Tryd.isAgg3
  z3 := Tryd.sizeOf3
  v3 := Tryd.zeroValue3
  t4 := Tryd.underlying4
  a4 := Tryd.isAgg4
  z4 := Tryd.sizeOf4
  v4 := Tryd.zeroValue4
  t5 := Tryd.underlying5
  a5 := Tryd.isAgg5
  z5 := Tryd.sizeOf5
  v5 := Tryd.zeroValue5
  t9 := Tryd.underlying9
  a9 := Tryd.isAgg9
  z9 := Tryd.sizeOf9
  v9 := Tryd.zeroValue9
  t21 := Tryd.underlying21
  a21 := Tryd.isAgg21
  z21 := Tryd.sizeOf21
  v21 := Tryd.zeroValue21
  t31 := Tryd.underlying110
  a31 := Tryd.isAgg110
  z31 := Tryd.sizeOf110
  v31 := Tryd.zeroValue110
  t40 := Tryd.underlying131
  a40 := Tryd.isAgg131
  z40 := Tryd.sizeOf131
  v40 := Tryd.zeroValue131
  t46 := Tryd.underlying105
  a46 := Tryd.isAgg105
  z46 := Tryd.sizeOf105
  v46 := Tryd.zeroValue105
  t49 := Tryd.underlying152
  a49 := Tryd.isAgg152
  z49 := Tryd.sizeOf152
  v49 := Tryd.zeroValue152
  t51 := Tryd.underlying124
  a51 := Tryd.isAgg124
  z51 := Tryd.sizeOf124
  v51 := Tryd.zeroValue124
  t119 := Tryd.underlying129
  a119 := Tryd.isAgg129
  z119 := Tryd.sizeOf129
  t141 := Tryd.underlying141
  a141 := Tryd.isAgg141
  z141 := Tryd.sizeOf141
  v141 := Tryd.zeroValue141
  t152 := Tryd.underlying137
  a152 := Tryd.isAgg137
  z152 := Tryd.sizeOf137
  v152 := Tryd.zeroValue137
  t154 := Tryd.underlying139
  a154 := Tryd.isAgg139
  z154 := Tryd.sizeOf139
  v154 := Tryd.zeroValue139
  t193 := Tryd.underlying148
  a193 := Tryd.isAgg148
  z193 := Tryd.sizeOf148
  v193 := Tryd.zeroValue148
  t194 := Tryd.underlying149
  a194 := Tryd.isAgg149
  z194 := Tryd.sizeOf149
  v194 := Tryd.zeroValue149
  t196 := Tryd.underlying151
  a196 := Tryd.isAgg151
  z196 := Tryd.sizeOf151
  v196 := Tryd.zeroValue151
  t198 := Tryd.underlying154
  a198 := Tryd.isAgg154
  z198 := Tryd.sizeOf154
  v198 := Tryd.zeroValue154
  t201 := Tryd.underlying157
  a201 := Tryd.isAgg157
  z201 := Tryd.sizeOf157
  v201 := Tryd.zeroValue157
  t226 := Tryd.underlying163
  a226 := Tryd.isAgg163
  z226 := Tryd.sizeOf163
  v226 := Tryd.zeroValue163
  t227 := Tryd.underlying164
  a227 := Tryd.isAgg164
  z227 := Tryd.sizeOf164
  v227 := Tryd.zeroValue164
  g0 := by kernel_rfl
  g6 := by kernel_rfl }
theorem fields61 (s : ByteArray) (w : World) (hs : s.size < 4294967281) (hascii : ∀ (j : Nat) b, s.data.toList[j]? = some b → b.toNat < 128) (htab : Lib.TabIs Tryd.prog w "strings.asciiSpace" .u8 Lib.asciiSpaceTab) :
    Calls Tryd.prog 61 #[.string s] w fun e w' =>
      e = .returned (.slice (some ⟨w.heap.size, 0, none⟩) (Lib.fields s.data.toList).length (Lib.fields s.data.toList).length) ∧ w' = w.alloc (.cells ((Lib.fields s.data.toList).map fun l => Value.string ⟨l.toArray⟩).toArray 9) := Any.strings_Fields lays157 (by kernel_rfl) (by kernel_rfl) s w hs hascii htab
end Go.Proofs.YtdoefdmaecaacaaDoor.SL
set_option linter.unusedVariables false
set_option linter.unusedSimpArgs false
namespace Go.Proofs.YtdoefdmaecaacaaDoor.SL
open Go Go.Proofs.YtdoefdmaecaacaaDoor.AM Go.Proofs Go.Proofs.YtdoefdmaecaacaaDoor.S
variable {X : Cx}
def asciiL : List L := Lib.asciiSpaceTab.map fun n => .int .u8 n
theorem asc_var : Tryd.prog.globalNamed "strings.asciiSpace" = some 0 := by kernel_rfl
theorem var_of_cells {w : World} {n : String} {g : Nat} {k : IntKind} {zs : List Int} (hg : Tryd.prog.globalNamed n = some g) (h0 : 0 < zs.length) (hend : w.cell? ⟨g, zs.length, none⟩ = none) (hc : ∀ j z, zs[j]? = some z → w.cell? ⟨g, j, none⟩ = some (Value.int k z)) : w.var? Tryd.prog n = some (zs.map fun z => Value.int k z).toArray := by
  have c0 := hc 0 zs[0] (List.getElem?_eq_getElem h0)
  unfold World.var?
  rw [hg, Option.bind_some]
  cases hh : w.heap[g]? with
  | none => simp [World.cell?, hh] at c0
  | some o =>
    cases o <;> simp [World.cell?, hh] at c0
    rename_i cs e f
    have hall : ∀ j z, zs[j]? = some z → cs[j]? = some (Value.int k z) := fun j z hz => by
      have := hc j z hz
      rwa [cell_of_cells hh] at this
    have hend' : cs[zs.length]? = none := by rwa [cell_of_cells hh] at hend
    simp only [Option.some.injEq]
    apply Array.ext_getElem?
    intro i
    by_cases hi : i < zs.length
    · rw [hall i zs[i] (List.getElem?_eq_getElem hi)]
      simp [hi]
    · rw [Array.getElem?_eq_none (by have := Array.getElem?_eq_none_iff.1 hend'; omega), Array.getElem?_eq_none (by simp; omega)]
theorem asc_tab (hX : X.G 0 = some asciiL) {E : Env} {w : World} (h : CxOK X E w) : Lib.TabIs Tryd.prog w "strings.asciiSpace" .u8 Lib.asciiSpaceTab := by
  obtain ⟨_, hlt, hend, hc⟩ := h 0 _ hX
  rw [asciiL, List.length_map] at hend
  refine var_of_cells asc_var (by decide +kernel) hend (fun j z hz => ?_)
  obtain ⟨u, h1, h2⟩ := hc j (.int .u8 z) (by rw [asciiL, List.getElem?_map, hz]; rfl)
  cases h2
  exact h1
def sps (n : Nat) : ByteArray := ⟨(List.replicate n 32).toArray⟩
theorem rep_sp : ∀ n : Nat, Lib.repeatL [32] n = List.replicate n 32
  | 0 => rfl
  | n + 1 => by rw [Lib.repeatL, rep_sp n]; rfl
theorem r42 (n : Nat) (hn : n ≤ 1000000) : R X Tryd.prog 42 [.lf (.str ⟨#[32]⟩), .lf (.int .i64 n)] [] (.lf (.str (sps n))) [] := by
  refine R_grow rfl fun E w vs hC ha => ?_
  cases ha with
  | cons a1 a2 =>
    cases a2 with
    | cons a2 a3 =>
      cases a3
      cases a1
      cases a2
      have e1 : (⟨#[32]⟩ : ByteArray).size = 1 := rfl
      refine (rep42 ⟨#[32]⟩ n w (by omega) (by rw [e1]; omega)).mono ?_
      rintro e w' ⟨rfl, hB⟩
      have e2 : (⟨#[32]⟩ : ByteArray).data.toList = [32] := rfl
      rw [e2, rep_sp]
      exact ⟨rfl, hB.os, hB.tape, hB.output, hB.size, fun k hk _ => hB.block k hk⟩
def wordsL : List (List UInt8) := [[110, 111, 110, 101], [101, 109, 112, 116, 121], [102, 97, 105, 108], [97, 110, 121], [116, 101, 120, 116], [115, 101, 116], [99, 97, 108, 108], [115, 101, 113], [99, 104, 111, 105, 99, 101], [115, 116, 97, 114], [112, 108, 117, 115], [111, 112, 116], [97, 110, 100], [110, 111, 116], [116, 105, 109, 101, 115], [108, 101, 97, 115, 116], [109, 111, 115, 116], [112, 108, 97, 99, 101], [115, 117, 98], [103, 114, 111, 117, 112], [108, 105, 115, 116], [115, 117, 98, 115, 116], [115, 116, 114, 105, 110, 103], [112, 105, 99, 107]]
abbrev wordsT : ByteArray := ⟨#[110, 111, 110, 101, 32, 101, 109, 112, 116, 121, 32, 102, 97, 105, 108, 32, 97, 110, 121, 32, 116, 101, 120, 116, 32, 115, 101, 116, 32, 99, 97, 108, 108, 32, 115, 101, 113, 32, 99, 104, 111, 105, 99, 101, 32, 115, 116, 97, 114, 32, 112, 108, 117, 115, 32, 111, 112, 116, 32, 97, 110, 100, 32, 110, 111, 116, 32, 116, 105, 109, 101, 115, 32, 108, 101, 97, 115, 116, 32, 109, 111, 115, 116, 32, 112, 108, 97, 99, 101, 32, 115, 117, 98, 32, 103, 114, 111, 117, 112, 32, 108, 105, 115, 116, 32, 115, 117, 98, 115, 116, 32, 115, 116, 114, 105, 110, 103, 32, 112, 105, 99, 107]⟩
theorem words_f : Lib.fields wordsT.data.toList = wordsL := by decide +kernel
def wordR (l : List UInt8) : List L := [.str ⟨l.toArray⟩]
theorem r61 (hX : X.G 0 = some asciiL) : R X Tryd.prog 61 [.lf (.str wordsT)] [] (.lf (.lst (.own 0 9) 1 (wordsL.map wordR) [])) [] := by
  intro E w vs hC hI _ hargs _
  cases hargs with
  | cons a1 a2 =>
    cases a2
    cases a1
    have hasc : ∀ (j : Nat) (b : UInt8), wordsT.data.toList[j]? = some b → b.toNat < 128 := by
      have : ∀ b ∈ wordsT.data.toList, b.toNat < 128 := by decide +kernel
      exact fun j b hb => this b (List.mem_of_getElem? hb)
    refine (fields61 wordsT w (by decide +kernel) hasc (asc_tab hX hC)).mono ?_
    rintro e w' ⟨rfl, rfl⟩
    rw [words_f]
    have hU : Unch (fun _ => False) w (w.alloc (.cells (wordsL.map fun l => Value.string ⟨l.toArray⟩).toArray 9)) :=
      ⟨rfl, rfl, rfl, by simp, fun b hb _ => (Go.RowKit.Below.refl w.heap.size w).alloc (Nat.le_refl _) _ |>.block b hb⟩
    have hh := World.alloc_heap_new w (.cells (wordsL.map fun l => Value.string ⟨l.toArray⟩).toArray 9)
    refine ⟨_, E.own 0 w.heap.size, rfl, (own_step hI hU (Nat.le_refl _) (by simp)).1, ⟨some ⟨w.heap.size, 0, none⟩, wordsL.length, by simp, .inr ⟨w.heap.size, _, rfl, by simp [Env.own, upd], hh, ?_, ?_, ?_, ?_⟩⟩, fun c cs h => by simp at h⟩
    · simp
    · decide
    · simp
    · intro i x hx
      rw [List.append_nil, List.getElem?_map] at hx
      obtain ⟨p, hp, rfl⟩ := Option.map_eq_some_iff.1 hx
      refine ⟨rfl, fun j c hj => ?_⟩
      match j, hj with
      | 0, hj => simp [wordR] at hj; subst hj; exact ⟨_, by simp [hp], .str _⟩
      | j + 1, hj => simp [wordR] at hj
def wordF (op : Int) : ByteArray := ⟨(wordsL.getD op.toNat []).toArray⟩
theorem r43 (hX : X.G 0 = some asciiL) (op : Int) (h0 : 0 ≤ op) (h1 : op ≤ 23) : R X Tryd.prog 43 [.lf (.int .i64 op)] [] (.lf (.str (wordF op))) [] := by
  refine R_i [] [] c43_ok rfl (by simp) ?_
  have h61 := r61 hX
  have hl : (wordsL.map wordR).length = 24 := rfl
  have hx : (wordsL.map wordR).getD op.toNat [] = [.str (wordF op)] := by
    have : op.toNat < wordsL.length := by show op.toNat < 24; omega
    rw [List.getD_eq_getElem?_getD, List.getElem?_map, List.getElem?_eq_getElem this]
    unfold wordF
    rw [List.getD_eq_getElem?_getD, List.getElem?_eq_getElem this]
    rfl
  generalize wordsL.map wordR = ws at *
  simp -implicitDefEqProofs (maxSteps := 2000000) only [c43, ↓reduceIte, S0, St.init, enum, reduceCtorEq, PV.leaves]
  refine wcall_down h61 rfl ?_
  simp -implicitDefEqProofs (maxSteps := 2000000) only [c43, v_ld_e, hx, hl, ↓reduceIte, S0, Nat.reduceEqDiff, Nat.reduceAdd, reduceCtorEq, St.clr, outV, ownsV, owns1, ownL, Nat.reduceMul, kps_i, ol_lo, plT]
  exact ⟨⟨by omega, by omega⟩, by omega⟩
end Go.Proofs.YtdoefdmaecaacaaDoor.SL
set_option linter.unusedVariables false
set_option linter.unusedSimpArgs false
namespace Go.Proofs.YtdoefdmaecaacaaDoor.S
open Go Go.Proofs.YtdoefdmaecaacaaDoor.AM Go.Proofs
variable {X : Cx}
def Tr.kids : Tr → List Tr
  | .l0 _ => []
  | .l1 _ a => [a]
  | .l2 _ a b => [a, b]
theorem tr_ck (t : Tr) : t.c = t.x.c ++ [.lst .ro 1 (t.kids.map Tr.r) []] := by cases t <;> rfl
section
variable (T : Txt X)
def lnS (x : Nd) (s : ByteArray) : ByteArray :=
  if x.op = 4 ∨ x.op = 22 then s ++ (⟨#[32]⟩ ++ T.lit x.t) else if x.op = 5 then s ++ (⟨#[32]⟩ ++ T.set x.s0 x.s1 x.s2 x.s3) else if x.op = 6 then s ++ (⟨#[32]⟩ ++ x.t)
  else if x.op = 19 then (if x.t = ⟨#[]⟩ then s else s ++ (⟨#[32]⟩ ++ x.t)) else if x.op = 14 ∨ x.op = 15 ∨ x.op = 16 ∨ x.op = 23 then s ++ (⟨#[32]⟩ ++ T.dec x.n) else s
def lnT (x : Nd) (i : Nat) : ByteArray := lnS T x (SL.sps i ++ SL.wordF x.op) ++ ⟨#[10]⟩
def linesT : Tr → Nat → List ByteArray
  | .l0 x, i => [lnT T x i]
  | .l1 x a, i => lnT T x i :: linesT a (i + 2)
  | .l2 x a b, i => lnT T x i :: (linesT a (i + 2) ++ linesT b (i + 2))
theorem linesT_k (t : Tr) (i : Nat) : linesT T t i = lnT T t.x i :: t.kids.flatMap fun a => linesT T a (i + 2) := by cases t <;> simp [linesT, Tr.kids, Tr.x]
end
def LinOK (T : Txt X) (t : Tr) (i : Nat) : Prop := ∀ w : W, w.ok → R X Tryd.prog 23 [bt, .lf (.rp t.c 0), .lf (.int .i64 i)] [w.c] (.tp []) [(putsW (linesT T t i) w).c]
theorem lin_long (T : Txt X) (t : Tr) (i : Nat) (w : W) (hw : w.ok) (hg : w.g = true) : R X Tryd.prog 23 [bt, .lf (.rp t.c 0), .lf (.int .i64 i)] [w.c] (.tp []) [(putsW (linesT T t i) w).c] := by
  rw [putsW_g _ _ hg]
  obtain ⟨l, hl⟩ := tr_c t
  rw [hl]
  refine R_i [(3, 3)] [] c23_ok rfl (by simp) ?_
  simp only [List.cons_append, List.nil_append]
  simp -implicitDefEqProofs (maxSteps := 2000000) only [c23, W.ldg, hg, ↓reduceIte, S0, St.init, enum, Nat.reduceEqDiff, Nat.reduceAdd, reduceCtorEq, Nat.lt_add_one]
  exact W.to hw
theorem sps_n (i : Nat) : (SL.sps i).size = i := by show (List.replicate i 32).toArray.size = i; simp
theorem wordF_n (op : Int) : (SL.wordF op).size ≤ 6 := by
  have h : ∀ l ∈ SL.wordsL, l.length ≤ 6 := by decide
  show (SL.wordsL.getD op.toNat []).toArray.size ≤ 6
  rw [List.size_toArray, List.getD_eq_getElem?_getD]
  cases hh : SL.wordsL[op.toNat]? with
  | none => simp
  | some l => exact h l (List.mem_of_getElem? hh)
theorem lin1 (hA : X.G 0 = some SL.asciiL) (T : Txt X) (t : Tr) (i : Nat) (hi : i ≤ 900000) (hx : t.x.ok) (hk : ∀ a ∈ t.kids, LinOK T a (i + 2)) (w : W) (hw : w.ok) (hg : w.g = false) :
    R X Tryd.prog 23 [bt, .lf (.rp t.c 0), .lf (.int .i64 i)] [w.c] (.tp []) [(putsW (linesT T t i) w).c] := by
  rw [linesT_k, tr_ck]
  have h42 := SL.r42 (X := X) i (by omega)
  have h43 := SL.r43 hA t.x.op (by have := hx.op; omega) hx.op.2
  refine R_i [(3, 3)] [] c23_ok rfl (by simp) ?_
  simp only [List.cons_append, List.nil_append]
  simp -implicitDefEqProofs (maxSteps := 2000000) only [c23, W.ldg, hg, ↓reduceIte, S0, s_ops1, s_wopsTK, s_tcons, q_call, St.init, enum, Nat.reduceEqDiff, Nat.reduceAdd, reduceCtorEq]
  refine wcallq_i h42 rfl ?_
  simp -implicitDefEqProofs (maxSteps := 2000000) only [c23, ↓reduceIte, S0, s_wopsTK, s_tcons, q_call, q_fa, q_ld, q_nc, Nat.reduceEqDiff, reduceCtorEq, v_fa_r, v_ld_r, v_nc_r]
  refine wcallq_i h43 rfl ?_
  obtain ⟨x0, hxt⟩ : ∃ x0, x0 = t.x := ⟨_, rfl⟩
  rw [← hxt] at hx ⊢
  obtain ⟨op, n, tx, s0, s1, s2, s3⟩ := x0
  have h28 := T.h28 tx hx.t
  have h44 := T.h44 n hx.n.1 hx.n.2
  have h29 := T.h29 s0 s1 s2 s3 hx.s0.1 hx.s0.2 hx.s1.1 hx.s1.2 hx.s2.1 hx.s2.2 hx.s3.1 hx.s3.2
  have l28 := T.lit_n tx hx.t
  have l44 := T.dec_n n hx.n.1 hx.n.2
  have l29 := T.set_n s0 s1 s2 s3
  have ltx := hx.t
  simp only at ltx
  have ls := sps_n i
  have lw := wordF_n op
  have lb : ByteArray.size ⟨#[32]⟩ = 1 := rfl
  have lc : ByteArray.size ⟨#[10]⟩ = 1 := rfl
  have hE : lnT T ⟨op, n, tx, s0, s1, s2, s3⟩ i = lnS T ⟨op, n, tx, s0, s1, s2, s3⟩ (SL.sps i ++ SL.wordF op) ++ ⟨#[10]⟩ := rfl
  have h14 := fun s hs => r14 (X := X) w hw s hs
  rw [hE]
  unfold lnS
  simp only
  simp -implicitDefEqProofs (maxSteps := 2000000) only [c23, ↓reduceIte, S0, s_wopsTK, s_tone, s_tcons, v_sneq, Nat.reduceEqDiff, Nat.reduceAdd, reduceCtorEq, PV.leaves, Nat.reduceLeDiff, List.take_zero, List.drop_zero, List.take_succ_cons, List.drop_succ_cons, ne_eq, ite_not, v_fa_r, v_ld_r, v_nc_r]
  refine ⟨by omega, ?_⟩
  have lss : (SL.sps i ++ SL.wordF op).size ≤ 900006 := by rw [ByteArray.size_append]; omega
  generalize SL.sps i ++ SL.wordF op = s at *
  have wi : IntKind.i64.wrap ((i : Int) + 2) = ((i + 2 : Nat) : Int) := by rw [w64 (by omega) (by omega)]; omega
  have hml : (t.kids.map Tr.r).length = t.kids.length := List.length_map _
  have key : ∀ (q d : List Tr) (w' wf : W), w'.ok → d ++ q = t.kids → putsW (q.flatMap fun a => linesT T a (i + 2)) w' = wf →
      LoopAt X Tryd.prog c23_29 [0, 2, 97, 98, 99] (blkK 1 (retS [(3, 3)] [] 1 [] (PV.tp []) [wf.c]))
        { m := 1, tm := [(0, PV.lf (L.tptr 0 0 46)), (2, PV.lf (L.int IntKind.i64 ↑i)), (97, PV.lf (L.lst Tag.ro 1 (List.map Tr.r t.kids) [])),
            (98, PV.lf (L.int IntKind.i64 (t.kids.length : Nat))), (99, PV.lf (L.int IntKind.i64 (d.length : Nat)))], ce := [(0, w'.c), (0, w'.c)] } := by
    intro q
    induction q with
    | nil =>
      intro d w' wf hok' hd hput
      have e : w' = wf := hput
      subst e
      simp only [List.append_nil] at hd
      have hlt : ¬ (d.length : Int) < (t.kids.length : Int) := by rw [hd]; omega
      intro Z hZ; apply hZ
      simp -implicitDefEqProofs (maxSteps := 2000000) only [c23, hlt, decide_false, ↓reduceIte, S0, Nat.reduceEqDiff, reduceCtorEq, Nat.lt_add_one]
      exact W.to hok'
    | cons a q ih =>
      intro d w' wf hok' hd hput
      have hdl : d.length < t.kids.length := by rw [← hd]; simp
      have hlt : (d.length : Int) < (t.kids.length : Int) := by omega
      have hget : (t.kids.map Tr.r).getD ((d.length : Nat) : Int).toNat [] = [.rp a.c 0] := by
        rw [Int.toNat_natCast, List.getD_eq_getElem?_getD, List.getElem?_map, ← hd]; simp
      have hh := hk a (by rw [← hd]; simp) w' hok'
      have ok1 := putsW_ok (linesT T a (i + 2)) hok'
      simp only [List.flatMap_cons] at hput
      rw [putsW_app] at hput
      generalize putsW (linesT T a (i + 2)) w' = w1 at *
      have hih := ih (d ++ [a]) w1 wf ok1 (by rw [← hd]; simp) hput
      have wd : IntKind.i64.wrap ((d.length : Int) + 1) = ((d.length + 1 : Nat) : Int) := by
        have : t.kids.length ≤ 2 := by cases t <;> simp [Tr.kids]
        rw [w64 (by omega) (by omega)]; omega
      intro Z hZ; apply hZ
      have hz := hih Z hZ
      simp only [List.length_append, List.length_cons, List.length_nil, Nat.zero_add] at hz
      simp -implicitDefEqProofs (maxSteps := 2000000) only [c23, hlt, decide_true, hget, v_ld_e, hml, wi, ↓reduceIte, S0, Nat.reduceEqDiff, reduceCtorEq, PV.leaves, ta_i, ta_rp, e_asg_rp]
      refine ⟨⟨by omega, by omega⟩, by omega, pcall_i hh (W.toC hok') rfl ?_⟩
      simp -implicitDefEqProofs (maxSteps := 2000000) only [c23, W.fromC ok1, wd, ↓reduceIte, S0, Nat.reduceEqDiff, reduceCtorEq, outV, ownsV, List.any_nil, kl_lr, pO_tt, rg_1]
      exact hz
  have tail : ∀ (s' : ByteArray) (tmx : List (Nat × PV)), s'.size ≤ 2000000 → pcall X Tryd.prog 14 [PV.lf (L.tptr 0 0 46), PV.lf (L.str (s' ++ { data := #[10] }))]
      { m := 1,
        tm :=
          (92, PV.lf (L.str (s' ++ { data := #[10] }))) ::
            (91, PV.lf (L.str s')) :: (90, bt) :: (0, bt) ::
            (1,
              PV.lf
                (L.rp
                  [L.int IntKind.i64 op, L.int IntKind.i64 n, L.str tx, L.int IntKind.u64 s0, L.int IntKind.u64 s1,
                    L.int IntKind.u64 s2, L.int IntKind.u64 s3, L.lst Tag.ro 1 (List.map Tr.r t.kids) []]
                  0)) ::
            (2, PV.lf (L.int IntKind.i64 ↑i)) :: (6, PV.lf (L.str s')) :: tmx,
        ce := [(0, w.c)] }
      0 (some 93)
      (wopsK X Tryd.prog []
        (opsK [0, 1, 2]
          (seqK X Tryd.prog c23_32
            (retS [(3, 3)] [] 1 [] (PV.tp [])
              [(putsW ((s' ++ { data := #[10] }) :: List.flatMap (fun a => linesT T a (i + 2)) t.kids) w).c]))))
      (some w.c) := by
    intro s' tmx hs'
    have ok1 : ∀ s, (putW s w).ok := fun s => putW_ok hw
    have lss' : (s' ++ ⟨#[10]⟩ : ByteArray).size ≤ 1073741824 := by simp only [ByteArray.size_append, lc]; omega
    refine pcall_i (h14 _ lss') (W.toC hw) rfl ?_
    simp -implicitDefEqProofs (maxSteps := 2000000) only [c23, W.fromC (ok1 _), hml, ↓reduceIte, S0, Nat.reduceEqDiff, reduceCtorEq, outV, ownsV, List.any_nil, pO_tt, rg_1, v_fa_r, v_ld_r, v_nc_r]
    intro _
    exact key _ [] _ _ (ok1 _) rfl rfl
  have sz : ∀ r : ByteArray, r.size ≤ 70000 → (⟨#[32]⟩ ++ r : ByteArray).size ≤ 70001 ∧ (s ++ (⟨#[32]⟩ ++ r)).size ≤ 980000 := fun r hr => by
    simp only [ByteArray.size_append]; omega
  by_cases h4 : op = 4
  · subst h4
    simp only [true_or, if_true]
    refine wcall_s h28 rfl rfl ?_
    simp -implicitDefEqProofs (maxSteps := 2000000) only [c23, ↓reduceIte, S0, Nat.reduceEqDiff, reduceCtorEq, St.clr, outV, ownsV, owns1, ownL, PV.leaves]
    have := sz (T.lit tx) (by omega)
    exact ⟨by omega, by omega, by omega, tail _ _ (by omega)⟩
  rw [if_neg h4]
  by_cases h22 : op = 22
  · subst h22
    rw [if_pos rfl, if_pos (.inr rfl)]
    simp -implicitDefEqProofs (maxSteps := 2000000) only [c23, ↓reduceIte]
    refine wcall_s h28 rfl rfl ?_
    simp -implicitDefEqProofs (maxSteps := 2000000) only [c23, ↓reduceIte, S0, Nat.reduceEqDiff, reduceCtorEq, St.clr, outV, ownsV, owns1, ownL, PV.leaves]
    have := sz (T.lit tx) (by omega)
    exact ⟨by omega, by omega, by omega, tail _ _ (by omega)⟩
  rw [if_neg h22, if_neg (fun h => Or.elim h h4 h22)]
  by_cases h5 : op = 5
  · subst h5
    simp only [if_true]
    refine wcall_s h29 rfl rfl ?_
    simp -implicitDefEqProofs (maxSteps := 2000000) only [c23, ↓reduceIte, S0, Nat.reduceEqDiff, reduceCtorEq, St.clr, outV, ownsV, owns1, ownL, PV.leaves]
    have := sz (T.set s0 s1 s2 s3) (by omega)
    exact ⟨by omega, by omega, by omega, tail _ _ (by omega)⟩
  rw [if_neg h5, if_neg h5]
  by_cases h6 : op = 6
  · subst h6
    simp only [if_true]
    have := sz tx (by omega)
    exact ⟨by omega, by omega, by omega, tail _ _ (by omega)⟩
  rw [if_neg h6, if_neg h6]
  by_cases h19 : op = 19
  · subst h19
    simp only [if_true]
    by_cases ht : tx = ⟨#[]⟩
    · simp only [if_pos ht]
      exact ⟨by omega, tail _ _ (by omega)⟩
    · simp only [if_neg ht]
      have := sz tx (by omega)
      exact ⟨by omega, by omega, by omega, tail _ _ (by omega)⟩
  rw [if_neg h19, if_neg h19]
  by_cases h14 : op = 14
  · subst h14
    simp only [if_true, true_or, or_true]
    refine wcall_s h44 rfl rfl ?_
    simp -implicitDefEqProofs (maxSteps := 2000000) only [c23, ↓reduceIte, S0, Nat.reduceEqDiff, reduceCtorEq, St.clr, outV, ownsV, owns1, ownL, PV.leaves]
    have := sz (T.dec n) (by omega)
    exact ⟨by omega, by omega, by omega, tail _ _ (by omega)⟩
  rw [if_neg h14]
  by_cases h15 : op = 15
  · subst h15
    simp only [if_true, true_or, or_true]
    refine wcall_s h44 rfl rfl ?_
    simp -implicitDefEqProofs (maxSteps := 2000000) only [c23, ↓reduceIte, S0, Nat.reduceEqDiff, reduceCtorEq, St.clr, outV, ownsV, owns1, ownL, PV.leaves]
    have := sz (T.dec n) (by omega)
    exact ⟨by omega, by omega, by omega, tail _ _ (by omega)⟩
  rw [if_neg h15]
  by_cases h16 : op = 16
  · subst h16
    simp only [if_true, true_or, or_true]
    refine wcall_s h44 rfl rfl ?_
    simp -implicitDefEqProofs (maxSteps := 2000000) only [c23, ↓reduceIte, S0, Nat.reduceEqDiff, reduceCtorEq, St.clr, outV, ownsV, owns1, ownL, PV.leaves]
    have := sz (T.dec n) (by omega)
    exact ⟨by omega, by omega, by omega, tail _ _ (by omega)⟩
  rw [if_neg h16]
  by_cases h23 : op = 23
  · subst h23
    simp only [if_true, true_or, or_true]
    refine wcall_s h44 rfl rfl ?_
    simp -implicitDefEqProofs (maxSteps := 2000000) only [c23, ↓reduceIte, S0, Nat.reduceEqDiff, reduceCtorEq, St.clr, outV, ownsV, owns1, ownL, PV.leaves]
    have := sz (T.dec n) (by omega)
    exact ⟨by omega, by omega, by omega, tail _ _ (by omega)⟩
  rw [if_neg h23]
  rw [if_neg (by omega)]
  exact ⟨by omega, tail _ _ (by omega)⟩
theorem lin_ok (hA : X.G 0 = some SL.asciiL) (T : Txt X) : ∀ (n : Nat) (t : Tr) (i : Nat), t.size ≤ n → i + 2 * t.size ≤ 900000 → t.ok → LinOK T t i
  | 0, t, i, h, _, _ => by cases t <;> simp [Tr.size] at h
  | n + 1, t, i, h, hs, hok => by
    intro w hw
    cases hg : w.g with
    | true => exact lin_long T t i w hw hg
    | false =>
      refine lin1 hA T t i (by omega) ?_ ?_ w hw hg
      · cases hok <;> assumption
      · intro a ha
        cases hok with
        | l0 hx hn => simp [Tr.kids] at ha
        | l1 hx hn hc =>
          simp only [Tr.kids, List.mem_singleton] at ha
          subst ha
          simp only [Tr.size] at h hs
          exact lin_ok hA T n _ (i + 2) (by omega) (by omega) hc
        | l2 hx hn hc hd =>
          simp only [Tr.kids, List.mem_cons, List.not_mem_nil, or_false] at ha
          simp only [Tr.size] at h hs
          rcases ha with rfl | rfl
          · exact lin_ok hA T n _ (i + 2) (by omega) (by omega) hc
          · exact lin_ok hA T n _ (i + 2) (by omega) (by omega) hd
end Go.Proofs.YtdoefdmaecaacaaDoor.S
set_option linter.unusedVariables false
set_option linter.unusedSimpArgs false
namespace Go.Proofs.YtdoefdmaecaacaaDoor.S
open Go Go.Proofs.YtdoefdmaecaacaaDoor.AM Go.Proofs
variable {X : Cx}
section
variable (T : Txt X)
def linP (p : List Nd) : List ByteArray :=
  match treeP p with
  | some t => linesT T t 0
  | none => []
def treeG (p : List Nd) : ByteArray × Int :=
  if ¬ (chk p).2 = 0 then (⟨#[]⟩, (chk p).2) else
  if (putsW (linP T p) w0).g = true then (⟨#[]⟩, 2) else (⟨(putsW (linP T p) w0).y.toArray⟩, 0)
end
theorem puts_y : ∀ (l : List ByteArray) {w : W}, (putsW l w).g = false → (putsW l w).y = w.y ++ l.flatMap fun s => s.data.toList
  | [], w, _ => by simp [putsW]
  | s :: r, w, h => by
    simp only [putsW] at h ⊢
    have hs : (putW s w).g = false := by
      cases hg : (putW s w).g with
      | false => rfl
      | true => rw [putsW_g r _ hg, hg] at h; cases h
    rw [puts_y r h, putW_y hs, List.flatMap_cons, List.append_assoc]
theorem lines_pos (T : Txt X) (t : Tr) (h : (putsW (linesT T t 0) w0).g = false) : 0 < (putsW (linesT T t 0) w0).y.length := by
  rw [puts_y _ h, linesT_k, List.flatMap_cons]
  have : 0 < (lnT T t.x 0).data.toList.length := by
    show 0 < (lnT T t.x 0).data.toList.length
    have e : (lnT T t.x 0).data.toList.length = (lnT T t.x 0).size := by rw [Array.length_toList]; rfl
    rw [e]
    unfold lnT
    rw [ByteArray.size_append]
    have : ByteArray.size ⟨#[10]⟩ = 1 := rfl
    omega
  simp only [List.length_append]
  omega
theorem r10 (hA : X.G 0 = some SL.asciiL) (T : Txt X) (p : List Nd) (sp : List (List L)) (hwf : ∀ x ∈ p, x.wf) : R X Tryd.prog 10 [.lf (.lst .ro 7 (p.map Nd.c) sp)] [] (.tp [.lf (.str (treeG T p).1), .lf (.int .i64 (treeG T p).2)]) [] := by
  have h22 := r22 (X := X) p sp
  refine R_i [] [] c10_ok rfl (by simp) ?_
  by_cases hc : (chk p).2 = 0
  · rw [hc] at h22
    obtain ⟨t, hb, hto, hts, hpl⟩ := chk_tree hwf hc
    have htk : linP T p = linesT T t 0 := by simp only [linP, treeP, hb]
    have h16 := r16 (X := X) p sp (by omega) t [] hb
    have hlin := R_nlc nl_w0 (lin_ok hA T t.size t 0 (Nat.le_refl _) (by omega) hto w0 w0_ok)
    have hpos := lines_pos T t
    have ok1 := putsW_ok (linesT T t 0) w0_ok
    unfold treeG
    rw [if_neg (fun h => h hc), htk]
    generalize putsW (linesT T t 0) w0 = w at *
    cases hg : w.g with
    | true =>
      have h17 := r17g (X := X) w ok1 hg
      rw [← W.b_toC ok1] at h17
      simp -implicitDefEqProofs (maxSteps := 2000000) only [c10, ↓reduceIte, S0, St.init, enum, reduceCtorEq, PV.leaves]
      refine wcall_s h22 rfl rfl ?_
      simp -implicitDefEqProofs (maxSteps := 2000000) only [c10, ↓reduceIte, S0, v_neq, o_bd, v_agK, v_bd_n, Nat.reduceEqDiff, reduceCtorEq, St.clr, outV, ownsV, owns1, ownL, List.any_cons, List.any_nil, Bool.or_self, PV.leaves, Nat.zero_le, kc_b, kc_np, kc_l, ne_eq, ite_not, e_asg_t, o_bxt, v_bxt]
      refine wcall_down h16 rfl ?_
      simp -implicitDefEqProofs (maxSteps := 2000000) only [c10, ↓reduceIte, S0, Nat.reduceEqDiff, St.clr, outV, ownsV, owns1, ownL, PV.leaves, dw_lr, ta_i, ol_rp, ta_rp]
      refine pcall_i hlin rfl rfl ?_
      simp -implicitDefEqProofs (maxSteps := 2000000) only [c10, ↓reduceIte, S0, Nat.reduceEqDiff, reduceCtorEq, outV, ownsV, List.any_nil, PV.leaves, kl_np, kl_lr, kl_ln]
      refine pcall_i h17 rfl rfl ?_
      simp -implicitDefEqProofs (maxSteps := 2000000) only [c10, ↓reduceIte, S0, Nat.reduceEqDiff, outV, ownsV, owns1, ownL, List.any_cons, List.any_nil, Bool.or_self]
    | false =>
      have h17 := r17 (X := X) w ok1 hg (hpos hg)
      rw [← W.b_toC ok1] at h17
      simp -implicitDefEqProofs (maxSteps := 2000000) only [c10, ↓reduceIte, S0, St.init, enum, reduceCtorEq, PV.leaves]
      refine wcall_s h22 rfl rfl ?_
      simp -implicitDefEqProofs (maxSteps := 2000000) only [c10, ↓reduceIte, S0, v_neq, o_bd, v_agK, v_bd_n, Nat.reduceEqDiff, reduceCtorEq, St.clr, outV, ownsV, owns1, ownL, List.any_cons, List.any_nil, Bool.or_self, PV.leaves, Nat.zero_le, kc_b, kc_np, kc_l, ne_eq, ite_not, e_asg_t, o_bxt, v_bxt]
      refine wcall_down h16 rfl ?_
      simp -implicitDefEqProofs (maxSteps := 2000000) only [c10, ↓reduceIte, S0, Nat.reduceEqDiff, St.clr, outV, ownsV, owns1, ownL, PV.leaves, dw_lr, ta_i, ol_rp, ta_rp]
      refine pcall_i hlin rfl rfl ?_
      simp -implicitDefEqProofs (maxSteps := 2000000) only [c10, ↓reduceIte, S0, Nat.reduceEqDiff, reduceCtorEq, outV, ownsV, List.any_nil, PV.leaves, kl_np, kl_lr, kl_ln]
      refine pcall_i h17 rfl rfl ?_
      simp -implicitDefEqProofs (maxSteps := 2000000) only [c10, ↓reduceIte, S0, Nat.reduceEqDiff, outV, ownsV, owns1, ownL, List.any_cons, List.any_nil, Bool.or_self, fc_b, fc_u]
  · unfold treeG
    rw [if_pos hc]
    simp -implicitDefEqProofs (maxSteps := 2000000) only [c10, ↓reduceIte, S0, St.init, enum, reduceCtorEq, PV.leaves]
    refine wcall_s h22 rfl rfl ?_
    simp -implicitDefEqProofs (maxSteps := 2000000) only [c10, hc, ↓reduceIte, S0, v_neq, Nat.reduceEqDiff, reduceCtorEq, St.clr, outV, ownsV, owns1, ownL, List.any_cons, List.any_nil, Bool.or_self, ne_eq, not_false_eq_true]
theorem r24 (p q : List Nd) (sp sq : List (List L)) (hp : p.length ≤ 2199023255488) (hq : q.length ≤ 2199023255488) (b : Bool) (hb : b = true ↔ p = q) : R X Tryd.prog 24 [.lf (.lst .ro 7 (p.map Nd.c) sp), .lf (.lst .ro 7 (q.map Nd.c) sq)] [] (.lf (.bool b)) [] := by
  have hml : (p.map Nd.c).length = p.length := List.length_map _
  have hmq : (q.map Nd.c).length = q.length := List.length_map _
  refine R_i [] [] c24_ok rfl (by simp) ?_
  by_cases hl : p.length = q.length
  · have key : ∀ (a d : List Nd), d ++ a = p → d = q.take d.length → LoopAt X Tryd.prog c24_11 [0, 1, 12, 13] (blkK 0 (seqK X Tryd.prog c24_15 (retS [] [] 0 [RV.t 4] (PV.lf (L.bool b)) [])))
        { m := 0, tm := [(0, .lf (.lst .ro 7 (p.map Nd.c) sp)), (1, .lf (.lst .ro 7 (q.map Nd.c) sq)), (12, .lf (.int .i64 p.length)), (13, .lf (.int .i64 d.length))], ce := [] } := by
      intro a
      induction a with
      | nil =>
        intro d hd ht
        simp only [List.append_nil] at hd
        subst hd
        have hlt : ¬ (d.length : Int) < d.length := by omega
        have e : d = q := by rw [ht, hl, List.take_length]
        intro Z hZ; apply hZ
        simp -implicitDefEqProofs (maxSteps := 2000000) only [c24, hlt, decide_false, hml, ↓reduceIte, S0, Nat.reduceEqDiff, reduceCtorEq]
        exact (hb.2 e).symm
      | cons x a ih =>
        intro d hd ht
        have hdl : d.length < p.length := by rw [← hd]; simp
        have hlt : (d.length : Int) < p.length := by omega
        have hdq : d.length < q.length := by omega
        have hx : (p.map Nd.c).getD ((d.length : Nat) : Int).toNat [] = x.c := by
          rw [Int.toNat_natCast, List.getD_eq_getElem?_getD, List.getElem?_map, ← hd]; simp
        have hy : (q.map Nd.c).getD ((d.length : Nat) : Int).toNat [] = (q[d.length]).c := by
          rw [Int.toNat_natCast, List.getD_eq_getElem?_getD, List.getElem?_map, List.getElem?_eq_getElem hdq]; rfl
        have wd : IntKind.i64.wrap ((d.length : Int) + 1) = ((d.length + 1 : Nat) : Int) := by rw [w64 (by omega) (by omega)]; omega
        have htk : q.take (d.length + 1) = q.take d.length ++ [q[d.length]] := by rw [List.take_add_one, List.getElem?_eq_getElem hdq]; rfl
        have hih := fun (e : x = q[d.length]) => ih (d ++ [x]) (by simp [← hd]) (by
          rw [List.length_append, List.length_singleton, htk, ← ht, e])
        have hne : ¬ x = q[d.length] → ¬ p = q := fun h e => by
          apply h
          subst e
          have : p[d.length]? = some x := by rw [← hd]; simp
          rw [List.getElem?_eq_getElem hdq] at this
          exact (Option.some.inj this).symm
        generalize hyy : q[d.length] = y at *
        obtain ⟨op, n, tx, s0, s1, s2, s3⟩ := x
        obtain ⟨op', n', tx', z0, z1, z2, z3⟩ := y
        intro Z hZ; apply hZ
        simp -implicitDefEqProofs (maxSteps := 2000000) only [c24, hlt, decide_true, hx, hy, v_ld_e, hml, hmq, wd, ↓reduceIte, S0, s_ops2, s_loopK_r, s_wopsqK, s_qnil, s_qcons, q_beq, q_ia, q_ld, o_beq, Nat.reduceEqDiff, Nat.reduceAdd, reduceCtorEq, Bool.not_true, Nat.le_refl, List.drop_zero, List.take_succ_cons, List.take_nil, List.range_zero, v_beqK, v_andO, v_beqA, q_i, q_s, q_1, q_c, kd_i, kd_s, Bool.not_eq_eq_eq_not]
        refine ⟨⟨by omega, by omega⟩, by omega, ⟨by omega, by omega⟩, by omega, ?_⟩
        with_reducible refine ite_pr (fun hf => ?_) (fun hf => ?_)
        · have : ¬ b = true := fun hbt => by
            have e := hne ?_ (hb.1 hbt)
            · exact e
            · intro e
              obtain ⟨rfl, rfl, rfl, rfl, rfl, rfl, rfl⟩ := Nd.mk.inj e
              simp at hf
          simpa using this
        · simp only [Bool.not_eq_false, Bool.and_eq_true, decide_eq_true_eq] at hf
          obtain ⟨rfl, rfl, rfl, rfl, rfl, rfl, rfl⟩ := hf
          have hz := hih rfl Z hZ
          simp only [List.length_append, List.length_cons, List.length_nil, Nat.zero_add] at hz
          exact hz
    simp -implicitDefEqProofs (maxSteps := 2000000) only [c24, hml, hmq, hl, ↓reduceIte, S0, v_neq, St.init, enum, Nat.reduceEqDiff, reduceCtorEq, List.range_zero, ne_eq, ite_not]
    intro _ _ _
    rw [← hl]
    exact key p [] rfl rfl
  · simp -implicitDefEqProofs (maxSteps := 2000000) only [c24, hml, hmq, ↓reduceIte, S0, v_neq, St.init, enum, Nat.reduceEqDiff, reduceCtorEq, List.range_zero, ne_eq, ite_not]
    intro _ _
    rw [if_neg (by omega)]
    have : ¬ b = true := fun hbt => hl (by rw [hb.1 hbt])
    simpa using this
theorem r11 (p q : List Nd) (sp sq : List (List L)) (hp : p.length ≤ 2199023255488) (hq : q.length ≤ 2199023255488) (b : Bool) (hb : b = true ↔ p = q) : R X Tryd.prog 11 [.lf (.lst .ro 7 (p.map Nd.c) sp), .lf (.lst .ro 7 (q.map Nd.c) sq)] [] (.lf (.bool b)) [] := by
  have h24 := r24 (X := X) p q sp sq hp hq b hb
  refine R_i [] [] c11_ok rfl (by simp) ?_
  simp -implicitDefEqProofs (maxSteps := 2000000) only [c11, ↓reduceIte, S0, St.init, enum, Nat.reduceEqDiff, reduceCtorEq, PV.leaves]
  refine wcall_s h24 rfl rfl ?_
  simp -implicitDefEqProofs (maxSteps := 2000000) only [c11, ↓reduceIte, S0, St.clr, outV, ownsV, owns1, ownL]
end Go.Proofs.YtdoefdmaecaacaaDoor.S
set_option linter.unusedVariables false
set_option linter.unusedSimpArgs false
namespace Go.Proofs.YtdoefdmaecaacaaDoor.S
open Go Go.Proofs.YtdoefdmaecaacaaDoor.AM Go.Proofs
variable {X : Cx}
theorem treeG_e (T : Txt X) (p : List Nd) (h : ¬ (treeG T p).2 = 0) : (treeG T p).1 = ⟨#[]⟩ := by
  unfold treeG at h ⊢
  split
  · rfl
  · rename_i h1
    rw [if_neg h1] at h
    split
    · rfl
    · rename_i h2; rw [if_neg h2] at h; exact absurd rfl h
theorem treeG_n (T : Txt X) (p : List Nd) : (treeG T p).1.size ≤ 65536 := by
  unfold treeG
  have ok1 := putsW_ok (linP T p) w0_ok
  have e0 : ByteArray.size ⟨#[]⟩ = 0 := rfl
  split
  · simp only [e0]; omega
  · split
    · simp only [e0]; omega
    · have := ok1.y
      show (putsW (linP T p) w0).y.toArray.size ≤ _
      simpa using this
def cnt (s : ByteArray) (k : Nat) : Nat := ((s.data.toList.take k).count 10)
theorem cnt_s {s : ByteArray} {k : Nat} (h : k < s.size) : cnt s (k + 1) = cnt s k + (if byteAt s (k : Int) = 10 then 1 else 0) := by
  have hl : k < s.data.toList.length := by rw [Array.length_toList]; exact h
  have e : byteAt s (k : Int) = ((SL.btq s k).toNat : Int) := SL.btq_int s k
  have e2 : SL.btq s k = s.data.toList[k] := by
    unfold SL.btq
    rw [List.getD_eq_getElem?_getD, List.getElem?_eq_getElem hl]; rfl
  unfold cnt
  rw [List.take_add_one, List.getElem?_eq_getElem hl, Option.toList_some, List.count_append, e, e2]
  generalize s.data.toList[k] = c
  congr 1
  revert c
  exact SL.all8 (by decide +kernel)
theorem r4 (hA : X.G 0 = some SL.asciiL) (T : Txt X) (ha : T.lit ⟨#[97]⟩ = ⟨#[39, 97, 39]⟩) (hb : T.lit ⟨#[98]⟩ = ⟨#[39, 98, 39]⟩) (p q : List Nd) (sp sq : List (List L)) (hwp : ∀ x ∈ p, x.wf) (hwq : ∀ x ∈ q, x.wf) (hp : p.length ≤ 2199023255488) (hq : q.length ≤ 2199023255488)
    (hcount : (treeG T p).2 = 0 → (treeG T p).1.data.toList.count 10 = p.length) (hinj : (treeG T p).2 = 0 → (treeG T q).2 = 0 → ((treeG T p).1 = (treeG T q).1 ↔ p = q)) :
    R X Tryd.prog 4 [.lf (.lst .ro 7 (p.map Nd.c) sp), .lf (.lst .ro 7 (q.map Nd.c) sq)] [] (.lf (.bool true)) [] := by
  have hml : (p.map Nd.c).length = p.length := List.length_map _
  have h9 := r9 T ha hb
  have h10p := r10 hA T p sp hwp
  have h10q := r10 hA T q sq hwq
  obtain ⟨b, hbq⟩ : ∃ b : Bool, b = true ↔ p = q := by
    by_cases h : p = q
    · exact ⟨true, by simp [h]⟩
    · exact ⟨false, by simp [h]⟩
  have h11 := r11 (X := X) p q sp sq hp hq b hbq
  have he := treeG_e T p
  have hn := treeG_n T p
  generalize treeG T p = P at *
  generalize treeG T q = Q at *
  obtain ⟨s, e⟩ := P
  obtain ⟨t, f⟩ := Q
  simp only at he hn hcount hinj h10p h10q
  refine R_i [] [] c4_ok rfl (by simp) ?_
  simp -implicitDefEqProofs (maxSteps := 2000000) only [c4, ↓reduceIte, S0, St.init, enum, Nat.reduceEqDiff, reduceCtorEq, PV.leaves]
  refine wcall_s h9 rfl rfl ?_
  simp -implicitDefEqProofs (maxSteps := 2000000) only [c4, ↓reduceIte, S0, o_un, v_not, Nat.reduceEqDiff, reduceCtorEq, Bool.not_true, St.clr, outV, ownsV, owns1, ownL, PV.leaves]
  refine wcall_s h10p rfl rfl ?_
  simp -implicitDefEqProofs (maxSteps := 2000000) only [c4, ↓reduceIte, S0, Nat.reduceEqDiff, reduceCtorEq, St.clr, outV, ownsV, owns1, ownL, List.any_cons, List.any_nil, Bool.or_self, PV.leaves]
  refine wcall_s h10q rfl rfl ?_
  by_cases h0 : e = 0
  · subst h0
    have hc := hcount rfl
    have hin := hinj rfl
    have key : ∀ (n k : Nat), n + k = s.size → LoopAt X Tryd.prog c4_12 [0, 1, 5, 7, 8, 9, 10] (blkK 0 (seqK X Tryd.prog c4_16 (retS [] [] 0 [RV.t 4] (PV.lf (L.bool true)) [])))
        { m := 0, tm := [(0, .lf (.lst .ro 7 (p.map Nd.c) sp)), (1, .lf (.lst .ro 7 (q.map Nd.c) sq)), (5, .lf (.str s)), (7, .lf (.str t)), (8, .lf (.int .i64 f)), (9, .lf (.int .i64 (cnt s k : Nat))), (10, .lf (.int .i64 (k : Nat)))], ce := [] } := by
      intro n
      induction n with
      | zero =>
        intro k hk
        have hlt : ¬ (k : Int) < s.size := by omega
        have hck : cnt s k = p.length := by
          unfold cnt
          rw [List.take_of_length_le (by rw [Array.length_toList]; show s.size ≤ k; omega), hc]
        intro Z hZ; apply hZ
        simp -implicitDefEqProofs (maxSteps := 2000000) only [c4, hlt, decide_false, hml, hck, ↓reduceIte, S0, q_call, q_pk, v_neq, v_seql, o_lns, v_lns, Nat.reduceEqDiff, reduceCtorEq, cond_false, Bool.not_false, Bool.true_eq_false, decide_eq_false_iff_not, PV.leaves, ne_eq, Decidable.not_not]
        intro _
        with_reducible refine ite_pr (fun hf => ?_) (fun hf => ?_)
        · refine wcall_s h11 rfl rfl ?_
          have hb2 := (hin hf).trans hbq.symm
          simp -implicitDefEqProofs (maxSteps := 2000000) only [c4, ↓reduceIte, S0, q_pk, q_bqb, o_bqb, v_bqb, Nat.reduceEqDiff, cond_false, St.clr, outV, ownsV, owns1, ownL]
          rw [beq_iff_eq, Bool.eq_iff_iff, decide_eq_true_eq]
          exact hb2
        · trivial
      | succ n ih =>
        intro k hk
        have hlt : (k : Int) < s.size := by omega
        have hck := cnt_s (s := s) (k := k) (by omega)
        have hcl : cnt s k ≤ k := by
          unfold cnt
          have h1 := List.count_le_length (a := (10 : UInt8)) (l := s.data.toList.take k)
          rw [List.length_take] at h1
          omega
        have wd : IntKind.i64.wrap ((k : Int) + 1) = ((k + 1 : Nat) : Int) := by rw [w64 (by omega) (by omega)]; omega
        have wc : IntKind.i64.wrap ((cnt s k : Nat) + 1 : Int) = ((cnt s k + 1 : Nat) : Int) := by rw [w64 (by omega) (by omega)]; omega
        have hih := ih (k + 1) (by omega)
        rw [hck] at hih
        intro Z hZ; apply hZ
        have hz := hih Z hZ
        simp -implicitDefEqProofs (maxSteps := 2000000) only [c4, hlt, decide_true, wd, wc, ↓reduceIte, S0, o_ixs, v_ixs, o_lns, v_lns, Nat.reduceEqDiff, reduceCtorEq, List.range_zero]
        refine ⟨by omega, ?_⟩
        with_reducible refine ite_pr (fun hf => ?_) (fun hf => ?_)
        · rw [if_pos hf] at hz; exact hz
        · rw [if_neg hf] at hz; exact hz
    simp -implicitDefEqProofs (maxSteps := 2000000) only [c4, ↓reduceIte, S0, v_neq, v_seql, Nat.reduceEqDiff, reduceCtorEq, St.clr, outV, ownsV, owns1, ownL, List.any_cons, List.any_nil, Bool.or_self, List.range_zero, ne_eq, ite_not]
    simpa [cnt] using key s.size 0 rfl
  · simp -implicitDefEqProofs (maxSteps := 2000000) only [c4, h0, ↓reduceIte, S0, v_neq, v_seql, Nat.reduceEqDiff, reduceCtorEq, St.clr, outV, ownsV, owns1, ownL, List.any_cons, List.any_nil, Bool.or_self, ne_eq, not_false_eq_true]
    exact he h0
end Go.Proofs.YtdoefdmaecaacaaDoor.S
