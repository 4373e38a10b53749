/- Contracts, part IX5. -/
import Derived.Test.YthcpaohmajjopaaDoorIX4
set_option linter.unusedVariables false
set_option linter.unusedSimpArgs false
namespace Go.Proofs.YthcpaohmajjopaaDoor.I
open Go Go.Proofs.YthcpaohmajjopaaDoor.AM
variable {X : Cx}
theorem byte_k (b : ByteArray) (p : Int) : (byteAt b p).toNat < 256 ∧ ((byteAt b p).toNat : Int) = byteAt b p := by
  have := byteAt_0 b p; have := byteAt_1 b p; omega
def bitAt (b : ByteArray) (p k : Nat) : Int := ((byteAt b ((p + k / 8 : Nat) : Int)).fdiv (2 ^ min (((k : Int).tmod 8)).toNat IntKind.i64.bits)).tmod 2
def rS (b : ByteArray) (p : Nat) : Nat → Nat → Int → Int → Int → Int → Int × Int × Int × Int
  | 0, _, s0, s1, s2, s3 => (s0, s1, s2, s3)
  | m + 1, k, s0, s1, s2, s3 => if bitAt b p k = 1 then rS b p m (k + 1) (withAt 0 s0 k) (withAt 1 s1 k) (withAt 2 s2 k) (withAt 3 s3 k) else rS b p m (k + 1) s0 s1 s2 s3
theorem pat' {k : Nat} (hk : 1 ≤ k ∧ k ≤ 20) : ∃ p ∈ [(false, false, false, false, false), (false, false, true, false, false), (false, false, false, false, true), (true, false, false, false, false), (true, false, true, false, false), (true, false, false, false, true), (false, false, false, true, false), (false, true, false, true, false)],
    refB (refF k) 1 = p.1 ∧ refB (refF k) 2 = p.2.1 ∧ refB (refF k) 4 = p.2.2.1 ∧ refB (refF k) 8 = p.2.2.2.1 ∧ refB (refF k) 16 = p.2.2.2.2 := by
  have h : ∀ i : Fin 21, (refB (refF i.val) 1, refB (refF i.val) 2, refB (refF i.val) 4, refB (refF i.val) 8, refB (refF i.val) 16) ∈ [(false, false, false, false, false), (false, false, true, false, false), (false, false, false, false, true), (true, false, false, false, false), (true, false, true, false, false), (true, false, false, false, true), (false, false, false, true, false), (false, true, false, true, false)] := by decide +kernel
  exact ⟨_, h ⟨k, by omega⟩, rfl, rfl, rfl, rfl, rfl⟩

end Go.Proofs.YthcpaohmajjopaaDoor.I
set_option linter.unusedVariables false
set_option linter.unusedSimpArgs false
namespace Go.Proofs.YthcpaohmajjopaaDoor.I
open Go Go.Proofs.YthcpaohmajjopaaDoor.AM
theorem wrap_u64 {n : Nat} (h : n < 2 ^ 64) : IntKind.u64.wrap (n : Int) = n := by
  simp only [IntKind.wrap, IntKind.bits, IntKind.signed]; simp; omega
theorem wrap_i64 {n : Nat} (h : n < 2 ^ 63) : IntKind.i64.wrap (n : Int) = n := w64 (by omega) (by omega)
theorem or_nat64 (x y : Nat) (hx : x < 2 ^ 64) (hy : y < 2 ^ 64) : bits .or .u64 (x : Int) (y : Int) = ((x ||| y : Nat) : Int) := by
  have h1 : (BitVec.ofInt 64 (x : Int)).toNat = x := by simp [BitVec.toNat_ofInt]; omega
  have h2 : (BitVec.ofInt 64 (y : Int)).toNat = y := by simp [BitVec.toNat_ofInt]; omega
  unfold bits
  simp only [BitVec.toNat_or]
  show IntKind.u64.wrap (((BitVec.ofInt 64 (x : Int)).toNat ||| (BitVec.ofInt 64 (y : Int)).toNat : Nat) : Int) = _
  rw [h1, h2]
  exact wrap_u64 (Nat.or_lt_two_pow hx hy)
theorem or_nat63 (x y : Nat) (hx : x < 2 ^ 63) (hy : y < 2 ^ 63) : bits .or .i64 (x : Int) (y : Int) = ((x ||| y : Nat) : Int) := by
  have h1 : (BitVec.ofInt 64 (x : Int)).toNat = x := by simp [BitVec.toNat_ofInt]; omega
  have h2 : (BitVec.ofInt 64 (y : Int)).toNat = y := by simp [BitVec.toNat_ofInt]; omega
  unfold bits
  simp only [BitVec.toNat_or]
  show IntKind.i64.wrap (((BitVec.ofInt 64 (x : Int)).toNat ||| (BitVec.ofInt 64 (y : Int)).toNat : Nat) : Int) = _
  rw [h1, h2]
  exact wrap_i64 (Nat.or_lt_two_pow hx hy)
theorem or_add {s v c : Nat} (h : s < 2 ^ c) : s ||| (v * 2 ^ c) = s + v * 2 ^ c := by
  rw [Nat.or_comm, ← Nat.shiftLeft_eq, ← Nat.shiftLeft_add_eq_or_of_lt h]; omega
theorem or_hi (h l : Int) (h0 : 0 ≤ h) (h1 : h ≤ 255) (l0 : 0 ≤ l) (l1 : l ≤ 255) : bits .or .i64 (IntKind.i64.wrap (h * 2 ^ min (Int.toNat 8) IntKind.i64.bits)) l = h * 256 + l := by
  obtain ⟨h, rfl⟩ : ∃ n : Nat, h = n := ⟨h.toNat, by omega⟩
  obtain ⟨l, rfl⟩ : ∃ n : Nat, l = n := ⟨l.toNat, by omega⟩
  have e : (h : Int) * 2 ^ min (Int.toNat 8) IntKind.i64.bits = ((h * 2 ^ 8 : Nat) : Int) := by
    rw [show (2 : Int) ^ min (Int.toNat 8) IntKind.i64.bits = 256 from by decide]; omega
  rw [e, wrap_i64 (by omega), or_nat63 _ _ (by omega) (by omega), Nat.or_comm, or_add (by omega)]
  omega
theorem ai16_eq (h l : Int) (h0 : 0 ≤ h) (h1 : h ≤ 255) (l0 : 0 ≤ l) (l1 : l ≤ 255) : ai16 h l = if 32768 ≤ h * 256 + l then h * 256 + l - 65536 else h * 256 + l := by
  unfold ai16
  rw [or_hi h l h0 h1 l0 l1]
  have e : IntKind.i16.wrap (h * 256 + l) = if 32768 ≤ h * 256 + l then h * 256 + l - 65536 else h * 256 + l := by
    simp only [IntKind.wrap, IntKind.bits, IntKind.signed]; simp; split <;> omega
  rw [e]
  exact w64 (by split <;> omega) (by split <;> omega)
theorem cntR_eq {b : ByteArray} (h : 2 ≤ b.size) : cntR b = byteAt b 0 * 256 + byteAt b 1 := by
  have e0 : nxV b 0 = byteAt b 0 := by unfold nxV; rw [if_pos (by omega)]; rfl
  have e1 : nxP b 0 = 1 := by unfold nxP; rw [if_pos (by omega)]
  have e2 : nxV b 1 = byteAt b 1 := by unfold nxV; rw [if_pos (by omega)]; rfl
  unfold cntR
  rw [e1, e0, e2, or_hi _ _ (byteAt_0 b _) (byteAt_1 b _) (byteAt_0 b _) (byteAt_1 b _)]
theorem cntR_bd (b : ByteArray) : 0 ≤ cntR b ∧ cntR b ≤ 65535 := by
  unfold cntR
  have a0 := nxV_0 b 0
  have a1 := nxV_1 b 0
  have b0 := nxV_0 b (nxP b 0)
  have b1 := nxV_1 b (nxP b 0)
  rw [or_hi _ _ a0 a1 b0 b1]
  omega

/-! the 256 members: bytes on the one side, bits on the other -/
def W (B : Nat → Nat) (q : Nat) : Nat → Nat
  | 0 => 0
  | i + 1 => W B q i + B (8 * q + i) * 2 ^ (8 * i)
theorem W_lt {B : Nat → Nat} (hB : ∀ j, B j < 256) (q : Nat) : ∀ i, W B q i < 2 ^ (8 * i)
  | 0 => by simp [W]
  | i + 1 => by
    have h1 := W_lt hB q i
    have h2 := hB (8 * q + i)
    have e : 2 ^ (8 * (i + 1)) = 256 * 2 ^ (8 * i) := by rw [show 8 * (i + 1) = 8 + 8 * i by omega, Nat.pow_add]
    have h3 : B (8 * q + i) * 2 ^ (8 * i) ≤ 255 * 2 ^ (8 * i) := Nat.mul_le_mul_right _ (by omega)
    simp only [W]
    omega
theorem W_split (B : Nat → Nat) (q i : Nat) : ∀ n, ∃ t, W B q (i + 1 + n) = W B q i + 2 ^ (8 * i) * (B (8 * q + i) + 256 * t)
  | 0 => ⟨0, by simp [W, Nat.mul_comm]⟩
  | n + 1 => by
    obtain ⟨t, h⟩ := W_split B q i n
    refine ⟨t + B (8 * q + (i + 1 + n)) * 2 ^ (8 * n), ?_⟩
    rw [show i + 1 + (n + 1) = (i + 1 + n) + 1 by omega]
    simp only [W, h]
    rw [show 8 * (i + 1 + n) = 8 * i + (8 + 8 * n) by omega, Nat.pow_add, Nat.pow_add, show (2 : Nat) ^ 8 = 256 from rfl]
    generalize B (8 * q + (i + 1 + n)) = B1
    generalize 2 ^ (8 * n) = Y
    generalize 2 ^ (8 * i) = Z
    have e : B1 * (Z * (256 * Y)) = Z * (256 * (B1 * Y)) := by ac_rfl
    rw [e, Nat.mul_add 256 t, ← Nat.add_assoc (B (8 * q + i)), Nat.mul_add Z (_ + _), Nat.add_assoc]
theorem W_bit {B : Nat → Nat} (hB : ∀ j, B j < 256) (q : Nat) {i r : Nat} (hi : i < 8) (hr : r < 8) : (W B q 8 / 2 ^ (8 * i + r)) % 2 = (B (8 * q + i) / 2 ^ r) % 2 := by
  obtain ⟨t, h⟩ := W_split B q i (7 - i)
  rw [show i + 1 + (7 - i) = 8 by omega] at h
  rw [h, Nat.pow_add, ← Nat.div_div_eq_div_mul, Nat.add_mul_div_left _ _ (Nat.two_pow_pos _), Nat.div_eq_of_lt (W_lt hB q i), Nat.zero_add]
  have e : (256 : Nat) * t = 2 ^ r * (2 ^ (8 - r) * t) := by
    rw [← Nat.mul_assoc, ← Nat.pow_add, show r + (8 - r) = 8 by omega]
  rw [e, Nat.add_mul_div_left _ _ (Nat.two_pow_pos _)]
  obtain ⟨u, hu⟩ : ∃ u, 2 ^ (8 - r) * t = 2 * u := ⟨2 ^ (7 - r) * t, by rw [show 8 - r = (7 - r) + 1 by omega, Nat.pow_succ]; simp only [Nat.mul_assoc, Nat.mul_comm, Nat.mul_left_comm]⟩
  rw [hu]
  omega
def bt (b : ByteArray) (p j : Nat) : Nat := (byteAt b ((p + j : Nat) : Int)).toNat
theorem bt_lt (b : ByteArray) (p j : Nat) : bt b p j < 256 := (byte_k b _).1
theorem bt_eq (b : ByteArray) (p j : Nat) : ((bt b p j : Nat) : Int) = byteAt b ((p + j : Nat) : Int) := (byte_k b _).2
theorem setV_eq {s v k : Nat} (hs : s < 2 ^ (8 * (k % 8))) (hv : v < 256) : setV (s : Int) (v : Int) k = ((s + v * 2 ^ (8 * (k % 8)) : Nat) : Int) := by
  have e1 : IntKind.i64.wrap (((k : Int).tmod 8) * 8) = ((8 * (k % 8) : Nat) : Int) := by
    rw [Int.tmod_eq_emod_of_nonneg (by omega), w64 (by omega) (by omega)]; omega
  have e2 : min (8 * (k % 8)) 64 = 8 * (k % 8) := by omega
  have hle : v * 2 ^ (8 * (k % 8)) < 2 ^ 64 := by
    have : v * 2 ^ (8 * (k % 8)) ≤ 255 * 2 ^ 56 := Nat.mul_le_mul (by omega) (Nat.pow_le_pow_right (by omega) (by omega))
    omega
  have hs2 : s < 2 ^ 64 := Nat.lt_of_lt_of_le hs (Nat.pow_le_pow_right (by omega) (by omega))
  unfold setV
  rw [e1, Int.toNat_natCast, show IntKind.u64.bits = 64 from rfl, e2, wrap_u64 (n := v) (by omega), show (v : Int) * 2 ^ (8 * (k % 8)) = ((v * 2 ^ (8 * (k % 8)) : Nat) : Int) by rw [Int.natCast_mul, Int.natCast_pow]; rfl, wrap_u64 hle, or_nat64 _ _ hs2 hle, or_add hs]
theorem setAt_eq {B : Nat → Nat} (hB : ∀ j, B j < 256) (q k : Nat) : setAt q ((W B q (min 8 (k - 8 * q)) : Nat) : Int) ((B k : Nat) : Int) k = ((W B q (min 8 (k + 1 - 8 * q)) : Nat) : Int) := by
  unfold setAt
  split
  · rename_i h
    have e : min 8 (k - 8 * q) = k % 8 := by omega
    have e' : min 8 (k + 1 - 8 * q) = k % 8 + 1 := by omega
    have e2 : 8 * q + k % 8 = k := by omega
    rw [e, e', setV_eq (W_lt hB q _) (hB k)]
    simp only [W, e2]
  · have e : min 8 (k + 1 - 8 * q) = min 8 (k - 8 * q) := by omega
    rw [e]
theorem gS_ok (b : ByteArray) (p : Nat) (hp : p + 32 ≤ b.size) (sh : Bool) : ∀ (m k : Nat), k + m = 32 →
    gS b m k (p + k) sh ((W (bt b p) 0 (min 8 (k - 8 * 0)) : Nat) : Int) ((W (bt b p) 1 (min 8 (k - 8 * 1)) : Nat) : Int) ((W (bt b p) 2 (min 8 (k - 8 * 2)) : Nat) : Int) ((W (bt b p) 3 (min 8 (k - 8 * 3)) : Nat) : Int) =
      ((((W (bt b p) 0 8 : Nat) : Int), ((W (bt b p) 1 8 : Nat) : Int), ((W (bt b p) 2 8 : Nat) : Int), ((W (bt b p) 3 8 : Nat) : Int)), p + 32, sh)
  | 0, k, h => by
    obtain rfl : k = 32 := by omega
    rfl
  | m + 1, k, h => by
    have e1 : nxV b (p + k) = ((bt b p k : Nat) : Int) := by rw [bt_eq]; unfold nxV; rw [if_pos (by omega)]
    have e2 : nxP b (p + k) = p + (k + 1) := by unfold nxP; rw [if_pos (by omega)]; omega
    have e3 : nxS b (p + k) sh = sh := by unfold nxS; rw [if_pos (by omega)]
    simp only [gS]
    rw [e1, e2, e3, setAt_eq (bt_lt b p), setAt_eq (bt_lt b p), setAt_eq (bt_lt b p), setAt_eq (bt_lt b p)]
    exact gS_ok b p hp sh m (k + 1) (by omega)
theorem orB_eq {s k : Nat} (hs : s < 2 ^ (k % 64)) : orB (s : Int) k = ((s + 2 ^ (k % 64) : Nat) : Int) := by
  have e2 : min (k % 64) 64 = k % 64 := by omega
  have hle : 1 * 2 ^ (k % 64) < 2 ^ 64 := by rw [Nat.one_mul]; exact Nat.pow_lt_pow_right (by omega) (by omega)
  have hs2 : s < 2 ^ 64 := Nat.lt_of_lt_of_le hs (Nat.pow_le_pow_right (by omega) (by omega))
  unfold orB
  rw [Int.tmod_eq_emod_of_nonneg (by omega), show ((k : Int) % 64).toNat = k % 64 by omega, show IntKind.u64.bits = 64 from rfl, e2, show (1 : Int) * 2 ^ (k % 64) = ((1 * 2 ^ (k % 64) : Nat) : Int) by rw [Int.natCast_mul, Int.natCast_pow]; rfl, wrap_u64 hle, or_nat64 _ _ hs2 hle, or_add hs, Nat.one_mul]
theorem bitAt_eq (b : ByteArray) (p k : Nat) : bitAt b p k = (((bt b p (k / 8)) / 2 ^ (k % 8) % 2 : Nat) : Int) := by
  unfold bitAt
  rw [← bt_eq, Int.tmod_eq_emod_of_nonneg (show (0 : Int) ≤ (k : Int) by omega), show ((k : Int) % 8).toNat = k % 8 by omega, show IntKind.i64.bits = 64 from rfl, show min (k % 8) 64 = k % 8 by omega, show (2 : Int) ^ (k % 8) = ((2 ^ (k % 8) : Nat) : Int) by rw [Int.natCast_pow]; rfl, Int.fdiv_eq_ediv_of_nonneg _ (Int.natCast_nonneg _), ← Int.natCast_ediv, Int.tmod_eq_emod_of_nonneg (Int.natCast_nonneg _)]
  rfl
theorem mod_min_step {w q k : Nat} (h : ¬ k / 64 = q) : w % 2 ^ (min 64 (k + 1 - 64 * q)) = w % 2 ^ (min 64 (k - 64 * q)) := by
  have e : min 64 (k + 1 - 64 * q) = min 64 (k - 64 * q) := by omega
  rw [e]
theorem mod_min_in {w q k : Nat} (h : k / 64 = q) : w % 2 ^ (min 64 (k + 1 - 64 * q)) = w % 2 ^ (k % 64) + 2 ^ (k % 64) * (w / 2 ^ (k % 64) % 2) := by
  have e : min 64 (k + 1 - 64 * q) = k % 64 + 1 := by omega
  rw [e, Nat.mod_pow_succ]
theorem withAt_eq (b : ByteArray) (p q k : Nat) (hb1 : bitAt b p k = 1) : withAt q ((W (bt b p) q 8 % 2 ^ (min 64 (k - 64 * q)) : Nat) : Int) k = ((W (bt b p) q 8 % 2 ^ (min 64 (k + 1 - 64 * q)) : Nat) : Int) := by
  unfold withAt
  split
  · rename_i h
    have e : min 64 (k - 64 * q) = k % 64 := by omega
    have hb2 : (bt b p (k / 8)) / 2 ^ (k % 8) % 2 = 1 := by rw [bitAt_eq] at hb1; omega
    have hbit := W_bit (bt_lt b p) q (i := k % 64 / 8) (r := k % 8) (by omega) (by omega)
    rw [show 8 * (k % 64 / 8) + k % 8 = k % 64 by omega, show 8 * q + k % 64 / 8 = k / 8 by omega, hb2] at hbit
    rw [mod_min_in h, e, orB_eq (Nat.mod_lt _ (Nat.two_pow_pos _)), hbit, Nat.mul_one]
  · rename_i h
    rw [mod_min_step h]
theorem skip_eq (b : ByteArray) (p q k : Nat) (hb1 : ¬ bitAt b p k = 1) : W (bt b p) q 8 % 2 ^ (min 64 (k - 64 * q)) = W (bt b p) q 8 % 2 ^ (min 64 (k + 1 - 64 * q)) := by
  by_cases h : k / 64 = q
  · have e : min 64 (k - 64 * q) = k % 64 := by omega
    have hb2 : (bt b p (k / 8)) / 2 ^ (k % 8) % 2 = 0 := by rw [bitAt_eq] at hb1; omega
    have hbit := W_bit (bt_lt b p) q (i := k % 64 / 8) (r := k % 8) (by omega) (by omega)
    rw [show 8 * (k % 64 / 8) + k % 8 = k % 64 by omega, show 8 * q + k % 64 / 8 = k / 8 by omega, hb2] at hbit
    rw [mod_min_in h, e, hbit, Nat.mul_zero, Nat.add_zero]
  · rw [mod_min_step h]
theorem rS_ok (b : ByteArray) (p : Nat) : ∀ (m k : Nat), k + m = 256 →
    rS b p m k ((W (bt b p) 0 8 % 2 ^ (min 64 (k - 64 * 0)) : Nat) : Int) ((W (bt b p) 1 8 % 2 ^ (min 64 (k - 64 * 1)) : Nat) : Int) ((W (bt b p) 2 8 % 2 ^ (min 64 (k - 64 * 2)) : Nat) : Int) ((W (bt b p) 3 8 % 2 ^ (min 64 (k - 64 * 3)) : Nat) : Int) =
      (((W (bt b p) 0 8 : Nat) : Int), ((W (bt b p) 1 8 : Nat) : Int), ((W (bt b p) 2 8 : Nat) : Int), ((W (bt b p) 3 8 : Nat) : Int))
  | 0, k, h => by
    obtain rfl : k = 256 := by omega
    have l : ∀ q, W (bt b p) q 8 % 2 ^ 64 = W (bt b p) q 8 := fun q => Nat.mod_eq_of_lt (W_lt (bt_lt b p) q 8)
    simp only [rS, show min 64 (256 - 64 * 0) = 64 from rfl, show min 64 (256 - 64 * 1) = 64 from rfl, show min 64 (256 - 64 * 2) = 64 from rfl, show min 64 (256 - 64 * 3) = 64 from rfl, l]
  | m + 1, k, h => by
    simp only [rS]
    split
    · rename_i hb1
      rw [withAt_eq b p _ k hb1, withAt_eq b p _ k hb1, withAt_eq b p _ k hb1, withAt_eq b p _ k hb1]
      exact rS_ok b p m (k + 1) (by omega)
    · rename_i hb1
      rw [skip_eq b p _ k hb1, skip_eq b p _ k hb1, skip_eq b p _ k hb1, skip_eq b p _ k hb1]
      exact rS_ok b p m (k + 1) (by omega)
theorem sets_eq (b : ByteArray) (p : Nat) (hp : p + 32 ≤ b.size) (sh : Bool) : gSet true b p sh = (rS b p 256 0 0 0 0 0, p + 32, sh) := by
  have h1 : gS b 32 0 p sh 0 0 0 0 = _ := gS_ok b p hp sh 32 0 rfl
  have h2 := rS_ok b p 256 0 rfl
  have z : ∀ q, W (bt b p) q 8 % 2 ^ (min 64 (0 - 64 * q)) = 0 := fun q => by rw [show min 64 (0 - 64 * q) = 0 by omega, Nat.pow_zero, Nat.mod_one]
  rw [z, z, z, z] at h2
  unfold gSet
  rw [if_pos rfl, h1, show rS b p 256 0 0 0 0 0 = _ from h2]
end Go.Proofs.YthcpaohmajjopaaDoor.I
set_option linter.unusedVariables false
set_option linter.unusedSimpArgs false
namespace Go.Proofs.YthcpaohmajjopaaDoor.I
open Go Go.Proofs.YthcpaohmajjopaaDoor.AM
theorem gA_ok {b : ByteArray} {p : Nat} (sh : Bool) (h : p + 2 ≤ b.size) : gA true b p sh = (twoF b p, p + 2, sh) := by
  have e0 : nxV b p = byteAt b p := by unfold nxV; rw [if_pos (by omega)]
  have e1 : nxP b p = p + 1 := by unfold nxP; rw [if_pos (by omega)]
  have e2 : nxV b (p + 1) = byteAt b ((p : Int) + 1) := by unfold nxV; rw [if_pos (by omega)]; rfl
  have e3 : nxP b (p + 1) = p + 2 := by unfold nxP; rw [if_pos (by omega)]
  have e4 : nxS b p sh = sh := by unfold nxS; rw [if_pos (by omega)]
  have e5 : nxS b (p + 1) sh = sh := by unfold nxS; rw [if_pos (by omega)]
  unfold gA
  rw [if_pos rfl, e1, e0, e2, e3, e4, e5, ai16_eq _ _ (byteAt_0 b _) (byteAt_1 b _) (byteAt_0 b _) (byteAt_1 b _)]
  rfl
theorem gB_ok {b : ByteArray} {p : Nat} (sh : Bool) (h : p + 1 ≤ b.size) : gB true b p sh = (byteAt b (p : Int), p + 1, sh) := by
  unfold gB nxV nxP nxS
  rw [if_pos rfl, if_pos (by omega), if_pos (by omega), if_pos (by omega)]
theorem gT_ok {b : ByteArray} {p : Nat} (sh : Bool) (h : p + 1 + (byteAt b (p : Int)).toNat ≤ b.size) : gT true b p sh = (b.extract (p + 1) (p + 1 + (byteAt b (p : Int)).toNat), p + 1 + (byteAt b (p : Int)).toNat, sh) := by
  have e0 : nxV b p = byteAt b p := by unfold nxV; rw [if_pos (by omega)]
  have e1 : nxP b p = p + 1 := by unfold nxP; rw [if_pos (by omega)]
  have e4 : nxS b p sh = sh := by unfold nxS; rw [if_pos (by omega)]
  unfold gT
  rw [if_pos rfl, e0, e1, e4]
  unfold txT txP txS
  rw [if_pos h, if_pos h, if_pos h]
end Go.Proofs.YthcpaohmajjopaaDoor.I
set_option linter.unusedVariables false
set_option linter.unusedSimpArgs false
namespace Go.Proofs.YthcpaohmajjopaaDoor.I
open Go Go.Proofs.YthcpaohmajjopaaDoor.AM
variable {X : Cx}
theorem flags_tab : ∀ k : Fin 21, 1 ≤ k.val → hasB k.val 1 = (refB (refF k.val) 1 || refB (refF k.val) 2) ∧ hasB k.val 2 = (refB (refF k.val) 4 || refB (refF k.val) 8) ∧ hasB k.val 4 = refB (refF k.val) 8 ∧ hasB k.val 8 = refB (refF k.val) 8 ∧ hasB k.val 16 = refB (refF k.val) 16 ∧ (refB (refF k.val) 4 = true → refB (refF k.val) 8 = false) := by decide +kernel
end Go.Proofs.YthcpaohmajjopaaDoor.I
