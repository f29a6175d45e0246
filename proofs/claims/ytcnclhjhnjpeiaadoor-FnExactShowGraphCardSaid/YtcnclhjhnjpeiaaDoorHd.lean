/-
  Checksums and numbers as bytes, on both sides. Conditions: none.
-/
import Derived.Test.YtcnclhjhnjpeiaaDoorHa
namespace Go.Proofs.YtcnclhjhnjpeiaaDoor
open Go.SX Go.Proofs
set_option linter.unusedSimpArgs false
set_option linter.unusedVariables false
set_option maxHeartbeats 4000000

/-- the bytes of a text -/
def by' (s : ByteArray) : List UInt8 := s.data.toList
def tx (l : List UInt8) : ByteArray := ⟨l.toArray⟩
theorem tx_by (s : ByteArray) : tx (by' s) = s := by unfold tx by'; rfl
theorem by_tx (l : List UInt8) : by' (tx l) = l := by unfold tx by'; simp
theorem by_inj {a b : ByteArray} : by' a = by' b ↔ a = b := ⟨fun h => by rw [← tx_by a, h, tx_by], fun h => by rw [h]⟩
theorem by_size (s : ByteArray) : (by' s).length = s.size := by unfold by'; simp
theorem by_app (a b : ByteArray) : by' (a ++ b) = by' a ++ by' b := by unfold by'; simp
theorem tx_app (a b : List UInt8) : tx (a ++ b) = tx a ++ tx b := by rw [← by_inj, by_app, by_tx, by_tx, by_tx]
theorem by_get (s : ByteArray) (i : Nat) : (s[i]?).getD 0 = ((by' s)[i]?).getD 0 := by
  by_cases h : i < s.size
  · have h2 : i < s.data.size := h
    rw [getElem?_pos s i h, List.getElem?_eq_getElem (by rw [by_size]; exact h)]
    simp [by']; rfl
  · rw [getElem?_neg s i h, List.getElem?_eq_none (by rw [by_size]; omega)]

def xu (x y : Int) : Int := IntKind.u32.wrap (BitVec.ofInt IntKind.u32.bits x ^^^ BitVec.ofInt IntKind.u32.bits y).toNat
theorem u32_wrap (x : Int) : IntKind.u32.wrap x = x % 4294967296 := by
  unfold IntKind.wrap
  simp [IntKind.bits, IntKind.signed]
theorem xu_rng (x y : Int) : 0 ≤ xu x y ∧ xu x y < 4294967296 := by unfold xu; rw [u32_wrap]; omega
def bitStep (s : Int) : Int := if s % 2 = 1 then xu (s / 2) 3558460437 else s / 2
theorem bitStep_rng {s : Int} (h : 0 ≤ s ∧ s < 4294967296) : 0 ≤ bitStep s ∧ bitStep s < 4294967296 := by
  unfold bitStep; split
  · exact xu_rng _ _
  · omega
def bits : Nat → Int → Int
  | 0, s => s
  | n + 1, s => bitStep (bits n s)
theorem bits_rng {s : Int} (h : 0 ≤ s ∧ s < 4294967296) : ∀ n, 0 ≤ bits n s ∧ bits n s < 4294967296
  | 0 => h
  | n + 1 => bitStep_rng (bits_rng h n)
def byteStep (s : Int) (b : UInt8) : Int := bits 8 (xu s b.toNat)
def sumMore (s : Int) (l : List UInt8) : Int := l.foldl byteStep s
theorem byteStep_rng (s : Int) (b : UInt8) : 0 ≤ byteStep s b ∧ byteStep s b < 4294967296 := bits_rng (xu_rng _ _) 8
theorem sumMore_rng {s : Int} (h : 0 ≤ s ∧ s < 4294967296) (l : List UInt8) : 0 ≤ sumMore s l ∧ sumMore s l < 4294967296 := by
  unfold sumMore
  induction l generalizing s with
  | nil => exact h
  | cons b r ih => exact ih (byteStep_rng s b)
theorem sumMore_step (s : Int) (t : ByteArray) (k : Nat) (h : k < t.size) : sumMore s ((by' t).take (k + 1)) = byteStep (sumMore s ((by' t).take k)) ((t[k]?).getD 0) := by
  unfold sumMore
  rw [by_get, List.getElem?_eq_getElem (by rw [by_size]; exact h), ← List.take_append_getElem (by rw [by_size]; exact h), List.foldl_append]
  rfl
def sumOf (t : ByteArray) : Int := sumMore 4294967295 (by' t)
theorem sumOf_rng (t : ByteArray) : 0 ≤ sumOf t ∧ sumOf t < 4294967296 := sumMore_rng (by omega) _
theorem xu_in (S : Int) (b : UInt8) : Value.int .u32 (IntKind.u32.wrap (BitVec.ofInt IntKind.u32.bits S ^^^ BitVec.ofInt IntKind.u32.bits (IntKind.u32.wrap (b.toNat : Nat))).toNat) = Value.int .u32 (bits 0 (xu S b.toNat)) := by
  have : IntKind.u32.wrap (b.toNat : Nat) = (b.toNat : Nat) := by rw [u32_wrap]; have := b.toNat_lt; omega
  rw [this]; rfl
theorem sum_out (s : Int) (t : ByteArray) (k : Nat) (h : k < t.size) : Value.int .u32 (bits 8 (xu (sumMore s ((by' t).take k)) ((t[k]?).getD 0).toNat)) = Value.int .u32 (sumMore s ((by' t).take (k + 1))) := by
  rw [sumMore_step s t k h]; rfl
theorem and_one {s : Int} (h : 0 ≤ s ∧ s < 4294967296) : IntKind.u32.wrap (BitVec.ofInt IntKind.u32.bits s &&& BitVec.ofInt IntKind.u32.bits 1).toNat = s % 2 := by
  obtain ⟨n, rfl⟩ := Int.eq_ofNat_of_zero_le h.1
  have hn : n < 4294967296 := by omega
  rw [u32_wrap]
  show (((BitVec.ofInt 32 (n : Int) &&& BitVec.ofInt 32 1).toNat : Nat) : Int) % 4294967296 = _
  have e1 : BitVec.ofInt 32 (n : Int) = BitVec.ofNat 32 n := by simp
  have e2 : BitVec.ofInt 32 1 = BitVec.ofNat 32 1 := by decide
  rw [e1, e2, BitVec.toNat_and, BitVec.toNat_ofNat, BitVec.toNat_ofNat, Nat.mod_eq_of_lt (by omega : n < 2 ^ 32)]
  rw [show 1 % 2 ^ 32 = 1 from rfl, Nat.and_one_is_mod]
  omega

theorem bits_succ (j : Nat) (s : Int) : bits (j + 1) s = bitStep (bits j s) := rfl
theorem sum_in (s : Int) (t : ByteArray) : Value.int .u32 s = Value.int .u32 (sumMore s ((by' t).take 0)) := rfl
theorem half_i (B : Int) : B.fdiv (2 ^ min (Int.toNat 1) IntKind.u32.bits) = B / 2 := by
  rw [show (2 : Int) ^ min (Int.toNat 1) IntKind.u32.bits = 2 from by decide, Int.fdiv_eq_ediv_of_nonneg _ (by omega)]
theorem half_s {B : Int} (hB : 0 ≤ B ∧ B < 4294967296) : IntKind.u32.wrap (B.tdiv 2) = B / 2 := by
  rw [Int.tdiv_eq_ediv_of_nonneg hB.1, u32_wrap]; omega
theorem odd_i {B : Int} (h : B % 2 = 1) : Value.int .u32 (IntKind.u32.wrap (BitVec.ofInt IntKind.u32.bits (B.fdiv (2 ^ min (Int.toNat 1) IntKind.u32.bits)) ^^^ BitVec.ofInt IntKind.u32.bits 3558460437).toNat) = Value.int .u32 (bitStep B) := by
  rw [half_i]; unfold bitStep; rw [if_pos h]; rfl
theorem even_i {B : Int} (h : ¬ B % 2 = 1) : Value.int .u32 (B.fdiv (2 ^ min (Int.toNat 1) IntKind.u32.bits)) = Value.int .u32 (bitStep B) := by
  rw [half_i]; unfold bitStep; rw [if_neg h]
theorem odd_s {B : Int} (hB : 0 ≤ B ∧ B < 4294967296) (h : B % 2 = 1) : Value.int .u32 (IntKind.u32.wrap (BitVec.ofInt IntKind.u32.bits (IntKind.u32.wrap (B.tdiv 2)) ^^^ BitVec.ofInt IntKind.u32.bits 3558460437).toNat) = Value.int .u32 (bitStep B) := by
  rw [half_s hB]; unfold bitStep; rw [if_pos h]; rfl
theorem even_s {B : Int} (hB : 0 ≤ B ∧ B < 4294967296) (h : ¬ B % 2 = 1) : Value.int .u32 (IntKind.u32.wrap (B.tdiv 2)) = Value.int .u32 (bitStep B) := by
  rw [half_s hB]; unfold bitStep; rw [if_neg h]
theorem tmod2 {B : Int} (hB : 0 ≤ B ∧ B < 4294967296) : B.tmod 2 = B % 2 := Int.tmod_eq_emod_of_nonneg hB.1
attribute [irreducible] xu bits sumMore
attribute [local irreducible] IntKind.wrap

end Go.Proofs.YtcnclhjhnjpeiaaDoor
