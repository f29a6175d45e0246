/-
  Decimal numerals (plain). Conditions: none.
-/
import Derived.Test.YtcnclhjhnjpeiaaDoorHa
import Derived.Lib.ItoaNum
namespace Go.Proofs.YtcnclhjhnjpeiaaDoor
open Go.SX Go.Proofs
set_option maxHeartbeats 1000000

/-- digits s have been told of n0, m is what is left -/
def decI (n0 m : Nat) (s : List UInt8) : Prop := if m = 0 then s = Lib.decDigits n0 else Lib.decDigits n0 = Lib.decDigits m ++ s
theorem decI_init {n : Nat} (h : ¬ n = 0) : decI n n [] := by unfold decI; rw [if_neg h, List.append_nil]
theorem decI_step {n m : Nat} {s : List UInt8} (h : decI n m s) (hm : ¬ m = 0) : decI n (m / 10) (UInt8.ofNat (48 + m % 10) :: s) := by
  unfold decI at h ⊢
  rw [if_neg hm] at h
  by_cases h1 : m < 10
  · rw [if_pos (by omega), h, Lib.decDigits, dif_pos h1, Nat.mod_eq_of_lt h1]; rfl
  · rw [if_neg (by omega), h]
    conv => lhs; rw [Lib.decDigits, dif_neg h1]
    rw [List.append_assoc]; rfl
theorem decI_end {n : Nat} {s : List UInt8} (h : decI n 0 s) : s = Lib.decDigits n := by unfold decI at h; rwa [if_pos rfl] at h
theorem decI_le {n m : Nat} {s : List UInt8} (h : decI n m s) : s.length ≤ (Lib.decDigits n).length := by
  unfold decI at h
  split at h
  · rw [h]; exact Nat.le_refl _
  · rw [h, List.length_append]; omega
theorem dec_len : ∀ (k n : Nat), n < 10 ^ (k + 1) → (Lib.decDigits n).length ≤ k + 1
  | 0, n, h => by rw [Lib.decDigits, dif_pos (by omega)]; exact Nat.le_refl _
  | k + 1, n, h => by
    rw [Lib.decDigits]
    split
    · simp
    · rw [List.length_append, List.length_singleton]
      have := dec_len k (n / 10) (by rw [Nat.div_lt_iff_lt_mul (by omega), ← Nat.pow_succ]; exact h)
      omega
theorem dec_zero : Lib.decDigits 0 = [48] := by rw [Lib.decDigits, dif_pos (by omega)]; rfl
theorem dec_i64 {n : Int} (h : 0 ≤ n ∧ n ≤ 9223372036854775807) : (Lib.decDigits n.toNat).length ≤ 19 := dec_len 18 n.toNat (by omega)

end Go.Proofs.YtcnclhjhnjpeiaaDoor
