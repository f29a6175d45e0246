/-
  Numbers that are written are read. Conditions: none.
-/
import Derived.Test.YtflfohphebmemaaGreatIj
namespace Go.Proofs.YtflfohphebmemaaGreat
open Go.SX Go.Proofs
set_option maxHeartbeats 1000000

theorem byteAt_drop {t : ByteArray} {p : Nat} {b : UInt8} {r : List UInt8} (h : (by' t).drop p = b :: r) : p < t.size ∧ byteAt t p = b ∧ (by' t).drop (p + 1) = r := by
  have h1 : p < (by' t).length := by
    rcases Nat.lt_or_ge p (by' t).length with h1 | h1
    · exact h1
    · rw [List.drop_eq_nil_of_le h1] at h; cases h
  rw [List.drop_eq_getElem_cons h1] at h
  obtain ⟨h2, h3⟩ := List.cons.inj h
  rw [by_size] at h1
  refine ⟨h1, ?_, h3⟩
  unfold byteAt
  rw [by_get, List.getElem?_eq_getElem (by rw [by_size]; exact h1)]
  exact h2
theorem rvGo_enc (t : ByteArray) (p : Nat) : ∀ k i n u f m rest, 0 < k → (by' t).drop (p + i) = varL f m ++ rest → m < 128 ^ k → k ≤ f + 1 → (i = 0 ∨ 0 < m) → n + m * u ≤ 1000000000 → rvGo t p k i n u = (n + m * u, p + i + (varL f m).length, true)
  | 0, _, _, _, _, _, _, h0, _, _, _, _, _ => absurd h0 (by omega)
  | k + 1, i, n, u, f, m, rest, _, h, hm, hf, hi, hb => by
    by_cases h7 : 127 < m
    · cases f with
      | zero =>
        have : k = 0 := by omega
        subst this
        simp at hm; omega
      | succ f =>
        have e : varL (f + 1) m = UInt8.ofNat (128 + m % 128) :: varL f (m / 128) := by conv => lhs; unfold varL; rw [if_pos h7]
        rw [e, List.cons_append] at h
        obtain ⟨h1, h2, h3⟩ := byteAt_drop h
        have h4 : (byteAt t (p + i)).toNat = 128 + m % 128 := by rw [h2, UInt8.toNat_ofNat']; omega
        have hk0 : 0 < k := by
          rcases Nat.eq_zero_or_pos k with rfl | hk0
          · simp at hm; omega
          · exact hk0
        rw [rvGo_on h1 (by omega), h4, rvGo_enc t p k (i + 1) _ _ f (m / 128) rest hk0 (by rw [← h3, Nat.add_assoc]) (by rw [Nat.pow_succ] at hm; omega) (by omega) (.inr (by omega)) ?_, e, List.length_cons]
        · have e2 : n + (128 + m % 128) % 128 * u + m / 128 * (u * 128) = n + m * u := by
            have : m * u = (m % 128 + 128 * (m / 128)) * u := by rw [Nat.mod_add_div]
            rw [this, Nat.add_mul, show (128 + m % 128) % 128 = m % 128 by omega, Nat.mul_comm u 128, ← Nat.mul_assoc, Nat.mul_comm (m / 128) 128]; omega
          rw [e2]
          refine Prod.ext rfl (Prod.ext ?_ rfl)
          show p + (i + 1) + (varL f (m / 128)).length = p + i + ((varL f (m / 128)).length + 1)
          omega
        · have e2 : n + (128 + m % 128) % 128 * u + m / 128 * (u * 128) = n + m * u := by
            have : m * u = (m % 128 + 128 * (m / 128)) * u := by rw [Nat.mod_add_div]
            rw [this, Nat.add_mul, show (128 + m % 128) % 128 = m % 128 by omega, Nat.mul_comm u 128, ← Nat.mul_assoc, Nat.mul_comm (m / 128) 128]; omega
          omega
    · rw [varL_low f m (by omega)] at h ⊢
      obtain ⟨h1, h2, h3⟩ := byteAt_drop h
      have h4 : (byteAt t (p + i)).toNat = m := by rw [h2, UInt8.toNat_ofNat']; omega
      have e3 : m % 128 = m := by omega
      rw [rvGo_ok h1 (by omega) (by rw [h4, e3]; omega), h4, e3]; rfl
/-- a number that stands in a text is read there -/
theorem readVar_enc {t : ByteArray} {p m : Nat} {rest : List UInt8} (h : (by' t).drop p = varT m ++ rest) (hm : m ≤ 1000000000) : readVar t p = (m, p + (varT m).length, true) := by
  unfold readVar varT at *
  rw [rvGo_enc t p 5 0 0 1 9 m rest (by omega) (by simpa using h) (by omega) (by omega) (.inl rfl) (by omega)]
  simp

end Go.Proofs.YtflfohphebmemaaGreat
