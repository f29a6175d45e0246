/-
  A changed byte changes the sum. Conditions: none.
-/
import Derived.Test.YtmmmjikanmgpfaaHd
namespace Go.Proofs.Ytmmmjikanmgpfaa
open Go.SX Go.Proofs
set_option maxHeartbeats 1000000

theorem xor_rc {a b c : Nat} (h : a ^^^ c = b ^^^ c) : a = b := by
  have h2 := congrArg (fun z => z ^^^ c) h
  simpa [Nat.xor_assoc] using h2
theorem xor_lc {a b c : Nat} (h : c ^^^ a = c ^^^ b) : a = b := by
  rw [Nat.xor_comm c a, Nat.xor_comm c b] at h; exact xor_rc h
theorem xu_nat {x y : Nat} (hx : x < 4294967296) (hy : y < 4294967296) : xu (x : Int) (y : Int) = ((x ^^^ y : Nat) : Int) := by
  unfold xu
  rw [u32_wrap]
  show (((BitVec.ofInt 32 (x : Int) ^^^ BitVec.ofInt 32 (y : Int)).toNat : Nat) : Int) % 4294967296 = _
  rw [show BitVec.ofInt 32 (x : Int) = BitVec.ofNat 32 x by simp, show BitVec.ofInt 32 (y : Int) = BitVec.ofNat 32 y by simp, BitVec.toNat_xor, BitVec.toNat_ofNat, BitVec.toNat_ofNat, Nat.mod_eq_of_lt hx, Nat.mod_eq_of_lt hy]
  have := Nat.xor_lt_two_pow (n := 32) (show x < 2 ^ 32 from hx) (show y < 2 ^ 32 from hy)
  omega
theorem bitStep_inj {x y : Nat} (hx : x < 4294967296) (hy : y < 4294967296) (h : bitStep (x : Int) = bitStep (y : Int)) : x = y := by
  have e (z : Nat) (hz : z < 4294967296) : bitStep (z : Int) = (((if z % 2 = 1 then (z / 2) ^^^ 3558460437 else z / 2) : Nat) : Int) := by
    unfold bitStep
    by_cases h1 : z % 2 = 1
    · rw [if_pos (by omega), if_pos h1]
      have := xu_nat (x := z / 2) (y := 3558460437) (by omega) (by omega)
      rw [← this]; rfl
    · rw [if_neg (by omega), if_neg h1]; rfl
  rw [e x hx, e y hy] at h
  have h := Int.ofNat.inj h
  have bit (z : Nat) (hz : z < 4294967296) : (z / 2).testBit 31 = false := Nat.testBit_lt_two_pow (by omega)
  have mix (u v : Nat) (hu : u < 4294967296) (hv : v < 4294967296) (h : (u / 2) ^^^ 3558460437 = v / 2) : False := by
    have h1 := congrArg (fun z => z.testBit 31) h
    simp only [Nat.testBit_xor, bit u hu, bit v hv] at h1
    exact absurd h1 (by decide)
  by_cases h1 : x % 2 = 1
  · by_cases h2 : y % 2 = 1
    · rw [if_pos h1, if_pos h2] at h
      have := xor_rc h
      omega
    · rw [if_pos h1, if_neg h2] at h
      exact (mix x y hx hy h).elim
  · by_cases h2 : y % 2 = 1
    · rw [if_neg h1, if_pos h2] at h
      exact (mix y x hy hx h.symm).elim
    · rw [if_neg h1, if_neg h2] at h
      omega
def u32R (s : Int) : Prop := 0 ≤ s ∧ s < 4294967296
theorem u32_nat {s : Int} (h : u32R s) : ∃ n : Nat, s = n ∧ n < 4294967296 := ⟨s.toNat, by unfold u32R at h; omega, by unfold u32R at h; omega⟩
theorem bits_zero (s : Int) : bits 0 s = s := by with_unfolding_all rfl
theorem bits_inj : ∀ n {x y : Int}, u32R x → u32R y → bits n x = bits n y → x = y
  | 0, _, _, _, _, h => by simpa only [bits_zero] using h
  | n + 1, x, y, hx, hy, h => by
    refine bits_inj n hx hy ?_
    obtain ⟨a, ea, ha⟩ := u32_nat (bits_rng hx n)
    obtain ⟨b, eb, hb⟩ := u32_nat (bits_rng hy n)
    rw [bits_succ, bits_succ, ea, eb] at h
    rw [ea, eb, bitStep_inj ha hb h]
theorem xu_inj1 {x y : Int} {b : UInt8} (hx : u32R x) (hy : u32R y) (h : xu x b.toNat = xu y b.toNat) : x = y := by
  obtain ⟨p, rfl, hp⟩ := u32_nat hx
  obtain ⟨q, rfl, hq⟩ := u32_nat hy
  have hb := b.toNat_lt
  rw [xu_nat hp (by omega), xu_nat hq (by omega)] at h
  rw [xor_rc (Int.ofNat.inj h)]
theorem xu_inj2 {x : Int} {a b : UInt8} (hx : u32R x) (h : xu x a.toNat = xu x b.toNat) : a = b := by
  obtain ⟨p, rfl, hp⟩ := u32_nat hx
  have ha := a.toNat_lt
  have hb := b.toNat_lt
  rw [xu_nat hp (by omega), xu_nat hp (by omega)] at h
  exact UInt8.toNat_inj.1 (xor_lc (Int.ofNat.inj h))
theorem byteStep_inj1 {x y : Int} {b : UInt8} (hx : u32R x) (hy : u32R y) (h : byteStep x b = byteStep y b) : x = y := xu_inj1 hx hy (bits_inj 8 (xu_rng _ _) (xu_rng _ _) h)
theorem byteStep_inj2 {x : Int} {a b : UInt8} (hx : u32R x) (h : byteStep x a = byteStep x b) : a = b := xu_inj2 hx (bits_inj 8 (xu_rng _ _) (xu_rng _ _) h)
theorem sumMore_cons (s : Int) (b : UInt8) (l : List UInt8) : sumMore s (b :: l) = sumMore (byteStep s b) l := by unfold sumMore; rfl
theorem sumMore_inj : ∀ (l : List UInt8) {x y : Int}, u32R x → u32R y → sumMore x l = sumMore y l → x = y
  | [], _, _, _, _, h => by simpa only [sumMore, List.foldl_nil] using h
  | b :: l, x, y, hx, hy, h => byteStep_inj1 hx hy (sumMore_inj l (byteStep_rng x b) (byteStep_rng y b) (by rw [sumMore_cons, sumMore_cons] at h; exact h))
theorem sumMore_app (s : Int) (a b : List UInt8) : sumMore s (a ++ b) = sumMore (sumMore s a) b := by unfold sumMore; exact List.foldl_append
/-- one changed byte changes the sum -/
theorem sum_diff {s : Int} (hs : u32R s) (p q : List UInt8) {a b : UInt8} (h : a ≠ b) : sumMore s (p ++ a :: q) ≠ sumMore s (p ++ b :: q) := by
  intro e
  rw [sumMore_app, sumMore_app, sumMore_cons, sumMore_cons] at e
  exact h (byteStep_inj2 (sumMore_rng hs p) (sumMore_inj q (byteStep_rng _ a) (byteStep_rng _ b) e))

end Go.Proofs.Ytmmmjikanmgpfaa
