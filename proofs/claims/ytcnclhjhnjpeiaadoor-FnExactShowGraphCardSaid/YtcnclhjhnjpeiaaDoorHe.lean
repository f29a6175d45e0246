/-
  Checksums and numbers as bytes, records in frames, on both sides. Conditions: none.
-/
import Derived.Test.YtcnclhjhnjpeiaaDoorHd
namespace Go.Proofs.YtcnclhjhnjpeiaaDoor
open Go.SX Go.Proofs
set_option linter.unusedSimpArgs false
set_option linter.unusedVariables false
set_option maxHeartbeats 4000000
attribute [local irreducible] IntKind.wrap

def varL : Nat → Nat → List UInt8
  | 0, n => [UInt8.ofNat n]
  | f + 1, n => if 127 < n then UInt8.ofNat (128 + n % 128) :: varL f (n / 128) else [UInt8.ofNat n]
def varT (n : Int) : List UInt8 := varL 9 n.toNat
def varText (n : Int) : ByteArray := tx (varT n)
theorem varL_len : ∀ f n, (varL f n).length ≤ f + 1
  | 0, n => by simp [varL]
  | f + 1, n => by
    unfold varL; split
    · have := varL_len f (n / 128); simp only [List.length_cons]; omega
    · simp
theorem varL_low (f n : Nat) (h : n ≤ 127) : varL f n = [UInt8.ofNat n] := by
  cases f with
  | zero => rfl
  | succ f => unfold varL; rw [if_neg (by omega)]
theorem varText_size (n : Int) : (varText n).size ≤ 10 := by
  rw [← by_size]; unfold varText; rw [by_tx]; exact varL_len 9 _
theorem var_b1 (q : Nat) : UInt8.ofNat (IntKind.i64.wrap (128 + (q : Int).tmod 128) % 256).toNat = UInt8.ofNat (128 + q % 128) := by
  rw [Int.tmod_eq_emod_of_nonneg (by omega), wrap_of (by omega) (by omega)]; congr 1; omega
theorem var_b1' (q : Nat) : UInt8.ofNat (IntKind.i64.wrap ((q : Int).tmod 128 + 128) % 256).toNat = UInt8.ofNat (128 + q % 128) := by
  rw [Int.tmod_eq_emod_of_nonneg (by omega), wrap_of (by omega) (by omega)]; congr 1; omega
theorem var_b2 (q : Nat) (h : q ≤ 127) : UInt8.ofNat ((q : Int) % 256).toNat = UInt8.ofNat q := by congr 1; omega
theorem var_q (q : Nat) (h : q ≤ 4611686018427387904) : Value.int .i64 (IntKind.i64.wrap ((q : Int).tdiv 128)) = Value.int .i64 ((q / 128 : Nat) : Int) := by
  rw [Int.tdiv_eq_ediv_of_nonneg (by omega), wrap_of (by omega) (by omega)]; congr 1
theorem pow128 (f q : Nat) (h : q < 128 ^ (f + 1)) (h1 : 127 < q) : ∃ f', f = f' + 1 := by
  cases f with
  | zero => simp at h; omega
  | succ f' => exact ⟨f', rfl⟩

def fourL (s : Int) : List UInt8 := [UInt8.ofNat (s / 16777216 % 256).toNat, UInt8.ofNat (s / 65536 % 256).toNat, UInt8.ofNat (s / 256 % 256).toNat, UInt8.ofNat (s % 256).toNat]
def four (s : Int) : ByteArray := tx (fourL s)

theorem four_eq (s : Int) : four s = ⟨(([IntKind.u8.wrap (s.fdiv (2 ^ min (Int.toNat 24) IntKind.u32.bits)), IntKind.u8.wrap (s.fdiv (2 ^ min (Int.toNat 16) IntKind.u32.bits)), IntKind.u8.wrap (s.fdiv (2 ^ min (Int.toNat 8) IntKind.u32.bits)), IntKind.u8.wrap s] : List Int).map fun v => UInt8.ofNat v.toNat).toArray⟩ := by
  unfold four fourL tx
  rw [show (2 : Int) ^ min (Int.toNat 24) IntKind.u32.bits = 16777216 from by decide, show (2 : Int) ^ min (Int.toNat 16) IntKind.u32.bits = 65536 from by decide, show (2 : Int) ^ min (Int.toNat 8) IntKind.u32.bits = 256 from by decide]
  simp only [u8_wrap, List.map_cons, List.map_nil]
  rw [Int.fdiv_eq_ediv_of_nonneg _ (by omega), Int.fdiv_eq_ediv_of_nonneg _ (by omega), Int.fdiv_eq_ediv_of_nonneg _ (by omega)]

end Go.Proofs.YtcnclhjhnjpeiaaDoor
