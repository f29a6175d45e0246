/-
  Frames read, on both sides. Conditions: none.
-/
import Derived.Test.YtflfohphebmemaaGreatIa
namespace Go.Proofs.YtflfohphebmemaaGreat
open Go.SX Go.Proofs
set_option linter.unusedSimpArgs false
set_option linter.unusedVariables false
set_option maxHeartbeats 4000000
attribute [local irreducible] IntKind.wrap

theorem frOk_no {t : ByteArray} {p : Nat} (h : (readVar t p).2.2 = false) : frOk t p = false := by unfold frOk; rw [h]; rfl
theorem frOk_end {t : ByteArray} {p : Nat} (h : t.size ≤ p) : frOk t p = false := frOk_no (by rw [readVar_end h])
theorem frOk_big {t : ByteArray} {p : Nat} (h : t.size < frE t p) : frOk t p = false := by unfold frOk; rw [decide_eq_false (by omega : ¬ frE t p ≤ t.size)]; simp
theorem frOk_len {t : ByteArray} {p : Nat} (h : ¬ (1 ≤ (readVar t p).1 ∧ (readVar t p).1 ≤ 9000)) : frOk t p = false := by
  unfold frOk
  by_cases h1 : 1 ≤ (readVar t p).1
  · rw [decide_eq_false (by omega : ¬ (readVar t p).1 ≤ 9000)]; simp
  · rw [decide_eq_false h1]; simp
theorem frOk_sum {t : ByteArray} {p : Nat} (h : ¬ t.extract (readVar t p).2.1 ((readVar t p).2.1 + 4) = four (sumOf (frT t p))) : frOk t p = false := by unfold frOk frSum; rw [decide_eq_false h]; simp
theorem frOk_yes {t : ByteArray} {p : Nat} (h1 : (readVar t p).2.2 = true) (h2 : 1 ≤ (readVar t p).1) (h3 : (readVar t p).1 ≤ 9000) (h4 : frE t p ≤ t.size) (h5 : t.extract (readVar t p).2.1 ((readVar t p).2.1 + 4) = four (sumOf (frT t p))) : frOk t p = true := by
  unfold frOk frSum; rw [h1, decide_eq_true h2, decide_eq_true h3, decide_eq_true h4, decide_eq_true h5]; rfl

theorem toN4 (a : Nat) : ((a : Int) + 4).toNat = a + 4 := by omega
theorem toN42 (a b : Nat) : ((a : Int) + 4 + (b : Int)).toNat = a + 4 + b := by omega
theorem tupS {a c : ByteArray} {b : Int} {d : Nat} {z : ByteArray} (h1 : a = c) (h2 : b = (d : Int)) : Value.tuple ⟨[.string a, .int .i64 b, .bool true]⟩ = .tuple #[.string (if true = true then c else z), .int .i64 (if true = true then d else 0 : Nat), .bool true] := by subst h1 h2; rfl
theorem frT_def (t : ByteArray) (p : Nat) : t.extract ((readVar t p).2.1 + 4) ((readVar t p).2.1 + 4 + (readVar t p).1) = frT t p := rfl

theorem frOk_fr {t : ByteArray} {p : Nat} (h1 : frameOk (frT t p) = false) (h2 : (frT t p).size = (readVar t p).1) : frOk t p = false := by
  unfold frameOk inR at h1
  refine frOk_len fun e => ?_
  rw [decide_eq_true (by omega), decide_eq_true (by omega)] at h1
  simp at h1
theorem frOk_fr2 {t : ByteArray} {p : Nat} (h1 : (readVar t p).2.2 = true) (h2 : frE t p ≤ t.size) (h3 : p ≤ t.size) (h4 : ¬ frame (frT t p) = t.extract p (frE t p)) : frOk t p = false := by
  rw [frame_eq h1 h2 h3] at h4
  unfold frOk; simp [h4]
theorem frOk_fr3 {t : ByteArray} {p : Nat} (h1 : (readVar t p).2.2 = true) (h2 : frE t p ≤ t.size) (h3 : p ≤ t.size) (h5 : frameOk (frT t p) = true) (h4 : frame (frT t p) = t.extract p (frE t p)) : frOk t p = true := by
  rw [frame_eq h1 h2 h3] at h4
  unfold frameOk at h5
  have h6 := inR_iff.1 h5
  have h7 := frT_size h2
  unfold frOk; rw [h1, h4, decide_eq_true (by omega), decide_eq_true (by omega), decide_eq_true h2]; rfl

attribute [local irreducible] readVar frOk sumOf frame four frameOk
end Go.Proofs.YtflfohphebmemaaGreat
