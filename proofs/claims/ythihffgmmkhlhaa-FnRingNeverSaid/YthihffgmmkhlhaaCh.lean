/-
  Small contracts that many laws share. Conditions: none.
-/
import Derived.Test.YthihffgmmkhlhaaSxA
import Derived.Test.YthihffgmmkhlhaaSxD
import Derived.Test.YthihffgmmkhlhaaTy
namespace Go.Proofs.Ythihffgmmkhlhaa
open Go.SX Go.Proofs

/-- between two bounds -/
def inR (a b x : Int) : Bool := decide (a ≤ x) && decide (x ≤ b)

theorem l01In_ct (x a b : Int) : Ct Try.prog 48 [.int .i64 x, .int .i64 a, .int .i64 b] [] (fun _ => True) (fun v A => v = .bool (inR a b x) ∧ A = []) := by
  refine Ct.intro0 G_ok Try.func48 rfl rfl rfl fun E H _ => ?_
  refine VCsplit.intro (fun h => ?_) (fun h => ?_)
  · refine ⟨[], ⟨by first | (simp_all [inR]; done) | (simp_all [inR]; intros; omega), rfl⟩, .refl _⟩
  · refine ⟨[], ⟨by first | (simp_all [inR]; done) | (simp_all [inR]; intros; omega), rfl⟩, .refl _⟩
theorem inRange_ct (x a b : Int) : Ct Try.prog 63 [.int .i64 x, .int .i64 a, .int .i64 b] [] (fun _ => True) (fun v A => v = .bool (inR a b x) ∧ A = []) := by
  refine Ct.intro0 G_ok Try.func63 rfl rfl rfl fun E H _ => ?_
  refine VCsplit.intro (fun h => ?_) (fun h => ?_)
  · refine ⟨[], ⟨by first | (simp_all [inR]; done) | (simp_all [inR]; intros; omega), rfl⟩, .refl _⟩
  · refine ⟨[], ⟨by first | (simp_all [inR]; done) | (simp_all [inR]; intros; omega), rfl⟩, .refl _⟩
theorem isNode_ct (x : Int) : Ct Try.prog 49 [.int .i64 x] [] (fun _ => True) (fun v A => v = .bool (inR 0 8 x) ∧ A = []) := by
  refine Ct.intro0 G_ok Try.func49 rfl rfl rfl fun E H _ => ?_
  refine VCsplit.intro (fun h => ?_) (fun h => ?_)
  · refine ⟨[], ⟨by first | (simp_all [inR]; done) | (simp_all [inR]; intros; omega), rfl⟩, .refl _⟩
  · refine ⟨[], ⟨by first | (simp_all [inR]; done) | (simp_all [inR]; intros; omega), rfl⟩, .refl _⟩
theorem isWorkers_ct (x : Int) : Ct Try.prog 62 [.int .i64 x] [] (fun _ => True) (fun v A => v = .bool (inR 1 8 x) ∧ A = []) := by
  refine Ct.intro0 G_ok Try.func62 rfl rfl rfl fun E H _ => ?_
  refine VCsplit.intro (fun h => ?_) (fun h => ?_)
  · refine ⟨[], ⟨by first | (simp_all [inR]; done) | (simp_all [inR]; intros; omega), rfl⟩, .refl _⟩
  · refine ⟨[], ⟨by first | (simp_all [inR]; done) | (simp_all [inR]; intros; omega), rfl⟩, .refl _⟩
end Go.Proofs.Ythihffgmmkhlhaa
