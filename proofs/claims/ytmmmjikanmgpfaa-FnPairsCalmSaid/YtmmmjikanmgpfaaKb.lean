/-
  Sealed texts, packets, on both sides. Conditions: none.
-/
import Derived.Test.YtmmmjikanmgpfaaKa
import Derived.Test.YtmmmjikanmgpfaaJs
namespace Go.Proofs.Ytmmmjikanmgpfaa
open Go.SX Go.Proofs
set_option linter.unusedSimpArgs false
set_option linter.unusedVariables false
set_option maxHeartbeats 4000000
attribute [local irreducible] IntKind.wrap

def sealOk (t : ByteArray) : Bool := decide (t.size ≤ 20000)
def sealT (t : ByteArray) : ByteArray := t ++ four (sumOf t)
def sealR (t : ByteArray) : ByteArray := if sealOk t then sealT t else .empty
theorem seal_no {t : ByteArray} (h : ¬ t.size ≤ 20000) : sealOk t = false ∧ sealR t = .empty := by unfold sealR sealOk; rw [decide_eq_false h]; exact ⟨rfl, rfl⟩
theorem seal_yes {t : ByteArray} (h : t.size ≤ 20000) : sealOk t = true ∧ sealR t = sealT t := by unfold sealR sealOk; rw [decide_eq_true h]; exact ⟨rfl, rfl⟩
def openT (t : ByteArray) : ByteArray := t.extract 0 (t.size - 4)
def openOk (t : ByteArray) : Bool := decide (4 ≤ t.size) && (decide (t.size - 4 ≤ 20000) && decide (four (sumOf (openT t)) = t.extract (t.size - 4) t.size))
def openR (t : ByteArray) : ByteArray := if openOk t then openT t else .empty
theorem open_no {t : ByteArray} (h : openOk t = true → False) : openOk t = false ∧ openR t = .empty := by
  have h1 : openOk t = false := by cases e : openOk t with
    | false => rfl
    | true => exact (h e).elim
  unfold openR; rw [h1]; exact ⟨rfl, rfl⟩
theorem open_iff {t : ByteArray} : openOk t = true ↔ 4 ≤ t.size ∧ t.size - 4 ≤ 20000 ∧ four (sumOf (openT t)) = t.extract (t.size - 4) t.size := by unfold openOk; simp
theorem open_yes {t : ByteArray} (h : 4 ≤ t.size ∧ t.size - 4 ≤ 20000 ∧ four (sumOf (openT t)) = t.extract (t.size - 4) t.size) : openOk t = true ∧ openR t = openT t := by
  have h1 := open_iff.2 h
  unfold openR; rw [h1]; exact ⟨rfl, rfl⟩

--@ct impl.Sealed val implSealed_ct _ ?_
--@ct spec.Sealed val specSealed_ct _ ?_
theorem implSealed_ct (t : ByteArray) (ht : t.size ≤ 1152921504606846976) : Ct Try.prog 89 [.string t] [] (fun _ => True) (fun v A => v = .tuple #[.string (sealR t), .bool (sealOk t)] ∧ A = []) := by
  refine Ct.intro0 G_ok Try.func89 rfl rfl rfl fun E H hp => ?_
  have h2 := four_size (sumOf t)
  refine VCsplit.intro (fun q0 => ?_) (fun q0 => ?_)
  ·
    simp at q0
    (obtain ⟨e1, e2⟩ := seal_no (t := t) (by omega); rw [e1, e2]; exact ⟨[], ⟨rfl, rfl⟩, (.le fun a => by (try simp only [setR, List.cons_append, List.nil_append]); simp only [List.flatten_append, List.flatten_cons, List.flatten_nil, List.count_append, List.count_nil, List.append_nil, List.nil_append]; omega)⟩)
  ·
    simp at q0
    refine call_val (sumText_ct _ ?_) trivial ?_
    · omega
    rintro _ rfl
    refine VC.intro ?_ ?_
    · simp; omega
    (obtain ⟨e1, e2⟩ := seal_yes (t := t) (by omega); rw [e1, e2]; exact ⟨[], ⟨rfl, rfl⟩, (.le fun a => by (try simp only [setR, List.cons_append, List.nil_append]); simp only [List.flatten_append, List.flatten_cons, List.flatten_nil, List.count_append, List.count_nil, List.append_nil, List.nil_append]; omega)⟩)

theorem specSealed_ct (t : ByteArray) (ht : t.size ≤ 1152921504606846976) : Ct Try.prog 96 [.string t] [] (fun _ => True) (fun v A => v = .tuple #[.string (sealR t), .bool (sealOk t)] ∧ A = []) := by
  refine Ct.intro0 G_ok Try.func96 rfl rfl rfl fun E H hp => ?_
  have h2 := four_size (sumOf t)
  refine VCsplit.intro (fun q0 => ?_) (fun q0 => ?_)
  ·
    simp at q0
    (obtain ⟨e1, e2⟩ := seal_no (t := t) (by omega); rw [e1, e2]; exact ⟨[], ⟨rfl, rfl⟩, (.le fun a => by (try simp only [setR, List.cons_append, List.nil_append]); simp only [List.flatten_append, List.flatten_cons, List.flatten_nil, List.count_append, List.count_nil, List.append_nil, List.nil_append]; omega)⟩)
  ·
    simp at q0
    refine call_val (specSumOf_ct _ ?_) trivial ?_
    · omega
    rintro _ rfl
    refine call_val (l02Four_ct _ ?_) trivial ?_
    · exact sumOf_rng t
    rintro _ rfl
    refine VC.intro ?_ ?_
    · simp; omega
    (obtain ⟨e1, e2⟩ := seal_yes (t := t) (by omega); rw [e1, e2]; exact ⟨[], ⟨rfl, rfl⟩, (.le fun a => by (try simp only [setR, List.cons_append, List.nil_append]); simp only [List.flatten_append, List.flatten_cons, List.flatten_nil, List.count_append, List.count_nil, List.append_nil, List.nil_append]; omega)⟩)

--@ct impl.Unsealed val implUnsealed_ct _ ?_
--@ct spec.Unsealed val specUnsealed_ct _ ?_
theorem implUnsealed_ct (t : ByteArray) (ht : t.size ≤ 1152921504606846976) : Ct Try.prog 91 [.string t] [] (fun _ => True) (fun v A => v = .tuple #[.string (openR t), .bool (openOk t)] ∧ A = []) := by
  refine Ct.intro0 G_ok Try.func91 rfl rfl rfl fun E H hp => ?_
  have hw : IntKind.i64.wrap ((t.size : Int) - 4) = (t.size : Int) - 4 := wrap_of (by omega) (by omega)
  refine draw G_ok mixed none (.q 0 (.q 1 (.q 2 (.q 3 (.q 4 (.q 5 (.q 6 (.q 7 (.q 8 (.q 9 (.q 11 (.q 12 (.q 13 (.f 10 (.q 14 (.q 15 (.nil))))))))))))))))) (by decide +kernel) ?_
  refine VCsplit.intro (fun q0 => ?_) (fun q0 => ?_)
  ·
    rw [hw] at q0
    simp at q0
    (obtain ⟨e1, e2⟩ := open_no (t := t) (fun h => by (have h9 := open_iff.1 h; omega)); rw [e1, e2]; exact ⟨[], ⟨rfl, rfl⟩, (.le fun a => by (try simp only [setR, List.cons_append, List.nil_append]); simp only [List.flatten_append, List.flatten_cons, List.flatten_nil, List.count_append, List.count_nil, List.append_nil, List.nil_append]; omega)⟩)
  ·
    rw [hw] at q0
    simp at q0
    refine VCsplit.intro (fun q1 => ?_) (fun q1 => ?_)
    ·
      rw [hw] at q1
      simp at q1
      (obtain ⟨e1, e2⟩ := open_no (t := t) (fun h => by (have h9 := open_iff.1 h; omega)); rw [e1, e2]; exact ⟨[], ⟨rfl, rfl⟩, (.le fun a => by (try simp only [setR, List.cons_append, List.nil_append]); simp only [List.flatten_append, List.flatten_cons, List.flatten_nil, List.count_append, List.count_nil, List.append_nil, List.nil_append]; omega)⟩)
    ·
      rw [hw] at q1
      simp at q1
      refine VC.intro ?_ ?_
      · (simp (disch := omega) only [wrap_of]; omega)
      refine VC.intro ?_ ?_
      · (simp (disch := omega) only [wrap_of]; omega)
      refine call_val (sumText_ct _ ?_) trivial ?_
      · simp; omega
      rintro _ rfl
      refine VC.intro ?_ ?_
      · exact fun _ h => h
      refine VCsplit.intro (fun q3 => ?_) (fun q3 => ?_)
      ·
        rw [hw] at q3
        simp at q3
        simp only [str_inj, u8_inj, u8_wrap] at q3
        (have hn : ((t.size : Int) - 4).toNat = t.size - 4 := (by omega); obtain ⟨e1, e2⟩ := open_no (t := t) (fun h => by (have h9 := (open_iff.1 h).2.2; have h8 := ‹¬ (_ : ByteArray) = _›; rw [hn] at h8; first | exact h8 h9 | exact h8 h9.symm)); rw [e1, e2]; exact ⟨[], ⟨rfl, rfl⟩, (.le fun a => by (try simp only [setR, List.cons_append, List.nil_append]); simp only [List.flatten_append, List.flatten_cons, List.flatten_nil, List.count_append, List.count_nil, List.append_nil, List.nil_append]; omega)⟩)
      ·
        rw [hw] at q3
        simp at q3
        simp only [str_inj, u8_inj, u8_wrap] at q3
        refine VC.intro ?_ ?_
        · (simp (disch := omega) only [wrap_of]; omega)
        (have hn : ((t.size : Int) - 4).toNat = t.size - 4 := (by omega); have h8 := ‹(_ : ByteArray) = _›; rw [hn] at h8; obtain ⟨e1, e2⟩ := open_yes (t := t) ⟨by omega, by omega, by first | exact h8 | exact h8.symm⟩; rw [e1, e2, hw, hn]; exact ⟨[], ⟨rfl, rfl⟩, (.le fun a => by (try simp only [setR, List.cons_append, List.nil_append]); simp only [List.flatten_append, List.flatten_cons, List.flatten_nil, List.count_append, List.count_nil, List.append_nil, List.nil_append]; omega)⟩)

theorem specUnsealed_ct (t : ByteArray) (ht : t.size ≤ 1152921504606846976) : Ct Try.prog 98 [.string t] [] (fun _ => True) (fun v A => v = .tuple #[.string (openR t), .bool (openOk t)] ∧ A = []) := by
  refine Ct.intro0 G_ok Try.func98 rfl rfl rfl fun E H hp => ?_
  have hw : IntKind.i64.wrap ((t.size : Int) - 4) = (t.size : Int) - 4 := wrap_of (by omega) (by omega)
  refine draw G_ok mixed none (.q 0 (.q 1 (.q 2 (.q 3 (.q 4 (.q 5 (.q 6 (.q 7 (.q 8 (.q 9 (.q 10 (.q 11 (.q 12 (.f 13 (.f 14 (.q 15 (.q 16 (.nil)))))))))))))))))) (by decide +kernel) ?_
  refine VCsplit.intro (fun q0 => ?_) (fun q0 => ?_)
  ·
    rw [hw] at q0
    simp at q0
    (obtain ⟨e1, e2⟩ := open_no (t := t) (fun h => by (have h9 := open_iff.1 h; omega)); rw [e1, e2]; exact ⟨[], ⟨rfl, rfl⟩, (.le fun a => by (try simp only [setR, List.cons_append, List.nil_append]); simp only [List.flatten_append, List.flatten_cons, List.flatten_nil, List.count_append, List.count_nil, List.append_nil, List.nil_append]; omega)⟩)
  ·
    rw [hw] at q0
    simp at q0
    refine VCsplit.intro (fun q1 => ?_) (fun q1 => ?_)
    ·
      rw [hw] at q1
      simp at q1
      (obtain ⟨e1, e2⟩ := open_no (t := t) (fun h => by (have h9 := open_iff.1 h; omega)); rw [e1, e2]; exact ⟨[], ⟨rfl, rfl⟩, (.le fun a => by (try simp only [setR, List.cons_append, List.nil_append]); simp only [List.flatten_append, List.flatten_cons, List.flatten_nil, List.count_append, List.count_nil, List.append_nil, List.nil_append]; omega)⟩)
    ·
      rw [hw] at q1
      simp at q1
      refine VC.intro ?_ ?_
      · (simp (disch := omega) only [wrap_of]; omega)
      refine VC.intro ?_ ?_
      · (simp (disch := omega) only [wrap_of]; omega)
      refine call_val (specSumOf_ct _ ?_) trivial ?_
      · simp; omega
      rintro _ rfl
      refine VC.intro ?_ ?_
      · exact fun _ h => h
      refine call_val (l02Four_ct _ ?_) trivial ?_
      · exact sumOf_rng _
      rintro _ rfl
      refine VC.intro ?_ ?_
      · exact fun _ h => h
      refine VCsplit.intro (fun q4 => ?_) (fun q4 => ?_)
      ·
        rw [hw] at q4
        simp at q4
        simp only [str_inj, u8_inj, u8_wrap] at q4
        (have hn : ((t.size : Int) - 4).toNat = t.size - 4 := (by omega); obtain ⟨e1, e2⟩ := open_no (t := t) (fun h => by (have h9 := (open_iff.1 h).2.2; have h8 := ‹¬ (_ : ByteArray) = _›; rw [hn] at h8; first | exact h8 h9 | exact h8 h9.symm)); rw [e1, e2]; exact ⟨[], ⟨rfl, rfl⟩, (.le fun a => by (try simp only [setR, List.cons_append, List.nil_append]); simp only [List.flatten_append, List.flatten_cons, List.flatten_nil, List.count_append, List.count_nil, List.append_nil, List.nil_append]; omega)⟩)
      ·
        rw [hw] at q4
        simp at q4
        simp only [str_inj, u8_inj, u8_wrap] at q4
        refine VC.intro ?_ ?_
        · (simp (disch := omega) only [wrap_of]; omega)
        (have hn : ((t.size : Int) - 4).toNat = t.size - 4 := (by omega); have h8 := ‹(_ : ByteArray) = _›; rw [hn] at h8; obtain ⟨e1, e2⟩ := open_yes (t := t) ⟨by omega, by omega, by first | exact h8 | exact h8.symm⟩; rw [e1, e2, hw, hn]; exact ⟨[], ⟨rfl, rfl⟩, (.le fun a => by (try simp only [setR, List.cons_append, List.nil_append]); simp only [List.flatten_append, List.flatten_cons, List.flatten_nil, List.count_append, List.count_nil, List.append_nil, List.nil_append]; omega)⟩)

end Go.Proofs.Ytmmmjikanmgpfaa
