/-
  Disks read, on both sides: whether they are right, files, records, epochs. Conditions: none.
-/
import Derived.Test.YtcikookachejfaaIj
import Derived.Test.YtcikookachejfaaSxZ
namespace Go.Proofs.Ytcikookachejfaa
open Go.SX Go.Proofs
set_option linter.unusedSimpArgs false
set_option linter.unusedVariables false
set_option maxHeartbeats 4000000
attribute [local irreducible] IntKind.wrap

def lessS (a b : ByteArray) : Bool := Op.bytesLess a.toList b.toList
def nameOk (s : ByteArray) : Bool := inR 1 8 s.size
def fileOk (d : Disk) (i : Nat) : Bool :=
  nameOk (d.files[i]?.getD default).name && (decide ((d.files[i]?.getD default).text.size ≤ 20000) && (inR 0 (d.files[i]?.getD default).text.size (d.files[i]?.getD default).kept && (decide (i = 0) || lessS (d.files[i - 1]?.getD default).name (d.files[i]?.getD default).name)))
def filesOk (d : Disk) : Nat → Bool
  | 0 => true
  | k + 1 => filesOk d k && fileOk d k
def diskOk (d : Disk) : Bool := decide (d.files.length ≤ 30) && filesOk d d.files.length
theorem filesOk_no (d : Disk) (k : Nat) (h : fileOk d k = false) : ∀ n, k < n → filesOk d n = false
  | 0, h1 => by omega
  | n + 1, h1 => by
    unfold filesOk
    rcases Nat.lt_or_ge k n with h2 | h2
    · rw [filesOk_no d k h n h2]; rfl
    · rw [show n = k by omega, h]; simp
theorem diskOk_no (d : Disk) (k : Nat) (h1 : k < d.files.length) (h : fileOk d k = false) : diskOk d = false := by
  unfold diskOk; rw [filesOk_no d k h _ h1]; simp

theorem fileOk_iff {d : Disk} {i : Nat} : fileOk d i = true ↔ nameOk (d.files[i]?.getD default).name = true ∧ (d.files[i]?.getD default).text.size ≤ 20000 ∧ 0 ≤ (d.files[i]?.getD default).kept ∧ (d.files[i]?.getD default).kept ≤ (d.files[i]?.getD default).text.size ∧ (i = 0 ∨ lessS (d.files[i - 1]?.getD default).name (d.files[i]?.getD default).name = true) := by
  unfold fileOk
  simp only [Bool.and_eq_true, Bool.or_eq_true, decide_eq_true_iff, inR_iff, and_assoc]
theorem fileOk_f {d : Disk} {i : Nat} (h : fileOk d i = true → False) : fileOk d i = false := by
  cases e : fileOk d i with
  | false => rfl
  | true => exact (h e).elim
theorem diskOk_big {d : Disk} (h : 30 < d.files.length) : diskOk d = false := by unfold diskOk; rw [decide_eq_false (by omega)]; rfl
theorem diskOk_yes {d : Disk} (h : d.files.length ≤ 30) (h2 : filesOk d d.files.length = true) : diskOk d = true := by unfold diskOk; rw [h2, decide_eq_true (by omega)]; rfl
theorem filesOk_step {d : Disk} {k : Nat} (h : filesOk d k = true) (h2 : fileOk d k = true) : filesOk d (k + 1) = true := by unfold filesOk; rw [h, h2]; rfl
theorem beq_str (a b : ByteArray) : (a.toList == b.toList) = decide (a = b) := by
  rw [Bool.eq_iff_iff, beq_iff_eq, decide_eq_true_iff]; exact str_inj

--@ct spec.l14Name val l14Name_ct _ ?_
theorem l14Name_ct (s : ByteArray) (hs : s.size ≤ 9223372036854775807) : Ct Try.prog 205 [.string s] [] (fun _ => True) (fun v A => v = .bool (nameOk s) ∧ A = []) := by
  refine Ct.intro0 G_ok Try.func205 rfl rfl rfl fun E H hp => ?_
  refine call_val (l01In_ct _ _ _) trivial ?_
  rintro _ rfl
  exact ⟨[], ⟨rfl, rfl⟩, (.le fun a => by (try simp only [setR, List.cons_append, List.nil_append]); simp only [List.flatten_append, List.flatten_cons, List.flatten_nil, List.count_append, List.count_nil, List.append_nil, List.nil_append]; omega)⟩
--@ct impl.isFileName val isFileName_ct _ ?_
theorem isFileName_ct (s : ByteArray) (hs : s.size ≤ 9223372036854775807) : Ct Try.prog 239 [.string s] [] (fun _ => True) (fun v A => v = .bool (nameOk s) ∧ A = []) := by
  refine Ct.intro0 G_ok Try.func239 rfl rfl rfl fun E H hp => ?_
  refine VCsplit.intro (fun q0 => ?_) (fun q0 => ?_)
  ·
    simp at q0
    exact ⟨[], ⟨by unfold nameOk inR; first | rw [decide_eq_true (by omega : (1 : Int) ≤ s.size), Bool.true_and] | rw [decide_eq_false (by omega : ¬ (1 : Int) ≤ s.size), Bool.false_and], rfl⟩, (.le fun a => by (try simp only [setR, List.cons_append, List.nil_append]); simp only [List.flatten_append, List.flatten_cons, List.flatten_nil, List.count_append, List.count_nil, List.append_nil, List.nil_append]; omega)⟩
  ·
    simp at q0
    exact ⟨[], ⟨by unfold nameOk inR; first | rw [decide_eq_true (by omega : (1 : Int) ≤ s.size), Bool.true_and] | rw [decide_eq_false (by omega : ¬ (1 : Int) ≤ s.size), Bool.false_and], rfl⟩, (.le fun a => by (try simp only [setR, List.cons_append, List.nil_append]); simp only [List.flatten_append, List.flatten_cons, List.flatten_nil, List.count_append, List.count_nil, List.append_nil, List.nil_append]; omega)⟩

--@ct impl.DiskOk val implDiskOk_ct _ $1 | %1
theorem implDiskOk_ct (l : List Value) (d : Disk) : Ct Try.prog 212 [.agg ⟨l⟩] [] (fun H => gDisk.rd H l d) (fun v A => v = .bool (diskOk d) ∧ A = []) := by
  refine Ct.intro0 G_ok Try.func212 rfl rfl rfl fun E H hp => ?_
  obtain ⟨b0p, c0p, rfl, h0p⟩ := gDisk_rd.1 hp
  refine VCnew.intro fun x0 => ?_
  refine VCsplit.intro (fun q1 => ?_) (fun q1 => ?_)
  ·
    simp at q1
    exact ⟨[], ⟨by rw [diskOk_big (by omega)], rfl⟩, (.le fun a => by (try simp only [setR, List.cons_append, List.nil_append]); simp only [List.flatten_append, List.flatten_cons, List.flatten_nil, List.count_append, List.count_nil, List.append_nil, List.nil_append]; omega)⟩
  ·
    simp at q1
    apply loop_mod (α := (Nat)) G_ok [13, 14, 15, 16, 4, 3, 17, 18, 19, 20, 21, 22, 23, 24, 25, 26, 27, 28, 29, 30, 31, 32, 33, 34, 35, 36, 37, 38, 39, 2, 40, 41, 42, 43, 44, 45, 46, 47, 48, 49, 50, 51, 52, 53, 54, 12] (fun z => [(12, .v (.int .i64 z))]) (fun z => [{ id := x0, cs := [Value.slice b0p d.files.length c0p], ty := (128 : Nat) }]) (fun z => [H]) (fun z => d.files.length - z) (fun z => z ≤ d.files.length ∧ filesOk d z = true) (0)
    · repeat' (first | exact trivial | refine ⟨⟨_, rfl, by first | rfl | exact inc_eq _ (by omega) | (refine sl_eq ?_; simp; done), by first | exact trivial | simp [SV.ok]⟩, ?_⟩)
    · exact ⟨rfl, trivial⟩
    · exact ⟨by omega, rfl⟩
    · exact .refl _
    rintro k hI
    obtain ⟨hk, ha⟩ : k ≤ d.files.length ∧ filesOk d k = true := hI
    try dsimp only
    refine VCsplit.intro (fun q2 => ?_) (fun q2 => ?_)
    ·
      simp at q2
      refine idx_rd h0p ?_ ?_ fun b3 o3 hb3 => ?_
      · omega
      · omega
      refine load_allN default (k) rfl h0p ?_ ?_ hb3 rfl (mem_at 0 rfl) fun l4 hl4 => ?_
      · omega
      · omega
      obtain ⟨rfl, w0x4, w1x4, w2x4⟩ := gFile_rd.1 hl4
      refine VCnew.intro fun x5 => ?_
      refine call_val (isFileName_ct _ ?_) trivial ?_
      · trivial
      rintro _ rfl
      refine VCsplit.intro (fun q7 => ?_) (fun q7 => ?_)
      ·
        simp at q7
        exact ⟨[], ⟨by rw [diskOk_no d k (by omega) (fileOk_f fun e => by (obtain ⟨e1, e2, e3, e4, e5⟩ := fileOk_iff.1 e; first | exact absurd (e1.symm.trans ‹nameOk _ = false›) (by decide) | omega | exact e5.elim (by omega) (fun h => absurd (h.symm.trans ‹Op.bytesLess _ _ = false›) (by decide))))], rfl⟩, (.le fun a => by (try simp only [setR, List.cons_append, List.nil_append]); simp only [List.flatten_append, List.flatten_cons, List.flatten_nil, List.count_append, List.count_nil, List.append_nil, List.nil_append]; omega)⟩
      ·
        simp at q7
        have iq7 := inR_iff.1 q7
        refine VCsplit.intro (fun q8 => ?_) (fun q8 => ?_)
        ·
          simp at q8
          exact ⟨[], ⟨by rw [diskOk_no d k (by omega) (fileOk_f fun e => by (obtain ⟨e1, e2, e3, e4, e5⟩ := fileOk_iff.1 e; first | exact absurd (e1.symm.trans ‹nameOk _ = false›) (by decide) | omega | exact e5.elim (by omega) (fun h => absurd (h.symm.trans ‹Op.bytesLess _ _ = false›) (by decide))))], rfl⟩, (.le fun a => by (try simp only [setR, List.cons_append, List.nil_append]); simp only [List.flatten_append, List.flatten_cons, List.flatten_nil, List.count_append, List.count_nil, List.append_nil, List.nil_append]; omega)⟩
        ·
          simp at q8
          refine VCsplit.intro (fun q9 => ?_) (fun q9 => ?_)
          ·
            simp at q9
            exact ⟨[], ⟨by rw [diskOk_no d k (by omega) (fileOk_f fun e => by (obtain ⟨e1, e2, e3, e4, e5⟩ := fileOk_iff.1 e; first | exact absurd (e1.symm.trans ‹nameOk _ = false›) (by decide) | omega | exact e5.elim (by omega) (fun h => absurd (h.symm.trans ‹Op.bytesLess _ _ = false›) (by decide))))], rfl⟩, (.le fun a => by (try simp only [setR, List.cons_append, List.nil_append]); simp only [List.flatten_append, List.flatten_cons, List.flatten_nil, List.count_append, List.count_nil, List.append_nil, List.nil_append]; omega)⟩
          ·
            simp at q9
            refine VCsplit.intro (fun q10 => ?_) (fun q10 => ?_)
            ·
              simp at q10
              exact ⟨[], ⟨by rw [diskOk_no d k (by omega) (fileOk_f fun e => by (obtain ⟨e1, e2, e3, e4, e5⟩ := fileOk_iff.1 e; first | exact absurd (e1.symm.trans ‹nameOk _ = false›) (by decide) | omega | exact e5.elim (by omega) (fun h => absurd (h.symm.trans ‹Op.bytesLess _ _ = false›) (by decide))))], rfl⟩, (.le fun a => by (try simp only [setR, List.cons_append, List.nil_append]); simp only [List.flatten_append, List.flatten_cons, List.flatten_nil, List.count_append, List.count_nil, List.append_nil, List.nil_append]; omega)⟩
            ·
              simp at q10
              refine draw G_ok mixed none (.q 0 (.q 1 (.q 2 (.q 3 (.q 4 (.q 5 (.q 6 (.q 7 (.q 8 (.q 9 (.q 10 (.q 11 (.q 12 (.q 13 (.nil))))))))))))))) (by decide +kernel) ?_
              refine VCsplit.intro (fun q11 => ?_) (fun q11 => ?_)
              ·
                simp at q11
                refine idx_rd h0p ?_ ?_ fun b12 o12 hb12 => ?_
                · (simp (disch := omega) only [wrap_of]; omega)
                · (simp (disch := omega) only [wrap_of]; omega)
                refine load_part default 0 h0p ?_ ?_ hb12 rfl (by decide) (mem_at 0 rfl) fun l13 hl13 => ?_
                · (simp (disch := omega) only [wrap_of]; omega)
                · (simp (disch := omega) only [wrap_of]; omega)
                rw [show (IntKind.i64.wrap ((k : Int) - 1)).toNat = k - 1 by (simp (disch := omega) only [wrap_of]; omega)] at hl13
                obtain ⟨rfl, w0x13, w1x13, w2x13⟩ := gFile_rd.1 hl13
                refine VCsplit.intro (fun q14 => ?_) (fun q14 => ?_)
                ·
                  simp at q14
                  exact ⟨[], ⟨by rw [diskOk_no d k (by omega) (fileOk_f fun e => by (obtain ⟨e1, e2, e3, e4, e5⟩ := fileOk_iff.1 e; first | exact absurd (e1.symm.trans ‹nameOk _ = false›) (by decide) | omega | exact e5.elim (by omega) (fun h => absurd (h.symm.trans ‹Op.bytesLess _ _ = false›) (by decide))))], rfl⟩, (.le fun a => by (try simp only [setR, List.cons_append, List.nil_append]); simp only [List.flatten_append, List.flatten_cons, List.flatten_nil, List.count_append, List.count_nil, List.append_nil, List.nil_append]; omega)⟩
                ·
                  simp at q14
                  apply loop_stepA (k + 1)
                  · exact .refl _
                  · repeat' (first | exact trivial | refine ⟨⟨_, rfl, by first | rfl | exact inc_eq _ (by omega) | (refine sl_eq ?_; simp; done), by first | exact trivial | simp [SV.ok]⟩, ?_⟩)
                  · exact ⟨rfl, trivial⟩
                  · exact ⟨by omega, filesOk_step ha (fileOk_iff.2 ⟨by assumption, by omega, by omega, by omega, by first | exact .inl (by omega) | exact .inr (by assumption)⟩)⟩
                  · omega
              ·
                simp at q11
                apply loop_stepA (k + 1)
                · exact .refl _
                · repeat' (first | exact trivial | refine ⟨⟨_, rfl, by first | rfl | exact inc_eq _ (by omega) | (refine sl_eq ?_; simp; done), by first | exact trivial | simp [SV.ok]⟩, ?_⟩)
                · exact ⟨rfl, trivial⟩
                · exact ⟨by omega, filesOk_step ha (fileOk_iff.2 ⟨by assumption, by omega, by omega, by omega, by first | exact .inl (by omega) | exact .inr (by assumption)⟩)⟩
                · omega
    ·
      simp at q2
      obtain rfl : k = d.files.length := by omega
      exact ⟨[], ⟨by rw [diskOk_yes (by omega) ha], rfl⟩, (.le fun a => by (try simp only [setR, List.cons_append, List.nil_append]); simp only [List.flatten_append, List.flatten_cons, List.flatten_nil, List.count_append, List.count_nil, List.append_nil, List.nil_append]; omega)⟩

--@ct spec.DiskOk val specDiskOk_ct _ $1 | %1
theorem specDiskOk_ct (l : List Value) (d : Disk) : Ct Try.prog 144 [.agg ⟨l⟩] [] (fun H => gDisk.rd H l d) (fun v A => v = .bool (diskOk d) ∧ A = []) := by
  refine Ct.intro0 G_ok Try.func144 rfl rfl rfl fun E H hp => ?_
  obtain ⟨b0p, c0p, rfl, h0p⟩ := gDisk_rd.1 hp
  refine VCnew.intro fun x0 => ?_
  refine VCsplit.intro (fun q1 => ?_) (fun q1 => ?_)
  ·
    simp at q1
    exact ⟨[], ⟨by rw [diskOk_big (by omega)], rfl⟩, (.le fun a => by (try simp only [setR, List.cons_append, List.nil_append]); simp only [List.flatten_append, List.flatten_cons, List.flatten_nil, List.count_append, List.count_nil, List.append_nil, List.nil_append]; omega)⟩
  ·
    simp at q1
    apply loop_mod (α := (Nat)) G_ok [9, 10, 11, 12, 13, 16, 17, 18, 19, 20, 4, 21, 22, 23, 24, 25, 26, 27, 28, 29, 30, 31, 32, 33, 34, 35, 36, 37, 38, 39, 40, 41, 42, 43, 44, 45, 46, 47, 48, 49, 50, 51, 52, 53, 54, 55, 2, 14, 15, 3] (fun z => [(3, .v (.int .i64 z))]) (fun z => [{ id := x0, cs := [Value.slice b0p d.files.length c0p], ty := (128 : Nat) }]) (fun z => [H]) (fun z => d.files.length - z) (fun z => z ≤ d.files.length ∧ filesOk d z = true) (0)
    · repeat' (first | exact trivial | refine ⟨⟨_, rfl, by first | rfl | exact inc_eq _ (by omega) | (refine sl_eq ?_; simp; done), by first | exact trivial | simp [SV.ok]⟩, ?_⟩)
    · exact ⟨rfl, trivial⟩
    · exact ⟨by omega, rfl⟩
    · exact .refl _
    rintro k hI
    obtain ⟨hk, ha⟩ : k ≤ d.files.length ∧ filesOk d k = true := hI
    try dsimp only
    refine VCsplit.intro (fun q2 => ?_) (fun q2 => ?_)
    ·
      simp at q2
      refine idx_rd h0p ?_ ?_ fun b3 o3 hb3 => ?_
      · omega
      · omega
      refine load_allN default (k) rfl h0p ?_ ?_ hb3 rfl (mem_at 0 rfl) fun l4 hl4 => ?_
      · omega
      · omega
      obtain ⟨rfl, w0x4, w1x4, w2x4⟩ := gFile_rd.1 hl4
      refine VCnew.intro fun x5 => ?_
      refine draw G_ok mixed none (.q 0 (.q 1 (.f 2 (.q 3 (.q 4 (.q 5 (.q 6 (.q 7 (.q 8 (.q 9 (.q 10 (.q 11 (.q 12 (.q 13 (.q 14 (.q 15 (.f 16 (.q 17 (.q 18 (.q 19 (.q 20 (.q 21 (.q 22 (.q 23 (.q 24 (.q 25 (.q 26 (.q 27 (.q 28 (.q 29 (.q 30 (.q 31 (.q 32 (.q 33 (.q 34 (.nil)))))))))))))))))))))))))))))))))))) (by decide +kernel) ?_
      refine call_val (l14Name_ct _ ?_) trivial ?_
      · trivial
      rintro _ rfl
      refine VC.intro ?_ ?_
      · exact fun _ h => h
      refine VCsplit.intro (fun q7 => ?_) (fun q7 => ?_)
      ·
        simp at q7
        have iq7 := mt inR_iff.2 (Bool.eq_false_iff.1 q7)
        exact ⟨[], ⟨by rw [diskOk_no d k (by omega) (fileOk_f fun e => by (obtain ⟨e1, e2, e3, e4, e5⟩ := fileOk_iff.1 e; first | exact absurd (e1.symm.trans ‹nameOk _ = false›) (by decide) | omega | exact e5.elim (by omega) (fun h => absurd (h.symm.trans ‹Op.bytesLess _ _ = false›) (by decide))))], rfl⟩, (.le fun a => by (try simp only [setR, List.cons_append, List.nil_append]); simp only [List.flatten_append, List.flatten_cons, List.flatten_nil, List.count_append, List.count_nil, List.append_nil, List.nil_append]; omega)⟩
      ·
        simp at q7
        have iq7 := inR_iff.1 q7
        refine VCsplit.intro (fun q8 => ?_) (fun q8 => ?_)
        ·
          simp at q8
          exact ⟨[], ⟨by rw [diskOk_no d k (by omega) (fileOk_f fun e => by (obtain ⟨e1, e2, e3, e4, e5⟩ := fileOk_iff.1 e; first | exact absurd (e1.symm.trans ‹nameOk _ = false›) (by decide) | omega | exact e5.elim (by omega) (fun h => absurd (h.symm.trans ‹Op.bytesLess _ _ = false›) (by decide))))], rfl⟩, (.le fun a => by (try simp only [setR, List.cons_append, List.nil_append]); simp only [List.flatten_append, List.flatten_cons, List.flatten_nil, List.count_append, List.count_nil, List.append_nil, List.nil_append]; omega)⟩
        ·
          simp at q8
          refine call_val (l01In_ct _ _ _) trivial ?_
          rintro _ rfl
          refine VC.intro ?_ ?_
          · exact fun _ h => h
          refine VCsplit.intro (fun q10 => ?_) (fun q10 => ?_)
          ·
            simp at q10
            have iq10 := mt inR_iff.2 (Bool.eq_false_iff.1 q10)
            exact ⟨[], ⟨by rw [diskOk_no d k (by omega) (fileOk_f fun e => by (obtain ⟨e1, e2, e3, e4, e5⟩ := fileOk_iff.1 e; first | exact absurd (e1.symm.trans ‹nameOk _ = false›) (by decide) | omega | exact e5.elim (by omega) (fun h => absurd (h.symm.trans ‹Op.bytesLess _ _ = false›) (by decide))))], rfl⟩, (.le fun a => by (try simp only [setR, List.cons_append, List.nil_append]); simp only [List.flatten_append, List.flatten_cons, List.flatten_nil, List.count_append, List.count_nil, List.append_nil, List.nil_append]; omega)⟩
          ·
            simp at q10
            have iq10 := inR_iff.1 q10
            refine VCsplit.intro (fun q11 => ?_) (fun q11 => ?_)
            ·
              simp at q11
              refine idx_rd h0p ?_ ?_ fun b12 o12 hb12 => ?_
              · (simp (disch := omega) only [wrap_of]; omega)
              · (simp (disch := omega) only [wrap_of]; omega)
              refine load_part default 0 h0p ?_ ?_ hb12 rfl (by decide) (mem_at 0 rfl) fun l13 hl13 => ?_
              · (simp (disch := omega) only [wrap_of]; omega)
              · (simp (disch := omega) only [wrap_of]; omega)
              rw [show (IntKind.i64.wrap ((k : Int) - 1)).toNat = k - 1 by (simp (disch := omega) only [wrap_of]; omega)] at hl13
              obtain ⟨rfl, w0x13, w1x13, w2x13⟩ := gFile_rd.1 hl13
              refine VCsplit.intro (fun q14 => ?_) (fun q14 => ?_)
              ·
                simp at q14
                exact ⟨[], ⟨by rw [diskOk_no d k (by omega) (fileOk_f fun e => by (obtain ⟨e1, e2, e3, e4, e5⟩ := fileOk_iff.1 e; first | exact absurd (e1.symm.trans ‹nameOk _ = false›) (by decide) | omega | exact e5.elim (by omega) (fun h => absurd (h.symm.trans ‹Op.bytesLess _ _ = false›) (by decide))))], rfl⟩, (.le fun a => by (try simp only [setR, List.cons_append, List.nil_append]); simp only [List.flatten_append, List.flatten_cons, List.flatten_nil, List.count_append, List.count_nil, List.append_nil, List.nil_append]; omega)⟩
              ·
                simp at q14
                apply loop_stepA (k + 1)
                · exact .refl _
                · repeat' (first | exact trivial | refine ⟨⟨_, rfl, by first | rfl | exact inc_eq _ (by omega) | (refine sl_eq ?_; simp; done), by first | exact trivial | simp [SV.ok]⟩, ?_⟩)
                · exact ⟨rfl, trivial⟩
                · exact ⟨by omega, filesOk_step ha (fileOk_iff.2 ⟨by assumption, by omega, by omega, by omega, by first | exact .inl (by omega) | exact .inr (by assumption)⟩)⟩
                · omega
            ·
              simp at q11
              apply loop_stepA (k + 1)
              · exact .refl _
              · repeat' (first | exact trivial | refine ⟨⟨_, rfl, by first | rfl | exact inc_eq _ (by omega) | (refine sl_eq ?_; simp; done), by first | exact trivial | simp [SV.ok]⟩, ?_⟩)
              · exact ⟨rfl, trivial⟩
              · exact ⟨by omega, filesOk_step ha (fileOk_iff.2 ⟨by assumption, by omega, by omega, by omega, by first | exact .inl (by omega) | exact .inr (by assumption)⟩)⟩
              · omega
    ·
      simp at q2
      obtain rfl : k = d.files.length := by omega
      exact ⟨[], ⟨by rw [diskOk_yes (by omega) ha], rfl⟩, (.le fun a => by (try simp only [setR, List.cons_append, List.nil_append]); simp only [List.flatten_append, List.flatten_cons, List.flatten_nil, List.count_append, List.count_nil, List.append_nil, List.nil_append]; omega)⟩


/-- where a file stands -/
def fileAt (d : Disk) (name : ByteArray) : Nat → Int
  | 0 => -1
  | k + 1 => if fileAt d name k < 0 then (if (d.files[k]?.getD default).name = name then (k : Int) else -1) else fileAt d name k
def at14 (d : Disk) (name : ByteArray) : Int := fileAt d name d.files.length
theorem fileAt_no {d : Disk} {name : ByteArray} {k : Nat} (h : fileAt d name k = -1) (h2 : ¬ (d.files[k]?.getD default).name = name) : fileAt d name (k + 1) = -1 := by
  unfold fileAt; rw [h, if_pos (by decide), if_neg h2]
theorem fileAt_yes {d : Disk} {name : ByteArray} {k : Nat} (h : fileAt d name k = -1) (h2 : (d.files[k]?.getD default).name = name) : ∀ m, fileAt d name (k + 1 + m) = (k : Int)
  | 0 => by rw [Nat.add_zero]; unfold fileAt; rw [h, if_pos (by decide), if_pos h2]
  | m + 1 => by
    rw [show k + 1 + (m + 1) = (k + 1 + m) + 1 by omega]
    unfold fileAt
    rw [fileAt_yes h h2 m, if_neg (by omega)]
theorem at14_yes {d : Disk} {name : ByteArray} {k : Nat} (hk : k < d.files.length) (h : fileAt d name k = -1) (h2 : (d.files[k]?.getD default).name = name) : at14 d name = (k : Int) := by
  unfold at14
  have := fileAt_yes h h2 (d.files.length - (k + 1))
  rw [show k + 1 + (d.files.length - (k + 1)) = d.files.length by omega] at this
  exact this
theorem fileAt_rng (d : Disk) (name : ByteArray) : ∀ n, -1 ≤ fileAt d name n ∧ fileAt d name n < n
  | 0 => by unfold fileAt; omega
  | n + 1 => by
    have := fileAt_rng d name n
    unfold fileAt
    split
    · split <;> omega
    · omega
theorem at14_rng (d : Disk) (name : ByteArray) : -1 ≤ at14 d name ∧ at14 d name < d.files.length := fileAt_rng d name _
def fileText (d : Disk) (name : ByteArray) : ByteArray := if at14 d name < 0 then .empty else (d.files[(at14 d name).toNat]?.getD default).text

--@ct spec.l14At val l14At_ct _ $1 _ | %1
theorem l14At_ct (l : List Value) (d : Disk) (name : ByteArray) : Ct Try.prog 206 [.agg ⟨l⟩, .string name] [] (fun H => gDisk.rd H l d) (fun v A => v = .int .i64 (at14 d name) ∧ A = []) := by
  refine Ct.intro0 G_ok Try.func206 rfl rfl rfl fun E H hp => ?_
  obtain ⟨b0p, c0p, rfl, h0p⟩ := gDisk_rd.1 hp
  have hl := (rd_len h0p).2
  refine VCnew.intro fun x0 => ?_
  apply loop_mod (α := (Nat)) G_ok [6, 7, 8, 9, 10, 13, 14, 15, 16, 17, 18, 19, 20, 21, 4, 11, 12, 5] (fun z => [(5, .v (.int .i64 z))]) (fun z => [{ id := x0, cs := [Value.slice b0p d.files.length c0p], ty := (128 : Nat) }]) (fun z => [H]) (fun z => d.files.length - z) (fun z => z ≤ d.files.length ∧ fileAt d name z = -1) (0)
  · repeat' (first | exact trivial | refine ⟨⟨_, rfl, by first | rfl | exact inc_eq _ (by omega) | (refine sl_eq ?_; simp; done), by first | exact trivial | simp [SV.ok]⟩, ?_⟩)
  · exact ⟨rfl, trivial⟩
  · exact ⟨by omega, rfl⟩
  · exact .refl _
  rintro k hI
  obtain ⟨hk, ha⟩ : k ≤ d.files.length ∧ fileAt d name k = -1 := hI
  try dsimp only
  refine VCsplit.intro (fun q1 => ?_) (fun q1 => ?_)
  ·
    simp at q1
    refine idx_rd h0p ?_ ?_ fun b2 o2 hb2 => ?_
    · omega
    · omega
    refine load_partN default (k) 0 rfl h0p ?_ ?_ hb2 rfl (by decide) (mem_at 0 rfl) fun l3 hl3 => ?_
    · omega
    · omega
    obtain ⟨rfl, w0x3, w1x3, w2x3⟩ := gFile_rd.1 hl3
    refine VCsplit.intro (fun q4 => ?_) (fun q4 => ?_)
    ·
      simp at q4
      simp only [str_inj, u8_inj, u8_wrap] at q4
      exact ⟨[], ⟨by rw [at14_yes (by omega) ha ‹_›], rfl⟩, (.le fun a => by (try simp only [setR, List.cons_append, List.nil_append]); simp only [List.flatten_append, List.flatten_cons, List.flatten_nil, List.count_append, List.count_nil, List.append_nil, List.nil_append]; omega)⟩
    ·
      simp at q4
      simp only [str_inj, u8_inj, u8_wrap] at q4
      apply loop_stepA (k + 1)
      · exact .refl _
      · repeat' (first | exact trivial | refine ⟨⟨_, rfl, by first | rfl | exact inc_eq _ (by omega) | (refine sl_eq ?_; simp; done), by first | exact trivial | simp [SV.ok]⟩, ?_⟩)
      · exact ⟨rfl, trivial⟩
      · exact ⟨by omega, fileAt_no ha ‹_›⟩
      · omega
  ·
    simp at q1
    obtain rfl : k = d.files.length := by omega
    exact ⟨[], ⟨by unfold at14; rw [ha], rfl⟩, (.le fun a => by (try simp only [setR, List.cons_append, List.nil_append]); simp only [List.flatten_append, List.flatten_cons, List.flatten_nil, List.count_append, List.count_nil, List.append_nil, List.nil_append]; omega)⟩

--@ct spec.FileAt val specFileAt_ct _ $1 _ | %1
theorem specFileAt_ct (l : List Value) (d : Disk) (name : ByteArray) : Ct Try.prog 145 [.agg ⟨l⟩, .string name] [] (fun H => gDisk.rd H l d) (fun v A => v = .tuple #[.string (fileText d name), .bool (decide (0 ≤ at14 d name))] ∧ A = []) := by
  refine Ct.intro0 G_ok Try.func145 rfl rfl rfl fun E H hp => ?_
  obtain ⟨b0p, c0p, rfl, h0p⟩ := gDisk_rd.1 hp
  have hl := (rd_len h0p).2
  have hr := at14_rng d name
  refine VCnew.intro fun x0 => ?_
  refine call_val (l14At_ct _ (d) _) (Rp.mono _ (mem_at 0 rfl) hp) ?_
  rintro _ rfl
  refine VCsplit.intro (fun q2 => ?_) (fun q2 => ?_)
  ·
    simp at q2
    exact ⟨[], ⟨by unfold fileText; rw [if_pos ‹_›, decide_eq_false (by omega)]; rfl, rfl⟩, (.le fun a => by (try simp only [setR, List.cons_append, List.nil_append]); simp only [List.flatten_append, List.flatten_cons, List.flatten_nil, List.count_append, List.count_nil, List.append_nil, List.nil_append]; omega)⟩
  ·
    simp at q2
    refine idx_rd h0p ?_ ?_ fun b3 o3 hb3 => ?_
    · trivial
    · omega
    refine load_part default 1 h0p ?_ ?_ hb3 rfl (by decide) (mem_at 0 rfl) fun l4 hl4 => ?_
    · trivial
    · omega
    obtain ⟨rfl, w0x4, w1x4, w2x4⟩ := gFile_rd.1 hl4
    exact ⟨[], ⟨by unfold fileText; rw [if_neg (by omega), decide_eq_true (by omega)], rfl⟩, (.le fun a => by (try simp only [setR, List.cons_append, List.nil_append]); simp only [List.flatten_append, List.flatten_cons, List.flatten_nil, List.count_append, List.count_nil, List.append_nil, List.nil_append]; omega)⟩


--@ct impl.fileIndex$1 blk0 fileIndex1_ct _ _ $1 _ | %1 | rintro _ A# ⟨rfl, rfl⟩ ;; refine ⟨_, _, [], rfl, perm0, ?_⟩
theorem fileIndex1_ct (q : Nat) (l : List Value) (x : File) (name : ByteArray) : CtR Try.prog 249 [.agg ⟨l⟩, .pointer (some ⟨q, 0, none⟩)] [(q, Obj.cells ⟨[.string name]⟩ 9)] (fun H => gFile.rd H l x) (fun v A => v = .bool (decide (x.name = name)) ∧ A = [(q, Obj.cells ⟨[.string name]⟩ 9)]) := by
  refine CtR.introB G_ok [.v (.agg ⟨l⟩), .p 0 0] [⟨q, [.string name], 9⟩] [] Try.func249 rfl rfl rfl rfl (by simp [SV.ok]) (by simp [Blk.ent]) fun E H hp => ?_
  obtain ⟨rfl, w0p, w1p, w2p⟩ := gFile_rd.1 hp
  refine VCnew.intro fun x0 => ?_
  exact ⟨_, ⟨by rw [beq_str], rfl⟩, .le fun a => by simp [List.count_cons, Blk.ent, setR, idOf]⟩

--@ct slices.IndexFunc[[]impl.File,impl.File] blk0 indexFile_ct _ _ _ _ $1 _ | %1 | rintro _ A# ⟨rfl, rfl⟩ ;; refine ⟨_, _, [], rfl, perm0, ?_⟩
theorem indexFile_ct (b : Option Addr) (m c : Nat) (q : Nat) (xs : List File) (name : ByteArray) : CtR Try.prog 248 [.slice b m c, .func (.func 249) ⟨[]⟩ ⟨[.pointer (some ⟨q, 0, none⟩)]⟩] [(q, Obj.cells ⟨[.string name]⟩ 9)] (fun H => (gSl 199 gFile).rd H [.slice b m c] xs) (fun v A => v = .int .i64 (at14 ⟨xs⟩ name) ∧ A = [(q, Obj.cells ⟨[.string name]⟩ 9)]) := by
  refine CtR.introB G_ok [.v (.slice b m c), .v (.func (.func 249) ⟨[]⟩ ⟨[.pointer (some ⟨q, 0, none⟩)]⟩)] [⟨q, [.string name], 9⟩] [] Try.func248 rfl rfl rfl rfl (by simp [SV.ok]) (by simp [Blk.ent]) fun E H hp => ?_
  obtain ⟨rfl, hcl, hl⟩ := sl_len hp
  apply loop_mod (α := (Nat)) G_ok [9, 10, 5, 11, 12, 13, 14, 15, 16, 17, 4, 18, 8] (fun z => [(8, .v (.int .i64 z))]) (fun z => [{ id := q, cs := [Value.string name], ty := (9 : TypeId) }]) (fun z => [] ++ [H]) (fun z => xs.length - z) (fun z => z ≤ xs.length ∧ fileAt ⟨xs⟩ name z = -1) (0)
  · repeat' (first | exact trivial | refine ⟨⟨_, rfl, by first | rfl | exact inc_eq _ (by omega) | (refine sl_eq ?_; simp; done), by first | exact trivial | simp [SV.ok]⟩, ?_⟩)
  · exact ⟨rfl, trivial⟩
  · exact ⟨by omega, rfl⟩
  · exact .refl _
  rintro k hI
  obtain ⟨hk, ha⟩ : k ≤ xs.length ∧ fileAt ⟨xs⟩ name k = -1 := hI
  try dsimp only
  refine VCsplit.intro (fun q0 => ?_) (fun q0 => ?_)
  ·
    simp at q0
    refine idx_rd hp ?_ ?_ fun b1 o1 hb1 => ?_
    · omega
    · omega
    refine load_allN default (k) rfl hp ?_ ?_ hb1 rfl (mem_at 0 rfl) fun l2 hl2 => ?_
    · omega
    · omega
    obtain ⟨rfl, w0x2, w1x2, w2x2⟩ := gFile_rd.1 hl2
    refine callR_blk 0 ([]) [H] rfl ?_ (fileIndex1_ct _ _ (xs[k]?.getD default) _) (Rp.mono _ (mem_at 0 rfl) hl2) ?_
    · exact .refl _
    rintro _ A3 ⟨rfl, rfl⟩
    refine ⟨_, _, [], rfl, perm0, ?_⟩
    refine VCsplit.intro (fun q4 => ?_) (fun q4 => ?_)
    ·
      simp at q4
      exact ⟨_, ⟨by rw [at14_yes (d := ⟨xs⟩) (k := k) (by show k < xs.length; omega) ha ‹_›], rfl⟩, .le fun a => by simp [List.count_cons, Blk.ent, setR, idOf]⟩
    ·
      simp at q4
      apply loop_stepA (k + 1)
      · exact .refl _
      · repeat' (first | exact trivial | refine ⟨⟨_, rfl, by first | rfl | exact inc_eq _ (by omega) | (refine sl_eq ?_; simp; done), by first | exact trivial | simp [SV.ok]⟩, ?_⟩)
      · exact ⟨rfl, trivial⟩
      · exact ⟨by omega, fileAt_no (d := ⟨xs⟩) ha ‹_›⟩
      · omega
  ·
    simp at q0
    obtain rfl : k = xs.length := by omega
    exact ⟨_, ⟨by rw [show at14 ⟨xs⟩ name = -1 from ha], rfl⟩, .le fun a => by simp [List.count_cons, Blk.ent, setR, idOf]⟩

--@ct impl.fileIndex val fileIndex_ct _ $1 _ | %1
theorem fileIndex_ct (l : List Value) (d : Disk) (name : ByteArray) : Ct Try.prog 240 [.agg ⟨l⟩, .string name] [] (fun H => gDisk.rd H l d) (fun v A => v = .int .i64 (at14 d name) ∧ A = []) := by
  refine Ct.intro0 G_ok Try.func240 rfl rfl rfl fun E H hp => ?_
  obtain ⟨b0p, c0p, rfl, h0p⟩ := gDisk_rd.1 hp
  refine VCnew.intro fun x0 => ?_
  refine VCnew.intro fun x1 => ?_
  refine callR_blk 1 ([]) [H] rfl ?_ (indexFile_ct _ _ _ _ (d.files) _) (Rp.mono _ (mem_at 0 rfl) h0p) ?_
  · exact .refl _
  rintro _ A2 ⟨rfl, rfl⟩
  refine ⟨_, _, [], rfl, perm0, ?_⟩
  exact ⟨[], ⟨rfl, rfl⟩, (.le fun a => by (try simp only [setR, List.cons_append, List.nil_append]); simp only [List.flatten_append, List.flatten_cons, List.flatten_nil, List.count_append, List.count_nil, List.append_nil, List.nil_append]; omega)⟩

--@ct impl.FileAt val implFileAt_ct _ $1 _ | %1
theorem implFileAt_ct (l : List Value) (d : Disk) (name : ByteArray) : Ct Try.prog 213 [.agg ⟨l⟩, .string name] [] (fun H => gDisk.rd H l d) (fun v A => v = .tuple #[.string (fileText d name), .bool (decide (0 ≤ at14 d name))] ∧ A = []) := by
  refine Ct.intro0 G_ok Try.func213 rfl rfl rfl fun E H hp => ?_
  obtain ⟨b0p, c0p, rfl, h0p⟩ := gDisk_rd.1 hp
  have hl := (rd_len h0p).2
  have hr := at14_rng d name
  refine VCnew.intro fun x0 => ?_
  refine call_val (fileIndex_ct _ (d) _) (Rp.mono _ (mem_at 0 rfl) hp) ?_
  rintro _ rfl
  refine VCsplit.intro (fun q2 => ?_) (fun q2 => ?_)
  ·
    simp at q2
    exact ⟨[], ⟨by unfold fileText; rw [if_pos ‹_›, decide_eq_false (by omega)]; rfl, rfl⟩, (.le fun a => by (try simp only [setR, List.cons_append, List.nil_append]); simp only [List.flatten_append, List.flatten_cons, List.flatten_nil, List.count_append, List.count_nil, List.append_nil, List.nil_append]; omega)⟩
  ·
    simp at q2
    refine idx_rd h0p ?_ ?_ fun b3 o3 hb3 => ?_
    · trivial
    · omega
    refine load_part default 1 h0p ?_ ?_ hb3 rfl (by decide) (mem_at 0 rfl) fun l4 hl4 => ?_
    · trivial
    · omega
    obtain ⟨rfl, w0x4, w1x4, w2x4⟩ := gFile_rd.1 hl4
    exact ⟨[], ⟨by unfold fileText; rw [if_neg (by omega), decide_eq_true (by omega)], rfl⟩, (.le fun a => by (try simp only [setR, List.cons_append, List.nil_append]); simp only [List.flatten_append, List.flatten_cons, List.flatten_nil, List.count_append, List.count_nil, List.append_nil, List.nil_append]; omega)⟩

/-! records, epochs -/
def recordsOf (d : Disk) (name : ByteArray) : List ByteArray := if diskOk d then (unframe (fileText d name)).1 else []
theorem recordsOf_yes {d : Disk} (name : ByteArray) (h : diskOk d = true) : recordsOf d name = (unframe (fileText d name)).1 := by unfold recordsOf; rw [if_pos h]
theorem recordsOf_no {d : Disk} (name : ByteArray) (h : diskOk d = false) : recordsOf d name = [] := by unfold recordsOf; rw [h]; rfl
def epStep (e : Nat) (r : ByteArray) : Nat := if (readVar r 0).2.2 = true ∧ (readVar r 0).2.1 = r.size ∧ (readVar r 0).1 ≤ 100000 ∧ e < (readVar r 0).1 then (readVar r 0).1 else e
def epochOf (d : Disk) : Nat := (recordsOf d (ByteArray.mk #[116, 105, 109, 101])).foldl epStep 0
theorem foldl_take {α β : Type} {f : β → α → β} {a : β} {xs : List α} {k : Nat} (z : α) (h : k < xs.length) : (xs.take (k + 1)).foldl f a = f ((xs.take k).foldl f a) (xs[k]?.getD z) := by
  rw [← List.take_append_getElem h, List.foldl_append, List.getElem?_eq_getElem h]; rfl
theorem epStep_yes {e : Nat} {r : ByteArray} (h1 : (readVar r 0).2.2 = true) (h2 : (readVar r 0).2.1 = r.size) (h3 : (readVar r 0).1 ≤ 100000) (h4 : e < (readVar r 0).1) : epStep e r = (readVar r 0).1 := if_pos ⟨h1, h2, h3, h4⟩
theorem epStep_no {e : Nat} {r : ByteArray} (h : ¬ ((readVar r 0).2.2 = true ∧ (readVar r 0).2.1 = r.size ∧ (readVar r 0).1 ≤ 100000 ∧ e < (readVar r 0).1)) : epStep e r = e := if_neg h

theorem ep_end {l : List ByteArray} {k : Nat} (h : l.length ≤ k) : (l.take k).foldl epStep 0 = l.foldl epStep 0 := by rw [List.take_of_length_le h]
theorem ep_yes {l : List ByteArray} {k : Nat} (h : k < l.length) (h1 : (readVar (l[k]?.getD .empty) 0).2.2 = true) (h2 : (readVar (l[k]?.getD .empty) 0).2.1 = (l[k]?.getD .empty).size) (h3 : (readVar (l[k]?.getD .empty) 0).1 ≤ 100000) (h4 : (l.take k).foldl epStep 0 < (readVar (l[k]?.getD .empty) 0).1) : Value.int .i64 (((readVar (l[k]?.getD .empty) 0).1 : Nat) : Int) = Value.int .i64 (((l.take (k + 1)).foldl epStep 0 : Nat) : Int) := by
  rw [foldl_take .empty h, epStep_yes h1 h2 h3 h4]
theorem ep_no {l : List ByteArray} {k : Nat} (h : k < l.length) (h1 : ¬ ((readVar (l[k]?.getD .empty) 0).2.2 = true ∧ (readVar (l[k]?.getD .empty) 0).2.1 = (l[k]?.getD .empty).size ∧ (readVar (l[k]?.getD .empty) 0).1 ≤ 100000 ∧ (l.take k).foldl epStep 0 < (readVar (l[k]?.getD .empty) 0).1)) : Value.int .i64 (((l.take k).foldl epStep 0 : Nat) : Int) = Value.int .i64 (((l.take (k + 1)).foldl epStep 0 : Nat) : Int) := by
  rw [foldl_take .empty h, epStep_no h1]
theorem ep_max {l : List ByteArray} {k : Nat} [Decidable ((((readVar (l[k]?.getD .empty) 0).1 : Nat) : Int) > (((l.take k).foldl epStep 0 : Nat) : Int))] (h : k < l.length) (h1 : (readVar (l[k]?.getD .empty) 0).2.2 = true) (h2 : (readVar (l[k]?.getD .empty) 0).2.1 = (l[k]?.getD .empty).size) (h3 : (readVar (l[k]?.getD .empty) 0).1 ≤ 100000) :
    Value.int .i64 (if (((readVar (l[k]?.getD .empty) 0).1 : Nat) : Int) > (((l.take k).foldl epStep 0 : Nat) : Int) then (((readVar (l[k]?.getD .empty) 0).1 : Nat) : Int) else (((l.take k).foldl epStep 0 : Nat) : Int)) = Value.int .i64 (((l.take (k + 1)).foldl epStep 0 : Nat) : Int) := by
  split
  · exact ep_yes h h1 h2 h3 (by omega)
  · exact ep_no h (by omega)
theorem szL_s : ∀ (l : List ByteArray) (k : Nat), (l[k]?.getD .empty).size ≤ szL gS l
  | [], k => by simp
  | x :: l, 0 => by
    have : szL gS (x :: l) = 1 + x.size + szL gS l := rfl
    simp; omega
  | x :: l, k + 1 => by
    have : szL gS (x :: l) = 1 + x.size + szL gS l := rfl
    have := szL_s l k
    simp only [List.getElem?_cons_succ]; omega
theorem unf_s (t : ByteArray) (k : Nat) : (((unframe t).1)[k]?.getD .empty).size ≤ 1152921504606846976 := by
  have := szL_s (unframe t).1 k; have := unframe_sz t; omega
theorem rec_s (d : Disk) (n : ByteArray) (k : Nat) : ((recordsOf d n)[k]?.getD .empty).size ≤ 1152921504606846976 := by
  unfold recordsOf; split
  · exact unf_s _ k
  · simp
theorem unf_len (t : ByteArray) : (unframe t).1.length ≤ 20000 := by
  have := len_szL gS (unframe t).1; have := unframe_sz t; omega
theorem rec_len (d : Disk) (n : ByteArray) : (recordsOf d n).length ≤ 20000 := by
  unfold recordsOf; split
  · exact unf_len _
  · simp
theorem filesOk_at (d : Disk) : ∀ n, filesOk d n = true → ∀ k, k < n → fileOk d k = true
  | 0, _, k, hk => by omega
  | n + 1, h, k, hk => by
    unfold filesOk at h; rw [Bool.and_eq_true] at h
    rcases Nat.lt_or_ge k n with h2 | h2
    · exact filesOk_at d n h.1 k h2
    · rw [show k = n by omega]; exact h.2
theorem fileText_sz {d : Disk} (h : diskOk d = true) (name : ByteArray) : (fileText d name).size ≤ 1152921504606846976 := by
  unfold fileText; split
  · simp
  · have h1 := at14_rng d name
    unfold diskOk at h; rw [Bool.and_eq_true] at h
    have := (fileOk_iff.1 (filesOk_at d _ h.2 (at14 d name).toNat (by omega))).2.1
    omega

--@ct impl.recordsOf new implRecordsOf_ct _ $1 _ | %1 | obtain ⟨b#, c#, rfl, o#⟩ := o#
theorem implRecordsOf_ct (l : List Value) (d : Disk) (name : ByteArray) : Ct Try.prog 151 [.agg ⟨l⟩, .string name] [] (fun H => gDisk.rd H l d) (fun v A => ∃ b c, v = .slice b (recordsOf d name).length c ∧ (gSl 9 gS).ow [.slice b (recordsOf d name).length c] (recordsOf d name) A) := by
  refine Ct.intro0 G_ok Try.func151 rfl rfl rfl fun E H hp => ?_
  obtain ⟨b0p, c0p, rfl, h0p⟩ := gDisk_rd.1 hp
  refine VCnew.intro fun x0 => ?_
  refine call_val (implDiskOk_ct _ (d)) (Rp.mono _ (mem_at 0 rfl) hp) ?_
  rintro _ rfl
  refine VCsplit.intro (fun q2 => ?_) (fun q2 => ?_)
  ·
    simp at q2
    (rw [recordsOf_no name (by assumption)]; exact ⟨[], ⟨none, 0, rfl, sl_nil _ _ _⟩, (.le fun a => by (try simp only [setR, List.cons_append, List.nil_append]); simp only [List.flatten_append, List.flatten_cons, List.flatten_nil, List.count_append, List.count_nil, List.append_nil, List.nil_append]; omega)⟩)
  ·
    simp at q2
    refine call_val (implFileAt_ct _ (d) _) (Rp.mono _ (mem_at 0 rfl) hp) ?_
    rintro _ rfl
    refine call_new (implUnframe_ct _ ?_) trivial ?_
    · exact fileText_sz (by assumption) _
    rintro v4 A4 o4
    obtain ⟨b4, c4, rfl, o4⟩ := o4
    (rw [recordsOf_yes name (by assumption)]; exact ⟨_, ⟨_, _, rfl, by assumption⟩, (.le fun a => by (try simp only [setR, List.cons_append, List.nil_append]); simp only [List.flatten_append, List.flatten_cons, List.flatten_nil, List.count_append, List.count_nil, List.append_nil, List.nil_append]; omega)⟩)
end Go.Proofs.Ytcikookachejfaa
