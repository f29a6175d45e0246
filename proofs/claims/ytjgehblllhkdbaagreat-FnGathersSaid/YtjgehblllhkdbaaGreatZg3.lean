/-
  Disks read, on both sides: whether they are right, files, records, epochs. Builders of texts. The owner of a vertex, on both sides. Frames, owners, parts of graphs, graphs as texts, on both sides. Graphs read. The middle of two places. Edges put into graphs, on both sides. Copies of values, on both sides. Edges added to graphs, on both sides. Graphs read from texts, on both sides. The part of a disk, on both sides. Graphs put together. Plain. Graphs put together, on both sides. The graph of the disks, on both sides. A record stored on an empty disk; the disk of a part, on both sides. Conditions: none.
-/
import Derived.Test.YtjgehblllhkdbaaGreatZg2

namespace Go.Proofs.YtjgehblllhkdbaaGreat
open Go.SX Go.Proofs
set_option linter.unusedSimpArgs false
set_option linter.unusedVariables false
set_option maxHeartbeats 4000000
attribute [local irreducible] IntKind.wrap
def lessS (a b : ByteArray) : Bool := Op.bytesLess a.toList b.toList
def nameOk (s : ByteArray) : Bool := inR 1 8 s.size
def fileOk (d : Disk) (i : Nat) : Bool :=
  nameOk (d.files[i]?.getD default).name && (decide ((d.files[i]?.getD default).text.size ≤ 20000) && (inR 0 (d.files[i]?.getD default).text.size (d.files[i]?.getD default).kept && (decide (i = 0) || lessS (d.files[i - 1]?.getD default).name (d.files[i]?.getD default).name)))
def filesOk (d : Disk) : Nat → Bool
  | 0 => true
  | k + 1 => filesOk d k && fileOk d k
def diskOk (d : Disk) : Bool := decide (d.files.length ≤ 30) && filesOk d d.files.length
theorem filesOk_no (d : Disk) (k : Nat) (h : fileOk d k = false) : ∀ n, k < n → filesOk d n = false
  | 0, h1 => by omega
  | n + 1, h1 => by
    unfold filesOk
    rcases Nat.lt_or_ge k n with h2 | h2
    · rw [filesOk_no d k h n h2]; rfl
    rw [show n = k by omega, h]; simp
theorem diskOk_no (d : Disk) (k : Nat) (h1 : k < d.files.length) (h : fileOk d k = false) : diskOk d = false := by
  unfold diskOk; rw [filesOk_no d k h _ h1]; simp
theorem fileOk_iff {d : Disk} {i : Nat} : fileOk d i = true ↔ nameOk (d.files[i]?.getD default).name = true ∧ (d.files[i]?.getD default).text.size ≤ 20000 ∧ 0 ≤ (d.files[i]?.getD default).kept ∧ (d.files[i]?.getD default).kept ≤ (d.files[i]?.getD default).text.size ∧ (i = 0 ∨ lessS (d.files[i - 1]?.getD default).name (d.files[i]?.getD default).name = true) := by
  unfold fileOk
  simp only [Bool.and_eq_true, Bool.or_eq_true, decide_eq_true_iff, inR_iff, and_assoc]
theorem fileOk_f {d : Disk} {i : Nat} (h : fileOk d i = true → False) : fileOk d i = false := by
  cases e : fileOk d i with
  | false => rfl
  | true => exact (h e).elim
theorem diskOk_big {d : Disk} (h : 30 < d.files.length) : diskOk d = false := by unfold diskOk; rw [decide_eq_false (by omega)]; rfl
theorem diskOk_yes {d : Disk} (h : d.files.length ≤ 30) (h2 : filesOk d d.files.length = true) : diskOk d = true := by unfold diskOk; rw [h2, decide_eq_true (by omega)]; rfl
theorem filesOk_step {d : Disk} {k : Nat} (h : filesOk d k = true) (h2 : fileOk d k = true) : filesOk d (k + 1) = true := by unfold filesOk; rw [h, h2]; rfl
theorem beq_str (a b : ByteArray) : (a.toList == b.toList) = decide (a = b) := by
  rw [Bool.eq_iff_iff, beq_iff_eq, decide_eq_true_iff]; exact str_inj
--@ct spec.l14Name val l14Name_ct _ ?_
theorem l14Name_ct (s : ByteArray) (hs : s.size ≤ 9223372036854775807) : Ct Tryz.prog 324 [.string s] [] (fun _ => True) (fun v A => v = .bool (nameOk s) ∧ A = []) := by
  refine Ct.intro0 G_ok Tryz.func324 rfl rfl rfl fun E H hp => ?_
  refine call_val (l01In_ct _ _ _) trivial ?_
  rintro _ rfl
  exact ⟨[], ⟨rfl, rfl⟩, (.le fun a => by (try simp only [setR, List.cons_append, List.nil_append]); simp only [List.flatten_append, List.flatten_cons, List.flatten_nil, List.count_append, List.count_nil, List.append_nil, List.nil_append]; omega)⟩
--@ct impl.isFileName val isFileName_ct _ ?_
theorem isFileName_ct (s : ByteArray) (hs : s.size ≤ 9223372036854775807) : Ct Tryz.prog 378 [.string s] [] (fun _ => True) (fun v A => v = .bool (nameOk s) ∧ A = []) := by
  refine Ct.intro0 G_ok Tryz.func378 rfl rfl rfl fun E H hp => ?_
  refine VCsplit.intro (fun q0 => ?_) (fun q0 => ?_)
  ·
    simp at q0
    exact ⟨[], ⟨by unfold nameOk inR; first | rw [decide_eq_true (by omega : (1 : Int) ≤ s.size), Bool.true_and] | rw [decide_eq_false (by omega : ¬ (1 : Int) ≤ s.size), Bool.false_and], rfl⟩, (.le fun a => by (try simp only [setR, List.cons_append, List.nil_append]); simp only [List.flatten_append, List.flatten_cons, List.flatten_nil, List.count_append, List.count_nil, List.append_nil, List.nil_append]; omega)⟩
  ·
    simp at q0
    exact ⟨[], ⟨by unfold nameOk inR; first | rw [decide_eq_true (by omega : (1 : Int) ≤ s.size), Bool.true_and] | rw [decide_eq_false (by omega : ¬ (1 : Int) ≤ s.size), Bool.false_and], rfl⟩, (.le fun a => by (try simp only [setR, List.cons_append, List.nil_append]); simp only [List.flatten_append, List.flatten_cons, List.flatten_nil, List.count_append, List.count_nil, List.append_nil, List.nil_append]; omega)⟩
--@ct impl.DiskOk val implDiskOk_ct _ $1 | %1
theorem implDiskOk_ct (l : List Value) (d : Disk) : Ct Tryz.prog 311 [.agg ⟨l⟩] [] (fun H => gDisk.rd H l d) (fun v A => v = .bool (diskOk d) ∧ A = []) := by
  refine Ct.intro0 G_ok Tryz.func311 rfl rfl rfl fun E H hp => ?_
  obtain ⟨b0p, c0p, rfl, h0p⟩ := gDisk_rd.1 hp
  refine VCnew.intro fun x0 => ?_
  refine VCsplit.intro (fun q1 => ?_) (fun q1 => ?_)
  ·
    simp at q1
    exact ⟨[], ⟨by rw [diskOk_big (by omega)], rfl⟩, (.le fun a => by (try simp only [setR, List.cons_append, List.nil_append]); simp only [List.flatten_append, List.flatten_cons, List.flatten_nil, List.count_append, List.count_nil, List.append_nil, List.nil_append]; omega)⟩
  ·
    simp at q1
    apply loop_mod (α := (Nat)) G_ok [13, 14, 15, 16, 4, 3, 17, 18, 19, 20, 21, 22, 23, 24, 25, 26, 27, 28, 29, 30, 31, 32, 33, 34, 35, 36, 37, 38, 39, 2, 40, 41, 42, 43, 44, 45, 46, 47, 48, 49, 50, 51, 52, 53, 54, 12] (fun z => [(12, .v (.int .i64 z))]) (fun z => [{ id := x0, cs := [Value.slice b0p d.files.length c0p], ty := (153 : Nat) }]) (fun z => [H]) (fun z => d.files.length - z) (fun z => z ≤ d.files.length ∧ filesOk d z = true) (0)
    · repeat' (first | exact trivial | refine ⟨⟨_, rfl, by first | rfl | exact inc_eq _ (by omega) | (refine sl_eq ?_; simp; done), by first | exact trivial | simp [SV.ok]⟩, ?_⟩)
    · exact ⟨rfl, trivial⟩
    · exact ⟨by omega, rfl⟩
    · exact .refl _
    rintro k hI
    obtain ⟨hk, ha⟩ : k ≤ d.files.length ∧ filesOk d k = true := hI
    try dsimp only
    refine VCsplit.intro (fun q2 => ?_) (fun q2 => ?_)
    ·
      simp at q2
      refine idx_rd h0p ?_ ?_ fun b3 o3 hb3 => ?_
      · omega
      · omega
      refine load_allN default (k) rfl h0p ?_ ?_ hb3 rfl (mem_at 0 rfl) fun l4 hl4 => ?_
      · omega
      · omega
      obtain ⟨rfl, w0x4, w1x4, w2x4⟩ := gFile_rd.1 hl4
      refine VCnew.intro fun x5 => ?_
      refine call_val (isFileName_ct _ ?_) trivial ?_
      · trivial
      rintro _ rfl
      refine VCsplit.intro (fun q7 => ?_) (fun q7 => ?_)
      ·
        simp at q7
        exact ⟨[], ⟨by rw [diskOk_no d k (by omega) (fileOk_f fun e => by (obtain ⟨e1, e2, e3, e4, e5⟩ := fileOk_iff.1 e; first | exact absurd (e1.symm.trans ‹nameOk _ = false›) (by decide) | omega | exact e5.elim (by omega) (fun h => absurd (h.symm.trans ‹Op.bytesLess _ _ = false›) (by decide))))], rfl⟩, (.le fun a => by (try simp only [setR, List.cons_append, List.nil_append]); simp only [List.flatten_append, List.flatten_cons, List.flatten_nil, List.count_append, List.count_nil, List.append_nil, List.nil_append]; omega)⟩
      ·
        simp at q7
        have iq7 := inR_iff.1 q7
        refine VCsplit.intro (fun q8 => ?_) (fun q8 => ?_)
        ·
          simp at q8
          exact ⟨[], ⟨by rw [diskOk_no d k (by omega) (fileOk_f fun e => by (obtain ⟨e1, e2, e3, e4, e5⟩ := fileOk_iff.1 e; first | exact absurd (e1.symm.trans ‹nameOk _ = false›) (by decide) | omega | exact e5.elim (by omega) (fun h => absurd (h.symm.trans ‹Op.bytesLess _ _ = false›) (by decide))))], rfl⟩, (.le fun a => by (try simp only [setR, List.cons_append, List.nil_append]); simp only [List.flatten_append, List.flatten_cons, List.flatten_nil, List.count_append, List.count_nil, List.append_nil, List.nil_append]; omega)⟩
        ·
          simp at q8
          refine VCsplit.intro (fun q9 => ?_) (fun q9 => ?_)
          ·
            simp at q9
            exact ⟨[], ⟨by rw [diskOk_no d k (by omega) (fileOk_f fun e => by (obtain ⟨e1, e2, e3, e4, e5⟩ := fileOk_iff.1 e; first | exact absurd (e1.symm.trans ‹nameOk _ = false›) (by decide) | omega | exact e5.elim (by omega) (fun h => absurd (h.symm.trans ‹Op.bytesLess _ _ = false›) (by decide))))], rfl⟩, (.le fun a => by (try simp only [setR, List.cons_append, List.nil_append]); simp only [List.flatten_append, List.flatten_cons, List.flatten_nil, List.count_append, List.count_nil, List.append_nil, List.nil_append]; omega)⟩
          ·
            simp at q9
            refine VCsplit.intro (fun q10 => ?_) (fun q10 => ?_)
            ·
              simp at q10
              exact ⟨[], ⟨by rw [diskOk_no d k (by omega) (fileOk_f fun e => by (obtain ⟨e1, e2, e3, e4, e5⟩ := fileOk_iff.1 e; first | exact absurd (e1.symm.trans ‹nameOk _ = false›) (by decide) | omega | exact e5.elim (by omega) (fun h => absurd (h.symm.trans ‹Op.bytesLess _ _ = false›) (by decide))))], rfl⟩, (.le fun a => by (try simp only [setR, List.cons_append, List.nil_append]); simp only [List.flatten_append, List.flatten_cons, List.flatten_nil, List.count_append, List.count_nil, List.append_nil, List.nil_append]; omega)⟩
            ·
              simp at q10
              refine draw G_ok mixed none (.q 0 (.q 1 (.q 2 (.q 3 (.q 4 (.q 5 (.q 6 (.q 7 (.q 8 (.q 9 (.q 10 (.q 11 (.q 12 (.q 13 (.nil))))))))))))))) (by decide +kernel) ?_
              refine VCsplit.intro (fun q11 => ?_) (fun q11 => ?_)
              ·
                simp at q11
                refine idx_rd h0p ?_ ?_ fun b12 o12 hb12 => ?_
                · (simp (disch := omega) only [wrap_of]; omega)
                · (simp (disch := omega) only [wrap_of]; omega)
                refine load_part default 0 h0p ?_ ?_ hb12 rfl (by decide) (mem_at 0 rfl) fun l13 hl13 => ?_
                · (simp (disch := omega) only [wrap_of]; omega)
                · (simp (disch := omega) only [wrap_of]; omega)
                rw [show (IntKind.i64.wrap ((k : Int) - 1)).toNat = k - 1 by (simp (disch := omega) only [wrap_of]; omega)] at hl13
                obtain ⟨rfl, w0x13, w1x13, w2x13⟩ := gFile_rd.1 hl13
                refine VCsplit.intro (fun q14 => ?_) (fun q14 => ?_)
                ·
                  simp at q14
                  exact ⟨[], ⟨by rw [diskOk_no d k (by omega) (fileOk_f fun e => by (obtain ⟨e1, e2, e3, e4, e5⟩ := fileOk_iff.1 e; first | exact absurd (e1.symm.trans ‹nameOk _ = false›) (by decide) | omega | exact e5.elim (by omega) (fun h => absurd (h.symm.trans ‹Op.bytesLess _ _ = false›) (by decide))))], rfl⟩, (.le fun a => by (try simp only [setR, List.cons_append, List.nil_append]); simp only [List.flatten_append, List.flatten_cons, List.flatten_nil, List.count_append, List.count_nil, List.append_nil, List.nil_append]; omega)⟩
                ·
                  simp at q14
                  apply loop_stepA (k + 1)
                  · exact .refl _
                  · repeat' (first | exact trivial | refine ⟨⟨_, rfl, by first | rfl | exact inc_eq _ (by omega) | (refine sl_eq ?_; simp; done), by first | exact trivial | simp [SV.ok]⟩, ?_⟩)
                  · exact ⟨rfl, trivial⟩
                  · exact ⟨by omega, filesOk_step ha (fileOk_iff.2 ⟨by assumption, by omega, by omega, by omega, by first | exact .inl (by omega) | exact .inr (by assumption)⟩)⟩
                  omega
              ·
                simp at q11
                apply loop_stepA (k + 1)
                · exact .refl _
                · repeat' (first | exact trivial | refine ⟨⟨_, rfl, by first | rfl | exact inc_eq _ (by omega) | (refine sl_eq ?_; simp; done), by first | exact trivial | simp [SV.ok]⟩, ?_⟩)
                · exact ⟨rfl, trivial⟩
                · exact ⟨by omega, filesOk_step ha (fileOk_iff.2 ⟨by assumption, by omega, by omega, by omega, by first | exact .inl (by omega) | exact .inr (by assumption)⟩)⟩
                omega
    ·
      simp at q2
      obtain rfl : k = d.files.length := by omega
      exact ⟨[], ⟨by rw [diskOk_yes (by omega) ha], rfl⟩, (.le fun a => by (try simp only [setR, List.cons_append, List.nil_append]); simp only [List.flatten_append, List.flatten_cons, List.flatten_nil, List.count_append, List.count_nil, List.append_nil, List.nil_append]; omega)⟩
--@ct spec.DiskOk val specDiskOk_ct _ $1 | %1
theorem specDiskOk_ct (l : List Value) (d : Disk) : Ct Tryz.prog 247 [.agg ⟨l⟩] [] (fun H => gDisk.rd H l d) (fun v A => v = .bool (diskOk d) ∧ A = []) := by
  refine Ct.intro0 G_ok Tryz.func247 rfl rfl rfl fun E H hp => ?_
  obtain ⟨b0p, c0p, rfl, h0p⟩ := gDisk_rd.1 hp
  refine VCnew.intro fun x0 => ?_
  refine VCsplit.intro (fun q1 => ?_) (fun q1 => ?_)
  ·
    simp at q1
    exact ⟨[], ⟨by rw [diskOk_big (by omega)], rfl⟩, (.le fun a => by (try simp only [setR, List.cons_append, List.nil_append]); simp only [List.flatten_append, List.flatten_cons, List.flatten_nil, List.count_append, List.count_nil, List.append_nil, List.nil_append]; omega)⟩
  ·
    simp at q1
    apply loop_mod (α := (Nat)) G_ok [9, 10, 11, 12, 13, 16, 17, 18, 19, 20, 4, 21, 22, 23, 24, 25, 26, 27, 28, 29, 30, 31, 32, 33, 34, 35, 36, 37, 38, 39, 40, 41, 42, 43, 44, 45, 46, 47, 48, 49, 50, 51, 52, 53, 54, 55, 2, 14, 15, 3] (fun z => [(3, .v (.int .i64 z))]) (fun z => [{ id := x0, cs := [Value.slice b0p d.files.length c0p], ty := (153 : Nat) }]) (fun z => [H]) (fun z => d.files.length - z) (fun z => z ≤ d.files.length ∧ filesOk d z = true) (0)
    · repeat' (first | exact trivial | refine ⟨⟨_, rfl, by first | rfl | exact inc_eq _ (by omega) | (refine sl_eq ?_; simp; done), by first | exact trivial | simp [SV.ok]⟩, ?_⟩)
    · exact ⟨rfl, trivial⟩
    · exact ⟨by omega, rfl⟩
    · exact .refl _
    rintro k hI
    obtain ⟨hk, ha⟩ : k ≤ d.files.length ∧ filesOk d k = true := hI
    try dsimp only
    refine VCsplit.intro (fun q2 => ?_) (fun q2 => ?_)
    ·
      simp at q2
      refine idx_rd h0p ?_ ?_ fun b3 o3 hb3 => ?_
      · omega
      · omega
      refine load_allN default (k) rfl h0p ?_ ?_ hb3 rfl (mem_at 0 rfl) fun l4 hl4 => ?_
      · omega
      · omega
      obtain ⟨rfl, w0x4, w1x4, w2x4⟩ := gFile_rd.1 hl4
      refine VCnew.intro fun x5 => ?_
      refine draw G_ok mixed none (.q 0 (.q 1 (.f 2 (.q 3 (.q 4 (.q 5 (.q 6 (.q 7 (.q 8 (.q 9 (.q 10 (.q 11 (.q 12 (.q 13 (.q 14 (.q 15 (.f 16 (.q 17 (.q 18 (.q 19 (.q 20 (.q 21 (.q 22 (.q 23 (.q 24 (.q 25 (.q 26 (.q 27 (.q 28 (.q 29 (.q 30 (.q 31 (.q 32 (.q 33 (.q 34 (.nil)))))))))))))))))))))))))))))))))))) (by decide +kernel) ?_
      refine call_val (l14Name_ct _ ?_) trivial ?_
      · trivial
      rintro _ rfl
      refine VC.intro ?_ ?_
      · exact fun _ h => h
      refine VCsplit.intro (fun q7 => ?_) (fun q7 => ?_)
      ·
        simp at q7
        have iq7 := mt inR_iff.2 (Bool.eq_false_iff.1 q7)
        exact ⟨[], ⟨by rw [diskOk_no d k (by omega) (fileOk_f fun e => by (obtain ⟨e1, e2, e3, e4, e5⟩ := fileOk_iff.1 e; first | exact absurd (e1.symm.trans ‹nameOk _ = false›) (by decide) | omega | exact e5.elim (by omega) (fun h => absurd (h.symm.trans ‹Op.bytesLess _ _ = false›) (by decide))))], rfl⟩, (.le fun a => by (try simp only [setR, List.cons_append, List.nil_append]); simp only [List.flatten_append, List.flatten_cons, List.flatten_nil, List.count_append, List.count_nil, List.append_nil, List.nil_append]; omega)⟩
      ·
        simp at q7
        have iq7 := inR_iff.1 q7
        refine VCsplit.intro (fun q8 => ?_) (fun q8 => ?_)
        ·
          simp at q8
          exact ⟨[], ⟨by rw [diskOk_no d k (by omega) (fileOk_f fun e => by (obtain ⟨e1, e2, e3, e4, e5⟩ := fileOk_iff.1 e; first | exact absurd (e1.symm.trans ‹nameOk _ = false›) (by decide) | omega | exact e5.elim (by omega) (fun h => absurd (h.symm.trans ‹Op.bytesLess _ _ = false›) (by decide))))], rfl⟩, (.le fun a => by (try simp only [setR, List.cons_append, List.nil_append]); simp only [List.flatten_append, List.flatten_cons, List.flatten_nil, List.count_append, List.count_nil, List.append_nil, List.nil_append]; omega)⟩
        ·
          simp at q8
          refine call_val (l01In_ct _ _ _) trivial ?_
          rintro _ rfl
          refine VC.intro ?_ ?_
          · exact fun _ h => h
          refine VCsplit.intro (fun q10 => ?_) (fun q10 => ?_)
          ·
            simp at q10
            have iq10 := mt inR_iff.2 (Bool.eq_false_iff.1 q10)
            exact ⟨[], ⟨by rw [diskOk_no d k (by omega) (fileOk_f fun e => by (obtain ⟨e1, e2, e3, e4, e5⟩ := fileOk_iff.1 e; first | exact absurd (e1.symm.trans ‹nameOk _ = false›) (by decide) | omega | exact e5.elim (by omega) (fun h => absurd (h.symm.trans ‹Op.bytesLess _ _ = false›) (by decide))))], rfl⟩, (.le fun a => by (try simp only [setR, List.cons_append, List.nil_append]); simp only [List.flatten_append, List.flatten_cons, List.flatten_nil, List.count_append, List.count_nil, List.append_nil, List.nil_append]; omega)⟩
          ·
            simp at q10
            have iq10 := inR_iff.1 q10
            refine VCsplit.intro (fun q11 => ?_) (fun q11 => ?_)
            ·
              simp at q11
              refine idx_rd h0p ?_ ?_ fun b12 o12 hb12 => ?_
              · (simp (disch := omega) only [wrap_of]; omega)
              · (simp (disch := omega) only [wrap_of]; omega)
              refine load_part default 0 h0p ?_ ?_ hb12 rfl (by decide) (mem_at 0 rfl) fun l13 hl13 => ?_
              · (simp (disch := omega) only [wrap_of]; omega)
              · (simp (disch := omega) only [wrap_of]; omega)
              rw [show (IntKind.i64.wrap ((k : Int) - 1)).toNat = k - 1 by (simp (disch := omega) only [wrap_of]; omega)] at hl13
              obtain ⟨rfl, w0x13, w1x13, w2x13⟩ := gFile_rd.1 hl13
              refine VCsplit.intro (fun q14 => ?_) (fun q14 => ?_)
              ·
                simp at q14
                exact ⟨[], ⟨by rw [diskOk_no d k (by omega) (fileOk_f fun e => by (obtain ⟨e1, e2, e3, e4, e5⟩ := fileOk_iff.1 e; first | exact absurd (e1.symm.trans ‹nameOk _ = false›) (by decide) | omega | exact e5.elim (by omega) (fun h => absurd (h.symm.trans ‹Op.bytesLess _ _ = false›) (by decide))))], rfl⟩, (.le fun a => by (try simp only [setR, List.cons_append, List.nil_append]); simp only [List.flatten_append, List.flatten_cons, List.flatten_nil, List.count_append, List.count_nil, List.append_nil, List.nil_append]; omega)⟩
              ·
                simp at q14
                apply loop_stepA (k + 1)
                · exact .refl _
                · repeat' (first | exact trivial | refine ⟨⟨_, rfl, by first | rfl | exact inc_eq _ (by omega) | (refine sl_eq ?_; simp; done), by first | exact trivial | simp [SV.ok]⟩, ?_⟩)
                · exact ⟨rfl, trivial⟩
                · exact ⟨by omega, filesOk_step ha (fileOk_iff.2 ⟨by assumption, by omega, by omega, by omega, by first | exact .inl (by omega) | exact .inr (by assumption)⟩)⟩
                omega
            ·
              simp at q11
              apply loop_stepA (k + 1)
              · exact .refl _
              · repeat' (first | exact trivial | refine ⟨⟨_, rfl, by first | rfl | exact inc_eq _ (by omega) | (refine sl_eq ?_; simp; done), by first | exact trivial | simp [SV.ok]⟩, ?_⟩)
              · exact ⟨rfl, trivial⟩
              · exact ⟨by omega, filesOk_step ha (fileOk_iff.2 ⟨by assumption, by omega, by omega, by omega, by first | exact .inl (by omega) | exact .inr (by assumption)⟩)⟩
              omega
    ·
      simp at q2
      obtain rfl : k = d.files.length := by omega
      exact ⟨[], ⟨by rw [diskOk_yes (by omega) ha], rfl⟩, (.le fun a => by (try simp only [setR, List.cons_append, List.nil_append]); simp only [List.flatten_append, List.flatten_cons, List.flatten_nil, List.count_append, List.count_nil, List.append_nil, List.nil_append]; omega)⟩
/-- where a file stands -/
def fileAt (d : Disk) (name : ByteArray) : Nat → Int
  | 0 => -1
  | k + 1 => if fileAt d name k < 0 then (if (d.files[k]?.getD default).name = name then (k : Int) else -1) else fileAt d name k
def at14 (d : Disk) (name : ByteArray) : Int := fileAt d name d.files.length
theorem fileAt_no {d : Disk} {name : ByteArray} {k : Nat} (h : fileAt d name k = -1) (h2 : ¬ (d.files[k]?.getD default).name = name) : fileAt d name (k + 1) = -1 := by
  unfold fileAt; rw [h, if_pos (by decide), if_neg h2]
theorem fileAt_yes {d : Disk} {name : ByteArray} {k : Nat} (h : fileAt d name k = -1) (h2 : (d.files[k]?.getD default).name = name) : ∀ m, fileAt d name (k + 1 + m) = (k : Int)
  | 0 => by rw [Nat.add_zero]; unfold fileAt; rw [h, if_pos (by decide), if_pos h2]
  | m + 1 => by
    rw [show k + 1 + (m + 1) = (k + 1 + m) + 1 by omega]
    unfold fileAt
    rw [fileAt_yes h h2 m, if_neg (by omega)]
theorem at14_yes {d : Disk} {name : ByteArray} {k : Nat} (hk : k < d.files.length) (h : fileAt d name k = -1) (h2 : (d.files[k]?.getD default).name = name) : at14 d name = (k : Int) := by
  unfold at14
  have := fileAt_yes h h2 (d.files.length - (k + 1))
  rw [show k + 1 + (d.files.length - (k + 1)) = d.files.length by omega] at this
  exact this
theorem fileAt_rng (d : Disk) (name : ByteArray) : ∀ n, -1 ≤ fileAt d name n ∧ fileAt d name n < n
  | 0 => by unfold fileAt; omega
  | n + 1 => by
    have := fileAt_rng d name n
    unfold fileAt
    split
    · split <;> omega
    omega
theorem at14_rng (d : Disk) (name : ByteArray) : -1 ≤ at14 d name ∧ at14 d name < d.files.length := fileAt_rng d name _
def fileText (d : Disk) (name : ByteArray) : ByteArray := if at14 d name < 0 then .empty else (d.files[(at14 d name).toNat]?.getD default).text
--@ct spec.l14At val l14At_ct _ $1 _ | %1
theorem l14At_ct (l : List Value) (d : Disk) (name : ByteArray) : Ct Tryz.prog 325 [.agg ⟨l⟩, .string name] [] (fun H => gDisk.rd H l d) (fun v A => v = .int .i64 (at14 d name) ∧ A = []) := by
  refine Ct.intro0 G_ok Tryz.func325 rfl rfl rfl fun E H hp => ?_
  obtain ⟨b0p, c0p, rfl, h0p⟩ := gDisk_rd.1 hp
  have hl := (rd_len h0p).2
  refine VCnew.intro fun x0 => ?_
  apply loop_mod (α := (Nat)) G_ok [6, 7, 8, 9, 10, 13, 14, 15, 16, 17, 18, 19, 20, 21, 4, 11, 12, 5] (fun z => [(5, .v (.int .i64 z))]) (fun z => [{ id := x0, cs := [Value.slice b0p d.files.length c0p], ty := (153 : Nat) }]) (fun z => [H]) (fun z => d.files.length - z) (fun z => z ≤ d.files.length ∧ fileAt d name z = -1) (0)
  · repeat' (first | exact trivial | refine ⟨⟨_, rfl, by first | rfl | exact inc_eq _ (by omega) | (refine sl_eq ?_; simp; done), by first | exact trivial | simp [SV.ok]⟩, ?_⟩)
  · exact ⟨rfl, trivial⟩
  · exact ⟨by omega, rfl⟩
  · exact .refl _
  rintro k hI
  obtain ⟨hk, ha⟩ : k ≤ d.files.length ∧ fileAt d name k = -1 := hI
  try dsimp only
  refine VCsplit.intro (fun q1 => ?_) (fun q1 => ?_)
  ·
    simp at q1
    refine idx_rd h0p ?_ ?_ fun b2 o2 hb2 => ?_
    · omega
    · omega
    refine load_partN default (k) 0 rfl h0p ?_ ?_ hb2 rfl (by decide) (mem_at 0 rfl) fun l3 hl3 => ?_
    · omega
    · omega
    obtain ⟨rfl, w0x3, w1x3, w2x3⟩ := gFile_rd.1 hl3
    refine VCsplit.intro (fun q4 => ?_) (fun q4 => ?_)
    ·
      simp at q4
      simp only [str_inj, u8_inj, u8_wrap] at q4
      exact ⟨[], ⟨by rw [at14_yes (by omega) ha ‹_›], rfl⟩, (.le fun a => by (try simp only [setR, List.cons_append, List.nil_append]); simp only [List.flatten_append, List.flatten_cons, List.flatten_nil, List.count_append, List.count_nil, List.append_nil, List.nil_append]; omega)⟩
    ·
      simp at q4
      simp only [str_inj, u8_inj, u8_wrap] at q4
      apply loop_stepA (k + 1)
      · exact .refl _
      · repeat' (first | exact trivial | refine ⟨⟨_, rfl, by first | rfl | exact inc_eq _ (by omega) | (refine sl_eq ?_; simp; done), by first | exact trivial | simp [SV.ok]⟩, ?_⟩)
      · exact ⟨rfl, trivial⟩
      · exact ⟨by omega, fileAt_no ha ‹_›⟩
      omega
  ·
    simp at q1
    obtain rfl : k = d.files.length := by omega
    exact ⟨[], ⟨by unfold at14; rw [ha], rfl⟩, (.le fun a => by (try simp only [setR, List.cons_append, List.nil_append]); simp only [List.flatten_append, List.flatten_cons, List.flatten_nil, List.count_append, List.count_nil, List.append_nil, List.nil_append]; omega)⟩
--@ct spec.FileAt val specFileAt_ct _ $1 _ | %1
theorem specFileAt_ct (l : List Value) (d : Disk) (name : ByteArray) : Ct Tryz.prog 248 [.agg ⟨l⟩, .string name] [] (fun H => gDisk.rd H l d) (fun v A => v = .tuple #[.string (fileText d name), .bool (decide (0 ≤ at14 d name))] ∧ A = []) := by
  refine Ct.intro0 G_ok Tryz.func248 rfl rfl rfl fun E H hp => ?_
  obtain ⟨b0p, c0p, rfl, h0p⟩ := gDisk_rd.1 hp
  have hl := (rd_len h0p).2
  have hr := at14_rng d name
  refine VCnew.intro fun x0 => ?_
  refine call_val (l14At_ct _ (d) _) (Rp.mono _ (mem_at 0 rfl) hp) ?_
  rintro _ rfl
  refine VCsplit.intro (fun q2 => ?_) (fun q2 => ?_)
  ·
    simp at q2
    exact ⟨[], ⟨by unfold fileText; rw [if_pos ‹_›, decide_eq_false (by omega)]; rfl, rfl⟩, (.le fun a => by (try simp only [setR, List.cons_append, List.nil_append]); simp only [List.flatten_append, List.flatten_cons, List.flatten_nil, List.count_append, List.count_nil, List.append_nil, List.nil_append]; omega)⟩
  ·
    simp at q2
    refine idx_rd h0p ?_ ?_ fun b3 o3 hb3 => ?_
    · trivial
    · omega
    refine load_part default 1 h0p ?_ ?_ hb3 rfl (by decide) (mem_at 0 rfl) fun l4 hl4 => ?_
    · trivial
    · omega
    obtain ⟨rfl, w0x4, w1x4, w2x4⟩ := gFile_rd.1 hl4
    exact ⟨[], ⟨by unfold fileText; rw [if_neg (by omega), decide_eq_true (by omega)], rfl⟩, (.le fun a => by (try simp only [setR, List.cons_append, List.nil_append]); simp only [List.flatten_append, List.flatten_cons, List.flatten_nil, List.count_append, List.count_nil, List.append_nil, List.nil_append]; omega)⟩
--@ct impl.fileIndex$1 blk0 fileIndex1_ct _ _ $1 _ | %1 | rintro _ A# ⟨rfl, rfl⟩ ;; refine ⟨_, _, [], rfl, perm0, ?_⟩
theorem fileIndex1_ct (q : Nat) (l : List Value) (x : File) (name : ByteArray) : CtR Tryz.prog 409 [.agg ⟨l⟩, .pointer (some ⟨q, 0, none⟩)] [(q, Obj.cells ⟨[.string name]⟩ 9)] (fun H => gFile.rd H l x) (fun v A => v = .bool (decide (x.name = name)) ∧ A = [(q, Obj.cells ⟨[.string name]⟩ 9)]) := by
  refine CtR.introB G_ok [.v (.agg ⟨l⟩), .p 0 0] [⟨q, [.string name], 9⟩] [] Tryz.func409 rfl rfl rfl rfl (by simp [SV.ok]) (by simp [Blk.ent]) fun E H hp => ?_
  obtain ⟨rfl, w0p, w1p, w2p⟩ := gFile_rd.1 hp
  refine VCnew.intro fun x0 => ?_
  exact ⟨_, ⟨by rw [beq_str], rfl⟩, .le fun a => by simp [List.count_cons, Blk.ent, setR, idOf]⟩
--@ct slices.IndexFunc[[]impl.File,impl.File] blk0 indexFile_ct _ _ _ _ $1 _ | %1 | rintro _ A# ⟨rfl, rfl⟩ ;; refine ⟨_, _, [], rfl, perm0, ?_⟩
theorem indexFile_ct (b : Option Addr) (m c : Nat) (q : Nat) (xs : List File) (name : ByteArray) : CtR Tryz.prog 408 [.slice b m c, .func (.func 409) ⟨[]⟩ ⟨[.pointer (some ⟨q, 0, none⟩)]⟩] [(q, Obj.cells ⟨[.string name]⟩ 9)] (fun H => (gSl 323 gFile).rd H [.slice b m c] xs) (fun v A => v = .int .i64 (at14 ⟨xs⟩ name) ∧ A = [(q, Obj.cells ⟨[.string name]⟩ 9)]) := by
  refine CtR.introB G_ok [.v (.slice b m c), .v (.func (.func 409) ⟨[]⟩ ⟨[.pointer (some ⟨q, 0, none⟩)]⟩)] [⟨q, [.string name], 9⟩] [] Tryz.func408 rfl rfl rfl rfl (by simp [SV.ok]) (by simp [Blk.ent]) fun E H hp => ?_
  obtain ⟨rfl, hcl, hl⟩ := sl_len hp
  apply loop_mod (α := (Nat)) G_ok [9, 10, 5, 11, 12, 13, 14, 15, 16, 17, 4, 18, 8] (fun z => [(8, .v (.int .i64 z))]) (fun z => [{ id := q, cs := [Value.string name], ty := (9 : TypeId) }]) (fun z => [] ++ [H]) (fun z => xs.length - z) (fun z => z ≤ xs.length ∧ fileAt ⟨xs⟩ name z = -1) (0)
  · repeat' (first | exact trivial | refine ⟨⟨_, rfl, by first | rfl | exact inc_eq _ (by omega) | (refine sl_eq ?_; simp; done), by first | exact trivial | simp [SV.ok]⟩, ?_⟩)
  · exact ⟨rfl, trivial⟩
  · exact ⟨by omega, rfl⟩
  · exact .refl _
  rintro k hI
  obtain ⟨hk, ha⟩ : k ≤ xs.length ∧ fileAt ⟨xs⟩ name k = -1 := hI
  try dsimp only
  refine VCsplit.intro (fun q0 => ?_) (fun q0 => ?_)
  ·
    simp at q0
    refine idx_rd hp ?_ ?_ fun b1 o1 hb1 => ?_
    · omega
    · omega
    refine load_allN default (k) rfl hp ?_ ?_ hb1 rfl (mem_at 0 rfl) fun l2 hl2 => ?_
    · omega
    · omega
    obtain ⟨rfl, w0x2, w1x2, w2x2⟩ := gFile_rd.1 hl2
    refine callR_blk 0 ([]) [H] rfl ?_ (fileIndex1_ct _ _ (xs[k]?.getD default) _) (Rp.mono _ (mem_at 0 rfl) hl2) ?_
    · exact .refl _
    rintro _ A3 ⟨rfl, rfl⟩
    refine ⟨_, _, [], rfl, perm0, ?_⟩
    refine VCsplit.intro (fun q4 => ?_) (fun q4 => ?_)
    ·
      simp at q4
      exact ⟨_, ⟨by rw [at14_yes (d := ⟨xs⟩) (k := k) (by show k < xs.length; omega) ha ‹_›], rfl⟩, .le fun a => by simp [List.count_cons, Blk.ent, setR, idOf]⟩
    ·
      simp at q4
      apply loop_stepA (k + 1)
      · exact .refl _
      · repeat' (first | exact trivial | refine ⟨⟨_, rfl, by first | rfl | exact inc_eq _ (by omega) | (refine sl_eq ?_; simp; done), by first | exact trivial | simp [SV.ok]⟩, ?_⟩)
      · exact ⟨rfl, trivial⟩
      · exact ⟨by omega, fileAt_no (d := ⟨xs⟩) ha ‹_›⟩
      omega
  ·
    simp at q0
    obtain rfl : k = xs.length := by omega
    exact ⟨_, ⟨by rw [show at14 ⟨xs⟩ name = -1 from ha], rfl⟩, .le fun a => by simp [List.count_cons, Blk.ent, setR, idOf]⟩
--@ct impl.fileIndex val fileIndex_ct _ $1 _ | %1
theorem fileIndex_ct (l : List Value) (d : Disk) (name : ByteArray) : Ct Tryz.prog 374 [.agg ⟨l⟩, .string name] [] (fun H => gDisk.rd H l d) (fun v A => v = .int .i64 (at14 d name) ∧ A = []) := by
  refine Ct.intro0 G_ok Tryz.func374 rfl rfl rfl fun E H hp => ?_
  obtain ⟨b0p, c0p, rfl, h0p⟩ := gDisk_rd.1 hp
  refine VCnew.intro fun x0 => ?_
  refine VCnew.intro fun x1 => ?_
  refine callR_blk 1 ([]) [H] rfl ?_ (indexFile_ct _ _ _ _ (d.files) _) (Rp.mono _ (mem_at 0 rfl) h0p) ?_
  · exact .refl _
  rintro _ A2 ⟨rfl, rfl⟩
  refine ⟨_, _, [], rfl, perm0, ?_⟩
  exact ⟨[], ⟨rfl, rfl⟩, (.le fun a => by (try simp only [setR, List.cons_append, List.nil_append]); simp only [List.flatten_append, List.flatten_cons, List.flatten_nil, List.count_append, List.count_nil, List.append_nil, List.nil_append]; omega)⟩
--@ct impl.FileAt val implFileAt_ct _ $1 _ | %1
theorem implFileAt_ct (l : List Value) (d : Disk) (name : ByteArray) : Ct Tryz.prog 312 [.agg ⟨l⟩, .string name] [] (fun H => gDisk.rd H l d) (fun v A => v = .tuple #[.string (fileText d name), .bool (decide (0 ≤ at14 d name))] ∧ A = []) := by
  refine Ct.intro0 G_ok Tryz.func312 rfl rfl rfl fun E H hp => ?_
  obtain ⟨b0p, c0p, rfl, h0p⟩ := gDisk_rd.1 hp
  have hl := (rd_len h0p).2
  have hr := at14_rng d name
  refine VCnew.intro fun x0 => ?_
  refine call_val (fileIndex_ct _ (d) _) (Rp.mono _ (mem_at 0 rfl) hp) ?_
  rintro _ rfl
  refine VCsplit.intro (fun q2 => ?_) (fun q2 => ?_)
  ·
    simp at q2
    exact ⟨[], ⟨by unfold fileText; rw [if_pos ‹_›, decide_eq_false (by omega)]; rfl, rfl⟩, (.le fun a => by (try simp only [setR, List.cons_append, List.nil_append]); simp only [List.flatten_append, List.flatten_cons, List.flatten_nil, List.count_append, List.count_nil, List.append_nil, List.nil_append]; omega)⟩
  ·
    simp at q2
    refine idx_rd h0p ?_ ?_ fun b3 o3 hb3 => ?_
    · trivial
    · omega
    refine load_part default 1 h0p ?_ ?_ hb3 rfl (by decide) (mem_at 0 rfl) fun l4 hl4 => ?_
    · trivial
    · omega
    obtain ⟨rfl, w0x4, w1x4, w2x4⟩ := gFile_rd.1 hl4
    exact ⟨[], ⟨by unfold fileText; rw [if_neg (by omega), decide_eq_true (by omega)], rfl⟩, (.le fun a => by (try simp only [setR, List.cons_append, List.nil_append]); simp only [List.flatten_append, List.flatten_cons, List.flatten_nil, List.count_append, List.count_nil, List.append_nil, List.nil_append]; omega)⟩
/-! records, epochs -/
def recordsOf (d : Disk) (name : ByteArray) : List ByteArray := if diskOk d then (unframe (fileText d name)).1 else []
theorem recordsOf_yes {d : Disk} (name : ByteArray) (h : diskOk d = true) : recordsOf d name = (unframe (fileText d name)).1 := by unfold recordsOf; rw [if_pos h]
theorem recordsOf_no {d : Disk} (name : ByteArray) (h : diskOk d = false) : recordsOf d name = [] := by unfold recordsOf; rw [h]; rfl
theorem szL_s : ∀ (l : List ByteArray) (k : Nat), (l[k]?.getD .empty).size ≤ szL gS l
  | [], k => by simp
  | x :: l, 0 => by
    have : szL gS (x :: l) = 1 + x.size + szL gS l := rfl
    simp; omega
  | x :: l, k + 1 => by
    have : szL gS (x :: l) = 1 + x.size + szL gS l := rfl
    have := szL_s l k
    simp only [List.getElem?_cons_succ]; omega
theorem unf_s (t : ByteArray) (k : Nat) : (((unframe t).1)[k]?.getD .empty).size ≤ 1152921504606846976 := by
  have := szL_s (unframe t).1 k; have := unframe_sz t; omega
theorem rec_s (d : Disk) (n : ByteArray) (k : Nat) : ((recordsOf d n)[k]?.getD .empty).size ≤ 1152921504606846976 := by
  unfold recordsOf; split
  · exact unf_s _ k
  simp
theorem unf_len (t : ByteArray) : (unframe t).1.length ≤ 20000 := by
  have := len_szL gS (unframe t).1; have := unframe_sz t; omega
theorem rec_len (d : Disk) (n : ByteArray) : (recordsOf d n).length ≤ 20000 := by
  unfold recordsOf; split
  · exact unf_len _
  simp
theorem filesOk_at (d : Disk) : ∀ n, filesOk d n = true → ∀ k, k < n → fileOk d k = true
  | 0, _, k, hk => by omega
  | n + 1, h, k, hk => by
    unfold filesOk at h; rw [Bool.and_eq_true] at h
    rcases Nat.lt_or_ge k n with h2 | h2
    · exact filesOk_at d n h.1 k h2
    rw [show k = n by omega]; exact h.2
theorem fileText_sz {d : Disk} (h : diskOk d = true) (name : ByteArray) : (fileText d name).size ≤ 1152921504606846976 := by
  unfold fileText; split
  · simp
  have h1 := at14_rng d name
  unfold diskOk at h; rw [Bool.and_eq_true] at h
  have := (fileOk_iff.1 (filesOk_at d _ h.2 (at14 d name).toNat (by omega))).2.1
  omega
--@ct impl.recordsOf new implRecordsOf_ct _ $1 _ | %1 | obtain ⟨b#, c#, rfl, o#⟩ := o#
theorem implRecordsOf_ct (l : List Value) (d : Disk) (name : ByteArray) : Ct Tryz.prog 240 [.agg ⟨l⟩, .string name] [] (fun H => gDisk.rd H l d) (fun v A => ∃ b c, v = .slice b (recordsOf d name).length c ∧ (gSl 9 gS).ow [.slice b (recordsOf d name).length c] (recordsOf d name) A) := by
  refine Ct.intro0 G_ok Tryz.func240 rfl rfl rfl fun E H hp => ?_
  obtain ⟨b0p, c0p, rfl, h0p⟩ := gDisk_rd.1 hp
  refine VCnew.intro fun x0 => ?_
  refine call_val (implDiskOk_ct _ (d)) (Rp.mono _ (mem_at 0 rfl) hp) ?_
  rintro _ rfl
  refine VCsplit.intro (fun q2 => ?_) (fun q2 => ?_)
  ·
    simp at q2
    (rw [recordsOf_no name (by assumption)]; exact ⟨[], ⟨none, 0, rfl, sl_nil _ _ _⟩, (.le fun a => by (try simp only [setR, List.cons_append, List.nil_append]); simp only [List.flatten_append, List.flatten_cons, List.flatten_nil, List.count_append, List.count_nil, List.append_nil, List.nil_append]; omega)⟩)
  ·
    simp at q2
    refine call_val (implFileAt_ct _ (d) _) (Rp.mono _ (mem_at 0 rfl) hp) ?_
    rintro _ rfl
    refine call_new (implUnframe_ct _ ?_) trivial ?_
    · exact fileText_sz (by assumption) _
    rintro v4 A4 o4
    obtain ⟨b4, c4, rfl, o4⟩ := o4
    (rw [recordsOf_yes name (by assumption)]; exact ⟨_, ⟨_, _, rfl, by assumption⟩, (.le fun a => by (try simp only [setR, List.cons_append, List.nil_append]); simp only [List.flatten_append, List.flatten_cons, List.flatten_nil, List.count_append, List.count_nil, List.append_nil, List.nil_append]; omega)⟩)
end Go.Proofs.YtjgehblllhkdbaaGreat

namespace Go.Proofs.YtjgehblllhkdbaaGreat
open Go.SX Go.Proofs Go.RowKit
set_option maxHeartbeats 4000000
theorem sizeBuilder : (Tryz.prog.info? 446).map (·.size) = some 2 := by kernel_rfl
theorem liesBuilder : liesAt Tryz.prog Tryz.prog.depth 446 (2 / Tryz.prog.cellsOf 446) 0 446 1 = true := by kernel_rfl
set_option maxRecDepth 100000 in
theorem copyCheck_used (b : Nat) (w : World) (h0 : w.cell? ⟨b, 0, none⟩ = some (.pointer (some ⟨b, 0, none⟩))) :
    Calls Tryz.prog 406 #[.pointer (some ⟨b, 0, none⟩)] w fun e w' => e = .returned (.tuple #[]) ∧ w' = w := by
  obtain ⟨j, hj, _⟩ := Option.map_eq_some_iff.1 sizeBuilder
  have mixed := mixed
  have t446 := Tryz.underlying446; have a446 := Tryz.isAgg446; have z446 := Tryz.sizeOf446; have v446 := Tryz.zeroValue446; have u446 := run_underlying Tryz.underlying446
  have t444 := Tryz.underlying444; have a444 := Tryz.isAgg444; have z444 := Tryz.sizeOf444; have v444 := Tryz.zeroValue444; have u444 := run_underlying Tryz.underlying444
  have t9 := Tryz.underlying9; have a9 := Tryz.isAgg9; have z9 := Tryz.sizeOf9; have v9 := Tryz.zeroValue9; have u9 := run_underlying Tryz.underlying9
  have t4 := Tryz.underlying4; have a4 := Tryz.isAgg4; have z4 := Tryz.sizeOf4; have v4 := Tryz.zeroValue4; have u4 := run_underlying Tryz.underlying4
  have t498 := Tryz.underlying498; have a498 := Tryz.isAgg498; have z498 := Tryz.sizeOf498; have v498 := Tryz.zeroValue498; have u498 := run_underlying Tryz.underlying498
  go_enter Tryz.func406, Tryz.ntmps406
  go_wp2
  rw [Lib.run_neq_ptr_same w _ Tryz.underlying444 hj]
  go_wp2
  go_end0
  exact ⟨rfl, rfl⟩
set_option maxRecDepth 100000 in
theorem copyCheck_fresh (b : Nat) (w : World) (h0 : w.cell? ⟨b, 0, none⟩ = some (.pointer none)) (hsh : w.shape? b = some (446, 2)) (hfz : w.frozen? ⟨b, 0, none⟩ = false) :
    Calls Tryz.prog 406 #[.pointer (some ⟨b, 0, none⟩)] w fun e w' => e = .returned (.tuple #[]) ∧ w' = w.setCell ⟨b, 0, none⟩ (.pointer (some ⟨b, 0, none⟩)) := by
  obtain ⟨j, hj, hjs⟩ := Option.map_eq_some_iff.1 sizeBuilder
  have mixed := mixed
  have t446 := Tryz.underlying446; have a446 := Tryz.isAgg446; have z446 := Tryz.sizeOf446; have v446 := Tryz.zeroValue446; have u446 := run_underlying Tryz.underlying446
  have t444 := Tryz.underlying444; have a444 := Tryz.isAgg444; have z444 := Tryz.sizeOf444; have v444 := Tryz.zeroValue444; have u444 := run_underlying Tryz.underlying444
  have t9 := Tryz.underlying9; have a9 := Tryz.isAgg9; have z9 := Tryz.sizeOf9; have v9 := Tryz.zeroValue9; have u9 := run_underlying Tryz.underlying9
  have t4 := Tryz.underlying4; have a4 := Tryz.isAgg4; have z4 := Tryz.sizeOf4; have v4 := Tryz.zeroValue4; have u4 := run_underlying Tryz.underlying4
  have t498 := Tryz.underlying498; have a498 := Tryz.isAgg498; have z498 := Tryz.sizeOf498; have v498 := Tryz.zeroValue498; have u498 := run_underlying Tryz.underlying498
  go_enter Tryz.func406, Tryz.ntmps406
  go_wp2
  rw [Lib.run_to_unsafe w ⟨b, 0, none⟩ Tryz.underlying444 Tryz.underlying498 hj (by rw [hjs]; decide) hsh (Nat.zero_lt_succ 1)]
  simp only [Result.andThen]
  rw [Oper.upon_value]
  go_wp2
  rw [run_callFunc_extern Tryz.func424 (by kernel_rfl) (by kernel_rfl) (by kernel_rfl) (e := Extern.AbiNoEscape.same) (by kernel_rfl)]
  rw [Lib.run_noEscape]
  simp only [Result.andThen]
  rw [Oper.upon_value]
  go_wp2
  rw [Lib.run_from_unsafe w ⟨b, 0, none⟩ Tryz.underlying498 Tryz.underlying444 hj hsh liesBuilder]
  simp only [Result.andThen]
  rw [Oper.upon_value]
  go_wp2
  go_end0
  exact ⟨rfl, rfl⟩
theorem copyCheck_ct (b : Nat) (ad v : Value) (ha : ad = .pointer none ∨ ad = .pointer (some ⟨b, 0, none⟩)) :
    CtR Tryz.prog 406 [.pointer (some ⟨b, 0, none⟩)] [(b, Obj.cells ⟨[ad, v]⟩ 446)] (fun _ => True) (fun r A => r = .tuple #[] ∧ A = [(b, Obj.cells ⟨[.pointer (some ⟨b, 0, none⟩), v]⟩ 446)]) := by
  refine ⟨⟨_, Tryz.func406, by decide +kernel, rfl⟩, fun E H w hs _ => ?_⟩
  have hmem : (b, Obj.cells ⟨[ad, v]⟩ 446) ∈ ([(b, Obj.cells ⟨[ad, v]⟩ 446)] : Hp) ++ H := List.mem_append_left _ (List.mem_singleton.2 rfl)
  have hc := hs.cell hmem 0
  have hheap := hs.mem _ _ hmem
  rcases ha with rfl | rfl
  · refine (copyCheck_fresh b w (by rw [hc]; rfl) (by simp [World.shape?, hheap]) (by simp [World.frozen?, hheap])).mono ?_
    rintro e w' ⟨rfl, rfl⟩
    refine ⟨_, _, rfl, ⟨rfl, rfl⟩, ?_⟩
    refine Sat.upd (A := []) hs rfl rfl rfl ?_ ?_
    · show (w.heap.modify b _)[b]? = _
      rw [Array.getElem?_modify, if_pos rfl, hheap]; rfl
    intro i hne
    simp only [World.setCell, Array.getElem?_modify]
    rw [if_neg (fun e => hne e.symm)]
  refine (copyCheck_used b w (by rw [hc]; rfl)).mono ?_
  rintro e w' ⟨rfl, rfl⟩
  exact ⟨_, _, rfl, ⟨rfl, rfl⟩, hs⟩
--@ct (*strings.Builder).copyCheck blk0 copyCheck_ct _ _ _ !a | | rintro _ A# ⟨rfl, rfl⟩ ;; refine ⟨_, _, [], rfl, perm0, ?_⟩
--@ct (*strings.Builder).WriteString blk1 WriteString_ct _ _ _ _ _ _ _ _ !a !o !z ?_ | | rintro _ A# ⟨rfl, bb#, bc#, B#, rfl, o#, z#⟩ ;; refine ⟨_, _, [B#], rfl, perm1, ?_⟩
theorem WriteString_ct (b : Nat) (ad : Value) (base : Option Addr) (m cap : Nat) (xs : List UInt8) (A : Hp) (s : ByteArray) (ha : ad = .pointer none ∨ ad = .pointer (some ⟨b, 0, none⟩)) (ho : (gSl 5 gY).ow [.slice base m cap] xs A) (hz : Bz base cap) (hl : xs.length + s.size ≤ 1073741824) :
    CtR Tryz.prog 369 [.pointer (some ⟨b, 0, none⟩), .string s] ((b, Obj.cells ⟨[ad, .slice base m cap]⟩ 446) :: A) (fun _ => True) (fun r A' => r = .tuple #[.int .i64 s.size, .nilIface] ∧
      ∃ base' cap' B, A' = (b, Obj.cells ⟨[.pointer (some ⟨b, 0, none⟩), .slice base' (xs ++ s.data.toList).length cap']⟩ 446) :: B ∧ (gSl 5 gY).ow [.slice base' (xs ++ s.data.toList).length cap'] (xs ++ s.data.toList) B ∧ Bz base' cap') := by
  obtain ⟨rfl, hcl, hll⟩ := sl_len (Gt.owrd _ ho)
  refine CtR.introB G_ok [.p 0 0, .v (.string s)] [⟨b, [ad, .slice base xs.length cap], 446⟩] [A] Tryz.func369 rfl rfl rfl rfl (by simp [SV.ok]) (by simp [Blk.ent]) fun E H hp => ?_
  have ha' := ha
  refine callR_blk 0 ([]) [A, H] rfl ?_ (copyCheck_ct _ _ _ (by first | exact .inl rfl | exact .inr rfl | assumption)) trivial ?_
  · exact .refl _
  rintro _ A0 ⟨rfl, rfl⟩
  refine ⟨_, _, [], rfl, perm0, ?_⟩
  refine append_str G_ok 0 rfl ho hz rfl rfl rfl rfl rfl rfl rfl rfl ?_ fun b1 c1 A1 o1 z1 => ?_
  · trivial
  exact ⟨_, ⟨rfl, _, _, _, rfl, ‹_›, ‹_›⟩, .le fun a => by simp [List.count_cons, Blk.ent, setR, idOf]⟩
--@ct (*strings.Builder).WriteByte blk1 WriteByte_ct _ _ _ _ _ _ _ _ !a !o !z ?_ | | rintro _ A# ⟨rfl, bb#, bc#, B#, rfl, o#, z#⟩ ;; refine ⟨_, _, [B#], rfl, perm1, ?_⟩
theorem WriteByte_ct (b : Nat) (ad : Value) (base : Option Addr) (m cap : Nat) (xs : List UInt8) (A : Hp) (y : UInt8) (ha : ad = .pointer none ∨ ad = .pointer (some ⟨b, 0, none⟩)) (ho : (gSl 5 gY).ow [.slice base m cap] xs A) (hz : Bz base cap) (hl : xs.length + 1 ≤ 1073741824) :
    CtR Tryz.prog 370 [.pointer (some ⟨b, 0, none⟩), .int .u8 y.toNat] ((b, Obj.cells ⟨[ad, .slice base m cap]⟩ 446) :: A) (fun _ => True) (fun r A' => r = .nilIface ∧
      ∃ base' cap' B, A' = (b, Obj.cells ⟨[.pointer (some ⟨b, 0, none⟩), .slice base' (xs ++ [y]).length cap']⟩ 446) :: B ∧ (gSl 5 gY).ow [.slice base' (xs ++ [y]).length cap'] (xs ++ [y]) B ∧ Bz base' cap') := by
  obtain ⟨rfl, hcl, hll⟩ := sl_len (Gt.owrd _ ho)
  refine CtR.introB G_ok [.p 0 0, .v (.int .u8 y.toNat)] [⟨b, [ad, .slice base xs.length cap], 446⟩] [A] Tryz.func370 rfl rfl rfl rfl (by simp [SV.ok]) (by simp [Blk.ent]) fun E H hp => ?_
  have ha' := ha
  refine callR_blk 0 ([]) [A, H] rfl ?_ (copyCheck_ct _ _ _ (by first | exact .inl rfl | exact .inr rfl | assumption)) trivial ?_
  · exact .refl _
  rintro _ A0 ⟨rfl, rfl⟩
  refine ⟨_, _, [], rfl, perm0, ?_⟩
  refine VCnew.intro fun x1 => ?_
  refine append_byte G_ok 1 rfl ho hz (List.mem_of_getElem? (i := 0) rfl) rfl rfl rfl rfl rfl rfl rfl rfl ?_ fun b2 c2 A2 o2 z2 => ?_
  · trivial
  try dsimp only
  exact ⟨_, ⟨rfl, _, _, _, rfl, ‹_›, ‹_›⟩, .le fun a => by simp [List.count_cons, Blk.ent, setR, idOf]⟩
--@ct (*strings.Builder).String blk1 String_ct _ _ _ _ _ _ _ !o !z | | rintro _ A# ⟨rfl, rfl⟩ ;; refine ⟨_, _, [], rfl, perm0, ?_⟩
theorem String_ct (b : Nat) (ad : Value) (base : Option Addr) (m cap : Nat) (xs : List UInt8) (A : Hp) (ho : (gSl 5 gY).ow [.slice base m cap] xs A) (hz : Bz base cap) :
    CtR Tryz.prog 371 [.pointer (some ⟨b, 0, none⟩)] ((b, Obj.cells ⟨[ad, .slice base m cap]⟩ 446) :: A) (fun _ => True) (fun r A' => r = .string ⟨xs.toArray⟩ ∧ A' = [(b, Obj.cells ⟨[ad, .slice base m cap]⟩ 446)]) := by
  obtain ⟨rfl, hcl, hll⟩ := sl_len (Gt.owrd _ ho)
  refine CtR.introB G_ok [.p 0 0] [⟨b, [ad, .slice base xs.length cap], 446⟩] [A] Tryz.func371 rfl rfl rfl rfl (by simp [SV.ok]) (by simp [Blk.ent]) fun E H hp => ?_
  refine draw G_ok mixed (some 10) (.q 0 (.q 1 (.q 2 (.q 3 (.q 5 (.q 6 (.q 7 (.q 8 (.q 9 (.f 4 (.tl 10 (.f 11 (.nil))))))))))))) (by decide +kernel) ?_
  refine sliceData rfl hz ?_
  refine VC.intro ?_ ?_
  · exact fun _ h => h
  refine unsafeStr G_ok 0 rfl ho rfl rfl rfl (by kernel_rfl) ?_
  exact ⟨_, ⟨rfl, rfl⟩, .le fun a => by simp [List.count_cons, Blk.ent, setR]⟩
end Go.Proofs.YtjgehblllhkdbaaGreat

namespace Go.Proofs.YtjgehblllhkdbaaGreat
open Go.SX Go.Proofs
set_option linter.unusedSimpArgs false
set_option linter.unusedVariables false
set_option maxHeartbeats 4000000
attribute [local irreducible] IntKind.wrap
def ownerOk (v n : Int) : Bool := inR 1 8 n && inR 0 11 v
def ownerOf (v n : Int) : Int := if ownerOk v n then sumOf (varText v) % n else 0
theorem ownerOf_no {v n : Int} (h : ownerOk v n = false) : ownerOf v n = 0 := by unfold ownerOf; rw [h]; rfl
theorem ownerOf_val {v n : Int} (h1 : 1 ≤ n) (h2 : n ≤ 8) (h3 : 0 ≤ v) (h4 : v ≤ 11) : Value.int .i64 (IntKind.i64.wrap ((sumOf (varText v)).tmod (IntKind.u32.wrap n))) = Value.int .i64 (ownerOf v n) := by
  have h5 := sumOf_rng (varText v)
  have h6 : IntKind.u32.wrap n = n := by rw [u32_wrap]; omega
  have h7 : 0 ≤ sumOf (varText v) % n := Int.emod_nonneg _ (by omega)
  have h8 : sumOf (varText v) % n < n := Int.emod_lt_of_pos _ (by omega)
  have h9 : ownerOk v n = true := by unfold ownerOk inR; simp; omega
  unfold ownerOf
  rw [h6, Int.tmod_eq_emod_of_nonneg h5.1, wrap_of (by omega) (by omega), h9]; rfl
--@ct impl.OwnerOf val implOwnerOf_ct _ _
theorem implOwnerOf_ct (v n : Int) : Ct Tryz.prog 163 [.int .i64 v, .int .i64 n] [] (fun _ => True) (fun r A => r = .int .i64 (ownerOf v n) ∧ A = []) := by
  refine Ct.intro0 G_ok Tryz.func163 rfl rfl rfl fun E H hp => ?_
  have h1 := varText_size v
  have h3 := sumOf_rng (varText v)
  refine VCsplit.intro (fun q0 => ?_) (fun q0 => ?_)
  ·
    simp at q0
    exact ⟨[], ⟨by rw [ownerOf_no (by unfold ownerOk inR; simp; omega)], rfl⟩, (.le fun a => by (try simp only [setR, List.cons_append, List.nil_append]); simp only [List.flatten_append, List.flatten_cons, List.flatten_nil, List.count_append, List.count_nil, List.append_nil, List.nil_append]; omega)⟩
  ·
    simp at q0
    refine VCsplit.intro (fun q1 => ?_) (fun q1 => ?_)
    ·
      simp at q1
      exact ⟨[], ⟨by rw [ownerOf_no (by unfold ownerOk inR; simp; omega)], rfl⟩, (.le fun a => by (try simp only [setR, List.cons_append, List.nil_append]); simp only [List.flatten_append, List.flatten_cons, List.flatten_nil, List.count_append, List.count_nil, List.append_nil, List.nil_append]; omega)⟩
    ·
      simp at q1
      refine VCsplit.intro (fun q2 => ?_) (fun q2 => ?_)
      ·
        simp at q2
        exact ⟨[], ⟨by rw [ownerOf_no (by unfold ownerOk inR; simp; omega)], rfl⟩, (.le fun a => by (try simp only [setR, List.cons_append, List.nil_append]); simp only [List.flatten_append, List.flatten_cons, List.flatten_nil, List.count_append, List.count_nil, List.append_nil, List.nil_append]; omega)⟩
      ·
        simp at q2
        refine VCsplit.intro (fun q3 => ?_) (fun q3 => ?_)
        ·
          simp at q3
          exact ⟨[], ⟨by rw [ownerOf_no (by unfold ownerOk inR; simp; omega)], rfl⟩, (.le fun a => by (try simp only [setR, List.cons_append, List.nil_append]); simp only [List.flatten_append, List.flatten_cons, List.flatten_nil, List.count_append, List.count_nil, List.append_nil, List.nil_append]; omega)⟩
        ·
          simp at q3
          refine call_val (varText_ct _ ?_ ?_) trivial ?_
          · trivial
          · omega
          rintro _ rfl
          refine call_val (implSumOf_ct _ ?_) trivial ?_
          · omega
          rintro _ rfl
          refine VC.intro ?_ ?_
          · (rw [u32_wrap]; omega)
          exact ⟨[], ⟨ownerOf_val (by omega) (by omega) (by omega) (by omega), rfl⟩, (.le fun a => by (try simp only [setR, List.cons_append, List.nil_append]); simp only [List.flatten_append, List.flatten_cons, List.flatten_nil, List.count_append, List.count_nil, List.append_nil, List.nil_append]; omega)⟩
--@ct spec.OwnerOf val specOwnerOf_ct _ _
theorem specOwnerOf_ct (v n : Int) : Ct Tryz.prog 108 [.int .i64 v, .int .i64 n] [] (fun _ => True) (fun r A => r = .int .i64 (ownerOf v n) ∧ A = []) := by
  refine Ct.intro0 G_ok Tryz.func108 rfl rfl rfl fun E H hp => ?_
  have h1 := varText_size v
  have h3 := sumOf_rng (varText v)
  refine call_val (l01In_ct _ _ _) trivial ?_
  rintro _ rfl
  refine VCsplit.intro (fun q1 => ?_) (fun q1 => ?_)
  ·
    simp at q1
    exact ⟨[], ⟨by rw [ownerOf_no (by unfold ownerOk; simp_all)], rfl⟩, (.le fun a => by (try simp only [setR, List.cons_append, List.nil_append]); simp only [List.flatten_append, List.flatten_cons, List.flatten_nil, List.count_append, List.count_nil, List.append_nil, List.nil_append]; omega)⟩
  ·
    simp at q1
    have iq1 := inR_iff.1 q1
    refine call_val (l01In_ct _ _ _) trivial ?_
    rintro _ rfl
    refine VCsplit.intro (fun q3 => ?_) (fun q3 => ?_)
    ·
      simp at q3
      exact ⟨[], ⟨by rw [ownerOf_no (by unfold ownerOk; simp_all)], rfl⟩, (.le fun a => by (try simp only [setR, List.cons_append, List.nil_append]); simp only [List.flatten_append, List.flatten_cons, List.flatten_nil, List.count_append, List.count_nil, List.append_nil, List.nil_append]; omega)⟩
    ·
      simp at q3
      have iq3 := inR_iff.1 q3
      refine call_val (l01Var_ct _ ?_ ?_) trivial ?_
      · omega
      · omega
      rintro _ rfl
      refine call_val (specSumOf_ct _ ?_) trivial ?_
      · omega
      rintro _ rfl
      refine VC.intro ?_ ?_
      · (rw [u32_wrap]; omega)
      exact ⟨[], ⟨ownerOf_val (by omega) (by omega) (by omega) (by omega), rfl⟩, (.le fun a => by (try simp only [setR, List.cons_append, List.nil_append]); simp only [List.flatten_append, List.flatten_cons, List.flatten_nil, List.count_append, List.count_nil, List.append_nil, List.nil_append]; omega)⟩
end Go.Proofs.YtjgehblllhkdbaaGreat

namespace Go.Proofs.YtjgehblllhkdbaaGreat
open Go.SX Go.Proofs
set_option linter.unusedSimpArgs false
set_option linter.unusedVariables false
set_option maxHeartbeats 4000000
attribute [local irreducible] IntKind.wrap
def partOf (g : Graph) (w n : Int) : Graph := if graphOk g then ⟨g.size, g.edges.filter fun e => ownerOf e.from' n == w⟩ else ⟨g.size, []⟩
theorem graphOk_rng {g : Graph} (h : graphOk g = true) : 1 ≤ g.size ∧ g.size ≤ 12 ∧ g.edges.length ≤ 40 := by
  unfold graphOk inR at h
  simp at h
  omega
theorem allOk_edge {g : Graph} : ∀ {n : Nat}, allOk g n = true → ∀ k, k < n → edgeOk g k = true
  | 0, _, k, hk => by omega
  | n + 1, h, k, hk => by
    unfold allOk at h
    simp at h
    rcases Nat.lt_or_ge k n with h1 | h1
    · exact allOk_edge h.1 k h1
    rw [show k = n by omega]; exact h.2
theorem graphOk_edge {g : Graph} (h : graphOk g = true) (k : Nat) (hk : k < g.edges.length) : edgeOk g k = true := by
  have h1 := h
  unfold graphOk at h1
  simp at h1
  exact allOk_edge h1.2.2 k hk
theorem edgeOk_rng {g : Graph} {k : Nat} (h : edgeOk g k = true) : 0 ≤ (g.edges[k]?.getD default).from' ∧ (g.edges[k]?.getD default).from' ≤ g.size - 1 ∧ 0 ≤ (g.edges[k]?.getD default).to ∧ (g.edges[k]?.getD default).to ≤ g.size - 1 := by
  unfold edgeOk at h
  simp only [Bool.and_eq_true] at h
  have h1 := inR_iff.1 h.1
  have h2 := inR_iff.1 h.2.1
  omega
theorem filter_yes {α : Type} {p : α → Bool} {xs : List α} {k : Nat} (z : α) (h : k < xs.length) (hp : p (xs[k]?.getD z) = true) : (xs.take (k + 1)).filter p = (xs.take k).filter p ++ [xs[k]?.getD z] := by
  rw [List.getElem?_eq_getElem h] at hp ⊢
  rw [← List.take_append_getElem h, List.filter_append]
  simp at hp
  simp [hp]
theorem filter_no {α : Type} {p : α → Bool} {xs : List α} {k : Nat} (z : α) (h : k < xs.length) (hp : p (xs[k]?.getD z) = false) : (xs.take (k + 1)).filter p = (xs.take k).filter p := by
  rw [List.getElem?_eq_getElem h] at hp
  rw [← List.take_append_getElem h, List.filter_append]
  simp at hp
  simp [hp]
theorem partOf_yes {g : Graph} {w n : Int} (h : graphOk g = true) : partOf g w n = ⟨g.size, g.edges.filter fun e => ownerOf e.from' n == w⟩ := by unfold partOf; rw [h]; rfl
theorem partOf_no {g : Graph} {w n : Int} (h : graphOk g = false) : partOf g w n = ⟨g.size, []⟩ := by unfold partOf; rw [h]; rfl
--@ct impl.PartOf new implPartOf_ct _ $1 _ _ | %1 | obtain ⟨l#, rfl, o#⟩ := o# ;; have r# := Gt.owrd _ o# ;; obtain ⟨b1#, c1#, rfl, w0#, h1#⟩ := gGraph_rd.1 r#
theorem implPartOf_ct (l : List Value) (g : Graph) (w n : Int) : Ct Tryz.prog 142 [.agg ⟨l⟩, .int .i64 w, .int .i64 n] [] (fun H => gGraph.rd H l g) (fun v A => ∃ l, v = .agg ⟨l⟩ ∧ gGraph.ow l (partOf g w n) A) := by
  refine Ct.intro0 G_ok Tryz.func142 rfl rfl rfl fun E H hp => ?_
  obtain ⟨b1, c1, rfl, w0, h1⟩ := gGraph_rd.1 hp
  refine VCnew.intro fun x0 => ?_
  refine VCnew.intro fun x1 => ?_
  refine VCnew.intro fun x2 => ?_
  refine call_val (implGraphOk_ct _ (g)) (Rp.mono _ (mem_at 0 rfl) hp) ?_
  rintro _ rfl
  refine VCsplit.intro (fun q4 => ?_) (fun q4 => ?_)
  ·
    simp at q4
    exact ⟨[], ⟨_, rfl, by rw [partOf_no ‹_›]; exact gGraph_ow.2 ⟨none, 0, [], rfl, .refl _, ‹_›, sl_nil _ _ _⟩⟩, (.le fun a => by (try simp only [setR, List.cons_append, List.nil_append]); simp only [List.flatten_append, List.flatten_cons, List.flatten_nil, List.count_append, List.count_nil, List.append_nil, List.nil_append]; omega)⟩
  ·
    simp at q4
    apply loop_mod (α := (Nat) × (List Edge) × (Hp) × (Option Addr) × (Nat)) G_ok [21, 22, 23, 9, 24, 25, 26, 27, 28, 29, 30, 31, 32, 33, 34, 35, 36, 20] (fun z => [(20, .v (.int .i64 z.1))]) (fun z => [⟨x0, [.int .i64 g.size, .slice b1 g.edges.length c1], 88⟩, ⟨x1, [.int .i64 0, .slice none 0 0], 88⟩, ⟨x2, [.int .i64 g.size, .slice z.2.2.2.1 z.2.1.length z.2.2.2.2], 88⟩]) (fun z => [z.2.2.1, H]) (fun z => g.edges.length - z.1) (fun z => z.1 ≤ g.edges.length ∧ z.2.1 = (g.edges.take z.1).filter (fun e => ownerOf e.from' n == w) ∧ (gSl 209 gEdge).ow [.slice z.2.2.2.1 z.2.1.length z.2.2.2.2] z.2.1 z.2.2.1) ((0, [], [], none, 0))
    · repeat' (first | exact trivial | refine ⟨⟨_, rfl, by first | rfl | exact inc_eq _ (by omega) | (refine sl_eq ?_; simp; done), by first | exact trivial | simp [SV.ok]⟩, ?_⟩)
    · exact ⟨rfl, rfl, rfl, trivial⟩
    · try dsimp only
      exact ⟨by omega, rfl, sl_nil _ _ _⟩
    · exact .refl _
    rintro ⟨k, o, A, b, c⟩ hI
    obtain ⟨hk, ho, oA⟩ : k ≤ g.edges.length ∧ o = (g.edges.take k).filter (fun e => ownerOf e.from' n == w) ∧ (gSl 209 gEdge).ow [.slice b o.length c] o A := hI
    try dsimp only
    refine VCsplit.intro (fun q5 => ?_) (fun q5 => ?_)
    ·
      simp at q5
      have hol : o.length ≤ k := by rw [ho]; exact Nat.le_trans (List.length_filter_le _ _) (by rw [List.length_take]; omega)
      have hg := graphOk_rng ‹_›
      refine idx_rd h1 ?_ ?_ fun b6 o6 hb6 => ?_
      · omega
      · omega
      refine load_allN default (k) rfl h1 ?_ ?_ hb6 rfl (mem_at 1 rfl) fun l7 hl7 => ?_
      · omega
      · omega
      obtain ⟨rfl, w0x7, w2x7⟩ := gEdge_rd.1 hl7
      refine VCnew.intro fun x8 => ?_
      refine call_val (implOwnerOf_ct _ _) trivial ?_
      rintro _ rfl
      refine VCsplit.intro (fun q10 => ?_) (fun q10 => ?_)
      ·
        simp at q10
        refine VCnew.intro fun x11 => ?_
        refine gappend1 (g := gEdge) (T := (209 : TypeId)) G_ok A [] [H] ?_ oA (gEdge_own ‹_›) (List.mem_of_getElem? (i := 0) rfl) rfl rfl rfl rfl rfl rfl rfl rfl ?_ fun b12 c12 A12 o12 => ?_
        · exact .tl
        · omega
        apply loop_stepA (k + 1, _, _, _, _)
        · exact .refl _
        · repeat' (first | exact trivial | refine ⟨⟨_, rfl, by first | rfl | exact inc_eq _ (by omega) | (refine sl_eq ?_; simp; done), by first | exact trivial | simp [SV.ok]⟩, ?_⟩)
        · exact ⟨rfl, rfl, rfl, trivial⟩
        · try dsimp only
          exact ⟨by omega, by rw [ho, filter_yes default (by omega) (by simpa using ‹_›)], ‹_›⟩
        try dsimp only
        omega
      ·
        simp at q10
        apply loop_stepA (k + 1, _, _, _, _)
        · exact .refl _
        · repeat' (first | exact trivial | refine ⟨⟨_, rfl, by first | rfl | exact inc_eq _ (by omega) | (refine sl_eq ?_; simp; done), by first | exact trivial | simp [SV.ok]⟩, ?_⟩)
        · exact ⟨rfl, rfl, rfl, trivial⟩
        · try dsimp only
          exact ⟨by omega, by rw [ho, filter_no default (by omega) (by simpa using ‹_›)], ‹_›⟩
        try dsimp only
        omega
    ·
      simp at q5
      obtain rfl : k = g.edges.length := by omega
      rw [List.take_length] at ho
      subst ho
      exact ⟨_, ⟨_, rfl, by rw [partOf_yes ‹_›]; exact gGraph_ow.2 ⟨_, _, _, rfl, .refl _, ‹_›, ‹_›⟩⟩, (.le fun a => by (try simp only [setR, List.cons_append, List.nil_append]); simp only [List.flatten_append, List.flatten_cons, List.flatten_nil, List.count_append, List.count_nil, List.append_nil, List.nil_append]; omega)⟩
--@ct spec.PartOf new specPartOf_ct _ $1 _ _ | %1 | obtain ⟨l#, rfl, o#⟩ := o# ;; have r# := Gt.owrd _ o# ;; obtain ⟨b1#, c1#, rfl, w0#, h1#⟩ := gGraph_rd.1 r#
theorem specPartOf_ct (l : List Value) (g : Graph) (w n : Int) : Ct Tryz.prog 244 [.agg ⟨l⟩, .int .i64 w, .int .i64 n] [] (fun H => gGraph.rd H l g) (fun v A => ∃ l, v = .agg ⟨l⟩ ∧ gGraph.ow l (partOf g w n) A) := by
  refine Ct.intro0 G_ok Tryz.func244 rfl rfl rfl fun E H hp => ?_
  obtain ⟨b1, c1, rfl, w0, h1⟩ := gGraph_rd.1 hp
  refine VCnew.intro fun x0 => ?_
  refine VCnew.intro fun x1 => ?_
  refine VCnew.intro fun x2 => ?_
  refine call_val (specGraphOk_ct _ (g)) (Rp.mono _ (mem_at 0 rfl) hp) ?_
  rintro _ rfl
  refine VCsplit.intro (fun q4 => ?_) (fun q4 => ?_)
  ·
    simp at q4
    exact ⟨[], ⟨_, rfl, by rw [partOf_no ‹_›]; exact gGraph_ow.2 ⟨none, 0, [], rfl, .refl _, ‹_›, sl_nil _ _ _⟩⟩, (.le fun a => by (try simp only [setR, List.cons_append, List.nil_append]); simp only [List.flatten_append, List.flatten_cons, List.flatten_nil, List.count_append, List.count_nil, List.append_nil, List.nil_append]; omega)⟩
  ·
    simp at q4
    apply loop_mod (α := (Nat) × (List Edge) × (Hp) × (Option Addr) × (Nat)) G_ok [16, 17, 18, 19, 20, 23, 24, 25, 26, 27, 28, 29, 30, 31, 32, 33, 34, 35, 36, 37, 38, 39, 40, 41, 42, 21, 22, 8] (fun z => [(8, .v (.int .i64 z.1))]) (fun z => [⟨x0, [.int .i64 g.size, .slice b1 g.edges.length c1], 88⟩, ⟨x1, [.int .i64 0, .slice none 0 0], 88⟩, ⟨x2, [.int .i64 g.size, .slice z.2.2.2.1 z.2.1.length z.2.2.2.2], 88⟩]) (fun z => [z.2.2.1, H]) (fun z => g.edges.length - z.1) (fun z => z.1 ≤ g.edges.length ∧ z.2.1 = (g.edges.take z.1).filter (fun e => ownerOf e.from' n == w) ∧ (gSl 209 gEdge).ow [.slice z.2.2.2.1 z.2.1.length z.2.2.2.2] z.2.1 z.2.2.1) ((0, [], [], none, 0))
    · repeat' (first | exact trivial | refine ⟨⟨_, rfl, by first | rfl | exact inc_eq _ (by omega) | (refine sl_eq ?_; simp; done), by first | exact trivial | simp [SV.ok]⟩, ?_⟩)
    · exact ⟨rfl, rfl, rfl, trivial⟩
    · try dsimp only
      exact ⟨by omega, rfl, sl_nil _ _ _⟩
    · exact .refl _
    rintro ⟨k, o, A, b, c⟩ hI
    obtain ⟨hk, ho, oA⟩ : k ≤ g.edges.length ∧ o = (g.edges.take k).filter (fun e => ownerOf e.from' n == w) ∧ (gSl 209 gEdge).ow [.slice b o.length c] o A := hI
    try dsimp only
    refine VCsplit.intro (fun q5 => ?_) (fun q5 => ?_)
    ·
      simp at q5
      have hol : o.length ≤ k := by rw [ho]; exact Nat.le_trans (List.length_filter_le _ _) (by rw [List.length_take]; omega)
      have hg := graphOk_rng ‹_›
      refine idx_rd h1 ?_ ?_ fun b6 o6 hb6 => ?_
      · omega
      · omega
      refine load_partN default (k) 0 rfl h1 ?_ ?_ hb6 rfl (by decide) (mem_at 1 rfl) fun l7 hl7 => ?_
      · omega
      · omega
      obtain ⟨rfl, w0x7, w2x7⟩ := gEdge_rd.1 hl7
      refine call_val (specOwnerOf_ct _ _) trivial ?_
      rintro _ rfl
      refine VCsplit.intro (fun q9 => ?_) (fun q9 => ?_)
      ·
        simp at q9
        refine draw G_ok mixed (some 8) (.q 0 (.q 1 (.q 2 (.q 3 (.q 4 (.q 5 (.q 6 (.f 7 (.tl 8 (.f 9 (.f 10 (.nil)))))))))))) (by decide +kernel) ?_
        refine idx_rd h1 ?_ ?_ fun b10 o10 hb10 => ?_
        · omega
        · omega
        refine load_allN default (k) rfl h1 ?_ ?_ hb10 rfl (mem_at 1 rfl) fun l11 hl11 => ?_
        · omega
        · omega
        obtain ⟨rfl, w0x11, w2x11⟩ := gEdge_rd.1 hl11
        refine VCnew.intro fun x12 => ?_
        refine VC.intro ?_ ?_
        · exact keep_new
        refine gappend1 (g := gEdge) (T := (209 : TypeId)) G_ok A [] [H] ?_ oA (gEdge_own ‹_›) (List.mem_of_getElem? (i := 0) rfl) rfl rfl rfl rfl rfl rfl rfl rfl ?_ fun b13 c13 A13 o13 => ?_
        · exact .tl
        · omega
        apply loop_stepA (k + 1, _, _, _, _)
        · exact .refl _
        · repeat' (first | exact trivial | refine ⟨⟨_, rfl, by first | rfl | exact inc_eq _ (by omega) | (refine sl_eq ?_; simp; done), by first | exact trivial | simp [SV.ok]⟩, ?_⟩)
        · exact ⟨rfl, rfl, rfl, trivial⟩
        · try dsimp only
          exact ⟨by omega, by rw [ho, filter_yes default (by omega) (by simpa using ‹_›)], ‹_›⟩
        try dsimp only
        omega
      ·
        simp at q9
        apply loop_stepA (k + 1, _, _, _, _)
        · exact .refl _
        · repeat' (first | exact trivial | refine ⟨⟨_, rfl, by first | rfl | exact inc_eq _ (by omega) | (refine sl_eq ?_; simp; done), by first | exact trivial | simp [SV.ok]⟩, ?_⟩)
        · exact ⟨rfl, rfl, rfl, trivial⟩
        · try dsimp only
          exact ⟨by omega, by rw [ho, filter_no default (by omega) (by simpa using ‹_›)], ‹_›⟩
        try dsimp only
        omega
    ·
      simp at q5
      obtain rfl : k = g.edges.length := by omega
      rw [List.take_length] at ho
      subst ho
      exact ⟨_, ⟨_, rfl, by rw [partOf_yes ‹_›]; exact gGraph_ow.2 ⟨_, _, _, rfl, .refl _, ‹_›, ‹_›⟩⟩, (.le fun a => by (try simp only [setR, List.cons_append, List.nil_append]); simp only [List.flatten_append, List.flatten_cons, List.flatten_nil, List.count_append, List.count_nil, List.append_nil, List.nil_append]; omega)⟩
def edgeText (e : Edge) : List UInt8 := varT e.from' ++ ([e.label] ++ varT e.to)
def graphBytes (g : Graph) : List UInt8 := varT g.size ++ (varT g.edges.length ++ g.edges.flatMap edgeText)
def graphText (g : Graph) : ByteArray := tx (graphBytes g)
theorem by_var (n : Int) : (varText n).data.toList = varT n := by_tx _
theorem gt_step {g : Graph} {k : Nat} (h : k < g.edges.length) : (g.edges.take (k + 1)).flatMap edgeText = (g.edges.take k).flatMap edgeText ++ edgeText (g.edges[k]?.getD default) := by
  rw [← List.take_append_getElem h, List.flatMap_append, List.getElem?_eq_getElem h]; simp
theorem lbl_tx (x : UInt8) : (⟨(([(x.toNat : Int)] : List Int).map fun v => UInt8.ofNat v.toNat).toArray⟩ : ByteArray) = tx [x] := by
  unfold tx; simp
theorem gt_s {g : Graph} {k : Nat} {s : ByteArray} {P Q : List UInt8} (h : k < g.edges.length) (ho : s = tx (P ++ (Q ++ (g.edges.take k).flatMap edgeText))) :
    s ++ varText (g.edges[k]?.getD default).from' ++ ⟨(([((g.edges[k]?.getD default).label.toNat : Int)] : List Int).map fun v => UInt8.ofNat v.toNat).toArray⟩ ++ varText (g.edges[k]?.getD default).to = tx (P ++ (Q ++ (g.edges.take (k + 1)).flatMap edgeText)) := by
  rw [lbl_tx, gt_step h, ho]
  unfold edgeText varText
  simp only [tx_app, ByteArray.append_assoc]
--@ct impl.GraphText val implGraphText_ct _ $1 | %1
theorem implGraphText_ct (l : List Value) (g : Graph) : Ct Tryz.prog 307 [.agg ⟨l⟩] [] (fun H => gGraph.rd H l g) (fun v A => v = .tuple #[.string (if graphOk g then graphText g else .empty), .bool (graphOk g)] ∧ A = []) := by
  refine Ct.intro0 G_ok Tryz.func307 rfl rfl rfl fun E H hp => ?_
  obtain ⟨b1, c1, rfl, w0, h1⟩ := gGraph_rd.1 hp
  refine VCnew.intro fun x0 => ?_
  refine call_val (implGraphOk_ct _ (g)) (Rp.mono _ (mem_at 0 rfl) hp) ?_
  rintro _ rfl
  refine VCsplit.intro (fun q2 => ?_) (fun q2 => ?_)
  ·
    simp at q2
    exact ⟨[], ⟨by rw [show graphOk g = false by assumption]; rfl, rfl⟩, (.le fun a => by (try simp only [setR, List.cons_append, List.nil_append]); simp only [List.flatten_append, List.flatten_cons, List.flatten_nil, List.count_append, List.count_nil, List.append_nil, List.nil_append]; omega)⟩
  ·
    simp at q2
    have iq2 := graphOk_rng q2
    refine VCnew.intro fun x3 => ?_
    refine call_val (varText_ct _ ?_ ?_) trivial ?_
    · omega
    · omega
    rintro _ rfl
    refine callR_blk 1 ([]) [H] rfl ?_ (WriteString_ct _ _ _ _ _ _ _ _ (by first | exact .inl rfl | exact .inr rfl | assumption) (sl_nil _ _ _) (.inl ⟨rfl, rfl⟩) ?_) trivial ?_
    · exact .refl _
    · (have := varText_size g.size; have := varText_size g.edges.length; simp; omega)
    rintro _ A5 ⟨rfl, bb5, bc5, B5, rfl, o5, z5⟩
    refine ⟨_, _, [B5], rfl, perm1, ?_⟩
    refine call_val (varText_ct _ ?_ ?_) trivial ?_
    · omega
    · omega
    rintro _ rfl
    refine callR_blk 1 (B5) [H] rfl ?_ (WriteString_ct _ _ _ _ _ _ _ _ (by first | exact .inl rfl | exact .inr rfl | assumption) o5 z5 ?_) trivial ?_
    · exact .refl _
    · (have := varText_size g.size; have := varText_size g.edges.length; simp; omega)
    rintro _ A7 ⟨rfl, bb7, bc7, B7, rfl, o7, z7⟩
    refine ⟨_, _, [B7], rfl, perm1, ?_⟩
    apply loop_mod (α := (Nat) × (List UInt8) × (Hp) × (Option Addr) × (Nat)) G_ok [23, 24, 25, 6, 26, 27, 28, 29, 30, 31, 32, 33, 34, 35, 36, 37, 22] (fun z => [(22, .v (.int .i64 z.1))]) (fun z => [⟨x0, [.int .i64 g.size, .slice b1 g.edges.length c1], 88⟩, ⟨x3, [.pointer (some ⟨x3, 0, none⟩), .slice z.2.2.2.1 z.2.1.length z.2.2.2.2], 446⟩]) (fun z => [z.2.2.1, H]) (fun z => g.edges.length - z.1) (fun z => z.1 ≤ g.edges.length ∧ z.2.1 = varT g.size ++ (varT g.edges.length ++ (g.edges.take z.1).flatMap edgeText) ∧ z.2.1.length ≤ 20 + 21 * z.1 ∧ (gSl 5 gY).ow [.slice z.2.2.2.1 z.2.1.length z.2.2.2.2] z.2.1 z.2.2.1 ∧ Bz z.2.2.2.1 z.2.2.2.2) ((0, _, _, _, _))
    · repeat' (first | exact trivial | refine ⟨⟨_, rfl, by first | rfl | exact inc_eq _ (by omega) | (refine sl_eq ?_; simp; done), by first | exact trivial | simp [SV.ok]⟩, ?_⟩)
    · exact ⟨rfl, rfl, trivial⟩
    · try dsimp only
      exact ⟨by omega, by simp [by_var], by have := varText_size g.size; have := varText_size g.edges.length; simp; omega, ‹_›, ‹_›⟩
    · exact .refl _
    rintro ⟨k, o, A, b, c⟩ hI
    obtain ⟨hk, ho, hol, oA, zA⟩ : k ≤ g.edges.length ∧ o = varT g.size ++ (varT g.edges.length ++ (g.edges.take k).flatMap edgeText) ∧ o.length ≤ 20 + 21 * k ∧ (gSl 5 gY).ow [.slice b o.length c] o A ∧ Bz b c := hI
    try dsimp only
    refine VCsplit.intro (fun q8 => ?_) (fun q8 => ?_)
    ·
      simp at q8
      have he := edgeOk_rng (graphOk_edge ‹_› k (by omega))
      refine idx_rd h1 ?_ ?_ fun b9 o9 hb9 => ?_
      · omega
      · omega
      refine load_allN default (k) rfl h1 ?_ ?_ hb9 rfl (mem_at 1 rfl) fun l10 hl10 => ?_
      · omega
      · omega
      obtain ⟨rfl, w0x10, w2x10⟩ := gEdge_rd.1 hl10
      refine VCnew.intro fun x11 => ?_
      refine call_val (varText_ct _ ?_ ?_) trivial ?_
      · omega
      · omega
      rintro _ rfl
      refine callR_blk 1 (A) [H] rfl ?_ (WriteString_ct _ _ _ _ _ _ _ _ (by first | exact .inl rfl | exact .inr rfl | assumption) oA zA ?_) trivial ?_
      · exact .refl _
      · (have := varText_size (g.edges[k]?.getD default).from'; have := varText_size (g.edges[k]?.getD default).to; simp; omega)
      rintro _ A13 ⟨rfl, bb13, bc13, B13, rfl, o13, z13⟩
      refine ⟨_, _, [B13], rfl, perm1, ?_⟩
      refine callR_blk 1 (B13) [H] rfl ?_ (WriteByte_ct _ _ _ _ _ _ _ _ (by first | exact .inl rfl | exact .inr rfl | assumption) o13 z13 ?_) trivial ?_
      · exact .refl _
      · (have := varText_size (g.edges[k]?.getD default).from'; have := varText_size (g.edges[k]?.getD default).to; simp; omega)
      rintro _ A14 ⟨rfl, bb14, bc14, B14, rfl, o14, z14⟩
      refine ⟨_, _, [B14], rfl, perm1, ?_⟩
      refine call_val (varText_ct _ ?_ ?_) trivial ?_
      · omega
      · omega
      rintro _ rfl
      refine callR_blk 1 (B14) [H] rfl ?_ (WriteString_ct _ _ _ _ _ _ _ _ (by first | exact .inl rfl | exact .inr rfl | assumption) o14 z14 ?_) trivial ?_
      · exact .refl _
      · (have := varText_size (g.edges[k]?.getD default).from'; have := varText_size (g.edges[k]?.getD default).to; simp; omega)
      rintro _ A16 ⟨rfl, bb16, bc16, B16, rfl, o16, z16⟩
      refine ⟨_, _, [B16], rfl, perm1, ?_⟩
      apply loop_stepA (k + 1, _, _, _, _)
      · exact .refl _
      · repeat' (first | exact trivial | refine ⟨⟨_, rfl, by first | rfl | exact inc_eq _ (by omega) | (refine sl_eq ?_; simp; done), by first | exact trivial | simp [SV.ok]⟩, ?_⟩)
      · exact ⟨rfl, rfl, trivial⟩
      · try dsimp only
        exact ⟨by omega, by rw [gt_step (by omega), ho]; simp [by_var, edgeText], by have := varText_size (g.edges[k]?.getD default).from'; have := varText_size (g.edges[k]?.getD default).to; simp; omega, ‹_›, ‹_›⟩
      try dsimp only
      omega
    ·
      simp at q8
      obtain rfl : k = g.edges.length := by omega
      rw [List.take_length] at ho
      refine callR_blk 1 (A) [H] rfl ?_ (String_ct _ _ _ _ _ _ _ oA zA) trivial ?_
      · exact .refl _
      rintro _ A17 ⟨rfl, rfl⟩
      refine ⟨_, _, [], rfl, perm0, ?_⟩
      exact ⟨[], ⟨by rw [show graphOk g = true by assumption, ho]; rfl, rfl⟩, (.le fun a => by (try simp only [setR, List.cons_append, List.nil_append]); simp only [List.flatten_append, List.flatten_cons, List.flatten_nil, List.count_append, List.count_nil, List.append_nil, List.nil_append]; omega)⟩
--@ct spec.GraphText val specGraphText_ct _ $1 | %1
theorem specGraphText_ct (l : List Value) (g : Graph) : Ct Tryz.prog 329 [.agg ⟨l⟩] [] (fun H => gGraph.rd H l g) (fun v A => v = .tuple #[.string (if graphOk g then graphText g else .empty), .bool (graphOk g)] ∧ A = []) := by
  refine Ct.intro0 G_ok Tryz.func329 rfl rfl rfl fun E H hp => ?_
  obtain ⟨b1, c1, rfl, w0, h1⟩ := gGraph_rd.1 hp
  refine VCnew.intro fun x0 => ?_
  refine call_val (specGraphOk_ct _ (g)) (Rp.mono _ (mem_at 0 rfl) hp) ?_
  rintro _ rfl
  refine VCsplit.intro (fun q2 => ?_) (fun q2 => ?_)
  ·
    simp at q2
    exact ⟨[], ⟨by rw [show graphOk g = false by assumption]; rfl, rfl⟩, (.le fun a => by (try simp only [setR, List.cons_append, List.nil_append]); simp only [List.flatten_append, List.flatten_cons, List.flatten_nil, List.count_append, List.count_nil, List.append_nil, List.nil_append]; omega)⟩
  ·
    simp at q2
    have iq2 := graphOk_rng q2
    refine draw G_ok mixed none (.q 0 (.q 1 (.q 3 (.q 4 (.q 5 (.f 2 (.f 6 (.q 7 (.q 8 (.nil)))))))))) (by decide +kernel) ?_
    refine call_val (l01Var_ct _ ?_ ?_) trivial ?_
    · omega
    · omega
    rintro _ rfl
    refine VC.intro ?_ ?_
    · exact fun _ h => h
    refine call_val (l01Var_ct _ ?_ ?_) trivial ?_
    · omega
    · omega
    rintro _ rfl
    refine VC.intro ?_ ?_
    · exact fun _ h => h
    refine VC.intro ?_ ?_
    · (have := varText_size g.size; have := varText_size g.edges.length; have : IntKind.i64.max = 9223372036854775807 := rfl; omega)
    apply loop_mod (α := (Nat) × (ByteArray)) G_ok [17, 18, 19, 20, 21, 24, 25, 26, 27, 28, 29, 30, 31, 32, 33, 34, 35, 36, 37, 38, 39, 40, 41, 42, 43, 44, 45, 46, 47, 48, 49, 4, 22, 23, 5] (fun z => [(5, .v (.int .i64 z.1)), (4, .v (.string z.2))]) (fun z => [{ id := x0, cs := [Value.int IntKind.i64 g.size, Value.slice b1 g.edges.length c1], ty := (88 : Nat) }]) (fun z => [H]) (fun z => g.edges.length - z.1) (fun z => z.1 ≤ g.edges.length ∧ z.2 = tx (varT g.size ++ (varT g.edges.length ++ (g.edges.take z.1).flatMap edgeText)) ∧ z.2.size ≤ 20 + 21 * z.1) ((0, _))
    · repeat' (first | exact trivial | refine ⟨⟨_, rfl, by first | rfl | exact inc_eq _ (by omega) | (refine sl_eq ?_; simp; done), by first | exact trivial | simp [SV.ok]⟩, ?_⟩)
    · exact ⟨rfl, trivial⟩
    · try dsimp only
      exact ⟨by omega, by simp [tx_app, varText], by have := varText_size g.size; have := varText_size g.edges.length; rw [ByteArray.size_append]; omega⟩
    · exact .refl _
    rintro ⟨k, s⟩ hI
    obtain ⟨hk, ho, hol⟩ : k ≤ g.edges.length ∧ s = tx (varT g.size ++ (varT g.edges.length ++ (g.edges.take k).flatMap edgeText)) ∧ s.size ≤ 20 + 21 * k := hI
    try dsimp only
    refine VCsplit.intro (fun q5 => ?_) (fun q5 => ?_)
    ·
      simp at q5
      have he := edgeOk_rng (graphOk_edge ‹_› k (by omega))
      have h5 := varText_size (g.edges[k]?.getD default).from'
      have h6 := varText_size (g.edges[k]?.getD default).to
      have h7 : IntKind.i64.max = 9223372036854775807 := rfl
      refine draw G_ok mixed none (.q 0 (.q 1 (.q 2 (.q 3 (.q 4 (.q 5 (.q 6 (.q 9 (.q 10 (.q 11 (.q 12 (.q 13 (.q 14 (.q 18 (.q 19 (.q 20 (.q 21 (.q 22 (.q 23 (.hd (.alt 7 (.q 8 (.hd (.alt 15 (.hd (.alt 16 (.q 17 (.f 24 (.q 25 (.q 26 (.nil))))) (.alt 24 (.f 16 (.q 17 (.q 25 (.q 26 (.nil))))) (.nil)))) (.alt 24 (.f 15 (.f 16 (.q 17 (.q 25 (.q 26 (.nil)))))) (.nil))))) (.alt 15 (.hd (.alt 7 (.q 8 (.hd (.alt 16 (.q 17 (.f 24 (.q 25 (.q 26 (.nil))))) (.alt 24 (.f 16 (.q 17 (.q 25 (.q 26 (.nil))))) (.nil))))) (.alt 16 (.f 7 (.q 8 (.q 17 (.f 24 (.q 25 (.q 26 (.nil))))))) (.nil)))) (.nil))))))))))))))))))))))) (by decide +kernel) ?_
      refine idx_rd h1 ?_ ?_ fun b6 o6 hb6 => ?_
      · omega
      · omega
      refine load_partN default (k) 0 rfl h1 ?_ ?_ hb6 rfl (by decide) (mem_at 0 rfl) fun l7 hl7 => ?_
      · omega
      · omega
      obtain ⟨rfl, w0x7, w2x7⟩ := gEdge_rd.1 hl7
      refine idx_rd h1 ?_ ?_ fun b8 o8 hb8 => ?_
      · omega
      · omega
      refine load_partN default (k) 1 rfl h1 ?_ ?_ hb8 rfl (by decide) (mem_at 0 rfl) fun l9 hl9 => ?_
      · omega
      · omega
      obtain ⟨rfl, w0x9, w2x9⟩ := gEdge_rd.1 hl9
      refine idx_rd h1 ?_ ?_ fun b10 o10 hb10 => ?_
      · omega
      · omega
      refine load_partN default (k) 2 rfl h1 ?_ ?_ hb10 rfl (by decide) (mem_at 0 rfl) fun l11 hl11 => ?_
      · omega
      · omega
      obtain ⟨rfl, w0x11, w2x11⟩ := gEdge_rd.1 hl11
      refine VC.intro ?_ ?_
      ·
        refine call_val (l01Var_ct _ ?_ ?_) trivial ?_
        · omega
        · omega
        rintro _ rfl
        refine VC.intro ?_ ?_
        · exact fun _ h => h
        refine VC.intro ?_ ?_
        · omega
        refine VC.intro ?_ ?_
        ·
          refine VCnew.intro fun x13 => ?_
          refine VC.intro ?_ ?_
          · exact keep_new
          refine VC.intro ?_ ?_
          ·
            refine conv_bs G_ok (([(↑(g.edges[k]?.getD default).label.toNat : Int)] : List Int).map fun v => UInt8.ofNat v.toNat) rfl (lit_bs [(↑(g.edges[k]?.getD default).label.toNat : Int)] (mem_at 0 rfl _ (List.mem_singleton.2 rfl)) rfl ?_ (by simp)) rfl rfl rfl ?_
            · exact inU8_1 _
            refine VC.intro ?_ ?_
            · exact keep_new
            refine VC.intro ?_ ?_
            · (simp only [ByteArray.size_append, bsz, List.length_map, List.length_cons, List.length_nil]; omega)
            refine call_val (l01Var_ct _ ?_ ?_) trivial ?_
            · omega
            · omega
            rintro _ rfl
            refine VC.intro ?_ ?_
            · exact keep_new
            refine VC.intro ?_ ?_
            · (simp only [ByteArray.size_append, bsz, List.length_map, List.length_cons, List.length_nil]; omega)
            apply loop_stepA (k + 1, _)
            · exact .sub (by repeat (first | exact .slnil | apply List.Sublist.cons_cons | apply List.Sublist.cons))
            · repeat' (first | exact trivial | refine ⟨⟨_, rfl, by first | rfl | exact inc_eq _ (by omega) | (refine sl_eq ?_; simp; done), by first | exact trivial | simp [SV.ok]⟩, ?_⟩)
            · exact ⟨rfl, trivial⟩
            · try dsimp only
              exact ⟨by omega, gt_s (by omega) ho, by simp only [ByteArray.size_append, bsz, List.length_map, List.length_cons, List.length_nil]; omega⟩
            try dsimp only
            omega
          ·
            refine VC.intro ?_ ?_
            ·
              refine call_val (l01Var_ct _ ?_ ?_) trivial ?_
              · omega
              · omega
              rintro _ rfl
              refine VC.intro ?_ ?_
              · exact keep_new
              refine conv_bs G_ok (([(↑(g.edges[k]?.getD default).label.toNat : Int)] : List Int).map fun v => UInt8.ofNat v.toNat) rfl (lit_bs [(↑(g.edges[k]?.getD default).label.toNat : Int)] (mem_at 0 rfl _ (List.mem_singleton.2 rfl)) rfl ?_ (by simp)) rfl rfl rfl ?_
              · exact inU8_1 _
              refine VC.intro ?_ ?_
              · exact keep_new
              refine VC.intro ?_ ?_
              · (simp only [ByteArray.size_append, bsz, List.length_map, List.length_cons, List.length_nil]; omega)
              refine VC.intro ?_ ?_
              · (simp only [ByteArray.size_append, bsz, List.length_map, List.length_cons, List.length_nil]; omega)
              apply loop_stepA (k + 1, _)
              · exact .sub (by repeat (first | exact .slnil | apply List.Sublist.cons_cons | apply List.Sublist.cons))
              · repeat' (first | exact trivial | refine ⟨⟨_, rfl, by first | rfl | exact inc_eq _ (by omega) | (refine sl_eq ?_; simp; done), by first | exact trivial | simp [SV.ok]⟩, ?_⟩)
              · exact ⟨rfl, trivial⟩
              · try dsimp only
                exact ⟨by omega, gt_s (by omega) ho, by simp only [ByteArray.size_append, bsz, List.length_map, List.length_cons, List.length_nil]; omega⟩
              try dsimp only
              omega
            ·
              exact trivial
        ·
          refine VC.intro ?_ ?_
          ·
            refine call_val (l01Var_ct _ ?_ ?_) trivial ?_
            · omega
            · omega
            rintro _ rfl
            refine VC.intro ?_ ?_
            · exact fun _ h => h
            refine VCnew.intro fun x17 => ?_
            refine VC.intro ?_ ?_
            · exact keep_new
            refine conv_bs G_ok (([(↑(g.edges[k]?.getD default).label.toNat : Int)] : List Int).map fun v => UInt8.ofNat v.toNat) rfl (lit_bs [(↑(g.edges[k]?.getD default).label.toNat : Int)] (mem_at 0 rfl _ (List.mem_singleton.2 rfl)) rfl ?_ (by simp)) rfl rfl rfl ?_
            · exact inU8_1 _
            refine VC.intro ?_ ?_
            · exact keep_new
            refine VC.intro ?_ ?_
            · (simp only [ByteArray.size_append, bsz, List.length_map, List.length_cons, List.length_nil]; omega)
            refine VC.intro ?_ ?_
            · (simp only [ByteArray.size_append, bsz, List.length_map, List.length_cons, List.length_nil]; omega)
            apply loop_stepA (k + 1, _)
            · exact .sub (by repeat (first | exact .slnil | apply List.Sublist.cons_cons | apply List.Sublist.cons))
            · repeat' (first | exact trivial | refine ⟨⟨_, rfl, by first | rfl | exact inc_eq _ (by omega) | (refine sl_eq ?_; simp; done), by first | exact trivial | simp [SV.ok]⟩, ?_⟩)
            · exact ⟨rfl, trivial⟩
            · try dsimp only
              exact ⟨by omega, gt_s (by omega) ho, by simp only [ByteArray.size_append, bsz, List.length_map, List.length_cons, List.length_nil]; omega⟩
            try dsimp only
            omega
          ·
            exact trivial
      ·
        refine VC.intro ?_ ?_
        ·
          refine VCnew.intro fun x18 => ?_
          refine VC.intro ?_ ?_
          · exact keep_new
          refine VC.intro ?_ ?_
          ·
            refine call_val (l01Var_ct _ ?_ ?_) trivial ?_
            · omega
            · omega
            rintro _ rfl
            refine VC.intro ?_ ?_
            · exact keep_new
            refine VC.intro ?_ ?_
            · omega
            refine VC.intro ?_ ?_
            ·
              refine conv_bs G_ok (([(↑(g.edges[k]?.getD default).label.toNat : Int)] : List Int).map fun v => UInt8.ofNat v.toNat) rfl (lit_bs [(↑(g.edges[k]?.getD default).label.toNat : Int)] (mem_at 0 rfl _ (List.mem_singleton.2 rfl)) rfl ?_ (by simp)) rfl rfl rfl ?_
              · exact inU8_1 _
              refine VC.intro ?_ ?_
              · exact keep_new
              refine VC.intro ?_ ?_
              · (simp only [ByteArray.size_append, bsz, List.length_map, List.length_cons, List.length_nil]; omega)
              refine call_val (l01Var_ct _ ?_ ?_) trivial ?_
              · omega
              · omega
              rintro _ rfl
              refine VC.intro ?_ ?_
              · exact keep_new
              refine VC.intro ?_ ?_
              · (simp only [ByteArray.size_append, bsz, List.length_map, List.length_cons, List.length_nil]; omega)
              apply loop_stepA (k + 1, _)
              · exact .sub (by repeat (first | exact .slnil | apply List.Sublist.cons_cons | apply List.Sublist.cons))
              · repeat' (first | exact trivial | refine ⟨⟨_, rfl, by first | rfl | exact inc_eq _ (by omega) | (refine sl_eq ?_; simp; done), by first | exact trivial | simp [SV.ok]⟩, ?_⟩)
              · exact ⟨rfl, trivial⟩
              · try dsimp only
                exact ⟨by omega, gt_s (by omega) ho, by simp only [ByteArray.size_append, bsz, List.length_map, List.length_cons, List.length_nil]; omega⟩
              try dsimp only
              omega
            ·
              refine VC.intro ?_ ?_
              ·
                refine call_val (l01Var_ct _ ?_ ?_) trivial ?_
                · omega
                · omega
                rintro _ rfl
                refine VC.intro ?_ ?_
                · exact keep_new
                refine conv_bs G_ok (([(↑(g.edges[k]?.getD default).label.toNat : Int)] : List Int).map fun v => UInt8.ofNat v.toNat) rfl (lit_bs [(↑(g.edges[k]?.getD default).label.toNat : Int)] (mem_at 0 rfl _ (List.mem_singleton.2 rfl)) rfl ?_ (by simp)) rfl rfl rfl ?_
                · exact inU8_1 _
                refine VC.intro ?_ ?_
                · exact keep_new
                refine VC.intro ?_ ?_
                · (simp only [ByteArray.size_append, bsz, List.length_map, List.length_cons, List.length_nil]; omega)
                refine VC.intro ?_ ?_
                · (simp only [ByteArray.size_append, bsz, List.length_map, List.length_cons, List.length_nil]; omega)
                apply loop_stepA (k + 1, _)
                · exact .sub (by repeat (first | exact .slnil | apply List.Sublist.cons_cons | apply List.Sublist.cons))
                · repeat' (first | exact trivial | refine ⟨⟨_, rfl, by first | rfl | exact inc_eq _ (by omega) | (refine sl_eq ?_; simp; done), by first | exact trivial | simp [SV.ok]⟩, ?_⟩)
                · exact ⟨rfl, trivial⟩
                · try dsimp only
                  exact ⟨by omega, gt_s (by omega) ho, by simp only [ByteArray.size_append, bsz, List.length_map, List.length_cons, List.length_nil]; omega⟩
                try dsimp only
                omega
              ·
                exact trivial
          ·
            refine VC.intro ?_ ?_
            ·
              refine conv_bs G_ok (([(↑(g.edges[k]?.getD default).label.toNat : Int)] : List Int).map fun v => UInt8.ofNat v.toNat) rfl (lit_bs [(↑(g.edges[k]?.getD default).label.toNat : Int)] (mem_at 0 rfl _ (List.mem_singleton.2 rfl)) rfl ?_ (by simp)) rfl rfl rfl ?_
              · exact inU8_1 _
              refine VC.intro ?_ ?_
              · exact keep_new
              refine call_val (l01Var_ct _ ?_ ?_) trivial ?_
              · omega
              · omega
              rintro _ rfl
              refine VC.intro ?_ ?_
              · exact keep_new
              refine VC.intro ?_ ?_
              · omega
              refine VC.intro ?_ ?_
              · (simp only [ByteArray.size_append, bsz, List.length_map, List.length_cons, List.length_nil]; omega)
              refine call_val (l01Var_ct _ ?_ ?_) trivial ?_
              · omega
              · omega
              rintro _ rfl
              refine VC.intro ?_ ?_
              · exact keep_new
              refine VC.intro ?_ ?_
              · (simp only [ByteArray.size_append, bsz, List.length_map, List.length_cons, List.length_nil]; omega)
              apply loop_stepA (k + 1, _)
              · exact .sub (by repeat (first | exact .slnil | apply List.Sublist.cons_cons | apply List.Sublist.cons))
              · repeat' (first | exact trivial | refine ⟨⟨_, rfl, by first | rfl | exact inc_eq _ (by omega) | (refine sl_eq ?_; simp; done), by first | exact trivial | simp [SV.ok]⟩, ?_⟩)
              · exact ⟨rfl, trivial⟩
              · try dsimp only
                exact ⟨by omega, gt_s (by omega) ho, by simp only [ByteArray.size_append, bsz, List.length_map, List.length_cons, List.length_nil]; omega⟩
              try dsimp only
              omega
            ·
              exact trivial
        ·
          exact trivial
    ·
      simp at q5
      obtain rfl : k = g.edges.length := by omega
      rw [List.take_length] at ho
      exact ⟨[], ⟨by rw [show graphOk g = true by assumption, ho]; rfl, rfl⟩, (.le fun a => by (try simp only [setR, List.cons_append, List.nil_append]); simp only [List.flatten_append, List.flatten_cons, List.flatten_nil, List.count_append, List.count_nil, List.append_nil, List.nil_append]; omega)⟩
end Go.Proofs.YtjgehblllhkdbaaGreat

--@dev import Derived.Test.YtjgehblllhkdbaaGreatSxWalk
namespace Go.Proofs.YtjgehblllhkdbaaGreat
open Go.SX Go.Proofs
set_option maxHeartbeats 4000000
attribute [local irreducible] IntKind.wrap
/-! edges -/
def scEdge (t : ByteArray) (s : Nat × Bool) : Edge × (Nat × Bool) :=
  (⟨(scNum t s).1, (scByte t (scNum t s).2).1, (scNum t (scByte t (scNum t s).2).2).1⟩, (scNum t (scByte t (scNum t s).2).2).2)
def scEdges (t : ByteArray) (s : Nat × Bool) : Nat → List Edge × (Nat × Bool)
  | 0 => ([], s)
  | k + 1 => if (scEdges t s k).2.2 then scEdges t s k else ((scEdges t s k).1 ++ [(scEdge t (scEdges t s k).2).1], (scEdge t (scEdges t s k).2).2)
theorem scEdges_more {t : ByteArray} {s : Nat × Bool} {k : Nat} (h : (scEdges t s k).2.2 = false) : scEdges t s (k + 1) = ((scEdges t s k).1 ++ [(scEdge t (scEdges t s k).2).1], (scEdge t (scEdges t s k).2).2) := by
  conv => lhs; unfold scEdges
  rw [h]; rfl
theorem scEdges_stop {t : ByteArray} {s : Nat × Bool} {k : Nat} (h : (scEdges t s k).2.2 = true) : ∀ m, scEdges t s (k + m) = scEdges t s k
  | 0 => rfl
  | m + 1 => by
    have ih := scEdges_stop h m
    rw [show k + (m + 1) = (k + m) + 1 by omega]
    show (if (scEdges t s (k + m)).2.2 = true then scEdges t s (k + m) else _) = scEdges t s k
    rw [ih, if_pos h]
theorem scEdges_le {t : ByteArray} {s : Nat × Bool} (h : s.1 ≤ t.size) : ∀ k, (scEdges t s k).2.1 ≤ t.size ∧ (scEdges t s k).1.length ≤ k
  | 0 => ⟨h, Nat.le_refl _⟩
  | k + 1 => by
    have ih := scEdges_le h k
    unfold scEdges
    split
    · omega
    refine ⟨?_, ?_⟩
    · exact (scNum_le (scByte_le (scNum_le ih.1).1)).1
    show ((scEdges t s k).1 ++ _).length ≤ k + 1
    rw [List.length_append]; simp; omega
theorem scEdges_len {t : ByteArray} {s : Nat × Bool} : ∀ k, (scEdges t s k).2.2 = false → (scEdges t s k).1.length = k
  | 0, _ => rfl
  | k + 1, h => by
    unfold scEdges at h ⊢
    split at h
    · rename_i h1; rw [h1] at h; cases h
    rename_i h1
    rw [if_neg h1]
    show ((scEdges t s k).1 ++ _).length = k + 1
    rw [List.length_append, scEdges_len k (by simpa using h1)]; rfl
theorem scEdge_txt {t : ByteArray} {s : Nat × Bool} (hs : s.1 ≤ t.size) (h : (scEdge t s).2.2 = false) : s.2 = false ∧ t.extract 0 (scEdge t s).2.1 = t.extract 0 s.1 ++ tx (edgeText (scEdge t s).1) := by
  have h1 := scNum_le hs
  have h2 := scByte_le h1.1
  obtain ⟨h3, h4⟩ := scNum_txt h2 h
  obtain ⟨h5, h6⟩ := scByte_txt h3
  obtain ⟨h7, h8⟩ := scNum_txt hs h5
  refine ⟨h7, ?_⟩
  show t.extract 0 (scNum t (scByte t (scNum t s).2).2).2.1 = _
  rw [h4, h6, h8]
  unfold scEdge edgeText varText
  simp only [tx_app, ByteArray.append_assoc]
theorem scEdges_txt {t : ByteArray} {s : Nat × Bool} (hs : s.1 ≤ t.size) : ∀ k, (scEdges t s k).2.2 = false → s.2 = false ∧ t.extract 0 (scEdges t s k).2.1 = t.extract 0 s.1 ++ tx ((scEdges t s k).1.flatMap edgeText)
  | 0, h => ⟨h, by
    show t.extract 0 s.1 = t.extract 0 s.1 ++ tx []
    rw [show tx [] = ByteArray.empty from rfl, ByteArray.append_empty]⟩
  | k + 1, h => by
    unfold scEdges at h ⊢
    split at h
    · rename_i h1; rw [h1] at h; cases h
    rename_i h1
    rw [if_neg h1]
    have h1' : (scEdges t s k).2.2 = false := by simpa using h1
    obtain ⟨h2, h3⟩ := scEdges_txt hs k h1'
    obtain ⟨h4, h5⟩ := scEdge_txt (scEdges_le hs k).1 h
    refine ⟨h2, ?_⟩
    show t.extract 0 (scEdge t (scEdges t s k).2).2.1 = t.extract 0 s.1 ++ tx (((scEdges t s k).1 ++ [(scEdge t (scEdges t s k).2).1]).flatMap edgeText)
    rw [h5, h3, List.flatMap_append, tx_app, ByteArray.append_assoc]
    simp
/-- what ReadGraph answers: the graph's parts as far as read, and whether it is one -/
def rgS (t : ByteArray) : Nat × (Nat × Bool) := scNum t (0, false)
def rgC (t : ByteArray) : Nat × (Nat × Bool) := scNum t (rgS t).2
def rgE (t : ByteArray) (n : Nat) : List Edge × (Nat × Bool) := scEdges t (rgC t).2 n
def rgG (t : ByteArray) (n : Nat) : Graph := ⟨(rgS t).1, (rgE t n).1⟩
def rgOk (t : ByteArray) (n : Nat) : Bool := !(rgE t n).2.2 && (decide ((rgE t n).2.1 = t.size) && (decide ((rgE t n).1.length = (rgC t).1) && graphOk (rgG t n)))
def rgN (t : ByteArray) : Nat := min (rgC t).1 41
def readGraph (t : ByteArray) : Option Graph := if rgOk t (rgN t) then some (rgG t (rgN t)) else none
theorem rg_txt {t : ByteArray} {n : Nat} (h : (rgE t n).2.2 = false) : t.extract 0 (rgE t n).2.1 = varText (rgS t).1 ++ (varText (rgC t).1 ++ tx ((rgE t n).1.flatMap edgeText)) := by
  have h0 : (0 : Nat) ≤ t.size := Nat.zero_le _
  have h1 := scNum_le (t := t) (s := (0, false)) h0
  have h2 := scNum_le (t := t) (s := (rgS t).2) h1.1
  obtain ⟨h3, h4⟩ := scEdges_txt (t := t) (s := (rgC t).2) h2.1 n h
  obtain ⟨h5, h6⟩ := scNum_txt (t := t) (s := (rgS t).2) h1.1 h3
  obtain ⟨h7, h8⟩ := scNum_txt (t := t) (s := (0, false)) h0 h5
  unfold rgE
  rw [h4]
  show t.extract 0 (scNum t (rgS t).2).2.1 ++ _ = _
  rw [h6]
  show t.extract 0 (scNum t (0, false)).2.1 ++ _ ++ _ = _
  rw [h8]
  have : t.extract 0 0 = ByteArray.empty := by rw [← by_inj, by_extract]; simp; rfl
  rw [this, ByteArray.empty_append, ByteArray.append_assoc]; rfl
theorem rg_back {t : ByteArray} {n : Nat} (h : (rgE t n).2.2 = false) (hl : (rgE t n).1.length = (rgC t).1) : graphText (rgG t n) = t ↔ (rgE t n).2.1 = t.size := by
  have h1 := rg_txt h
  have h2 : graphText (rgG t n) = t.extract 0 (rgE t n).2.1 := by
    rw [h1]
    unfold graphText graphBytes rgG
    simp only [tx_app, hl]; rfl
  have h3 : (rgE t n).2.1 ≤ t.size := (scEdges_le (scNum_le (scNum_le (Nat.zero_le _)).1).1 n).1
  rw [h2]
  constructor
  · intro e
    have := congrArg ByteArray.size e
    rw [ByteArray.size_extract] at this; omega
  intro e
  rw [e, ← by_inj, by_extract, List.drop_zero, Nat.sub_zero, ← by_size, List.take_length]
theorem rg_same {t : ByteArray} (hb : (rgE t (min (rgC t).1 50)).2.2 = false) (hg : graphOk (rgG t (min (rgC t).1 50)) = true) : min (rgC t).1 50 = (rgC t).1 ∧ rgN t = (rgC t).1 := by
  have h1 := scEdges_len (t := t) (s := (rgC t).2) _ hb
  have h2 := graphOk_rng hg
  have h3 : (scEdges t (rgC t).2 (min (rgC t).1 50)).1.length ≤ 40 := h2.2.2
  unfold rgN; omega
/-- the reference's answer is the program's -/
theorem rg_spec (t : ByteArray) : readGraph t = if (rgE t (min (rgC t).1 50)).2.2 = false ∧ graphOk (rgG t (min (rgC t).1 50)) = true ∧ graphText (rgG t (min (rgC t).1 50)) = t then some (rgG t (min (rgC t).1 50)) else none := by
  unfold readGraph
  split
  · rename_i h
    unfold rgOk at h
    simp only [Bool.and_eq_true, Bool.not_eq_true', decide_eq_true_iff] at h
    obtain ⟨h1, h2, h3, h4⟩ := h
    have h5 : (rgE t (rgN t)).1.length ≤ 40 := (graphOk_rng h4).2.2
    have h6 : rgN t = (rgC t).1 := by unfold rgN at *; omega
    have h7 : min (rgC t).1 50 = rgN t := by omega
    rw [h7, if_pos ⟨h1, h4, (rg_back h1 h3).2 h2⟩]
  rename_i h
  split
  · rename_i h1
    obtain ⟨h1, h2, h3⟩ := h1
    obtain ⟨h4, h5⟩ := rg_same h1 h2
    exfalso; apply h
    rw [h4] at h1 h2 h3
    have h6 : (rgE t (rgC t).1).1.length = (rgC t).1 := scEdges_len _ h1
    unfold rgOk
    rw [h5]
    simp only [Bool.and_eq_true, Bool.not_eq_true', decide_eq_true_iff]
    exact ⟨h1, (rg_back h1 h6).1 h3, h6, h2⟩
  rfl
end Go.Proofs.YtjgehblllhkdbaaGreat

namespace Go.Proofs.YtjgehblllhkdbaaGreat
open Go.SX Go.Proofs
theorem u64_wrap (x : Int) : IntKind.u64.wrap x = x % 18446744073709551616 := by
  unfold IntKind.wrap; simp [IntKind.bits, IntKind.signed]
theorem half_64 (B : Int) : B.fdiv (2 ^ min (Int.toNat 1) IntKind.u64.bits) = B / 2 := by
  have : (2 : Int) ^ min (Int.toNat 1) IntKind.u64.bits = 2 := by decide
  rw [this, Int.fdiv_eq_ediv_of_nonneg _ (by decide)]
theorem mid_eq (i j : Nat) (h : i + j ≤ 1000000000) : IntKind.i64.wrap ((IntKind.u64.wrap (IntKind.i64.wrap ((i : Int) + (j : Int)))).fdiv (2 ^ min (Int.toNat 1) IntKind.u64.bits)) = (((i + j) / 2 : Nat) : Int) := by
  have e1 : IntKind.i64.wrap ((i : Int) + (j : Int)) = (i : Int) + (j : Int) := wrap_of (by omega) (by omega)
  rw [e1, u64_wrap, half_64, wrap_of (by omega) (by omega)]
  omega
end Go.Proofs.YtjgehblllhkdbaaGreat

namespace Go.Proofs.YtjgehblllhkdbaaGreat
open Go.SX Go.Proofs
set_option linter.unusedSimpArgs false
set_option linter.unusedVariables false
set_option maxHeartbeats 4000000
attribute [local irreducible] IntKind.wrap
theorem OwL_drop {α : Type} {g : Gt α} {ls : List (RawC g.size)} {xs : List α} {As : List Hp} (h : OwL g ls xs As) : ∀ i : Nat, OwL g (ls.drop i) (xs.drop i) (As.drop i) := by
  induction h with
  | nil => intro i; simp; exact .nil
  | cons h hr ih =>
    intro i
    cases i with
    | zero => exact .cons h hr
    | succ i => exact ih i
theorem insEdge_ct (b : Option Addr) (m c i x : Nat) (xs : List Edge) (e : Edge) (l : List Value) (A : Hp) (hA : (gSl 209 gEdge).ow [.slice b m c] xs A) (hl : gEdge.ow l e []) (hi : i ≤ m) (hm : m ≤ 1000000) :
    CtR Tryz.prog 319 [.slice b m c, .int .i64 (i : Int), .slice (some ⟨x, 0, none⟩) 1 1] A (fun H => (x, Obj.cells ⟨l⟩ 209) ∈ H)
      (fun v A => ∃ b c, v = .slice b (xs.take i ++ ([e] ++ xs.drop i)).length c ∧ (gSl 209 gEdge).ow [.slice b (xs.take i ++ ([e] ++ xs.drop i)).length c] (xs.take i ++ ([e] ++ xs.drop i)) A) := by
  obtain ⟨v, ls, A0, As, ev, ho, hp, hL⟩ := hA
  cases ev
  have hlen := hL.len
  have hm0 : m = ls.length := by obtain ⟨_, _, _, _, e0, _⟩ := ho; cases e0; rfl
  have hr := insRaw_ct b m c i x ls ⟨l, raw_of (gEdge.owrd hl)⟩ A0 ho hi hm
  refine ⟨hr.1, fun E H w hs hpre => ?_⟩
  have hs' : Sat E (A0 ++ (As.flatten ++ H)) w := by
    refine hs.perm ?_
    have := hp.append_right H
    simpa [List.append_assoc] using this
  refine (hr.2 E (As.flatten ++ H) w hs' ⟨?_, List.mem_append_right _ hpre⟩).mono ?_
  · exact lit_rd (f := flRaw gEdge.size gEdge.pos) (List.mem_append_right _ hpre) rfl trivial
  rintro e' w' ⟨v, A1, h1, ⟨b', c', h2, h3⟩, h4⟩
  have hlx : (xs.take i ++ ([e] ++ xs.drop i)).length = m + 1 := by
    simp only [List.length_append, List.length_take, List.length_drop, List.length_cons, List.length_nil]; omega
  refine ⟨v, A1 ++ As.flatten, h1, ⟨b', c', by rw [hlx]; exact h2, ?_⟩, by rw [List.append_assoc]; exact h4⟩
  rw [hlx]
  refine ⟨_, _, A1, As.take i ++ ([[]] ++ As.drop i), rfl, h3, ?_, (hL.take i).append (OwL.append (.cons hl .nil) (OwL_drop hL i))⟩
  refine List.Perm.append_left _ ?_
  conv => lhs; rw [← List.take_append_drop i As]
  simp only [List.flatten_append, List.flatten_cons, List.flatten_nil, List.nil_append]
  exact .refl _
theorem cmpE_zero {a b : Edge} : cmpE a b = 0 ↔ a = b := by
  have h1 := cmpE_lt a b
  constructor
  · intro h
    rw [h] at h1
    unfold cmpE at h
    split at h
    · rename_i h2
      have : a.label.toNat = b.label.toNat := by omega
      exact absurd (UInt8.toNat_inj.1 this) h2.1
    rename_i h2
    simp only [cmpL] at h
    have h3 : a.from' = b.from' := by
      by_cases h4 : a.from' < b.from'
      · rw [if_pos h4] at h; omega
      rw [if_neg h4] at h
      by_cases h5 : b.from' < a.from'
      · rw [if_pos h5] at h; omega
      omega
    have h6 : a.label = b.label := by
      by_cases h7 : a.label = b.label
      · exact h7
      exact absurd ⟨h7, h3⟩ h2
    rw [if_neg (by omega), if_neg (by omega)] at h
    have h8 : a.to = b.to := by
      by_cases h4 : a.to < b.to
      · rw [if_pos h4] at h; omega
      rw [if_neg h4] at h
      by_cases h5 : b.to < a.to
      · rw [if_pos h5] at h; omega
      omega
    cases a; cases b; simp_all
  rintro rfl
  unfold cmpE
  rw [if_neg (by simp)]
  simp [cmpL]
theorem cmpE_neg {a b : Edge} : cmpE a b < 0 ↔ edgeLess a b = true := by rw [← cmpE_lt, decide_eq_true_iff]
theorem below_all {xs : List Edge} {e : Edge} {m : Nat} (hs : sortedE xs) (hm : m < xs.length) (h : edgeLess (xs[m]?.getD default) e = true) (q : Nat) (hq : q < m + 1) : edgeLess (xs[q]?.getD default) e = true := by
  rcases Nat.lt_or_ge q m with h1 | h1
  · exact edgeLess_trans (sorted_at hs h1 hm) h
  rw [show q = m by omega]; exact h
theorem above_all {xs : List Edge} {e : Edge} {m : Nat} (hs : sortedE xs) (h : edgeLess (xs[m]?.getD default) e = false) (q : Nat) (h1 : m ≤ q) (hq : q < xs.length) : edgeLess (xs[q]?.getD default) e = false := by
  rcases Nat.lt_or_ge m q with h2 | h2
  · cases h3 : edgeLess (xs[q]?.getD default) e with
    | false => rfl
    | true => have := edgeLess_trans (sorted_at hs h2 hq) h3; rw [h] at this; cases this
  rw [show q = m by omega]; exact h
theorem cmpE_nneg {a b : Edge} (h : 0 ≤ cmpE a b) : edgeLess a b = false := by
  cases e : edgeLess a b with
  | false => rfl
  | true => have := cmpE_neg.2 e; omega
--@ct slices.BinarySearchFunc[[]impl.Edge,impl.Edge,impl.Edge] raw refine call_val (bsEdge_ct _ _ _ _ $1 $2 ?_ ?_) ⟨%1, %2⟩ ?_ | | rintro _ ⟨k#, hk#, rfl⟩
theorem bsEdge_ct (b : Option Addr) (m c : Nat) (l : List Value) (xs : List Edge) (e : Edge) (hs : sortedE xs) (hm : xs.length ≤ 1000000) :
    Ct Tryz.prog 318 [.slice b m c, .agg ⟨l⟩, .func (.func 280) ⟨[]⟩ ⟨[]⟩] [] (fun H => (gSl 209 gEdge).rd H [.slice b m c] xs ∧ gEdge.rd H l e)
      (fun v A => (∃ k : Nat, atE xs e k ∧ v = .tuple #[.int .i64 (k : Int), .bool (decide (k < xs.length ∧ xs[k]?.getD default = e))]) ∧ A = []) := by
  refine Ct.intro0 G_ok Tryz.func318 rfl rfl rfl fun E H hp => ?_
  obtain ⟨hp, hp2⟩ := hp
  obtain ⟨rfl, hcl, hl⟩ := sl_len hp
  obtain ⟨rfl, w0f, w2f⟩ := gEdge_rd.1 hp2
  refine VCnew.intro fun x0 => ?_
  apply loop_mod (α := (Nat) × (Nat)) G_ok [15, 16, 17, 18, 19, 20, 21, 22, 23, 11, 24, 25, 26, 27, 28, 29, 30, 31, 32, 33, 9, 34, 10] (fun z => [(9, .v (.int .i64 z.1)), (10, .v (.int .i64 z.2))]) (fun z => [{ id := x0, cs := [Value.int IntKind.i64 e.from', Value.int IntKind.u8 (↑e.label.toNat : Int), Value.int IntKind.i64 e.to], ty := (209 : Nat) }]) (fun z => [H]) (fun z => z.2 - z.1) (fun z => z.1 ≤ z.2 ∧ z.2 ≤ xs.length ∧ (∀ q, q < z.1 → edgeLess (xs[q]?.getD default) e = true) ∧ (∀ q, z.2 ≤ q → q < xs.length → edgeLess (xs[q]?.getD default) e = false)) ((0, xs.length))
  · repeat' (first | exact trivial | refine ⟨⟨_, rfl, by first | rfl | exact inc_eq _ (by omega) | (refine sl_eq ?_; simp; done) | (rw [hh]; exact inc_eq _ (by omega)) | (rw [hh]), by first | exact trivial | simp [SV.ok]⟩, ?_⟩)
  · exact ⟨rfl, trivial⟩
  · try dsimp only
    exact ⟨by omega, by omega, fun q hq => absurd hq (by omega), fun q hq hq2 => absurd hq2 (by omega)⟩
  · exact .refl _
  rintro ⟨i, j⟩ hI
  obtain ⟨hij, hj, h1, h2⟩ : i ≤ j ∧ j ≤ xs.length ∧ (∀ q, q < i → edgeLess (xs[q]?.getD default) e = true) ∧ (∀ q, j ≤ q → q < xs.length → edgeLess (xs[q]?.getD default) e = false) := hI
  try dsimp only
  refine VCsplit.intro (fun q1 => ?_) (fun q1 => ?_)
  ·
    simp at q1
    have hh := mid_eq i j (by omega)
    refine VC.intro ?_ ?_
    · trivial
    refine draw G_ok mixed none (.q 0 (.q 1 (.q 2 (.q 3 (.q 4 (.q 5 (.f 6 (.q 7 (.nil))))))))) (by decide +kernel) ?_
    refine idx_rd hp ?_ ?_ fun b2 o2 hb2 => ?_
    · omega
    · omega
    refine load_all default hp ?_ ?_ hb2 rfl (mem_at 0 rfl) fun l3 hl3 => ?_
    · omega
    · omega
    obtain ⟨rfl, w0x3, w2x3⟩ := gEdge_rd.1 hl3
    refine call_val (compareEdges_ct _ _ (xs[(IntKind.i64.wrap ((IntKind.u64.wrap (IntKind.i64.wrap ((↑i : Int) + (↑j : Int)))).fdiv ((2 : Int) ^ min (Int.toNat (1 : Int)) IntKind.u64.bits))).toNat]?.getD default) (e)) ⟨(Rp.mono _ (mem_at 0 rfl) hl3), (Rp.mono _ (mem_at 0 rfl) hp2)⟩ ?_
    rintro _ rfl
    refine VC.intro ?_ ?_
    · exact fun _ h => h
    refine VCsplit.intro (fun q5 => ?_) (fun q5 => ?_)
    ·
      rw [hh, Int.toNat_natCast] at q5
      simp at q5
      apply loop_stepA ((i + j) / 2 + 1, j)
      · exact .refl _
      · repeat' (first | exact trivial | refine ⟨⟨_, rfl, by first | rfl | exact inc_eq _ (by omega) | (refine sl_eq ?_; simp; done) | (rw [hh]; exact inc_eq _ (by omega)) | (rw [hh]), by first | exact trivial | simp [SV.ok]⟩, ?_⟩)
      · exact ⟨rfl, trivial⟩
      · try dsimp only
        exact ⟨by omega, by omega, below_all hs (by omega) (cmpE_neg.1 ‹_›), h2⟩
      try dsimp only
      omega
    ·
      rw [hh, Int.toNat_natCast] at q5
      simp at q5
      apply loop_stepA (i, (i + j) / 2)
      · exact .refl _
      · repeat' (first | exact trivial | refine ⟨⟨_, rfl, by first | rfl | exact inc_eq _ (by omega) | (refine sl_eq ?_; simp; done) | (rw [hh]; exact inc_eq _ (by omega)) | (rw [hh]), by first | exact trivial | simp [SV.ok]⟩, ?_⟩)
      · exact ⟨rfl, trivial⟩
      · try dsimp only
        exact ⟨by omega, by omega, h1, above_all hs (cmpE_nneg (by omega))⟩
      try dsimp only
      omega
  ·
    simp at q1
    obtain rfl : i = j := by omega
    refine draw G_ok mixed none (.q 0 (.q 1 (.q 2 (.q 3 (.q 4 (.q 5 (.q 6 (.q 7 (.q 8 (.q 9 (.q 10 (.f 11 (.q 12 (.q 13 (.q 14 (.q 15 (.nil))))))))))))))))) (by decide +kernel) ?_
    refine VCsplit.intro (fun q6 => ?_) (fun q6 => ?_)
    ·
      simp at q6
      refine idx_rd hp ?_ ?_ fun b7 o7 hb7 => ?_
      · omega
      · omega
      refine load_allN default (i) rfl hp ?_ ?_ hb7 rfl (mem_at 0 rfl) fun l8 hl8 => ?_
      · omega
      · omega
      obtain ⟨rfl, w0x8, w2x8⟩ := gEdge_rd.1 hl8
      refine call_val (compareEdges_ct _ _ (xs[i]?.getD default) (e)) ⟨(Rp.mono _ (mem_at 0 rfl) hl8), (Rp.mono _ (mem_at 0 rfl) hp2)⟩ ?_
      rintro _ rfl
      refine VC.intro ?_ ?_
      · exact fun _ h => h
      exact ⟨[], ⟨⟨i, ⟨by omega, h1, h2⟩, by (congr 2; rw [← decide_eq_decide.2 (show (cmpE (xs[i]?.getD default) e = 0) ↔ (i < xs.length ∧ xs[i]?.getD default = e) from cmpE_zero.trans ⟨fun h => ⟨by omega, h⟩, fun h => h.2⟩)]; rfl)⟩, rfl⟩, (.le fun a => by (try simp only [setR, List.cons_append, List.nil_append]); simp [List.count_cons, Blk.ent, idOf]; try omega)⟩
    ·
      simp at q6
      exact ⟨[], ⟨⟨i, ⟨by omega, h1, h2⟩, by rw [decide_eq_false (by omega)]⟩, rfl⟩, (.le fun a => by (try simp only [setR, List.cons_append, List.nil_append]); simp [List.count_cons, Blk.ent, idOf]; try omega)⟩
end Go.Proofs.YtjgehblllhkdbaaGreat

namespace Go.Proofs.YtjgehblllhkdbaaGreat
open Go.SX Go.Proofs
set_option linter.unusedSimpArgs false
set_option linter.unusedVariables false
set_option maxHeartbeats 4000000
attribute [local irreducible] IntKind.wrap
theorem sl_none {α : Type} {T : TypeId} {g : Gt α} {H : Hp} {xs : List α} {b : Option Addr} {n c : Nat} (h : (gSl T g).rd H [.slice b n c] xs) (hb : b = none) : xs = [] := by
  obtain ⟨base, cap, e, -, h3⟩ := h
  cases xs with
  | nil => rfl
  | cons x xs =>
    obtain ⟨b', o, l', h4, -⟩ := h3 0 (by simp)
    injection e with e; injection e with e
    rw [hb, h4] at e; cases e
--@ct slices.Clone[[]string,string] new cloneS_ct _ _ _ $1 ?_ | %1 | obtain ⟨b#, c#, rfl, o#⟩ := o#
--@ct slices.Clone[[]int,int] new cloneI_ct _ _ _ $1 ?_ | %1 | obtain ⟨b#, c#, rfl, o#⟩ := o#
--@ct slices.Clone[[]impl.File,impl.File] new cloneFile_ct _ _ _ $1 ?_ | %1 | obtain ⟨b#, c#, rfl, o#⟩ := o#
theorem cloneFile_ct (b : Option Addr) (m c : Nat) (xs : List File) (hx : szL gFile xs ≤ 1048576) :
    Ct Tryz.prog 373 [.slice b m c] [] (fun H => (gSl 323 gFile).rd H [.slice b m c] xs) (fun v A => ∃ b c, v = .slice b xs.length c ∧ (gSl 323 gFile).ow [.slice b xs.length c] xs A) := by
  refine Ct.intro0 G_ok Tryz.func373 rfl rfl rfl fun E H hp => ?_
  obtain ⟨rfl, hcl, hl⟩ := sl_len hp
  have hls := len_szL gFile xs
  refine VCsplit.intro (fun q0 => ?_) (fun q0 => ?_)
  ·
    simp at q0
    (obtain rfl := sl_none hp ‹_ = none›; exact ⟨[], ⟨none, 0, rfl, sl_nil _ _ _⟩, (.le fun a => by (try simp only [setR, List.cons_append, List.nil_append]); simp only [List.flatten_append, List.flatten_cons, List.flatten_nil, List.count_append, List.count_nil, List.append_nil, List.nil_append]; omega)⟩)
  ·
    simp at q0
    refine VCnew.intro fun x1 => ?_
    refine append_allN (g := gFile) (T := (323 : TypeId)) G_ok (by repeat (first | exact fl_plain | apply plain_iso | apply plain_pair)) [] [[(x1, Obj.cells { toList := zeros (0 : Nat) [Value.string ByteArray.empty, Value.string ByteArray.empty, Value.int IntKind.i64 (0 : Int)] } (323 : TypeId))], H] 1 ?_ (sl_nil _ _ _) rfl hp rfl rfl rfl rfl rfl rfl rfl rfl ?_ fun b2 c2 A2 o2 => ?_
    · exact .refl _
    · simp; omega
    exact ⟨_, ⟨_, _, rfl, by assumption⟩, (.le fun a => by (try simp only [setR, List.cons_append, List.nil_append]); simp only [List.flatten_append, List.flatten_cons, List.flatten_nil, List.count_append, List.count_nil, List.append_nil, List.nil_append]; omega)⟩
--@ct spec.l08Copy new s_l08Copy_ct _ $1 ?_ | %1 | obtain ⟨l#, rfl, o#⟩ := o# ;; have r# := Gt.owrd _ o# ;; obtain ⟨b1x#, c1x#, b2x#, c2x#, b3x#, c3x#, rfl, h1x#, h2x#, h3x#⟩ := gQuery_rd.1 r#
--@ct impl.copyDisk new copyDisk_ct _ $1 ?_ | %1 | obtain ⟨l#, rfl, o#⟩ := o# ;; have r# := Gt.owrd _ o# ;; obtain ⟨b0x#, c0x#, rfl, h0x#⟩ := gDisk_rd.1 r#
theorem copyDisk_ct (l : List Value) (x : Disk) (hx : gDisk.sz x ≤ 1048576) :
    Ct Tryz.prog 309 [.agg ⟨l⟩] [] (fun H => gDisk.rd H l x) (fun v A => ∃ l, v = .agg ⟨l⟩ ∧ gDisk.ow l x A) := by
  refine Ct.intro0 G_ok Tryz.func309 rfl rfl rfl fun E H hp => ?_
  obtain ⟨b0p, c0p, rfl, h0p⟩ := gDisk_rd.1 hp
  have ez := gDisk_sz (x)
  have en0 := len_szL gFile (x.files)
  refine VCnew.intro fun x0 => ?_
  refine VCnew.intro fun x1 => ?_
  refine call_new (cloneFile_ct _ _ _ (x.files) ?_) (Rp.mono _ (mem_at 0 rfl) h0p) ?_
  · trivial
  rintro v2 A2 o2
  obtain ⟨b2, c2, rfl, o2⟩ := o2
  exact ⟨_, ⟨_, rfl, gDisk_ow.2 ⟨_, _, _, rfl, .refl _, by assumption⟩⟩, (.le fun a => by (try simp only [setR, List.cons_append, List.nil_append]); simp only [List.flatten_append, List.flatten_cons, List.flatten_nil, List.count_append, List.count_nil, List.append_nil, List.nil_append]; omega)⟩
--@ct impl.copyBag new copyBag_ct _ $1 ?_ | %1 | obtain ⟨l#, rfl, o#⟩ := o# ;; have r# := Gt.owrd _ o# ;; obtain ⟨b0x#, c0x#, rfl, h0x#⟩ := gBag_rd.1 r#
--@ct spec.l03Copy new s_l03Copy_ct _ $1 ?_ | %1 | obtain ⟨l#, rfl, o#⟩ := o# ;; have r# := Gt.owrd _ o# ;; obtain ⟨b0x#, c0x#, rfl, h0x#⟩ := gBag_rd.1 r#
end Go.Proofs.YtjgehblllhkdbaaGreat

namespace Go.Proofs.YtjgehblllhkdbaaGreat
open Go.SX Go.Proofs
set_option linter.unusedSimpArgs false
set_option linter.unusedVariables false
set_option maxHeartbeats 4000000
attribute [local irreducible] IntKind.wrap
--@ct slices.Clone[[]impl.Edge,impl.Edge] new cloneEdge_ct _ _ _ $1 ?_ | %1 | obtain ⟨b#, c#, rfl, o#⟩ := o#
theorem cloneEdge_ct (b : Option Addr) (m c : Nat) (xs : List Edge) (hx : xs.length ≤ 1000000) :
    Ct Tryz.prog 381 [.slice b m c] [] (fun H => (gSl 209 gEdge).rd H [.slice b m c] xs) (fun v A => ∃ b c, v = .slice b xs.length c ∧ (gSl 209 gEdge).ow [.slice b xs.length c] xs A) := by
  refine Ct.intro0 G_ok Tryz.func381 rfl rfl rfl fun E H hp => ?_
  obtain ⟨rfl, hcl, hl⟩ := sl_len hp
  refine VCsplit.intro (fun q0 => ?_) (fun q0 => ?_)
  ·
    simp at q0
    (obtain rfl := sl_none hp ‹_ = none›; exact ⟨[], ⟨none, 0, rfl, sl_nil _ _ _⟩, (.le fun a => by (try simp only [setR, List.cons_append, List.nil_append]); simp only [List.flatten_append, List.flatten_cons, List.flatten_nil, List.count_append, List.count_nil, List.append_nil, List.nil_append]; omega)⟩)
  ·
    simp at q0
    refine VCnew.intro fun x1 => ?_
    refine append_allN (g := gEdge) (T := (209 : TypeId)) G_ok (by repeat (first | exact fl_plain | apply plain_iso | apply plain_pair)) [] [[(x1, Obj.cells { toList := zeros (0 : Nat) [Value.int IntKind.i64 (0 : Int), Value.int IntKind.u8 (0 : Int), Value.int IntKind.i64 (0 : Int)] } (209 : TypeId))], H] 1 ?_ (sl_nil _ _ _) rfl hp rfl rfl rfl rfl rfl rfl rfl rfl ?_ fun b2 c2 A2 o2 => ?_
    · exact .refl _
    · simp; omega
    exact ⟨_, ⟨_, _, rfl, by assumption⟩, (.le fun a => by (try simp only [setR, List.cons_append, List.nil_append]); simp only [List.flatten_append, List.flatten_cons, List.flatten_nil, List.count_append, List.count_nil, List.append_nil, List.nil_append]; omega)⟩
--@ct impl.copyGraph new copyGraph_ct _ $1 ?_ | %1 | obtain ⟨b#, c#, rfl, o#⟩ := o#
theorem copyGraph_ct (l : List Value) (g : Graph) (hx : g.edges.length ≤ 1000000) :
    Ct Tryz.prog 317 [.agg ⟨l⟩] [] (fun H => gGraph.rd H l g) (fun v A => ∃ b c, v = .agg ⟨[.int .i64 g.size, .slice b g.edges.length c]⟩ ∧ (gSl 209 gEdge).ow [.slice b g.edges.length c] g.edges A) := by
  refine Ct.intro0 G_ok Tryz.func317 rfl rfl rfl fun E H hp => ?_
  obtain ⟨b1p, c1p, rfl, w0p, h1p⟩ := gGraph_rd.1 hp
  refine VCnew.intro fun x0 => ?_
  refine VCnew.intro fun x1 => ?_
  refine draw G_ok mixed (some 6) (.q 0 (.q 1 (.q 2 (.q 3 (.f 4 (.q 5 (.tl 6 (.nil)))))))) (by decide +kernel) ?_
  refine call_new (cloneEdge_ct _ _ _ (g.edges) ?_) (Rp.mono _ (mem_at 0 rfl) h1p) ?_
  · trivial
  rintro v2 A2 o2
  obtain ⟨b2, c2, rfl, o2⟩ := o2
  refine VC.intro ?_ ?_
  · exact keep_new
  exact ⟨_, ⟨_, _, rfl, by assumption⟩, (.le fun a => by (try simp only [setR, List.cons_append, List.nil_append]); simp [List.count_cons, Blk.ent, idOf]; try omega)⟩
/-- a graph to which an edge is added -/
def putG (g : Graph) (e : Edge) : Graph := ⟨g.size, putE g.edges e⟩
def addG (g : Graph) (e : Edge) : Graph := if graphOk (putG g e) then putG g e else g
theorem addG_yes {g : Graph} {e : Edge} (h : graphOk (putG g e) = true) : addG g e = putG g e := by unfold addG; rw [h]; rfl
theorem addG_no {g : Graph} {e : Edge} (h : graphOk (putG g e) = false) : addG g e = g := by unfold addG; rw [h]; rfl
theorem graphOk_sorted {g : Graph} (h : graphOk g = true) : sortedE g.edges := (graphOk_iff.1 h).2.2.2
theorem putG_old {g : Graph} {e : Edge} {k : Nat} (h : graphOk g = true) (ha : atE g.edges e k) (hf : k < g.edges.length ∧ g.edges[k]?.getD default = e) : putG g e = g := by
  unfold putG; rw [putE_old (graphOk_sorted h) ha hf.1 hf.2]
theorem putG_new {g : Graph} {e : Edge} {k : Nat} (h : graphOk g = true) (ha : atE g.edges e k) (hf : ¬ (k < g.edges.length ∧ g.edges[k]?.getD default = e)) : putG g e = ⟨g.size, g.edges.take k ++ ([e] ++ g.edges.drop k)⟩ := by
  unfold putG; rw [putE_new (graphOk_sorted h) ha hf]
--@ct impl.GraphAdd new graphAdd_ct _ _ $1 $2 ?_ | ⟨%1, %2⟩ | obtain ⟨b#, c#, rfl, o#⟩ := o#
theorem graphAdd_ct (l l2 : List Value) (g : Graph) (e : Edge) (hg : graphOk g = true) :
    Ct Tryz.prog 242 [.agg ⟨l⟩, .agg ⟨l2⟩] [] (fun H => gGraph.rd H l g ∧ gEdge.rd H l2 e) (fun v A => ∃ b c, v = .tuple #[.agg ⟨[.int .i64 (addG g e).size, .slice b (addG g e).edges.length c]⟩, .bool (graphOk (putG g e))] ∧ (gSl 209 gEdge).ow [.slice b (addG g e).edges.length c] (addG g e).edges A) := by
  refine Ct.intro0 G_ok Tryz.func242 rfl rfl rfl fun E H hp => ?_
  obtain ⟨hp, hp2⟩ := hp
  obtain ⟨b1p, c1p, rfl, w0p, h1p⟩ := gGraph_rd.1 hp
  obtain ⟨rfl, w0f, w2f⟩ := gEdge_rd.1 hp2
  have hr := graphOk_rng hg
  have hpost : ∀ (k : Nat) (b : Option Addr) (c : Nat) (A : Hp), (gSl 209 gEdge).ow [.slice b (g.edges.take k ++ ([e] ++ g.edges.drop k)).length c] (g.edges.take k ++ ([e] ++ g.edges.drop k)) A → gGraph.rd A [.int .i64 g.size, .slice b (g.edges.take k ++ ([e] ++ g.edges.drop k)).length c] ⟨g.size, g.edges.take k ++ ([e] ++ g.edges.drop k)⟩ := fun k b c A h => gGraph_rd.2 ⟨b, c, rfl, w0p, Gt.owrd _ h⟩
  refine VCnew.intro fun x0 => ?_
  refine VCnew.intro fun x1 => ?_
  refine VCnew.intro fun x2 => ?_
  refine call_new (copyGraph_ct _ (g) ?_) (Rp.mono _ (mem_at 0 rfl) hp) ?_
  · omega
  rintro v3 A3 o3
  obtain ⟨b3, c3, rfl, o3⟩ := o3
  refine VCnew.intro fun x4 => ?_
  refine call_val (implGraphOk_ct _ _) (by (try exact Rp.mono _ (mem_at 0 rfl) hp); (try exact Rp.mono _ (mem_at 1 rfl) hp); (try exact Rp.mono _ (mem_at 0 rfl) (hpost _ _ _ _ (by assumption))); (try exact Rp.mono _ (mem_at 1 rfl) (hpost _ _ _ _ (by assumption)))) ?_
  rintro _ rfl
  refine VCsplit.intro (fun q6 => ?_) (fun q6 => ?_)
  ·
    simp at q6
    exact absurd (hg.symm.trans q6) (by decide)
  ·
    simp at q6
    refine call_val (bsEdge_ct _ _ _ _ (g.edges) (e) ?_ ?_) ⟨(Rp.mono _ (mem_at 0 rfl) (Gt.owrd _ o3)), (Rp.mono _ (mem_at 1 rfl) hp2)⟩ ?_
    · exact graphOk_sorted hg
    · omega
    rintro _ ⟨k7, hk7, rfl⟩
    refine VCsplit.intro (fun q8 => ?_) (fun q8 => ?_)
    ·
      simp at q8
      (have e0 := putG_old hg ‹atE _ _ _› ‹_ ∧ _›; have e2 : graphOk (putG g e) = true := (by rw [e0]; exact hg); rw [addG_yes e2, e2, e0]; exact ⟨_, ⟨_, _, rfl, by assumption⟩, (.le fun a => by (try simp only [setR, List.cons_append, List.nil_append]); simp [List.count_cons, Blk.ent, idOf]; try omega)⟩)
    ·
      simp at q8
      refine VCnew.intro fun x9 => ?_
      refine callR_at 1 rfl (insEdge_ct _ _ _ _ _ _ _ _ _ o3 (gEdge_own ‹gEdge.rd _ _ _›) ?_ ?_) (mem_at 0 rfl _ (List.mem_singleton.2 rfl)) ?_
      · exact ‹atE _ _ _›.1
      · omega
      rintro _ A10 ⟨b10, c10, rfl, o10⟩
      refine call_val (implGraphOk_ct _ _) (by (try exact Rp.mono _ (mem_at 0 rfl) hp); (try exact Rp.mono _ (mem_at 1 rfl) hp); (try exact Rp.mono _ (mem_at 0 rfl) (hpost _ _ _ _ (by assumption))); (try exact Rp.mono _ (mem_at 1 rfl) (hpost _ _ _ _ (by assumption)))) ?_
      rintro _ rfl
      refine VCsplit.intro (fun q12 => ?_) (fun q12 => ?_)
      ·
        simp at q12
        refine call_new (copyGraph_ct _ (g) ?_) (Rp.mono _ (mem_at 2 rfl) hp) ?_
        · omega
        rintro v13 A13 o13
        obtain ⟨b13, c13, rfl, o13⟩ := o13
        try dsimp only
        (have e1 := putG_new hg ‹atE _ _ _› (fun h => ‹_ → ¬ _› h.1 h.2); have e2 : graphOk (putG g e) = false := (by rw [e1]; exact ‹graphOk ⟨_, _⟩ = false›); rw [addG_no e2, e2]; exact ⟨_, ⟨_, _, rfl, by assumption⟩, (.le fun a => by (try simp only [setR, List.cons_append, List.nil_append]); simp [List.count_cons, Blk.ent, idOf]; try omega)⟩)
      ·
        simp at q12
        try dsimp only
        (have e1 := putG_new hg ‹atE _ _ _› (fun h => ‹_ → ¬ _› h.1 h.2); have e2 : graphOk (putG g e) = true := (by rw [e1]; exact ‹graphOk ⟨_, _⟩ = true›); rw [addG_yes e2, e2, e1]; exact ⟨_, ⟨_, _, rfl, by assumption⟩, (.le fun a => by (try simp only [setR, List.cons_append, List.nil_append]); simp [List.count_cons, Blk.ent, idOf]; try omega)⟩)
--@ct spec.l04Put new l04Put_ct _ _ _ _ $1 $2 ?_ | ⟨%1, %2⟩ | obtain ⟨b#, c#, rfl, o#⟩ := o#
theorem l04Put_ct (b : Option Addr) (m c : Nat) (l : List Value) (xs : List Edge) (e : Edge) (hm : xs.length ≤ 400000000) :
    Ct Tryz.prog 251 [.slice b m c, .agg ⟨l⟩] [] (fun H => (gSl 209 gEdge).rd H [.slice b m c] xs ∧ gEdge.rd H l e) (fun v A => ∃ b c, v = .slice b (putE xs e).length c ∧ (gSl 209 gEdge).ow [.slice b (putE xs e).length c] (putE xs e) A) := by
  refine Ct.intro0 G_ok Tryz.func251 rfl rfl rfl fun E H hp => ?_
  obtain ⟨hp, hp2⟩ := hp
  obtain ⟨rfl, hcl, hl⟩ := sl_len hp
  obtain ⟨rfl, w0f, w2f⟩ := gEdge_rd.1 hp2
  refine VCnew.intro fun x0 => ?_
  refine VCnew.intro fun x1 => ?_
  apply loop_mod (α := (Nat) × (List Edge) × (Hp) × (Option Addr) × (Nat)) G_ok [9, 10, 11, 12, 15, 16, 17, 18, 19, 20, 21, 22, 23, 24, 25, 26, 27, 5, 13, 14, 6] (fun z => [(6, .v (.int .i64 z.1)), (5, .v (.slice z.2.2.2.1 z.2.1.length z.2.2.2.2))]) (fun z => [{ id := x0, cs := [Value.int IntKind.i64 e.from', Value.int IntKind.u8 (↑e.label.toNat : Int), Value.int IntKind.i64 e.to], ty := (209 : Nat) }]) (fun z => [z.2.2.1, H]) (fun z => xs.length - z.1) (fun z => z.1 ≤ xs.length ∧ z.2.1 = (xs.take z.1).filter (fun x => edgeLess x e) ∧ (gSl 209 gEdge).ow [.slice z.2.2.2.1 z.2.1.length z.2.2.2.2] z.2.1 z.2.2.1) ((0, [], [], _, 0))
  · repeat' (first | exact trivial | refine ⟨⟨_, rfl, by first | rfl | exact inc_eq _ (by omega) | (refine sl_eq ?_; simp; done), by first | exact trivial | simp [SV.ok]⟩, ?_⟩)
  · exact ⟨rfl, trivial⟩
  · try dsimp only
    exact ⟨by omega, rfl, sl_nil _ _ _⟩
  · exact .tl
  rintro ⟨k, o, A, lb, lc⟩ hI
  obtain ⟨hk, ho, oA⟩ : k ≤ xs.length ∧ o = (xs.take k).filter (fun x => edgeLess x e) ∧ (gSl 209 gEdge).ow [.slice lb o.length lc] o A := hI
  try dsimp only
  refine VCsplit.intro (fun q2 => ?_) (fun q2 => ?_)
  ·
    simp at q2
    have hol : o.length ≤ k := by rw [ho]; exact Nat.le_trans (List.length_filter_le _ _) (by rw [List.length_take]; omega)
    refine draw G_ok mixed none (.q 0 (.q 1 (.q 2 (.q 3 (.q 4 (.f 5 (.nil))))))) (by decide +kernel) ?_
    refine idx_rd hp ?_ ?_ fun b3 o3 hb3 => ?_
    · omega
    · omega
    refine load_allN default (k) rfl hp ?_ ?_ hb3 rfl (mem_at 1 rfl) fun l4 hl4 => ?_
    · omega
    · omega
    obtain ⟨rfl, w0x4, w2x4⟩ := gEdge_rd.1 hl4
    refine call_val (specEdgeLess_ct _ _ (xs[k]?.getD default) (e)) ⟨(Rp.mono _ (mem_at 1 rfl) hl4), (Rp.mono _ (mem_at 1 rfl) hp2)⟩ ?_
    rintro _ rfl
    refine VC.intro ?_ ?_
    · exact fun _ h => h
    refine VCsplit.intro (fun q6 => ?_) (fun q6 => ?_)
    ·
      refine idx_rd hp ?_ ?_ fun b7 o7 hb7 => ?_
      · omega
      · omega
      refine load_allN default (k) rfl hp ?_ ?_ hb7 rfl (mem_at 1 rfl) fun l8 hl8 => ?_
      · omega
      · omega
      obtain ⟨rfl, w0x8, w2x8⟩ := gEdge_rd.1 hl8
      refine VCnew.intro fun x9 => ?_
      refine gappend1 (g := gEdge) (T := (209 : TypeId)) G_ok A _ [H] ?_ oA (gEdge_own ‹_›) (List.mem_of_getElem? (i := 0) rfl) rfl rfl rfl rfl rfl rfl rfl rfl ?_ fun b10 c10 A10 o10 => ?_
      · exact .tl
      · omega
      apply loop_stepA (k + 1, _, _, _, _)
      · exact .refl _
      · repeat' (first | exact trivial | refine ⟨⟨_, rfl, by first | rfl | exact inc_eq _ (by omega) | (refine sl_eq ?_; simp; done), by first | exact trivial | simp [SV.ok]⟩, ?_⟩)
      · exact ⟨rfl, trivial⟩
      · try dsimp only
        exact ⟨by omega, by rw [ho, filter_yes default (by omega) (by exact ‹edgeLess _ _ = true›)], ‹_›⟩
      try dsimp only
      omega
    ·
      apply loop_stepA (k + 1, _, _, _, _)
      · exact .refl _
      · repeat' (first | exact trivial | refine ⟨⟨_, rfl, by first | rfl | exact inc_eq _ (by omega) | (refine sl_eq ?_; simp; done), by first | exact trivial | simp [SV.ok]⟩, ?_⟩)
      · exact ⟨rfl, trivial⟩
      · try dsimp only
        exact ⟨by omega, by rw [ho, filter_no default (by omega) (by exact ‹edgeLess _ _ = false›)], ‹_›⟩
      try dsimp only
      omega
  ·
    simp at q2
    obtain rfl : k = xs.length := by omega
    rw [List.take_length] at ho
    have hol : o.length ≤ xs.length := by rw [ho]; exact List.length_filter_le _ _
    refine VCnew.intro fun x11 => ?_
    refine gappend1 (g := gEdge) (T := (209 : TypeId)) G_ok A _ [H] ?_ oA (gEdge_own ‹_›) (List.mem_of_getElem? (i := 0) rfl) rfl rfl rfl rfl rfl rfl rfl rfl ?_ fun b12 c12 A12 o12 => ?_
    · exact .tl
    · omega
    apply loop_mod (α := (Nat) × (List Edge) × (Hp) × (Option Addr) × (Nat)) G_ok [32, 33, 34, 35, 38, 39, 40, 41, 42, 43, 44, 45, 46, 47, 48, 49, 50, 5, 36, 37, 7] (fun z => [(7, .v (.int .i64 z.1)), (5, .v (.slice z.2.2.2.1 z.2.1.length z.2.2.2.2))]) (fun z => [{ id := x0, cs := [Value.int IntKind.i64 e.from', Value.int IntKind.u8 (↑e.label.toNat : Int), Value.int IntKind.i64 e.to], ty := (209 : Nat) }]) (fun z => [z.2.2.1, H]) (fun z => xs.length - z.1) (fun z => z.1 ≤ xs.length ∧ z.2.1 = xs.filter (fun x => edgeLess x e) ++ ([e] ++ (xs.take z.1).filter (fun x => edgeLess e x)) ∧ (gSl 209 gEdge).ow [.slice z.2.2.2.1 z.2.1.length z.2.2.2.2] z.2.1 z.2.2.1) ((0, _, _, _, _))
    · repeat' (first | exact trivial | refine ⟨⟨_, rfl, by first | rfl | exact inc_eq _ (by omega) | (refine sl_eq ?_; simp; done), by first | exact trivial | simp [SV.ok]⟩, ?_⟩)
    · exact ⟨rfl, trivial⟩
    · try dsimp only
      exact ⟨by omega, by rw [ho]; simp, ‹_›⟩
    · exact .refl _
    rintro ⟨k, o, A, lb, lc⟩ hI
    obtain ⟨hk, ho, oA⟩ : k ≤ xs.length ∧ o = xs.filter (fun x => edgeLess x e) ++ ([e] ++ (xs.take k).filter (fun x => edgeLess e x)) ∧ (gSl 209 gEdge).ow [.slice lb o.length lc] o A := hI
    try dsimp only
    refine VCsplit.intro (fun q13 => ?_) (fun q13 => ?_)
    ·
      simp at q13
      have hol : o.length ≤ 2 * xs.length + 1 := by (rw [ho]; have h1 := List.length_filter_le (fun x => edgeLess x e) xs; have h2 := List.length_filter_le (fun x => edgeLess e x) (xs.take k); rw [List.length_take] at h2; simp only [List.length_append, List.length_cons, List.length_nil]; omega)
      refine draw G_ok mixed none (.q 0 (.q 1 (.q 2 (.q 3 (.q 4 (.f 5 (.nil))))))) (by decide +kernel) ?_
      refine idx_rd hp ?_ ?_ fun b14 o14 hb14 => ?_
      · omega
      · omega
      refine load_allN default (k) rfl hp ?_ ?_ hb14 rfl (mem_at 1 rfl) fun l15 hl15 => ?_
      · omega
      · omega
      obtain ⟨rfl, w0x15, w2x15⟩ := gEdge_rd.1 hl15
      refine call_val (specEdgeLess_ct _ _ (e) (xs[k]?.getD default)) ⟨(Rp.mono _ (mem_at 1 rfl) hp2), (Rp.mono _ (mem_at 1 rfl) hl15)⟩ ?_
      rintro _ rfl
      refine VC.intro ?_ ?_
      · exact fun _ h => h
      refine VCsplit.intro (fun q17 => ?_) (fun q17 => ?_)
      ·
        refine idx_rd hp ?_ ?_ fun b18 o18 hb18 => ?_
        · omega
        · omega
        refine load_allN default (k) rfl hp ?_ ?_ hb18 rfl (mem_at 1 rfl) fun l19 hl19 => ?_
        · omega
        · omega
        obtain ⟨rfl, w0x19, w2x19⟩ := gEdge_rd.1 hl19
        refine VCnew.intro fun x20 => ?_
        refine gappend1 (g := gEdge) (T := (209 : TypeId)) G_ok A _ [H] ?_ oA (gEdge_own ‹_›) (List.mem_of_getElem? (i := 0) rfl) rfl rfl rfl rfl rfl rfl rfl rfl ?_ fun b21 c21 A21 o21 => ?_
        · exact .tl
        · omega
        apply loop_stepA (k + 1, _, _, _, _)
        · exact .refl _
        · repeat' (first | exact trivial | refine ⟨⟨_, rfl, by first | rfl | exact inc_eq _ (by omega) | (refine sl_eq ?_; simp; done), by first | exact trivial | simp [SV.ok]⟩, ?_⟩)
        · exact ⟨rfl, trivial⟩
        · try dsimp only
          exact ⟨by omega, by rw [ho, filter_yes default (by omega) (by exact ‹edgeLess _ _ = true›)]; simp, ‹_›⟩
        try dsimp only
        omega
      ·
        apply loop_stepA (k + 1, _, _, _, _)
        · exact .refl _
        · repeat' (first | exact trivial | refine ⟨⟨_, rfl, by first | rfl | exact inc_eq _ (by omega) | (refine sl_eq ?_; simp; done), by first | exact trivial | simp [SV.ok]⟩, ?_⟩)
        · exact ⟨rfl, trivial⟩
        · try dsimp only
          exact ⟨by omega, by rw [ho, filter_no default (by omega) (by exact ‹edgeLess _ _ = false›)], ‹_›⟩
        try dsimp only
        omega
    ·
      simp at q13
      (have hke : k = xs.length := (by omega); subst hke; rw [List.take_length] at ho; subst ho; exact ⟨_, ⟨_, _, rfl, by assumption⟩, (.le fun a => by (try simp only [setR, List.cons_append, List.nil_append]); simp [List.count_cons, Blk.ent, idOf]; try omega)⟩)
end Go.Proofs.YtjgehblllhkdbaaGreat

namespace Go.Proofs.YtjgehblllhkdbaaGreat
open Go.SX Go.Proofs
set_option linter.unusedSimpArgs false
set_option linter.unusedVariables false
set_option maxHeartbeats 4000000
attribute [local irreducible] IntKind.wrap
--@ct (*impl.scanner).done blk0 scDone_ct _ _ _ _ _ rfl ?_ ?_ |  | rintro _ A# ⟨rfl, rfl⟩ ;; refine ⟨_, _, [], rfl, perm0, ?_⟩
theorem scDone_ct (q : Nat) (t : ByteArray) (ai : Int) (a : Nat) (bd : Bool) (hai : ai = (a : Int)) (ht : t.size ≤ 1152921504606846976) (ha : a ≤ t.size) :
    CtR Tryz.prog 316 [.pointer (some ⟨q, 0, none⟩)] [(q, Obj.cells ⟨[.string t, .int .i64 ai, .bool bd]⟩ 385)] (fun _ => True) (fun v A => v = .bool (!bd && decide (a = t.size)) ∧ A = [(q, Obj.cells ⟨[.string t, .int .i64 ai, .bool bd]⟩ 385)]) := by
  subst hai
  refine CtR.introB G_ok [.p 0 0] [⟨q, [.string t, .int .i64 (a : Int), .bool bd], 385⟩] [] Tryz.func316 rfl rfl rfl rfl (by simp [SV.ok]) (by simp [Blk.ent]) fun E H hp => ?_
  refine draw G_ok mixed none (.q 0 (.q 1 (.q 2 (.q 3 (.q 4 (.q 5 (.q 6 (.q 7 (.q 8 (.q 9 (.q 10 (.q 11 (.q 12 (.q 13 (.q 14 (.q 15 (.q 16 (.q 17 (.nil))))))))))))))))))) (by decide +kernel) ?_
  refine VCsplit.intro (fun q0 => ?_) (fun q0 => ?_)
  ·
    simp at q0
    (have hb0 : bd = false := ‹_›; subst hb0; exact ⟨_, ⟨by (show Value.bool (_ == _) = Value.bool (true && decide (a = t.size)); rw [Bool.true_and]; congr 1; rw [Bool.eq_iff_iff]; simp; omega), rfl⟩, (.le fun a => by (try simp only [setR, List.cons_append, List.nil_append]); simp [List.count_cons, Blk.ent, idOf]; try omega)⟩)
  ·
    simp at q0
    (have hb0 : bd = true := ‹_›; subst hb0; exact ⟨_, ⟨rfl, rfl⟩, (.le fun a => by (try simp only [setR, List.cons_append, List.nil_append]); simp [List.count_cons, Blk.ent, idOf]; try omega)⟩)
def rgR (t : ByteArray) : Graph := (readGraph t).getD ⟨0, []⟩
theorem rg_no {t : ByteArray} (h : rgOk t (rgN t) = false) : readGraph t = none := by unfold readGraph; rw [h]; rfl
theorem rg_yes {t : ByteArray} (h : rgOk t (rgN t) = true) : readGraph t = some (rgG t (rgN t)) := by unfold readGraph; rw [h]; rfl
theorem rgE_more {t : ByteArray} {k : Nat} (h : (rgE t k).2.2 = false) : rgE t (k + 1) = ((rgE t k).1 ++ [(scEdge t (rgE t k).2).1], (scEdge t (rgE t k).2).2) := scEdges_more h
theorem rgE_le (t : ByteArray) (k : Nat) : (rgE t k).2.1 ≤ t.size ∧ (rgE t k).1.length ≤ k := scEdges_le (scNum_le (scNum_le (Nat.zero_le _)).1).1 k
theorem rgE_stop {t : ByteArray} {k n : Nat} (h : (rgE t k).2.2 = true) (hk : k ≤ n) : rgE t n = rgE t k := by
  obtain ⟨m, rfl⟩ := Nat.le.dest hk
  exact scEdges_stop h m
theorem rgC_le (t : ByteArray) : (rgC t).2.1 ≤ t.size ∧ (rgC t).1 ≤ 1000000000 := scNum_le (scNum_le (Nat.zero_le _)).1
theorem rgS_le (t : ByteArray) : (rgS t).2.1 ≤ t.size ∧ (rgS t).1 ≤ 1000000000 := scNum_le (Nat.zero_le _)
theorem rgE_fin {t : ByteArray} {k N : Nat} (hc : k ≤ (rgC t).1) (hN : k ≤ N) (h : (rgC t).1 ≤ k ∨ N ≤ k ∨ (rgE t k).2.2 = true) : rgE t (min (rgC t).1 N) = rgE t k := by
  rcases h with h | h | h
  · rw [show min (rgC t).1 N = k by omega]
  · rw [show min (rgC t).1 N = k by omega]
  exact rgE_stop h (by omega)
theorem okI_n {n : Nat} (h : n ≤ 1000000000) : okI (n : Int) := by unfold okI; omega
theorem scE_own (t : ByteArray) (k : Nat) : gEdge.ow [.int .i64 (scEdge t (rgE t k).2).1.from', .int .u8 (scEdge t (rgE t k).2).1.label.toNat, .int .i64 (scEdge t (rgE t k).2).1.to] (scEdge t (rgE t k).2).1 [] := by
  have h1 := scNum_le (s := (rgE t k).2) (rgE_le t k).1
  have h2 := scNum_le (s := (scByte t (scNum t (rgE t k).2).2).2) (scByte_le h1.1)
  exact gEdge_ow.2 ⟨rfl, by simp, okI_n h1.2, okI_n h2.2⟩
theorem scE_own2 (t : ByteArray) (k : Nat) : gEdge.ow [.int .i64 (scEdge t (rgE t k).2).1.from', .int .u8 (IntKind.u8.wrap (scEdge t (rgE t k).2).1.label.toNat), .int .i64 (scEdge t (rgE t k).2).1.to] (scEdge t (rgE t k).2).1 [] := by
  have : IntKind.u8.wrap ((scEdge t (rgE t k).2).1.label.toNat : Nat) = ((scEdge t (rgE t k).2).1.label.toNat : Nat) := by
    have := (scEdge t (rgE t k).2).1.label.toNat_lt
    rw [u8_wrap]; omega
  rw [this]; exact scE_own t k
theorem rg_none {t : ByteArray} (h : readGraph t = none) : rgR t = ⟨0, []⟩ ∧ (readGraph t).isSome = false := by unfold rgR; rw [h]; exact ⟨rfl, rfl⟩
theorem rg_some {t : ByteArray} {g : Graph} (h : readGraph t = some g) : rgR t = g ∧ (readGraph t).isSome = true := by unfold rgR; rw [h]; exact ⟨rfl, rfl⟩
theorem rgI_no {t : ByteArray} {k : Nat} (hf : rgE t (rgN t) = rgE t k) (h : ¬ ((rgE t k).2.2 = false ∧ (rgE t k).2.1 = t.size ∧ (rgE t k).1.length = (rgC t).1 ∧ graphOk ⟨((rgS t).1 : Nat), (rgE t k).1⟩ = true)) : readGraph t = none := by
  refine rg_no ?_
  cases e : rgOk t (rgN t) with
  | false => rfl
  | true =>
    exfalso; apply h
    unfold rgOk rgG at e
    rw [hf] at e
    simpa only [Bool.and_eq_true, Bool.not_eq_true', decide_eq_true_iff] using e
theorem rgI_yes {t : ByteArray} {k : Nat} (hf : rgE t (rgN t) = rgE t k) (h : (rgE t k).2.2 = false ∧ (rgE t k).2.1 = t.size ∧ (rgE t k).1.length = (rgC t).1 ∧ graphOk ⟨((rgS t).1 : Nat), (rgE t k).1⟩ = true) : readGraph t = some ⟨((rgS t).1 : Nat), (rgE t k).1⟩ := by
  have e : rgOk t (rgN t) = true := by
    unfold rgOk rgG
    rw [hf]
    simpa only [Bool.and_eq_true, Bool.not_eq_true', decide_eq_true_iff] using h
  rw [rg_yes e]; unfold rgG; rw [hf]
theorem rgS_no {t : ByteArray} {k : Nat} (hf : rgE t (min (rgC t).1 50) = rgE t k) (h : ¬ ((rgE t k).2.2 = false ∧ graphOk ⟨((rgS t).1 : Nat), (rgE t k).1⟩ = true ∧ graphText ⟨((rgS t).1 : Nat), (rgE t k).1⟩ = t)) : readGraph t = none := by
  rw [rg_spec]; unfold rgG; rw [hf, if_neg h]
theorem rgS_yes {t : ByteArray} {k : Nat} (hf : rgE t (min (rgC t).1 50) = rgE t k) (h : (rgE t k).2.2 = false ∧ graphOk ⟨((rgS t).1 : Nat), (rgE t k).1⟩ = true ∧ graphText ⟨((rgS t).1 : Nat), (rgE t k).1⟩ = t) : readGraph t = some ⟨((rgS t).1 : Nat), (rgE t k).1⟩ := by
  rw [rg_spec]; unfold rgG; rw [hf, if_pos h]
--@ct impl.ReadGraph new implReadGraph_ct _ ?_ | trivial | obtain ⟨b#, c#, rfl, o#⟩ := o#
theorem implReadGraph_ct (t : ByteArray) (ht : t.size ≤ 1152921504606846976) :
    Ct Tryz.prog 241 [.string t] [] (fun _ => True) (fun v A => ∃ b c, v = .tuple #[.agg ⟨[.int .i64 (rgR t).size, .slice b (rgR t).edges.length c]⟩, .bool (readGraph t).isSome] ∧ (gSl 209 gEdge).ow [.slice b (rgR t).edges.length c] (rgR t).edges A) := by
  refine Ct.intro0 G_ok Tryz.func241 rfl rfl rfl fun E H hp => ?_
  have hS := rgS_le t
  have hC := rgC_le t
  have hcD : (scNum t ((scNum t (0, false)).2.1, (scNum t (0, false)).2.2)).1 = (rgC t).1 := rfl
  refine VCnew.intro fun x0 => ?_
  refine VCnew.intro fun x1 => ?_
  refine callR_blk 1 ([]) [H] rfl ?_ (scNumber_ct _ _ _ _ _ rfl ?_ ?_) trivial ?_
  · exact .refl _
  · trivial
  · (simp only [inU8, u8_wrap]; omega)
  rintro _ A2 ⟨rfl, rfl⟩
  refine ⟨_, _, [], rfl, perm0, ?_⟩
  refine VCnew.intro fun x3 => ?_
  refine callR_blk 1 ([]) [H] rfl ?_ (scNumber_ct _ _ _ _ _ rfl ?_ ?_) trivial ?_
  · exact .refl _
  · trivial
  · exact hS.1
  rintro _ A4 ⟨rfl, rfl⟩
  refine ⟨_, _, [], rfl, perm0, ?_⟩
  apply loop_mod (α := (Nat) × (Hp) × (Option Addr) × (Nat)) G_ok [15, 16, 17, 18, 19, 20, 21, 22, 23, 24, 25, 26, 29, 8, 30, 9, 31, 32, 33, 34, 35, 36, 37, 38, 39, 27, 28, 7] (fun z => [(7, .v (.int .i64 z.1))]) (fun z => [⟨x0, [Value.int IntKind.i64 (0 : Int), Value.slice none (0 : Nat) (0 : Nat)], (88 : Nat)⟩, ⟨x1, [Value.string t, .int .i64 ((rgE t z.1).2.1 : Nat), .bool (rgE t z.1).2.2], (385 : Nat)⟩, ⟨x3, [Value.int IntKind.i64 (↑(scNum t (nat_lit 0, false)).fst : Int), .slice z.2.2.1 (rgE t z.1).1.length z.2.2.2], (88 : Nat)⟩]) (fun z => [z.2.1, H]) (fun z => 41 - z.1) (fun z => z.1 ≤ 41 ∧ z.1 ≤ (rgC t).1 ∧ (gSl 209 gEdge).ow [.slice z.2.2.1 (rgE t z.1).1.length z.2.2.2] (rgE t z.1).1 z.2.1) ((0, [], none, 0))
  · repeat' (first | exact trivial | refine ⟨⟨_, rfl, by first | rfl | exact inc_eq _ (by omega) | (refine sl_eq ?_; simp; done), by first | exact trivial | simp [SV.ok]⟩, ?_⟩)
  · exact ⟨rfl, rfl, rfl, trivial⟩
  · try dsimp only
    exact ⟨by omega, by omega, sl_nil _ _ _⟩
  · exact .refl _
  rintro ⟨k, A, lb, lc⟩ hI
  obtain ⟨hk, hc, oA⟩ : k ≤ 41 ∧ k ≤ (rgC t).1 ∧ (gSl 209 gEdge).ow [.slice lb (rgE t k).1.length lc] (rgE t k).1 A := hI
  try dsimp only
  refine VCsplit.intro (fun q5 => ?_) (fun q5 => ?_)
  ·
    simp at q5
    refine VCsplit.intro (fun q6 => ?_) (fun q6 => ?_)
    ·
      simp at q6
      refine VCsplit.intro (fun q7 => ?_) (fun q7 => ?_)
      ·
        simp at q7
        refine callR_blk 1 ([]) [A, H] rfl ?_ (scNumber_ct _ _ _ _ _ rfl ?_ ?_) trivial ?_
        · exact .refl _
        · trivial
        · exact (rgE_le t k).1
        rintro _ A8 ⟨rfl, rfl⟩
        refine ⟨_, _, [], rfl, perm0, ?_⟩
        refine callR_blk 1 ([]) [A, H] rfl ?_ (scOctet_ct _ _ _ _ _ rfl ?_ ?_) trivial ?_
        · exact .refl _
        · trivial
        · exact (scNum_le (s := ((rgE t k).2.1, (rgE t k).2.2)) (rgE_le t k).1).1
        rintro _ A9 ⟨rfl, rfl⟩
        refine ⟨_, _, [], rfl, perm0, ?_⟩
        refine draw G_ok mixed none (.q 0 (.q 2 (.q 3 (.hd (.alt 1 (.f 4 (.f 5 (.f 6 (.f 7 (.q 8 (.f 9 (.nil))))))) (.alt 4 (.hd (.alt 1 (.f 5 (.f 6 (.f 7 (.q 8 (.f 9 (.nil)))))) (.alt 5 (.hd (.alt 1 (.f 6 (.f 7 (.q 8 (.f 9 (.nil))))) (.alt 6 (.f 1 (.f 7 (.q 8 (.f 9 (.nil))))) (.nil)))) (.nil)))) (.nil))))))) (by decide +kernel) ?_
        refine VC.intro ?_ ?_
        ·
          refine callR_blk 1 ([]) [A, H] rfl ?_ (scNumber_ct _ _ _ _ _ rfl ?_ ?_) trivial ?_
          · exact .refl _
          · trivial
          · exact scByte_le (s := ((scNum t ((rgE t k).2.1, (rgE t k).2.2)).2.1, (scNum t ((rgE t k).2.1, (rgE t k).2.2)).2.2)) (scNum_le (s := ((rgE t k).2.1, (rgE t k).2.2)) (rgE_le t k).1).1
          rintro _ A10 ⟨rfl, rfl⟩
          refine ⟨_, _, [], rfl, perm0, ?_⟩
          refine VCnew.intro fun x11 => ?_
          refine gappend1 (g := gEdge) (T := (209 : TypeId)) G_ok A _ [H] ?_ oA (scE_own t k) (List.mem_of_getElem? (i := 0) rfl) rfl rfl rfl rfl rfl rfl rfl rfl ?_ fun b12 c12 A12 o12 => ?_
          · exact .tl
          · (have := (rgE_le t k).2; omega)
          apply loop_stepA (k + 1, _, _, _)
          · exact .refl _
          · repeat' (first | exact trivial | refine ⟨⟨_, rfl, by first | rfl | exact inc_eq _ (by omega) | (refine sl_eq ?_; simp; done), by first | exact trivial | simp [SV.ok]⟩, ?_⟩)
          · ((rw [rgE_more ‹(rgE t k).2.2 = false›]); repeat' (first | exact trivial | refine ⟨by first | rfl | simp [Blk.ent], ?_⟩))
          · try dsimp only
            exact ⟨by omega, by omega, by (rw [rgE_more ‹(rgE t k).2.2 = false›]; assumption)⟩
          try dsimp only
          omega
        ·
          refine VC.intro ?_ ?_
          ·
            refine callR_blk 1 ([]) [A, H] rfl ?_ (scNumber_ct _ _ _ _ _ rfl ?_ ?_) trivial ?_
            · exact .refl _
            · trivial
            · exact scByte_le (s := ((scNum t ((rgE t k).2.1, (rgE t k).2.2)).2.1, (scNum t ((rgE t k).2.1, (rgE t k).2.2)).2.2)) (scNum_le (s := ((rgE t k).2.1, (rgE t k).2.2)) (rgE_le t k).1).1
            rintro _ A13 ⟨rfl, rfl⟩
            refine ⟨_, _, [], rfl, perm0, ?_⟩
            refine VC.intro ?_ ?_
            ·
              refine VCnew.intro fun x14 => ?_
              refine gappend1 (g := gEdge) (T := (209 : TypeId)) G_ok A _ [H] ?_ oA (scE_own t k) (List.mem_of_getElem? (i := 0) rfl) rfl rfl rfl rfl rfl rfl rfl rfl ?_ fun b15 c15 A15 o15 => ?_
              · exact .tl
              · (have := (rgE_le t k).2; omega)
              apply loop_stepA (k + 1, _, _, _)
              · exact .refl _
              · repeat' (first | exact trivial | refine ⟨⟨_, rfl, by first | rfl | exact inc_eq _ (by omega) | (refine sl_eq ?_; simp; done), by first | exact trivial | simp [SV.ok]⟩, ?_⟩)
              · ((rw [rgE_more ‹(rgE t k).2.2 = false›]); repeat' (first | exact trivial | refine ⟨by first | rfl | simp [Blk.ent], ?_⟩))
              · try dsimp only
                exact ⟨by omega, by omega, by (rw [rgE_more ‹(rgE t k).2.2 = false›]; assumption)⟩
              try dsimp only
              omega
            ·
              refine VC.intro ?_ ?_
              ·
                refine VC.intro ?_ ?_
                ·
                  refine VCnew.intro fun x16 => ?_
                  refine gappend1 (g := gEdge) (T := (209 : TypeId)) G_ok A _ [H] ?_ oA (scE_own t k) (List.mem_of_getElem? (i := 0) rfl) rfl rfl rfl rfl rfl rfl rfl rfl ?_ fun b17 c17 A17 o17 => ?_
                  · exact .tl
                  · (have := (rgE_le t k).2; omega)
                  apply loop_stepA (k + 1, _, _, _)
                  · exact .refl _
                  · repeat' (first | exact trivial | refine ⟨⟨_, rfl, by first | rfl | exact inc_eq _ (by omega) | (refine sl_eq ?_; simp; done), by first | exact trivial | simp [SV.ok]⟩, ?_⟩)
                  · ((rw [rgE_more ‹(rgE t k).2.2 = false›]); repeat' (first | exact trivial | refine ⟨by first | rfl | simp [Blk.ent], ?_⟩))
                  · try dsimp only
                    exact ⟨by omega, by omega, by (rw [rgE_more ‹(rgE t k).2.2 = false›]; assumption)⟩
                  try dsimp only
                  omega
                ·
                  refine VC.intro ?_ ?_
                  ·
                    refine VCnew.intro fun x18 => ?_
                    refine gappend1 (g := gEdge) (T := (209 : TypeId)) G_ok A _ [H] ?_ oA (scE_own t k) (List.mem_of_getElem? (i := 0) rfl) rfl rfl rfl rfl rfl rfl rfl rfl ?_ fun b19 c19 A19 o19 => ?_
                    · exact .tl
                    · (have := (rgE_le t k).2; omega)
                    apply loop_stepA (k + 1, _, _, _)
                    · exact .refl _
                    · repeat' (first | exact trivial | refine ⟨⟨_, rfl, by first | rfl | exact inc_eq _ (by omega) | (refine sl_eq ?_; simp; done), by first | exact trivial | simp [SV.ok]⟩, ?_⟩)
                    · ((rw [rgE_more ‹(rgE t k).2.2 = false›]); repeat' (first | exact trivial | refine ⟨by first | rfl | simp [Blk.ent], ?_⟩))
                    · try dsimp only
                      exact ⟨by omega, by omega, by (rw [rgE_more ‹(rgE t k).2.2 = false›]; assumption)⟩
                    try dsimp only
                    omega
                  ·
                    exact trivial
              ·
                exact trivial
          ·
            exact trivial
      ·
        simp at q7
        refine callR_blk 1 ([]) [A, H] rfl ?_ (scDone_ct _ _ _ _ _ rfl ?_ ?_) trivial ?_
        · exact .refl _
        · trivial
        · exact (rgE_le t k).1
        rintro _ A20 ⟨rfl, rfl⟩
        refine ⟨_, _, [], rfl, perm0, ?_⟩
        refine VCsplit.intro (fun q21 => ?_) (fun q21 => ?_)
        ·
          simp at q21
          (have hf : rgE t (min (rgC t).1 41) = rgE t k := rgE_fin hc hk (by first | exact .inl (by omega) | exact .inr (.inl (by omega)) | exact .inr (.inr ‹(rgE t k).2.2 = true›)); have hn := rgI_no hf (fun e => by (obtain ⟨a1, a2, a3, a4⟩ := e; first | omega | exact absurd (a1.symm.trans ‹(rgE t k).2.2 = true›) (by decide) | exact absurd (a4.symm.trans ‹graphOk _ = false›) (by decide) | exact absurd a3 ‹_› | simp_all)); obtain ⟨e1, e2⟩ := rg_none hn; rw [e1, e2]; exact ⟨[], ⟨none, 0, rfl, sl_nil _ _ _⟩, (.le fun a => by (try simp only [setR, List.cons_append, List.nil_append]); simp [List.count_cons, Blk.ent, idOf]; try omega)⟩)
        ·
          simp at q21
          refine VCsplit.intro (fun q22 => ?_) (fun q22 => ?_)
          ·
            simp at q22
            (have hf : rgE t (min (rgC t).1 41) = rgE t k := rgE_fin hc hk (by first | exact .inl (by omega) | exact .inr (.inl (by omega)) | exact .inr (.inr ‹(rgE t k).2.2 = true›)); have hn := rgI_no hf (fun e => by (obtain ⟨a1, a2, a3, a4⟩ := e; first | omega | exact absurd (a1.symm.trans ‹(rgE t k).2.2 = true›) (by decide) | exact absurd (a4.symm.trans ‹graphOk _ = false›) (by decide) | exact absurd a3 ‹_› | simp_all)); obtain ⟨e1, e2⟩ := rg_none hn; rw [e1, e2]; exact ⟨[], ⟨none, 0, rfl, sl_nil _ _ _⟩, (.le fun a => by (try simp only [setR, List.cons_append, List.nil_append]); simp [List.count_cons, Blk.ent, idOf]; try omega)⟩)
          ·
            simp at q22
            refine call_val (implGraphOk_ct _ ⟨((rgS t).1 : Nat), (rgE t k).1⟩) (gGraph_rd.2 ⟨_, _, rfl, okI_n hS.2, Rp.mono _ (mem_at 0 rfl) (Gt.owrd _ oA)⟩) ?_
            rintro _ rfl
            refine VCsplit.intro (fun q24 => ?_) (fun q24 => ?_)
            ·
              simp at q24
              (have hf : rgE t (min (rgC t).1 41) = rgE t k := rgE_fin hc hk (by first | exact .inl (by omega) | exact .inr (.inl (by omega)) | exact .inr (.inr ‹(rgE t k).2.2 = true›)); have hn := rgI_no hf (fun e => by (obtain ⟨a1, a2, a3, a4⟩ := e; first | omega | exact absurd (a1.symm.trans ‹(rgE t k).2.2 = true›) (by decide) | exact absurd (a4.symm.trans ‹graphOk _ = false›) (by decide) | exact absurd a3 ‹_› | simp_all)); obtain ⟨e1, e2⟩ := rg_none hn; rw [e1, e2]; exact ⟨[], ⟨none, 0, rfl, sl_nil _ _ _⟩, (.le fun a => by (try simp only [setR, List.cons_append, List.nil_append]); simp [List.count_cons, Blk.ent, idOf]; try omega)⟩)
            ·
              simp at q24
              (have hf : rgE t (min (rgC t).1 41) = rgE t k := rgE_fin hc hk (by first | exact .inl (by omega) | exact .inr (.inl (by omega)) | exact .inr (.inr ‹(rgE t k).2.2 = true›)); have hn := rgI_yes hf ⟨by simp_all, by simp_all, by omega, ‹graphOk _ = true›⟩; obtain ⟨e1, e2⟩ := rg_some hn; rw [e1, e2]; exact ⟨_, ⟨_, _, rfl, oA⟩, (.le fun a => by (try simp only [setR, List.cons_append, List.nil_append]); simp [List.count_cons, Blk.ent, idOf]; try omega)⟩)
    ·
      simp at q6
      refine callR_blk 1 ([]) [A, H] rfl ?_ (scDone_ct _ _ _ _ _ rfl ?_ ?_) trivial ?_
      · exact .refl _
      · trivial
      · exact (rgE_le t k).1
      rintro _ A25 ⟨rfl, rfl⟩
      refine ⟨_, _, [], rfl, perm0, ?_⟩
      refine VCsplit.intro (fun q26 => ?_) (fun q26 => ?_)
      ·
        simp at q26
        (have hf : rgE t (min (rgC t).1 41) = rgE t k := rgE_fin hc hk (by first | exact .inl (by omega) | exact .inr (.inl (by omega)) | exact .inr (.inr ‹(rgE t k).2.2 = true›)); have hn := rgI_no hf (fun e => by (obtain ⟨a1, a2, a3, a4⟩ := e; first | omega | exact absurd (a1.symm.trans ‹(rgE t k).2.2 = true›) (by decide) | exact absurd (a4.symm.trans ‹graphOk _ = false›) (by decide) | exact absurd a3 ‹_› | simp_all)); obtain ⟨e1, e2⟩ := rg_none hn; rw [e1, e2]; exact ⟨[], ⟨none, 0, rfl, sl_nil _ _ _⟩, (.le fun a => by (try simp only [setR, List.cons_append, List.nil_append]); simp [List.count_cons, Blk.ent, idOf]; try omega)⟩)
      ·
        simp at q26
        refine VCsplit.intro (fun q27 => ?_) (fun q27 => ?_)
        ·
          simp at q27
          (have hf : rgE t (min (rgC t).1 41) = rgE t k := rgE_fin hc hk (by first | exact .inl (by omega) | exact .inr (.inl (by omega)) | exact .inr (.inr ‹(rgE t k).2.2 = true›)); have hn := rgI_no hf (fun e => by (obtain ⟨a1, a2, a3, a4⟩ := e; first | omega | exact absurd (a1.symm.trans ‹(rgE t k).2.2 = true›) (by decide) | exact absurd (a4.symm.trans ‹graphOk _ = false›) (by decide) | exact absurd a3 ‹_› | simp_all)); obtain ⟨e1, e2⟩ := rg_none hn; rw [e1, e2]; exact ⟨[], ⟨none, 0, rfl, sl_nil _ _ _⟩, (.le fun a => by (try simp only [setR, List.cons_append, List.nil_append]); simp [List.count_cons, Blk.ent, idOf]; try omega)⟩)
        ·
          simp at q27
          refine call_val (implGraphOk_ct _ ⟨((rgS t).1 : Nat), (rgE t k).1⟩) (gGraph_rd.2 ⟨_, _, rfl, okI_n hS.2, Rp.mono _ (mem_at 0 rfl) (Gt.owrd _ oA)⟩) ?_
          rintro _ rfl
          refine VCsplit.intro (fun q29 => ?_) (fun q29 => ?_)
          ·
            simp at q29
            (have hf : rgE t (min (rgC t).1 41) = rgE t k := rgE_fin hc hk (by first | exact .inl (by omega) | exact .inr (.inl (by omega)) | exact .inr (.inr ‹(rgE t k).2.2 = true›)); have hn := rgI_no hf (fun e => by (obtain ⟨a1, a2, a3, a4⟩ := e; first | omega | exact absurd (a1.symm.trans ‹(rgE t k).2.2 = true›) (by decide) | exact absurd (a4.symm.trans ‹graphOk _ = false›) (by decide) | exact absurd a3 ‹_› | simp_all)); obtain ⟨e1, e2⟩ := rg_none hn; rw [e1, e2]; exact ⟨[], ⟨none, 0, rfl, sl_nil _ _ _⟩, (.le fun a => by (try simp only [setR, List.cons_append, List.nil_append]); simp [List.count_cons, Blk.ent, idOf]; try omega)⟩)
          ·
            simp at q29
            (have hf : rgE t (min (rgC t).1 41) = rgE t k := rgE_fin hc hk (by first | exact .inl (by omega) | exact .inr (.inl (by omega)) | exact .inr (.inr ‹(rgE t k).2.2 = true›)); have hn := rgI_yes hf ⟨by simp_all, by simp_all, by omega, ‹graphOk _ = true›⟩; obtain ⟨e1, e2⟩ := rg_some hn; rw [e1, e2]; exact ⟨_, ⟨_, _, rfl, oA⟩, (.le fun a => by (try simp only [setR, List.cons_append, List.nil_append]); simp [List.count_cons, Blk.ent, idOf]; try omega)⟩)
  ·
    simp at q5
    refine callR_blk 1 ([]) [A, H] rfl ?_ (scDone_ct _ _ _ _ _ rfl ?_ ?_) trivial ?_
    · exact .refl _
    · trivial
    · exact (rgE_le t k).1
    rintro _ A30 ⟨rfl, rfl⟩
    refine ⟨_, _, [], rfl, perm0, ?_⟩
    refine VCsplit.intro (fun q31 => ?_) (fun q31 => ?_)
    ·
      simp at q31
      (have hf : rgE t (min (rgC t).1 41) = rgE t k := rgE_fin hc hk (by first | exact .inl (by omega) | exact .inr (.inl (by omega)) | exact .inr (.inr ‹(rgE t k).2.2 = true›)); have hn := rgI_no hf (fun e => by (obtain ⟨a1, a2, a3, a4⟩ := e; first | omega | exact absurd (a1.symm.trans ‹(rgE t k).2.2 = true›) (by decide) | exact absurd (a4.symm.trans ‹graphOk _ = false›) (by decide) | exact absurd a3 ‹_› | simp_all)); obtain ⟨e1, e2⟩ := rg_none hn; rw [e1, e2]; exact ⟨[], ⟨none, 0, rfl, sl_nil _ _ _⟩, (.le fun a => by (try simp only [setR, List.cons_append, List.nil_append]); simp [List.count_cons, Blk.ent, idOf]; try omega)⟩)
    ·
      simp at q31
      refine VCsplit.intro (fun q32 => ?_) (fun q32 => ?_)
      ·
        simp at q32
        (have hf : rgE t (min (rgC t).1 41) = rgE t k := rgE_fin hc hk (by first | exact .inl (by omega) | exact .inr (.inl (by omega)) | exact .inr (.inr ‹(rgE t k).2.2 = true›)); have hn := rgI_no hf (fun e => by (obtain ⟨a1, a2, a3, a4⟩ := e; first | omega | exact absurd (a1.symm.trans ‹(rgE t k).2.2 = true›) (by decide) | exact absurd (a4.symm.trans ‹graphOk _ = false›) (by decide) | exact absurd a3 ‹_› | simp_all)); obtain ⟨e1, e2⟩ := rg_none hn; rw [e1, e2]; exact ⟨[], ⟨none, 0, rfl, sl_nil _ _ _⟩, (.le fun a => by (try simp only [setR, List.cons_append, List.nil_append]); simp [List.count_cons, Blk.ent, idOf]; try omega)⟩)
      ·
        simp at q32
        refine call_val (implGraphOk_ct _ ⟨((rgS t).1 : Nat), (rgE t k).1⟩) (gGraph_rd.2 ⟨_, _, rfl, okI_n hS.2, Rp.mono _ (mem_at 0 rfl) (Gt.owrd _ oA)⟩) ?_
        rintro _ rfl
        refine VCsplit.intro (fun q34 => ?_) (fun q34 => ?_)
        ·
          simp at q34
          (have hf : rgE t (min (rgC t).1 41) = rgE t k := rgE_fin hc hk (by first | exact .inl (by omega) | exact .inr (.inl (by omega)) | exact .inr (.inr ‹(rgE t k).2.2 = true›)); have hn := rgI_no hf (fun e => by (obtain ⟨a1, a2, a3, a4⟩ := e; first | omega | exact absurd (a1.symm.trans ‹(rgE t k).2.2 = true›) (by decide) | exact absurd (a4.symm.trans ‹graphOk _ = false›) (by decide) | exact absurd a3 ‹_› | simp_all)); obtain ⟨e1, e2⟩ := rg_none hn; rw [e1, e2]; exact ⟨[], ⟨none, 0, rfl, sl_nil _ _ _⟩, (.le fun a => by (try simp only [setR, List.cons_append, List.nil_append]); simp [List.count_cons, Blk.ent, idOf]; try omega)⟩)
        ·
          simp at q34
          (have hf : rgE t (min (rgC t).1 41) = rgE t k := rgE_fin hc hk (by first | exact .inl (by omega) | exact .inr (.inl (by omega)) | exact .inr (.inr ‹(rgE t k).2.2 = true›)); have hn := rgI_yes hf ⟨by simp_all, by simp_all, by omega, ‹graphOk _ = true›⟩; obtain ⟨e1, e2⟩ := rg_some hn; rw [e1, e2]; exact ⟨_, ⟨_, _, rfl, oA⟩, (.le fun a => by (try simp only [setR, List.cons_append, List.nil_append]); simp [List.count_cons, Blk.ent, idOf]; try omega)⟩)
--@ct spec.ReadGraph new specReadGraph_ct _ ?_ | trivial | obtain ⟨b#, c#, rfl, o#⟩ := o#
theorem specReadGraph_ct (t : ByteArray) (ht : t.size ≤ 1152921504606846976) :
    Ct Tryz.prog 250 [.string t] [] (fun _ => True) (fun v A => ∃ b c, v = .tuple #[.agg ⟨[.int .i64 (rgR t).size, .slice b (rgR t).edges.length c]⟩, .bool (readGraph t).isSome] ∧ (gSl 209 gEdge).ow [.slice b (rgR t).edges.length c] (rgR t).edges A) := by
  refine Ct.intro0 G_ok Tryz.func250 rfl rfl rfl fun E H hp => ?_
  have hS := rgS_le t
  have hC := rgC_le t
  have hcD : (scNum t ((scNum t (0, false)).2.1, (scNum t (0, false)).2.2)).1 = (rgC t).1 := rfl
  refine VCnew.intro fun x0 => ?_
  refine VCnew.intro fun x1 => ?_
  refine callR_blk 1 ([]) [H] rfl ?_ (l03Var_ct _ _ _ _ _ rfl ?_ ?_) trivial ?_
  · exact .refl _
  · trivial
  · (simp only [inU8, u8_wrap]; omega)
  rintro _ A2 ⟨rfl, rfl⟩
  refine ⟨_, _, [], rfl, perm0, ?_⟩
  refine VCnew.intro fun x3 => ?_
  refine callR_blk 1 ([]) [H] rfl ?_ (l03Var_ct _ _ _ _ _ rfl ?_ ?_) trivial ?_
  · exact .refl _
  · trivial
  · exact hS.1
  rintro _ A4 ⟨rfl, rfl⟩
  refine ⟨_, _, [], rfl, perm0, ?_⟩
  apply loop_mod (α := (Nat) × (Hp) × (Option Addr) × (Nat)) G_ok [19, 20, 21, 22, 23, 24, 25, 26, 27, 28, 29, 30, 31, 32, 35, 36, 37, 8, 38, 39, 40, 41, 42, 43, 44, 45, 46, 47, 48, 49, 50, 33, 34, 7] (fun z => [(7, .v (.int .i64 z.1))]) (fun z => [⟨x0, [Value.int IntKind.i64 (0 : Int), Value.slice none (0 : Nat) (0 : Nat)], (88 : Nat)⟩, ⟨x1, [Value.string t, .int .i64 ((rgE t z.1).2.1 : Nat), .bool (rgE t z.1).2.2], (397 : Nat)⟩, ⟨x3, [Value.int IntKind.i64 (↑(scNum t (nat_lit 0, false)).fst : Int), .slice z.2.2.1 (rgE t z.1).1.length z.2.2.2], (88 : Nat)⟩]) (fun z => [z.2.1, H]) (fun z => 50 - z.1) (fun z => z.1 ≤ 50 ∧ z.1 ≤ (rgC t).1 ∧ (gSl 209 gEdge).ow [.slice z.2.2.1 (rgE t z.1).1.length z.2.2.2] (rgE t z.1).1 z.2.1) ((0, [], none, 0))
  · repeat' (first | exact trivial | refine ⟨⟨_, rfl, by first | rfl | exact inc_eq _ (by omega) | (refine sl_eq ?_; simp; done), by first | exact trivial | simp [SV.ok]⟩, ?_⟩)
  · exact ⟨rfl, rfl, rfl, trivial⟩
  · try dsimp only
    exact ⟨by omega, by omega, sl_nil _ _ _⟩
  · exact .refl _
  rintro ⟨k, A, lb, lc⟩ hI
  obtain ⟨hk, hc, oA⟩ : k ≤ 50 ∧ k ≤ (rgC t).1 ∧ (gSl 209 gEdge).ow [.slice lb (rgE t k).1.length lc] (rgE t k).1 A := hI
  try dsimp only
  refine VCsplit.intro (fun q5 => ?_) (fun q5 => ?_)
  ·
    simp at q5
    refine VCsplit.intro (fun q6 => ?_) (fun q6 => ?_)
    ·
      simp at q6
      refine VCsplit.intro (fun q7 => ?_) (fun q7 => ?_)
      ·
        simp at q7
        refine callR_blk 1 ([]) [A, H] rfl ?_ (l03Var_ct _ _ _ _ _ rfl ?_ ?_) trivial ?_
        · exact .refl _
        · trivial
        · exact (rgE_le t k).1
        rintro _ A8 ⟨rfl, rfl⟩
        refine ⟨_, _, [], rfl, perm0, ?_⟩
        refine VCnew.intro fun x9 => ?_
        refine callR_blk 1 ([]) [A, H] rfl ?_ (l03Byte_ct _ _ _ _ _ rfl ?_ ?_) trivial ?_
        · exact .refl _
        · trivial
        · exact (scNum_le (s := ((rgE t k).2.1, (rgE t k).2.2)) (rgE_le t k).1).1
        rintro _ A10 ⟨rfl, rfl⟩
        refine ⟨_, _, [], rfl, perm0, ?_⟩
        refine callR_blk 1 ([]) [A, H] rfl ?_ (l03Var_ct _ _ _ _ _ rfl ?_ ?_) trivial ?_
        · exact .refl _
        · trivial
        · exact scByte_le (s := ((scNum t ((rgE t k).2.1, (rgE t k).2.2)).2.1, (scNum t ((rgE t k).2.1, (rgE t k).2.2)).2.2)) (scNum_le (s := ((rgE t k).2.1, (rgE t k).2.2)) (rgE_le t k).1).1
        rintro _ A11 ⟨rfl, rfl⟩
        refine ⟨_, _, [], rfl, perm0, ?_⟩
        refine VCnew.intro fun x12 => ?_
        refine gappend1 (g := gEdge) (T := (209 : TypeId)) G_ok A _ [H] ?_ oA (scE_own2 t k) (List.mem_of_getElem? (i := 0) rfl) rfl rfl rfl rfl rfl rfl rfl rfl ?_ fun b13 c13 A13 o13 => ?_
        · exact .tl
        · (have := (rgE_le t k).2; omega)
        apply loop_stepA (k + 1, _, _, _)
        · exact .refl _
        · repeat' (first | exact trivial | refine ⟨⟨_, rfl, by first | rfl | exact inc_eq _ (by omega) | (refine sl_eq ?_; simp; done), by first | exact trivial | simp [SV.ok]⟩, ?_⟩)
        · ((rw [rgE_more ‹(rgE t k).2.2 = false›]); repeat' (first | exact trivial | refine ⟨by first | rfl | simp [Blk.ent], ?_⟩))
        · try dsimp only
          exact ⟨by omega, by omega, by (rw [rgE_more ‹(rgE t k).2.2 = false›]; assumption)⟩
        try dsimp only
        omega
      ·
        simp at q7
        refine call_val (specGraphText_ct _ ⟨((rgS t).1 : Nat), (rgE t k).1⟩) (gGraph_rd.2 ⟨_, _, rfl, okI_n hS.2, Rp.mono _ (mem_at 0 rfl) (Gt.owrd _ oA)⟩) ?_
        rintro _ rfl
        refine VCsplit.intro (fun q15 => ?_) (fun q15 => ?_)
        ·
          (have hf : rgE t (min (rgC t).1 50) = rgE t k := rgE_fin hc hk (by first | exact .inl (by omega) | exact .inr (.inl (by omega)) | exact .inr (.inr ‹(rgE t k).2.2 = true›)); have hn := rgS_no hf (fun e => by (obtain ⟨a1, a2, a3⟩ := e; first | omega | exact absurd (a1.symm.trans ‹(rgE t k).2.2 = true›) (by decide) | exact absurd (a2.symm.trans ‹graphOk _ = false›) (by decide) | exact absurd a3 ‹_› | simp_all)); obtain ⟨e1, e2⟩ := rg_none hn; rw [e1, e2]; exact ⟨[], ⟨none, 0, rfl, sl_nil _ _ _⟩, (.le fun a => by (try simp only [setR, List.cons_append, List.nil_append]); simp [List.count_cons, Blk.ent, idOf]; try omega)⟩)
        ·
          refine VCsplit.intro (fun q16 => ?_) (fun q16 => ?_)
          ·
            simp at q16
            (have hf : rgE t (min (rgC t).1 50) = rgE t k := rgE_fin hc hk (by first | exact .inl (by omega) | exact .inr (.inl (by omega)) | exact .inr (.inr ‹(rgE t k).2.2 = true›)); have hn := rgS_no hf (fun e => by (obtain ⟨a1, a2, a3⟩ := e; first | omega | exact absurd (a1.symm.trans ‹(rgE t k).2.2 = true›) (by decide) | exact absurd (a2.symm.trans ‹graphOk _ = false›) (by decide) | exact absurd a3 ‹_› | simp_all)); obtain ⟨e1, e2⟩ := rg_none hn; rw [e1, e2]; exact ⟨[], ⟨none, 0, rfl, sl_nil _ _ _⟩, (.le fun a => by (try simp only [setR, List.cons_append, List.nil_append]); simp [List.count_cons, Blk.ent, idOf]; try omega)⟩)
          ·
            simp at q16
            refine VCsplit.intro (fun q17 => ?_) (fun q17 => ?_)
            ·
              simp at q17
              simp only [str_inj, u8_inj, u8_wrap] at q17
              (have hf : rgE t (min (rgC t).1 50) = rgE t k := rgE_fin hc hk (by first | exact .inl (by omega) | exact .inr (.inl (by omega)) | exact .inr (.inr ‹(rgE t k).2.2 = true›)); have hn := rgS_no hf (fun e => by (obtain ⟨a1, a2, a3⟩ := e; first | omega | exact absurd (a1.symm.trans ‹(rgE t k).2.2 = true›) (by decide) | exact absurd (a2.symm.trans ‹graphOk _ = false›) (by decide) | exact absurd a3 ‹_› | simp_all)); obtain ⟨e1, e2⟩ := rg_none hn; rw [e1, e2]; exact ⟨[], ⟨none, 0, rfl, sl_nil _ _ _⟩, (.le fun a => by (try simp only [setR, List.cons_append, List.nil_append]); simp [List.count_cons, Blk.ent, idOf]; try omega)⟩)
            ·
              simp at q17
              simp only [str_inj, u8_inj, u8_wrap] at q17
              (have hf : rgE t (min (rgC t).1 50) = rgE t k := rgE_fin hc hk (by first | exact .inl (by omega) | exact .inr (.inl (by omega)) | exact .inr (.inr ‹(rgE t k).2.2 = true›)); have hn := rgS_yes hf ⟨by simp_all, ‹graphOk _ = true›, by simp_all⟩; obtain ⟨e1, e2⟩ := rg_some hn; rw [e1, e2]; exact ⟨_, ⟨_, _, rfl, oA⟩, (.le fun a => by (try simp only [setR, List.cons_append, List.nil_append]); simp [List.count_cons, Blk.ent, idOf]; try omega)⟩)
    ·
      simp at q6
      refine call_val (specGraphText_ct _ ⟨((rgS t).1 : Nat), (rgE t k).1⟩) (gGraph_rd.2 ⟨_, _, rfl, okI_n hS.2, Rp.mono _ (mem_at 0 rfl) (Gt.owrd _ oA)⟩) ?_
      rintro _ rfl
      refine VCsplit.intro (fun q19 => ?_) (fun q19 => ?_)
      ·
        (have hf : rgE t (min (rgC t).1 50) = rgE t k := rgE_fin hc hk (by first | exact .inl (by omega) | exact .inr (.inl (by omega)) | exact .inr (.inr ‹(rgE t k).2.2 = true›)); have hn := rgS_no hf (fun e => by (obtain ⟨a1, a2, a3⟩ := e; first | omega | exact absurd (a1.symm.trans ‹(rgE t k).2.2 = true›) (by decide) | exact absurd (a2.symm.trans ‹graphOk _ = false›) (by decide) | exact absurd a3 ‹_› | simp_all)); obtain ⟨e1, e2⟩ := rg_none hn; rw [e1, e2]; exact ⟨[], ⟨none, 0, rfl, sl_nil _ _ _⟩, (.le fun a => by (try simp only [setR, List.cons_append, List.nil_append]); simp [List.count_cons, Blk.ent, idOf]; try omega)⟩)
      ·
        refine VCsplit.intro (fun q20 => ?_) (fun q20 => ?_)
        ·
          simp at q20
          (have hf : rgE t (min (rgC t).1 50) = rgE t k := rgE_fin hc hk (by first | exact .inl (by omega) | exact .inr (.inl (by omega)) | exact .inr (.inr ‹(rgE t k).2.2 = true›)); have hn := rgS_no hf (fun e => by (obtain ⟨a1, a2, a3⟩ := e; first | omega | exact absurd (a1.symm.trans ‹(rgE t k).2.2 = true›) (by decide) | exact absurd (a2.symm.trans ‹graphOk _ = false›) (by decide) | exact absurd a3 ‹_› | simp_all)); obtain ⟨e1, e2⟩ := rg_none hn; rw [e1, e2]; exact ⟨[], ⟨none, 0, rfl, sl_nil _ _ _⟩, (.le fun a => by (try simp only [setR, List.cons_append, List.nil_append]); simp [List.count_cons, Blk.ent, idOf]; try omega)⟩)
        ·
          simp at q20
          refine VCsplit.intro (fun q21 => ?_) (fun q21 => ?_)
          ·
            simp at q21
            simp only [str_inj, u8_inj, u8_wrap] at q21
            (have hf : rgE t (min (rgC t).1 50) = rgE t k := rgE_fin hc hk (by first | exact .inl (by omega) | exact .inr (.inl (by omega)) | exact .inr (.inr ‹(rgE t k).2.2 = true›)); have hn := rgS_no hf (fun e => by (obtain ⟨a1, a2, a3⟩ := e; first | omega | exact absurd (a1.symm.trans ‹(rgE t k).2.2 = true›) (by decide) | exact absurd (a2.symm.trans ‹graphOk _ = false›) (by decide) | exact absurd a3 ‹_› | simp_all)); obtain ⟨e1, e2⟩ := rg_none hn; rw [e1, e2]; exact ⟨[], ⟨none, 0, rfl, sl_nil _ _ _⟩, (.le fun a => by (try simp only [setR, List.cons_append, List.nil_append]); simp [List.count_cons, Blk.ent, idOf]; try omega)⟩)
          ·
            simp at q21
            simp only [str_inj, u8_inj, u8_wrap] at q21
            (have hf : rgE t (min (rgC t).1 50) = rgE t k := rgE_fin hc hk (by first | exact .inl (by omega) | exact .inr (.inl (by omega)) | exact .inr (.inr ‹(rgE t k).2.2 = true›)); have hn := rgS_yes hf ⟨by simp_all, ‹graphOk _ = true›, by simp_all⟩; obtain ⟨e1, e2⟩ := rg_some hn; rw [e1, e2]; exact ⟨_, ⟨_, _, rfl, oA⟩, (.le fun a => by (try simp only [setR, List.cons_append, List.nil_append]); simp [List.count_cons, Blk.ent, idOf]; try omega)⟩)
  ·
    simp at q5
    refine call_val (specGraphText_ct _ ⟨((rgS t).1 : Nat), (rgE t k).1⟩) (gGraph_rd.2 ⟨_, _, rfl, okI_n hS.2, Rp.mono _ (mem_at 0 rfl) (Gt.owrd _ oA)⟩) ?_
    rintro _ rfl
    refine VCsplit.intro (fun q23 => ?_) (fun q23 => ?_)
    ·
      (have hf : rgE t (min (rgC t).1 50) = rgE t k := rgE_fin hc hk (by first | exact .inl (by omega) | exact .inr (.inl (by omega)) | exact .inr (.inr ‹(rgE t k).2.2 = true›)); have hn := rgS_no hf (fun e => by (obtain ⟨a1, a2, a3⟩ := e; first | omega | exact absurd (a1.symm.trans ‹(rgE t k).2.2 = true›) (by decide) | exact absurd (a2.symm.trans ‹graphOk _ = false›) (by decide) | exact absurd a3 ‹_› | simp_all)); obtain ⟨e1, e2⟩ := rg_none hn; rw [e1, e2]; exact ⟨[], ⟨none, 0, rfl, sl_nil _ _ _⟩, (.le fun a => by (try simp only [setR, List.cons_append, List.nil_append]); simp [List.count_cons, Blk.ent, idOf]; try omega)⟩)
    ·
      refine VCsplit.intro (fun q24 => ?_) (fun q24 => ?_)
      ·
        simp at q24
        (have hf : rgE t (min (rgC t).1 50) = rgE t k := rgE_fin hc hk (by first | exact .inl (by omega) | exact .inr (.inl (by omega)) | exact .inr (.inr ‹(rgE t k).2.2 = true›)); have hn := rgS_no hf (fun e => by (obtain ⟨a1, a2, a3⟩ := e; first | omega | exact absurd (a1.symm.trans ‹(rgE t k).2.2 = true›) (by decide) | exact absurd (a2.symm.trans ‹graphOk _ = false›) (by decide) | exact absurd a3 ‹_› | simp_all)); obtain ⟨e1, e2⟩ := rg_none hn; rw [e1, e2]; exact ⟨[], ⟨none, 0, rfl, sl_nil _ _ _⟩, (.le fun a => by (try simp only [setR, List.cons_append, List.nil_append]); simp [List.count_cons, Blk.ent, idOf]; try omega)⟩)
      ·
        simp at q24
        refine VCsplit.intro (fun q25 => ?_) (fun q25 => ?_)
        ·
          simp at q25
          simp only [str_inj, u8_inj, u8_wrap] at q25
          (have hf : rgE t (min (rgC t).1 50) = rgE t k := rgE_fin hc hk (by first | exact .inl (by omega) | exact .inr (.inl (by omega)) | exact .inr (.inr ‹(rgE t k).2.2 = true›)); have hn := rgS_no hf (fun e => by (obtain ⟨a1, a2, a3⟩ := e; first | omega | exact absurd (a1.symm.trans ‹(rgE t k).2.2 = true›) (by decide) | exact absurd (a2.symm.trans ‹graphOk _ = false›) (by decide) | exact absurd a3 ‹_› | simp_all)); obtain ⟨e1, e2⟩ := rg_none hn; rw [e1, e2]; exact ⟨[], ⟨none, 0, rfl, sl_nil _ _ _⟩, (.le fun a => by (try simp only [setR, List.cons_append, List.nil_append]); simp [List.count_cons, Blk.ent, idOf]; try omega)⟩)
        ·
          simp at q25
          simp only [str_inj, u8_inj, u8_wrap] at q25
          (have hf : rgE t (min (rgC t).1 50) = rgE t k := rgE_fin hc hk (by first | exact .inl (by omega) | exact .inr (.inl (by omega)) | exact .inr (.inr ‹(rgE t k).2.2 = true›)); have hn := rgS_yes hf ⟨by simp_all, ‹graphOk _ = true›, by simp_all⟩; obtain ⟨e1, e2⟩ := rg_some hn; rw [e1, e2]; exact ⟨_, ⟨_, _, rfl, oA⟩, (.le fun a => by (try simp only [setR, List.cons_append, List.nil_append]); simp [List.count_cons, Blk.ent, idOf]; try omega)⟩)
end Go.Proofs.YtjgehblllhkdbaaGreat

namespace Go.Proofs.YtjgehblllhkdbaaGreat
open Go.SX Go.Proofs
set_option linter.unusedSimpArgs false
set_option linter.unusedVariables false
set_option maxHeartbeats 1000000
attribute [local irreducible] IntKind.wrap
def lastG (l : List ByteArray) : Option Graph := (l.filterMap readGraph).getLast?
def readPart (d : Disk) : Option Graph := lastG (recordsOf d (ByteArray.mk #[112, 97, 114, 116]))
def rpR (d : Disk) : Graph := (readPart d).getD ⟨0, []⟩
theorem lastG_nil {l : List ByteArray} (h : l.filterMap readGraph = []) : lastG l = none := by unfold lastG; rw [h]; rfl
theorem lastG_at {l : List ByteArray} {k : Nat} (hk : k < l.length) (h : (l.drop (k + 1)).filterMap readGraph = []) {g : Graph} (hg : readGraph (l[k]?.getD .empty) = some g) : lastG l = some g := by
  have h1 : l = l.take k ++ (l[k]?.getD .empty :: l.drop (k + 1)) := by
    rw [List.getElem?_eq_getElem hk, Option.getD_some, ← List.drop_eq_getElem_cons hk, List.take_append_drop]
  unfold lastG
  rw [h1, List.filterMap_append, List.filterMap_cons, hg, h]
  simp
theorem drop_none {l : List ByteArray} {k : Nat} (hk : k < l.length) (h : (l.drop (k + 1)).filterMap readGraph = []) (hg : readGraph (l[k]?.getD .empty) = none) : (l.drop k).filterMap readGraph = [] := by
  rw [List.getElem?_eq_getElem hk, Option.getD_some] at hg
  rw [List.drop_eq_getElem_cons hk, List.filterMap_cons, hg]; exact h
theorem lastG_step {l : List ByteArray} {k : Nat} (hk : k < l.length) : lastG (l.take (k + 1)) = match readGraph (l[k]?.getD .empty) with
  | some g => some g
  | none => lastG (l.take k) := by
  rw [← List.take_append_getElem hk, List.getElem?_eq_getElem hk, Option.getD_some]
  unfold lastG
  rw [List.filterMap_append]
  cases h : readGraph l[k] <;> simp [h]
theorem rgR_some {t : ByteArray} (h : (readGraph t).isSome = true) : readGraph t = some (rgR t) := by
  unfold rgR; cases e : readGraph t with
  | none => rw [e] at h; cases h
  | some g => rfl
theorem rp_none {d : Disk} (h : readPart d = none) : rpR d = ⟨0, []⟩ ∧ (readPart d).isSome = false := by unfold rpR; rw [h]; exact ⟨rfl, rfl⟩
theorem rp_some {d : Disk} {g : Graph} (h : readPart d = some g) : rpR d = g ∧ (readPart d).isSome = true := by unfold rpR; rw [h]; exact ⟨rfl, rfl⟩
def lgR (l : List ByteArray) : Graph := (lastG l).getD ⟨0, []⟩
theorem lg_yes {l : List ByteArray} {k : Nat} (hk : k < l.length) (h : (readGraph (l[k]?.getD .empty)).isSome = true) : lgR (l.take (k + 1)) = rgR (l[k]?.getD .empty) ∧ (lastG (l.take (k + 1))).isSome = true := by
  have h1 := lastG_step hk
  rw [rgR_some h] at h1
  unfold lgR; rw [h1]; exact ⟨rfl, rfl⟩
theorem lg_no {l : List ByteArray} {k : Nat} (hk : k < l.length) (h : readGraph (l[k]?.getD .empty) = none) : lgR (l.take (k + 1)) = lgR (l.take k) ∧ (lastG (l.take (k + 1))).isSome = (lastG (l.take k)).isSome := by
  have h1 := lastG_step hk
  rw [h] at h1
  unfold lgR; rw [h1]; exact ⟨rfl, rfl⟩
theorem rp_eq {d : Disk} {l : List ByteArray} (h : recordsOf d (ByteArray.mk #[112, 97, 114, 116]) = l) : rpR d = lgR l ∧ readPart d = lastG l := by unfold rpR lgR readPart; rw [h]; exact ⟨rfl, rfl⟩
theorem rp_nil {d : Disk} (h : diskOk d = false) : readPart d = none := by unfold readPart; rw [recordsOf_no _ h]; rfl
theorem rp_def (d : Disk) : readPart d = lastG (recordsOf d (ByteArray.mk #[112, 97, 114, 116])) := rfl
attribute [local irreducible] unframe recordsOf readGraph fileText readPart rpR rgR
--@ct impl.ReadPart new implReadPart_ct _ $1 | %1 | obtain ⟨b#, c#, rfl, o#⟩ := o#
theorem implReadPart_ct (l : List Value) (d : Disk) : Ct Tryz.prog 143 [.agg ⟨l⟩] [] (fun H => gDisk.rd H l d) (fun v A => ∃ b c, v = .tuple #[.agg ⟨[.int .i64 (rpR d).size, .slice b (rpR d).edges.length c]⟩, .bool (readPart d).isSome] ∧ (gSl 209 gEdge).ow [.slice b (rpR d).edges.length c] (rpR d).edges A) := by
  refine Ct.intro0 G_ok Tryz.func143 rfl rfl rfl fun E H hp => ?_
  obtain ⟨b0p, c0p, rfl, h0p⟩ := gDisk_rd.1 hp
  have hln := rec_len d (ByteArray.mk #[112, 97, 114, 116])
  refine VCnew.intro fun x0 => ?_
  refine VCnew.intro fun x1 => ?_
  refine call_new (implRecordsOf_ct _ (d) _) (Rp.mono _ (mem_at 0 rfl) hp) ?_
  rintro v2 A2 o2
  obtain ⟨b2, c2, rfl, o2⟩ := o2
  apply loop_mod (α := (Nat)) G_ok [13, 14, 18, 19, 20, 21, 22, 17, 23, 24, 6, 7, 25, 26, 3, 15, 16, 5] (fun z => [(5, .v (.int .i64 ((z : Int) - 1)))]) (fun z => [{ id := x0, cs := [Value.slice b0p d.files.length c0p], ty := (153 : Nat) }, { id := x1, cs := [Value.int IntKind.i64 (0 : Int), Value.slice none (0 : Nat) (0 : Nat)], ty := (88 : Nat) }]) (fun z => [A2, H]) (fun z => z) (fun z => z ≤ (recordsOf d (ByteArray.mk #[112, 97, 114, 116])).length ∧ ((recordsOf d (ByteArray.mk #[112, 97, 114, 116])).drop z).filterMap readGraph = []) ((recordsOf d (ByteArray.mk #[112, 97, 114, 116])).length)
  · repeat' (first | exact trivial | refine ⟨⟨_, rfl, by first | rfl | exact inc_eq _ (by omega) | (refine sl_eq ?_; simp; done) | exact congrArg (Value.int .i64) (wrap_of (by omega) (by omega)) | exact congrArg (Value.int .i64) ((wrap_of (by omega) (by omega)).trans (by omega)), by first | exact trivial | simp [SV.ok]⟩, ?_⟩)
  · exact ⟨rfl, rfl, trivial⟩
  · exact ⟨Nat.le_refl _, by rw [List.drop_length]; rfl⟩
  · exact .refl _
  rintro k hI
  obtain ⟨hk, hd⟩ : k ≤ (recordsOf d (ByteArray.mk #[112, 97, 114, 116])).length ∧ ((recordsOf d (ByteArray.mk #[112, 97, 114, 116])).drop k).filterMap readGraph = [] := hI
  try dsimp only
  refine VCsplit.intro (fun q3 => ?_) (fun q3 => ?_)
  ·
    simp at q3
    refine idx_rd (Gt.owrd _ o2) ?_ ?_ fun b4 o4 hb4 => ?_
    · omega
    · omega
    refine load_all ByteArray.empty (Gt.owrd _ o2) ?_ ?_ hb4 rfl (mem_at 0 rfl) fun l5 hl5 => ?_
    · omega
    · omega
    obtain ⟨rfl, hw5⟩ := hl5; simp only [flStr, flInt, okI] at hw5
    refine call_new (implReadGraph_ct _ ?_) trivial ?_
    · exact rec_s _ _ _
    rintro v6 A6 o6
    obtain ⟨b6, c6, rfl, o6⟩ := o6
    refine VCnew.intro fun x7 => ?_
    refine VCsplit.intro (fun q8 => ?_) (fun q8 => ?_)
    ·
      simp at q8
      (have h1 := lastG_at (l := recordsOf d (ByteArray.mk #[112, 97, 114, 116])) (k := k - 1) (by omega) (by rw [show k - 1 + 1 = k by omega]; exact hd) (rgR_some ‹_ = true›); have ek : ((k : Int) - 1).toNat = k - 1 := (by omega); rw [← ek, ← rp_def] at h1; obtain ⟨e1, e2⟩ := rp_some h1; rw [e1, e2]; exact ⟨_, ⟨_, _, rfl, by assumption⟩, (.le fun a => by (try simp only [setR, List.cons_append, List.nil_append]); simp [List.count_cons, Blk.ent, idOf]; try omega)⟩)
    ·
      simp at q8
      apply loop_stepA (k - 1)
      · exact .sub (by repeat (first | exact .slnil | apply List.Sublist.cons_cons | apply List.Sublist.cons))
      · repeat' (first | exact trivial | refine ⟨⟨_, rfl, by first | rfl | exact inc_eq _ (by omega) | (refine sl_eq ?_; simp; done) | exact congrArg (Value.int .i64) (wrap_of (by omega) (by omega)) | exact congrArg (Value.int .i64) ((wrap_of (by omega) (by omega)).trans (by omega)), by first | exact trivial | simp [SV.ok]⟩, ?_⟩)
      · exact ⟨rfl, rfl, trivial⟩
      · exact ⟨by omega, drop_none (by omega) (by rw [show k - 1 + 1 = k by omega]; exact hd) ‹readGraph _ = none›⟩
      omega
  ·
    simp at q3
    (have h1 : readPart d = none := (rp_def d).trans (lastG_nil (by (have hk0 : k = 0 := (by omega); subst hk0; exact hd))); obtain ⟨e1, e2⟩ := rp_none h1; rw [e1, e2]; exact ⟨[], ⟨none, 0, rfl, sl_nil _ _ _⟩, (.le fun a => by (try simp only [setR, List.cons_append, List.nil_append]); simp [List.count_cons, Blk.ent, idOf]; try omega)⟩)
--@ct spec.ReadPart new specReadPart_ct _ $1 | %1 | obtain ⟨b#, c#, rfl, o#⟩ := o#
theorem specReadPart_ct (l : List Value) (d : Disk) : Ct Tryz.prog 147 [.agg ⟨l⟩] [] (fun H => gDisk.rd H l d) (fun v A => ∃ b c, v = .tuple #[.agg ⟨[.int .i64 (rpR d).size, .slice b (rpR d).edges.length c]⟩, .bool (readPart d).isSome] ∧ (gSl 209 gEdge).ow [.slice b (rpR d).edges.length c] (rpR d).edges A) := by
  refine Ct.intro0 G_ok Tryz.func147 rfl rfl rfl fun E H hp => ?_
  obtain ⟨b0p, c0p, rfl, h0p⟩ := gDisk_rd.1 hp
  have hln := rec_len d (ByteArray.mk #[112, 97, 114, 116])
  have hlu := unf_len (fileText d (ByteArray.mk #[112, 97, 114, 116]))
  refine VCnew.intro fun x0 => ?_
  refine VCnew.intro fun x1 => ?_
  refine VCnew.intro fun x2 => ?_
  refine call_val (specDiskOk_ct _ (d)) (Rp.mono _ (mem_at 0 rfl) hp) ?_
  rintro _ rfl
  refine VCsplit.intro (fun q4 => ?_) (fun q4 => ?_)
  ·
    simp at q4
    (have h1 := rp_nil ‹diskOk d = false›; obtain ⟨e1, e2⟩ := rp_none h1; rw [e1, e2]; exact ⟨[], ⟨none, 0, rfl, sl_nil _ _ _⟩, (.le fun a => by (try simp only [setR, List.cons_append, List.nil_append]); simp [List.count_cons, Blk.ent, idOf]; try omega)⟩)
  ·
    simp at q4
    refine call_val (specFileAt_ct _ (d) _) (Rp.mono _ (mem_at 0 rfl) hp) ?_
    rintro _ rfl
    refine call_new (specUnframe_ct _ ?_) trivial ?_
    · exact fileText_sz (by assumption) _
    rintro v6 A6 o6
    obtain ⟨b6, c6, rfl, o6⟩ := o6
    apply loop_mod (α := (Nat) × (Hp) × (Option Addr) × (Nat)) G_ok [28, 29, 30, 31, 35, 36, 37, 38, 39, 34, 40, 41, 11, 12, 42, 43, 5, 32, 33, 10] (fun z => [(10, .v (.int .i64 z.1)), (5, .v (.bool (lastG ((unframe (fileText d (ByteArray.mk #[112, 97, 114, 116]))).1.take z.1)).isSome))]) (fun z => [⟨x0, [Value.slice b0p d.files.length c0p], (153 : Nat)⟩, ⟨x1, [Value.int IntKind.i64 (0 : Int), Value.slice none (0 : Nat) (0 : Nat)], (88 : Nat)⟩, ⟨x2, [.int .i64 (lgR ((unframe (fileText d (ByteArray.mk #[112, 97, 114, 116]))).1.take z.1)).size, .slice z.2.2.1 (lgR ((unframe (fileText d (ByteArray.mk #[112, 97, 114, 116]))).1.take z.1)).edges.length z.2.2.2], (88 : Nat)⟩]) (fun z => [z.2.1, A6, H]) (fun z => (unframe (fileText d (ByteArray.mk #[112, 97, 114, 116]))).1.length - z.1) (fun z => z.1 ≤ (unframe (fileText d (ByteArray.mk #[112, 97, 114, 116]))).1.length ∧ (gSl 209 gEdge).ow [.slice z.2.2.1 (lgR ((unframe (fileText d (ByteArray.mk #[112, 97, 114, 116]))).1.take z.1)).edges.length z.2.2.2] (lgR ((unframe (fileText d (ByteArray.mk #[112, 97, 114, 116]))).1.take z.1)).edges z.2.1) ((0, [], none, 0))
    · repeat' (first | exact trivial | refine ⟨⟨_, rfl, by first | rfl | exact inc_eq _ (by omega) | (refine sl_eq ?_; simp; done) | (rw [(lg_yes (by omega) ‹_ = true›).2] <;> rfl) | exact congrArg Value.bool (lg_no (by omega) ‹_ = none›).2.symm | exact congrArg (fun v => SV.v (Value.bool v)) (lg_no (by omega) ‹_ = none›).2.symm, by first | exact trivial | simp [SV.ok]⟩, ?_⟩)
    · exact ⟨rfl, rfl, rfl, trivial⟩
    · try dsimp only
      exact ⟨by omega, sl_nil _ _ _⟩
    · exact .refl _
    rintro ⟨k, A, lb, lc⟩ hI
    obtain ⟨hk, oA⟩ : k ≤ (unframe (fileText d (ByteArray.mk #[112, 97, 114, 116]))).1.length ∧ (gSl 209 gEdge).ow [.slice lb (lgR ((unframe (fileText d (ByteArray.mk #[112, 97, 114, 116]))).1.take k)).edges.length lc] (lgR ((unframe (fileText d (ByteArray.mk #[112, 97, 114, 116]))).1.take k)).edges A := hI
    try dsimp only
    refine VCsplit.intro (fun q7 => ?_) (fun q7 => ?_)
    ·
      simp at q7
      refine idx_rd (Gt.owrd _ o6) ?_ ?_ fun b8 o8 hb8 => ?_
      · omega
      · omega
      refine load_allN ByteArray.empty (k) rfl (Gt.owrd _ o6) ?_ ?_ hb8 rfl (mem_at 1 rfl) fun l9 hl9 => ?_
      · omega
      · omega
      obtain ⟨rfl, hw9⟩ := hl9; simp only [flStr, flInt, okI] at hw9
      refine call_new (specReadGraph_ct _ ?_) trivial ?_
      · exact unf_s _ _
      rintro v10 A10 o10
      obtain ⟨b10, c10, rfl, o10⟩ := o10
      refine VCnew.intro fun x11 => ?_
      refine VCsplit.intro (fun q12 => ?_) (fun q12 => ?_)
      ·
        apply loop_stepA (k + 1, _, _, _)
        · exact .sub (by repeat (first | exact .slnil | apply List.Sublist.cons_cons | apply List.Sublist.cons))
        · repeat' (first | exact trivial | refine ⟨⟨_, rfl, by first | rfl | exact inc_eq _ (by omega) | (refine sl_eq ?_; simp; done) | (rw [(lg_yes (by omega) ‹_ = true›).2] <;> rfl) | exact congrArg Value.bool (lg_no (by omega) ‹_ = none›).2.symm | exact congrArg (fun v => SV.v (Value.bool v)) (lg_no (by omega) ‹_ = none›).2.symm, by first | exact trivial | simp [SV.ok]⟩, ?_⟩)
        · ((rw [(lg_yes (by omega) ‹_ = true›).1]); repeat' (first | exact trivial | refine ⟨by first | rfl | simp [Blk.ent], ?_⟩))
        · try dsimp only
          exact ⟨by omega, by (rw [(lg_yes (by omega) ‹_ = true›).1]; assumption)⟩
        try dsimp only
        omega
      ·
        simp at q12
        apply loop_stepA (k + 1, A, lb, lc)
        · exact .sub (by repeat (first | exact .slnil | apply List.Sublist.cons_cons | apply List.Sublist.cons))
        · repeat' (first | exact trivial | refine ⟨⟨_, rfl, by first | rfl | exact inc_eq _ (by omega) | (refine sl_eq ?_; simp; done) | (rw [(lg_yes (by omega) ‹_ = true›).2] <;> rfl) | exact congrArg Value.bool (lg_no (by omega) ‹_ = none›).2.symm | exact congrArg (fun v => SV.v (Value.bool v)) (lg_no (by omega) ‹_ = none›).2.symm, by first | exact trivial | simp [SV.ok]⟩, ?_⟩)
        · ((rw [(lg_no (by omega) ‹_ = none›).1]); repeat' (first | exact trivial | refine ⟨by first | rfl | simp [Blk.ent], ?_⟩))
        · try dsimp only
          exact ⟨by omega, by (rw [(lg_no (by omega) ‹_ = none›).1]; assumption)⟩
        try dsimp only
        omega
    ·
      simp at q7
      (have hke : k = (unframe (fileText d (ByteArray.mk #[112, 97, 114, 116]))).1.length := (by omega); subst hke; rw [List.take_length] at *; obtain ⟨h2, h1⟩ := rp_eq (recordsOf_yes (ByteArray.mk #[112, 97, 114, 116]) ‹diskOk d = true›); rw [h2, h1]; exact ⟨_, ⟨_, _, rfl, oA⟩, (.le fun a => by (try simp only [setR, List.cons_append, List.nil_append]); simp [List.count_cons, Blk.ent, idOf]; try omega)⟩)
end Go.Proofs.YtjgehblllhkdbaaGreat

namespace Go.Proofs.YtjgehblllhkdbaaGreat
open Go.SX Go.Proofs
set_option maxHeartbeats 1000000
theorem putE_len : ∀ {l : List Edge} (e : Edge), sortedE l → l.length ≤ (putE l e).length
  | [], e, _ => by simp
  | a :: l, e, h => by
    have h1 := (List.pairwise_cons.1 h).1
    have ih := putE_len (l := l) e (List.pairwise_cons.1 h).2
    unfold putE at *
    simp only [List.length_append, List.length_cons, List.length_nil] at *
    cases e1 : edgeLess a e with
    | true => rw [List.filter_cons_of_pos (by simpa using e1)]; simp only [List.length_cons]; have := List.length_filter_le (fun x => edgeLess e x) (a :: l); cases e2 : edgeLess e a with
      | true => rw [edgeLess_asym e1] at e2; cases e2
      | false => rw [List.filter_cons_of_neg (by simpa using e2)]; omega
    | false =>
      rw [List.filter_cons_of_neg (by simpa using e1)]
      cases e2 : edgeLess e a with
      | true => rw [List.filter_cons_of_pos (by simpa using e2)]; simp only [List.length_cons]; omega
      | false =>
        have e3 := edgeLess_total e1 e2
        subst e3
        rw [List.filter_cons_of_neg (by simpa using e2)]
        have h2 : l.filter (fun x => edgeLess a x) = l := List.filter_eq_self.2 fun x hx => h1 x hx
        rw [h2]; omega
def putAll (es : List Edge) (l : List Edge) : List Edge := l.foldl putE es
def togE (l : List Graph) : List Edge := l.foldl (fun es g => putAll es g.edges) []
theorem putAll_ok {n : Int} : ∀ (l : List Edge) {es : List Edge}, gOk n es → (∀ e ∈ l, eOk n e = true) → gOk n (putAll es l) ∧ es.length ≤ (putAll es l).length
  | [], es, h, _ => ⟨h, Nat.le_refl _⟩
  | e :: l, es, h, he => by
    have h1 := putE_ok h (he e (List.mem_cons_self ..))
    obtain ⟨h2, h3⟩ := putAll_ok l h1 fun x hx => he x (List.mem_cons_of_mem _ hx)
    exact ⟨h2, Nat.le_trans (putE_len e h.2) h3⟩
/-- the graphs are right and of one size -/
def togOk (n : Int) (l : List Graph) : Bool := l.all fun g => graphOk g && decide (g.size = n)
def together (l : List Graph) : Option Graph := match l with
  | [] => none
  | g :: r => if togOk g.size (g :: r) && graphOk ⟨g.size, togE (g :: r)⟩ then some ⟨g.size, togE (g :: r)⟩ else none
theorem tog_ok {n : Int} : ∀ (l : List Graph) {es : List Edge}, gOk n es → togOk n l = true → gOk n (l.foldl (fun es g => putAll es g.edges) es) ∧ es.length ≤ (l.foldl (fun es g => putAll es g.edges) es).length
  | [], es, h, _ => ⟨h, Nat.le_refl _⟩
  | g :: l, es, h, ht => by
    unfold togOk at ht
    rw [List.all_cons, Bool.and_eq_true, Bool.and_eq_true, decide_eq_true_iff] at ht
    obtain ⟨⟨h1, h2⟩, h3⟩ := ht
    have h4 : ∀ e ∈ g.edges, eOk n e = true := by
      have := (graphOk_iff.1 h1).2.2.1
      rw [h2] at this; exact this
    obtain ⟨h5, h6⟩ := putAll_ok g.edges h h4
    obtain ⟨h7, h8⟩ := tog_ok l h5 h3
    exact ⟨h7, Nat.le_trans h6 h8⟩
end Go.Proofs.YtjgehblllhkdbaaGreat

namespace Go.Proofs.YtjgehblllhkdbaaGreat
open Go.SX Go.Proofs
set_option linter.unusedSimpArgs false
set_option linter.unusedVariables false
set_option maxHeartbeats 1000000
attribute [local irreducible] IntKind.wrap
def tgR (l : List Graph) : Graph := (together l).getD ⟨0, []⟩
theorem tg_none {l : List Graph} (h : together l = none) : tgR l = ⟨0, []⟩ ∧ (together l).isSome = false := by unfold tgR; rw [h]; exact ⟨rfl, rfl⟩
theorem tg_some {l : List Graph} {g : Graph} (h : together l = some g) : tgR l = g ∧ (together l).isSome = true := by unfold tgR; rw [h]; exact ⟨rfl, rfl⟩
/-- the edges so far: all of the first k graphs, j of the next -/
def tgE (l : List Graph) (k j : Nat) : List Edge := putAll (togE (l.take k)) ((l[k]?.getD default).edges.take j)
theorem tgE_next {l : List Graph} {k : Nat} (hk : k < l.length) : tgE l k (l[k]?.getD default).edges.length = togE (l.take (k + 1)) := by
  unfold tgE togE
  rw [List.take_length, ← List.take_append_getElem hk, List.foldl_append, List.getElem?_eq_getElem hk]; rfl
theorem tgE_more {l : List Graph} {k j : Nat} (hj : j < (l[k]?.getD default).edges.length) : tgE l k (j + 1) = putE (tgE l k j) ((l[k]?.getD default).edges[j]?.getD default) := by
  unfold tgE putAll
  rw [← List.take_append_getElem hj, List.foldl_append, List.getElem?_eq_getElem hj]; rfl
theorem putAll_app (es a b : List Edge) : putAll es (a ++ b) = putAll (putAll es a) b := by unfold putAll; rw [List.foldl_append]
theorem togE_split {l : List Graph} {k j : Nat} (hk : k < l.length) : togE l = (l.drop (k + 1)).foldl (fun es g => putAll es g.edges) (putAll (tgE l k j) ((l[k]?.getD default).edges.drop j)) := by
  unfold tgE
  rw [← putAll_app, List.take_append_drop]
  conv => lhs; rw [← List.take_append_drop k l, List.drop_eq_getElem_cons hk]
  unfold togE
  rw [List.foldl_append, List.foldl_cons, List.getElem?_eq_getElem hk]; rfl
theorem togOk_at {n : Int} {l : List Graph} (h : togOk n l = true) {k : Nat} (hk : k < l.length) : graphOk (l[k]?.getD default) = true ∧ (l[k]?.getD default).size = n := by
  unfold togOk at h
  rw [List.all_eq_true] at h
  have := h l[k] (List.getElem_mem hk)
  rw [List.getElem?_eq_getElem hk, Option.getD_some]
  simpa using this
/-- what GraphAdd refuses on the way is too long at the end -/
theorem tog_fail {n : Int} {l : List Graph} {k j : Nat} (hk : k < l.length) (hj : j < (l[k]?.getD default).edges.length) (ht : togOk n l = true) (hn : 1 ≤ n ∧ n ≤ 12) (hok : gOk n (tgE l k j)) (hbad : graphOk ⟨n, tgE l k (j + 1)⟩ = false) : graphOk ⟨n, togE l⟩ = false := by
  cases e : graphOk ⟨n, togE l⟩ with
  | false => rfl
  | true =>
    obtain ⟨-, h2, -⟩ := graphOk_iff.1 e
    have hg := togOk_at ht hk
    have hv : ∀ x ∈ (l[k]?.getD default).edges, eOk n x = true := by
      have := (graphOk_iff.1 hg.1).2.2.1
      rw [hg.2] at this; exact this
    have h3 : gOk n (tgE l k (j + 1)) := by
      rw [tgE_more hj]
      exact putE_ok hok (hv _ (getD_mem hj))
    have h4 := putAll_ok ((l[k]?.getD default).edges.drop (j + 1)) h3 fun x hx => hv x (List.mem_of_mem_drop hx)
    have h5 := tog_ok (l.drop (k + 1)) h4.1 (by
      unfold togOk at ht ⊢
      rw [List.all_eq_true] at ht ⊢
      exact fun x hx => ht x (List.mem_of_mem_drop hx))
    rw [← togE_split hk] at h5
    have : graphOk ⟨n, tgE l k (j + 1)⟩ = true := graphOk_iff.2 ⟨hn, by have := h4.2; have := h5.2; show (tgE l k (j + 1)).length ≤ 40; have h6 : (togE l).length ≤ 40 := h2; omega, h3⟩
    rw [hbad] at this; cases this
theorem gOk_nil (n : Int) : gOk n [] := And.intro (fun _ h => absurd h (by simp)) List.Pairwise.nil
theorem tog_case {l : List Graph} (h : l ≠ []) : together l = if togOk (l[0]?.getD default).size l && graphOk ⟨(l[0]?.getD default).size, togE l⟩ then some ⟨(l[0]?.getD default).size, togE l⟩ else none := by
  cases l with
  | nil => exact absurd rfl h
  | cons g r => rfl
theorem tog_bad {l : List Graph} (h : l ≠ []) (h2 : togOk (l[0]?.getD default).size l = true → graphOk ⟨(l[0]?.getD default).size, togE l⟩ = false) : together l = none := by
  rw [tog_case h]
  cases e : togOk (l[0]?.getD default).size l with
  | false => rfl
  | true => rw [h2 e]; rfl
theorem tog_good {l : List Graph} (h : l ≠ []) (h1 : togOk (l[0]?.getD default).size l = true) (h2 : graphOk ⟨(l[0]?.getD default).size, togE l⟩ = true) : together l = some ⟨(l[0]?.getD default).size, togE l⟩ := by
  rw [tog_case h, h1, h2]; rfl
theorem togOk_take {n : Int} {l : List Graph} {k : Nat} (hk : k < l.length) (h : togOk n (l.take k) = true) (h1 : graphOk (l[k]?.getD default) = true) (h2 : (l[k]?.getD default).size = n) : togOk n (l.take (k + 1)) = true := by
  unfold togOk at *
  rw [List.getElem?_eq_getElem hk, Option.getD_some] at h1 h2
  rw [← List.take_append_getElem hk, List.all_append, h]
  simp [h1, h2]
theorem tgE_add {xs : List Graph} {k j : Nat} {n : Int} (hj : j < (xs[k]?.getD default).edges.length) (h : graphOk (putG ⟨n, tgE xs k j⟩ ((xs[k]?.getD default).edges[j]?.getD default)) = true) : addG ⟨n, tgE xs k j⟩ ((xs[k]?.getD default).edges[j]?.getD default) = ⟨n, tgE xs k (j + 1)⟩ := by
  rw [addG_yes h, tgE_more hj]; rfl
theorem tgE_bad {xs : List Graph} {k j : Nat} {n : Int} (hne : ¬ xs = []) (h0 : n = (xs[0]?.getD default).size) (hk : k < xs.length) (hj : j < (xs[k]?.getD default).edges.length) (hn : 1 ≤ n ∧ n ≤ 12) (hok : gOk n (tgE xs k j)) (h : graphOk (putG ⟨n, tgE xs k j⟩ ((xs[k]?.getD default).edges[j]?.getD default)) = false) : together xs = none := by
  subst h0
  exact tog_bad hne fun e => tog_fail hk hj e hn hok (by rw [tgE_more hj]; exact h)
theorem tgE_ok {xs : List Graph} {k j : Nat} {n : Int} (h1 : graphOk (xs[k]?.getD default) = true) (h2 : (xs[k]?.getD default).size = n) (hle : (tgE xs k j).length ≤ 40) (hg : gOk n (tgE xs k j)) : graphOk ⟨n, tgE xs k j⟩ = true := by
  have h9 := graphOk_rng h1
  rw [h2] at h9
  exact graphOk_iff.2 ⟨⟨h9.1, h9.2.1⟩, hle, hg⟩
theorem tgE_len {xs : List Graph} {k j : Nat} {n : Int} (h1 : graphOk (xs[k]?.getD default) = true) (h2 : (xs[k]?.getD default).size = n) (hj : j < (xs[k]?.getD default).edges.length) (hg : gOk n (tgE xs k j)) (h : graphOk (putG ⟨n, tgE xs k j⟩ ((xs[k]?.getD default).edges[j]?.getD default)) = true) : gOk n (tgE xs k (j + 1)) ∧ (tgE xs k (j + 1)).length ≤ 40 := by
  have h3 := graphOk_iff.1 h
  rw [tgE_more hj]
  exact ⟨h3.2.2, h3.2.1⟩
--@ct impl.Together new implTogether_ct _ _ _ $1 ?_ | %1 | obtain ⟨b#, c#, rfl, o#⟩ := o#
theorem implTogether_ct (b : Option Addr) (m c : Nat) (xs : List Graph) (hx : xs.length ≤ 1048576) : Ct Tryz.prog 144 [.slice b m c] [] (fun H => (gSl 88 gGraph).rd H [.slice b m c] xs) (fun v A => ∃ b c, v = .tuple #[.agg ⟨[.int .i64 (tgR xs).size, .slice b (tgR xs).edges.length c]⟩, .bool (together xs).isSome] ∧ (gSl 209 gEdge).ow [.slice b (tgR xs).edges.length c] (tgR xs).edges A) := by
  refine Ct.intro0 G_ok Tryz.func144 rfl rfl rfl fun E H hp => ?_
  obtain ⟨rfl, hcl, hl⟩ := sl_len hp
  have hS : ∀ h : 0 < xs.length, okI (xs[0]?.getD default).size := fun h => by
    obtain ⟨l0, h0⟩ := rd_el hp 0 h
    rw [List.getElem?_eq_getElem h, Option.getD_some]
    obtain ⟨_, _, _, w, _⟩ := gGraph_rd.1 h0
    exact w
  refine VCnew.intro fun x0 => ?_
  refine VCsplit.intro (fun q1 => ?_) (fun q1 => ?_)
  ·
    simp at q1
    (have h1 : together xs = none := (by rw [‹xs = []›]; rfl); obtain ⟨e1, e2⟩ := tg_none h1; rw [e1, e2]; exact ⟨[], ⟨none, 0, rfl, sl_nil _ _ _⟩, (.le fun a => by (try simp only [setR, List.cons_append, List.nil_append]); simp [List.count_cons, Blk.ent, idOf]; try omega)⟩)
  ·
    simp at q1
    refine idx_rd hp ?_ ?_ fun b2 o2 hb2 => ?_
    · trivial
    · grind
    refine load_partN default (0) 0 rfl hp ?_ ?_ hb2 rfl (by decide) (mem_at 0 rfl) fun l3 hl3 => ?_
    · trivial
    · grind
    obtain ⟨b1x3, c1x3, rfl, w0x3, h1x3⟩ := gGraph_rd.1 hl3
    refine VCnew.intro fun x4 => ?_
    apply loop_mod (α := (Nat) × (Hp) × (Option Addr) × (Nat)) G_ok [23, 24, 25, 6, 26, 27, 28, 29, 30, 31, 32, 33, 34, 35, 36, 3, 37, 38, 39, 40, 41, 42, 43, 8, 45, 46, 47, 44, 48, 49, 9, 10, 50, 51, 52, 53, 54, 55, 22] (fun z => [(22, .v (.int .i64 z.1)), (3, .v (.bool false))]) (fun z => [⟨x0, [Value.int IntKind.i64 (0 : Int), Value.slice none (0 : Nat) (0 : Nat)], (88 : Nat)⟩, ⟨x4, [Value.int IntKind.i64 (xs[(0 : Nat)]?.getD default).size, .slice z.2.2.1 (togE (xs.take z.1)).length z.2.2.2], (88 : Nat)⟩]) (fun z => [z.2.1, H]) (fun z => xs.length - z.1) (fun z => z.1 ≤ xs.length ∧ togOk (xs[0]?.getD default).size (xs.take z.1) = true ∧ gOk (xs[0]?.getD default).size (togE (xs.take z.1)) ∧ (togE (xs.take z.1)).length ≤ 40 ∧ (gSl 209 gEdge).ow [.slice z.2.2.1 (togE (xs.take z.1)).length z.2.2.2] (togE (xs.take z.1)) z.2.1) ((0, [], none, 0))
    · repeat' (first | exact trivial | refine ⟨⟨_, rfl, by first | rfl | exact inc_eq _ (by omega) | (refine sl_eq ?_; simp; done), by first | exact trivial | simp [SV.ok]⟩, ?_⟩)
    · exact ⟨rfl, rfl, trivial⟩
    · try dsimp only
      exact ⟨by omega, rfl, gOk_nil _, Nat.zero_le _, sl_nil _ _ _⟩
    · exact .refl _
    rintro ⟨k, A, lb, lc⟩ hI
    obtain ⟨hk, ht, hg, hle, oA⟩ : k ≤ xs.length ∧ togOk (xs[0]?.getD default).size (xs.take k) = true ∧ gOk (xs[0]?.getD default).size (togE (xs.take k)) ∧ (togE (xs.take k)).length ≤ 40 ∧ (gSl 209 gEdge).ow [.slice lb (togE (xs.take k)).length lc] (togE (xs.take k)) A := hI
    try dsimp only
    refine VCsplit.intro (fun q5 => ?_) (fun q5 => ?_)
    ·
      simp at q5
      refine idx_rd hp ?_ ?_ fun b6 o6 hb6 => ?_
      · omega
      · omega
      refine load_allN default (k) rfl hp ?_ ?_ hb6 rfl (mem_at 1 rfl) fun l7 hl7 => ?_
      · omega
      · omega
      obtain ⟨b1x7, c1x7, rfl, w0x7, h1x7⟩ := gGraph_rd.1 hl7
      refine VCnew.intro fun x8 => ?_
      refine VCsplit.intro (fun q9 => ?_) (fun q9 => ?_)
      ·
        simp at q9
        (have hkk : k < xs.length := (by omega); have h1 := tog_bad ‹¬ xs = []› (fun e => by (obtain ⟨a1, a2⟩ := togOk_at e hkk; first | exact absurd a2 ‹¬ _ = _› | exact absurd (a1.symm.trans ‹graphOk _ = false›) (by decide))); obtain ⟨e1, e2⟩ := tg_none h1; rw [e1, e2]; exact ⟨[], ⟨none, 0, rfl, sl_nil _ _ _⟩, (.le fun a => by (try simp only [setR, List.cons_append, List.nil_append]); simp [List.count_cons, Blk.ent, idOf]; try omega)⟩)
      ·
        simp at q9
        refine call_val (implGraphOk_ct _ (xs[k]?.getD default)) (Rp.mono _ (mem_at 1 rfl) hl7) ?_
        rintro _ rfl
        refine VCsplit.intro (fun q11 => ?_) (fun q11 => ?_)
        ·
          simp at q11
          (have hkk : k < xs.length := (by omega); have h1 := tog_bad ‹¬ xs = []› (fun e => by (obtain ⟨a1, a2⟩ := togOk_at e hkk; first | exact absurd a2 ‹¬ _ = _› | exact absurd (a1.symm.trans ‹graphOk _ = false›) (by decide))); obtain ⟨e1, e2⟩ := tg_none h1; rw [e1, e2]; exact ⟨[], ⟨none, 0, rfl, sl_nil _ _ _⟩, (.le fun a => by (try simp only [setR, List.cons_append, List.nil_append]); simp [List.count_cons, Blk.ent, idOf]; try omega)⟩)
        ·
          simp at q11
          have h40 := (graphOk_rng ‹graphOk (xs[k]?.getD default) = true›).2.2
          apply loop_mod (α := (Nat) × (Hp) × (Option Addr) × (Nat)) G_ok [41, 42, 43, 8, 45, 46, 47, 44, 48, 49, 9, 10, 50, 51, 52, 3, 53, 54, 40] (fun z => [(40, .v (.int .i64 z.1)), (3, .v (.bool false))]) (fun z => [⟨x0, [Value.int IntKind.i64 (0 : Int), Value.slice none (0 : Nat) (0 : Nat)], (88 : Nat)⟩, ⟨x4, [Value.int IntKind.i64 (xs[(0 : Nat)]?.getD default).size, .slice z.2.2.1 (tgE xs k z.1).length z.2.2.2], (88 : Nat)⟩, ⟨x8, [Value.int IntKind.i64 (xs[k]?.getD default).size, Value.slice b1x7 (xs[k]?.getD default).edges.length c1x7], (88 : Nat)⟩]) (fun z => [z.2.1, H]) (fun z => (xs[k]?.getD default).edges.length - z.1) (fun z => z.1 ≤ (xs[k]?.getD default).edges.length ∧ gOk (xs[0]?.getD default).size (tgE xs k z.1) ∧ (tgE xs k z.1).length ≤ 40 ∧ (gSl 209 gEdge).ow [.slice z.2.2.1 (tgE xs k z.1).length z.2.2.2] (tgE xs k z.1) z.2.1) ((0, A, lb, lc))
          · repeat' (first | exact trivial | refine ⟨⟨_, rfl, by first | rfl | exact inc_eq _ (by omega) | (refine sl_eq ?_; simp; done), by first | exact trivial | simp [SV.ok]⟩, ?_⟩)
          · exact ⟨rfl, rfl, rfl, trivial⟩
          · try dsimp only
            exact ⟨Nat.zero_le _, hg, hle, oA⟩
          · exact .refl _
          rintro ⟨j, A, lb, lc⟩ hI
          obtain ⟨hj, hg2, hle2, oA2⟩ : j ≤ (xs[k]?.getD default).edges.length ∧ gOk (xs[0]?.getD default).size (tgE xs k j) ∧ (tgE xs k j).length ≤ 40 ∧ (gSl 209 gEdge).ow [.slice lb (tgE xs k j).length lc] (tgE xs k j) A := hI
          try dsimp only
          refine VCsplit.intro (fun q12 => ?_) (fun q12 => ?_)
          ·
            simp at q12
            refine idx_rd h1x7 ?_ ?_ fun b13 o13 hb13 => ?_
            · omega
            · omega
            refine load_allN default (j) rfl h1x7 ?_ ?_ hb13 rfl (mem_at 1 rfl) fun l14 hl14 => ?_
            · omega
            · omega
            obtain ⟨rfl, w0x14, w2x14⟩ := gEdge_rd.1 hl14
            refine VCnew.intro fun x15 => ?_
            refine call_new (graphAdd_ct _ _ (⟨(xs[0]?.getD default).size, tgE xs k j⟩ : Graph) ((xs[k]?.getD default).edges[j]?.getD default) ?_) ⟨gGraph_rd.2 ⟨_, _, rfl, hS (by omega), Rp.mono _ (mem_at 0 rfl) (Gt.owrd _ oA2)⟩, (Rp.mono _ (mem_at 1 rfl) hl14)⟩ ?_
            · exact tgE_ok ‹graphOk _ = true› ‹_ = (xs[0]?.getD default).size› hle2 hg2
            rintro v16 A16 o16
            obtain ⟨b16, c16, rfl, o16⟩ := o16
            refine VCnew.intro fun x17 => ?_
            refine VCsplit.intro (fun q18 => ?_) (fun q18 => ?_)
            ·
              simp at q18
              (have h9 := graphOk_rng ‹graphOk (xs[k]?.getD default) = true›; rw [‹(xs[k]?.getD default).size = _›] at h9; have h1 := tgE_bad ‹¬ xs = []› rfl (by omega) (by omega) ⟨h9.1, h9.2.1⟩ hg2 ‹graphOk (putG _ _) = false›; obtain ⟨e1, e2⟩ := tg_none h1; rw [e1, e2]; exact ⟨[], ⟨none, 0, rfl, sl_nil _ _ _⟩, (.le fun a => by (try simp only [setR, List.cons_append, List.nil_append]); simp [List.count_cons, Blk.ent, idOf]; try omega)⟩)
            ·
              simp at q18
              (have e18 := tgE_add (by omega) q18; simp only [e18] at *)
              apply loop_stepA (j + 1, _, _, _)
              · exact .sub (by repeat (first | exact .slnil | apply List.Sublist.cons_cons | apply List.Sublist.cons))
              · repeat' (first | exact trivial | refine ⟨⟨_, rfl, by first | rfl | exact inc_eq _ (by omega) | (refine sl_eq ?_; simp; done), by first | exact trivial | simp [SV.ok]⟩, ?_⟩)
              · exact ⟨rfl, rfl, rfl, trivial⟩
              · try dsimp only
                (have h9 := tgE_len ‹graphOk (xs[k]?.getD default) = true› ‹_ = (xs[0]?.getD default).size› (by omega) hg2 ‹graphOk (putG _ _) = true›; exact ⟨by omega, h9.1, h9.2, by assumption⟩)
              try dsimp only
              omega
          ·
            simp at q12
            obtain rfl : j = (xs[k]?.getD default).edges.length := by omega
            simp only [tgE_next ‹k < xs.length›] at hg2 hle2 oA2 ⊢
            apply loop_stepA (k + 1, _, _, _)
            · exact .refl _
            · repeat' (first | exact trivial | refine ⟨⟨_, rfl, by first | rfl | exact inc_eq _ (by omega) | (refine sl_eq ?_; simp; done), by first | exact trivial | simp [SV.ok]⟩, ?_⟩)
            · exact ⟨rfl, rfl, trivial⟩
            · try dsimp only
              exact ⟨by omega, togOk_take (by omega) ht ‹graphOk _ = true› ‹_ = (xs[0]?.getD default).size›, hg2, hle2, oA2⟩
            try dsimp only
            omega
    ·
      simp at q5
      obtain rfl : k = xs.length := by omega
      simp only [List.take_length] at hg hle oA ht ⊢
      have h0 : 0 < xs.length := List.length_pos_iff.2 ‹¬ xs = []›
      have hgS := graphOk_rng (togOk_at ht h0).1
      obtain ⟨e1, e2⟩ := tg_some (tog_good ‹¬ xs = []› ht (graphOk_iff.2 ⟨⟨hgS.1, hgS.2.1⟩, hle, hg⟩))
      rw [e1, e2]
      try dsimp only
      exact ⟨_, ⟨_, _, rfl, oA⟩, (.le fun a => by (try simp only [setR, List.cons_append, List.nil_append]); simp [List.count_cons, Blk.ent, idOf]; try omega)⟩
theorem putE_up (e : Edge) : ∀ l : List Edge, (putE l e).length ≤ l.length + 1
  | [] => by simp [putE]
  | a :: l => by
    have ih := putE_up e l
    unfold putE at *
    simp only [List.length_append, List.length_cons, List.length_nil] at *
    cases e1 : edgeLess a e with
    | true =>
      rw [List.filter_cons_of_pos (by simpa using e1), List.filter_cons_of_neg (by rw [edgeLess_asym e1]; simp)]
      simp only [List.length_cons]; omega
    | false =>
      rw [List.filter_cons_of_neg (by simp [e1])]
      cases e2 : edgeLess e a with
      | true => rw [List.filter_cons_of_pos (by simpa using e2)]; simp only [List.length_cons]; omega
      | false => rw [List.filter_cons_of_neg (by simp [e2])]; omega
theorem tgE_up {xs : List Graph} {k j : Nat} (hj : j < (xs[k]?.getD default).edges.length) : (tgE xs k (j + 1)).length ≤ (tgE xs k j).length + 1 := by
  rw [tgE_more hj]; exact putE_up _ _
theorem tgE_gok {xs : List Graph} {k j : Nat} {n : Int} (h1 : graphOk (xs[k]?.getD default) = true) (h2 : (xs[k]?.getD default).size = n) (hj : j < (xs[k]?.getD default).edges.length) (hg : gOk n (tgE xs k j)) : gOk n (tgE xs k (j + 1)) := by
  have hv := (graphOk_iff.1 h1).2.2.1
  rw [h2] at hv
  rw [tgE_more hj]
  exact putE_ok hg (hv _ (getD_mem hj))
--@ct spec.Together new specTogether_ct _ _ _ $1 ?_ | %1 | obtain ⟨b#, c#, rfl, o#⟩ := o#
theorem specTogether_ct (b : Option Addr) (m c : Nat) (xs : List Graph) (hx : xs.length ≤ 1048576) : Ct Tryz.prog 148 [.slice b m c] [] (fun H => (gSl 88 gGraph).rd H [.slice b m c] xs) (fun v A => ∃ b c, v = .tuple #[.agg ⟨[.int .i64 (tgR xs).size, .slice b (tgR xs).edges.length c]⟩, .bool (together xs).isSome] ∧ (gSl 209 gEdge).ow [.slice b (tgR xs).edges.length c] (tgR xs).edges A) := by
  refine Ct.intro0 G_ok Tryz.func148 rfl rfl rfl fun E H hp => ?_
  obtain ⟨rfl, hcl, hl⟩ := sl_len hp
  refine VCnew.intro fun x0 => ?_
  refine VCsplit.intro (fun q1 => ?_) (fun q1 => ?_)
  ·
    simp at q1
    (have h1 : together xs = none := (by rw [‹xs = []›]; rfl); obtain ⟨e1, e2⟩ := tg_none h1; rw [e1, e2]; exact ⟨[], ⟨none, 0, rfl, sl_nil _ _ _⟩, (.le fun a => by (try simp only [setR, List.cons_append, List.nil_append]); simp [List.count_cons, Blk.ent, idOf]; try omega)⟩)
  ·
    simp at q1
    refine idx_rd hp ?_ ?_ fun b2 o2 hb2 => ?_
    · trivial
    · (have := List.length_pos_iff.2 ‹¬ xs = []›; omega)
    refine load_partN default (0) 0 rfl hp ?_ ?_ hb2 rfl (by decide) (mem_at 0 rfl) fun l3 hl3 => ?_
    · trivial
    · (have := List.length_pos_iff.2 ‹¬ xs = []›; omega)
    obtain ⟨b1x3, c1x3, rfl, w0x3, h1x3⟩ := gGraph_rd.1 hl3
    refine VCnew.intro fun x4 => ?_
    apply loop_mod (α := (Nat) × (Hp) × (Option Addr) × (Nat)) G_ok [16, 17, 18, 19, 22, 23, 24, 25, 26, 27, 28, 29, 30, 31, 32, 33, 34, 35, 36, 37, 38, 3, 6, 39, 40, 41, 42, 43, 44, 45, 46, 49, 50, 51, 52, 53, 54, 55, 56, 57, 58, 59, 60, 47, 48, 20, 21, 5] (fun z => [(5, .v (.int .i64 z.1))]) (fun z => [⟨x0, [Value.int IntKind.i64 (0 : Int), Value.slice none (0 : Nat) (0 : Nat)], (88 : Nat)⟩, ⟨x4, [Value.int IntKind.i64 (xs[(0 : Nat)]?.getD default).size, .slice z.2.2.1 (togE (xs.take z.1)).length z.2.2.2], (88 : Nat)⟩]) (fun z => [z.2.1, H]) (fun z => xs.length - z.1) (fun z => z.1 ≤ xs.length ∧ togOk (xs[0]?.getD default).size (xs.take z.1) = true ∧ gOk (xs[0]?.getD default).size (togE (xs.take z.1)) ∧ (togE (xs.take z.1)).length ≤ 40 * z.1 ∧ (gSl 209 gEdge).ow [.slice z.2.2.1 (togE (xs.take z.1)).length z.2.2.2] (togE (xs.take z.1)) z.2.1) ((0, [], none, 0))
    · repeat' (first | exact trivial | refine ⟨⟨_, rfl, by first | rfl | exact inc_eq _ (by omega) | (refine sl_eq ?_; simp; done), by first | exact trivial | simp [SV.ok]⟩, ?_⟩)
    · exact ⟨rfl, rfl, trivial⟩
    · try dsimp only
      exact ⟨by omega, rfl, gOk_nil _, Nat.zero_le _, sl_nil _ _ _⟩
    · exact .refl _
    rintro ⟨k, A, lb, lc⟩ hI
    obtain ⟨hk, ht, hg, hle, oA⟩ : k ≤ xs.length ∧ togOk (xs[0]?.getD default).size (xs.take k) = true ∧ gOk (xs[0]?.getD default).size (togE (xs.take k)) ∧ (togE (xs.take k)).length ≤ 40 * k ∧ (gSl 209 gEdge).ow [.slice lb (togE (xs.take k)).length lc] (togE (xs.take k)) A := hI
    try dsimp only
    refine VCsplit.intro (fun q5 => ?_) (fun q5 => ?_)
    ·
      simp at q5
      refine draw G_ok mixed none (.q 0 (.q 1 (.q 2 (.q 3 (.f 4 (.q 5 (.q 6 (.q 7 (.q 8 (.q 9 (.q 10 (.q 11 (.q 12 (.q 13 (.q 14 (.q 15 (.nil))))))))))))))))) (by decide +kernel) ?_
      refine idx_rd hp ?_ ?_ fun b6 o6 hb6 => ?_
      · omega
      · omega
      refine load_allN default (k) rfl hp ?_ ?_ hb6 rfl (mem_at 1 rfl) fun l7 hl7 => ?_
      · omega
      · omega
      obtain ⟨b1x7, c1x7, rfl, w0x7, h1x7⟩ := gGraph_rd.1 hl7
      refine call_val (specGraphOk_ct _ (xs[k]?.getD default)) (Rp.mono _ (mem_at 1 rfl) hl7) ?_
      rintro _ rfl
      refine VC.intro ?_ ?_
      · exact fun _ h => h
      refine VCsplit.intro (fun q9 => ?_) (fun q9 => ?_)
      ·
        simp at q9
        (have hkk : k < xs.length := (by omega); have h1 := tog_bad ‹¬ xs = []› (fun e => by (obtain ⟨a1, a2⟩ := togOk_at e hkk; first | exact absurd a2 ‹¬ _ = _› | exact absurd (a1.symm.trans ‹graphOk _ = false›) (by decide))); obtain ⟨e1, e2⟩ := tg_none h1; rw [e1, e2]; exact ⟨[], ⟨none, 0, rfl, sl_nil _ _ _⟩, (.le fun a => by (try simp only [setR, List.cons_append, List.nil_append]); simp [List.count_cons, Blk.ent, idOf]; try omega)⟩)
      ·
        simp at q9
        refine idx_rd hp ?_ ?_ fun b10 o10 hb10 => ?_
        · omega
        · omega
        refine load_partN default (k) 0 rfl hp ?_ ?_ hb10 rfl (by decide) (mem_at 1 rfl) fun l11 hl11 => ?_
        · omega
        · omega
        obtain ⟨b1x11, c1x11, rfl, w0x11, h1x11⟩ := gGraph_rd.1 hl11
        refine VCsplit.intro (fun q12 => ?_) (fun q12 => ?_)
        ·
          simp at q12
          (have hkk : k < xs.length := (by omega); have h1 := tog_bad ‹¬ xs = []› (fun e => by (obtain ⟨a1, a2⟩ := togOk_at e hkk; first | exact absurd a2 ‹¬ _ = _› | exact absurd (a1.symm.trans ‹graphOk _ = false›) (by decide))); obtain ⟨e1, e2⟩ := tg_none h1; rw [e1, e2]; exact ⟨[], ⟨none, 0, rfl, sl_nil _ _ _⟩, (.le fun a => by (try simp only [setR, List.cons_append, List.nil_append]); simp [List.count_cons, Blk.ent, idOf]; try omega)⟩)
        ·
          simp at q12
          have h40 := (graphOk_rng ‹graphOk (xs[k]?.getD default) = true›).2.2
          apply loop_mod (α := (Nat) × (Hp) × (Option Addr) × (Nat)) G_ok [39, 40, 41, 42, 43, 44, 45, 46, 49, 50, 51, 52, 53, 54, 55, 56, 57, 58, 59, 60, 47, 48, 6] (fun z => [(6, .v (.int .i64 z.1))]) (fun z => [⟨x0, [Value.int IntKind.i64 (0 : Int), Value.slice none (0 : Nat) (0 : Nat)], (88 : Nat)⟩, ⟨x4, [Value.int IntKind.i64 (xs[(0 : Nat)]?.getD default).size, .slice z.2.2.1 (tgE xs k z.1).length z.2.2.2], (88 : Nat)⟩]) (fun z => [z.2.1, H]) (fun z => (xs[k]?.getD default).edges.length - z.1) (fun z => z.1 ≤ (xs[k]?.getD default).edges.length ∧ gOk (xs[0]?.getD default).size (tgE xs k z.1) ∧ (tgE xs k z.1).length ≤ 40 * k + z.1 ∧ (gSl 209 gEdge).ow [.slice z.2.2.1 (tgE xs k z.1).length z.2.2.2] (tgE xs k z.1) z.2.1) ((0, A, lb, lc))
          · repeat' (first | exact trivial | refine ⟨⟨_, rfl, by first | rfl | exact inc_eq _ (by omega) | (refine sl_eq ?_; simp; done), by first | exact trivial | simp [SV.ok]⟩, ?_⟩)
          · exact ⟨rfl, rfl, trivial⟩
          · try dsimp only
            exact ⟨Nat.zero_le _, hg, hle, oA⟩
          · exact .refl _
          rintro ⟨j, A, lb, lc⟩ hI
          obtain ⟨hj, hg2, hle2, oA2⟩ : j ≤ (xs[k]?.getD default).edges.length ∧ gOk (xs[0]?.getD default).size (tgE xs k j) ∧ (tgE xs k j).length ≤ 40 * k + j ∧ (gSl 209 gEdge).ow [.slice lb (tgE xs k j).length lc] (tgE xs k j) A := hI
          try dsimp only
          refine idx_rd hp ?_ ?_ fun b13 o13 hb13 => ?_
          · omega
          · omega
          refine load_partN default (k) 1 rfl hp ?_ ?_ hb13 rfl (by decide) (mem_at 1 rfl) fun l14 hl14 => ?_
          · omega
          · omega
          obtain ⟨b1x14, c1x14, rfl, w0x14, h1x14⟩ := gGraph_rd.1 hl14
          refine VCsplit.intro (fun q15 => ?_) (fun q15 => ?_)
          ·
            simp at q15
            refine draw G_ok mixed (some 12) (.q 0 (.q 1 (.q 2 (.q 3 (.q 4 (.q 5 (.q 6 (.q 7 (.q 8 (.q 9 (.f 10 (.q 11 (.tl 12 (.nil)))))))))))))) (by decide +kernel) ?_
            refine idx_rd hp ?_ ?_ fun b16 o16 hb16 => ?_
            · omega
            · omega
            refine load_partN default (k) 1 rfl hp ?_ ?_ hb16 rfl (by decide) (mem_at 1 rfl) fun l17 hl17 => ?_
            · omega
            · omega
            obtain ⟨b1x17, c1x17, rfl, w0x17, h1x17⟩ := gGraph_rd.1 hl17
            refine idx_rd h1x17 ?_ ?_ fun b18 o18 hb18 => ?_
            · omega
            · omega
            refine load_allN default (j) rfl h1x17 ?_ ?_ hb18 rfl (mem_at 1 rfl) fun l19 hl19 => ?_
            · omega
            · omega
            obtain ⟨rfl, w0x19, w2x19⟩ := gEdge_rd.1 hl19
            refine call_new (l04Put_ct _ _ _ _ (tgE xs k j) ((xs[k]?.getD default).edges[j]?.getD default) ?_) ⟨(Rp.mono _ (mem_at 0 rfl) (Gt.owrd _ oA2)), (Rp.mono _ (mem_at 1 rfl) hl19)⟩ ?_
            · omega
            rintro v20 A20 o20
            obtain ⟨b20, c20, rfl, o20⟩ := o20
            rw [← tgE_more (by omega)] at o20 ⊢
            refine VC.intro ?_ ?_
            · exact keep_new
            apply loop_stepA (j + 1, _, _, _)
            · exact .sub (by repeat (first | exact .slnil | apply List.Sublist.cons_cons | apply List.Sublist.cons))
            · repeat' (first | exact trivial | refine ⟨⟨_, rfl, by first | rfl | exact inc_eq _ (by omega) | (refine sl_eq ?_; simp; done), by first | exact trivial | simp [SV.ok]⟩, ?_⟩)
            · exact ⟨rfl, rfl, trivial⟩
            · try dsimp only
              exact ⟨by omega, tgE_gok ‹graphOk (xs[k]?.getD default) = true› ‹_ = (xs[0]?.getD default).size› (by omega) hg2, by (have := tgE_up (by omega : j < (xs[k]?.getD default).edges.length); omega), by assumption⟩
            try dsimp only
            omega
          ·
            simp at q15
            obtain rfl : j = (xs[k]?.getD default).edges.length := by omega
            simp only [tgE_next ‹k < xs.length›] at hg2 hle2 oA2 ⊢
            apply loop_stepA (k + 1, _, _, _)
            · exact .refl _
            · repeat' (first | exact trivial | refine ⟨⟨_, rfl, by first | rfl | exact inc_eq _ (by omega) | (refine sl_eq ?_; simp; done), by first | exact trivial | simp [SV.ok]⟩, ?_⟩)
            · exact ⟨rfl, rfl, trivial⟩
            · try dsimp only
              exact ⟨by omega, togOk_take (by omega) ht ‹graphOk _ = true› ‹_ = (xs[0]?.getD default).size›, hg2, by omega, oA2⟩
            try dsimp only
            omega
    ·
      simp at q5
      obtain rfl : k = xs.length := by omega
      simp only [List.take_length] at hg hle oA ht ⊢
      have h0 : 0 < xs.length := List.length_pos_iff.2 ‹¬ xs = []›
      have hgS := graphOk_rng (togOk_at ht h0).1
      have rG : gGraph.rd A [.int .i64 (xs[0]?.getD default).size, .slice lb (togE xs).length lc] ⟨(xs[0]?.getD default).size, togE xs⟩ := gGraph_rd.2 ⟨lb, lc, rfl, by assumption, Gt.owrd _ oA⟩
      refine call_val (specGraphOk_ct _ ({ size := (xs[(0 : Nat)]?.getD default).size, edges := togE xs })) (Rp.mono _ (mem_at 0 rfl) rG) ?_
      rintro _ rfl
      refine VCsplit.intro (fun q22 => ?_) (fun q22 => ?_)
      ·
        simp at q22
        (obtain ⟨e1, e2⟩ := tg_none (tog_bad ‹¬ xs = []› fun _ => ‹graphOk ⟨_, _⟩ = false›); rw [e1, e2]; exact ⟨[], ⟨none, 0, rfl, sl_nil _ _ _⟩, (.le fun a => by (try simp only [setR, List.cons_append, List.nil_append]); simp [List.count_cons, Blk.ent, idOf]; try omega)⟩)
      ·
        simp at q22
        (obtain ⟨e1, e2⟩ := tg_some (tog_good ‹¬ xs = []› ht ‹graphOk ⟨_, _⟩ = true›); rw [e1, e2]; exact ⟨_, ⟨_, _, rfl, oA⟩, (.le fun a => by (try simp only [setR, List.cons_append, List.nil_append]); simp [List.count_cons, Blk.ent, idOf]; try omega)⟩)
end Go.Proofs.YtjgehblllhkdbaaGreat

namespace Go.Proofs.YtjgehblllhkdbaaGreat
open Go.SX Go.Proofs
set_option linter.unusedSimpArgs false
set_option linter.unusedVariables false
set_option maxHeartbeats 4000000
attribute [local irreducible] IntKind.wrap
theorem graph_ow {b : Option Addr} {c : Nat} {g : Graph} {A : Hp} (hs : okI g.size) (h : (gSl 209 gEdge).ow [.slice b g.edges.length c] g.edges A) : gGraph.ow [.int .i64 g.size, .slice b g.edges.length c] g A := gGraph_ow.2 ⟨b, c, A, rfl, by simp, hs, h⟩
theorem readGraph_ok {t : ByteArray} {g : Graph} (h : readGraph t = some g) : graphOk g = true := by
  cases e : rgOk t (rgN t) with
  | false => rw [rg_no e] at h; cases h
  | true =>
    rw [rg_yes e] at h; cases h
    unfold rgOk at e
    simp only [Bool.and_eq_true] at e
    exact e.2.2.2
theorem rp_rng (d : Disk) : 0 ≤ (rpR d).size ∧ (rpR d).size ≤ 12 ∧ (rpR d).edges.length ≤ 40 := by
  cases h : readPart d with
  | none => rw [(rp_none h).1]; exact ⟨Int.le_refl _, by decide, Nat.zero_le _⟩
  | some g =>
    rw [(rp_some h).1]
    have h1 : g ∈ (recordsOf d (ByteArray.mk #[112, 97, 114, 116])).filterMap readGraph := by
      unfold readPart lastG at h
      exact List.mem_of_getLast? h
    obtain ⟨t, _, h2⟩ := List.mem_filterMap.1 h1
    have h3 := graphOk_rng (readGraph_ok h2)
    exact ⟨by omega, h3.2.1, h3.2.2⟩
theorem rp_okI (d : Disk) : okI (rpR d).size := by have := rp_rng d; unfold okI; omega
theorem tg_rng (l : List Graph) : 0 ≤ (tgR l).size ∧ (tgR l).size ≤ 12 ∧ (tgR l).edges.length ≤ 40 := by
  cases h : together l with
  | none => rw [(tg_none h).1]; exact ⟨Int.le_refl _, by decide, Nat.zero_le _⟩
  | some g =>
    rw [(tg_some h).1]
    have h3 : graphOk g = true := by
      by_cases hl : l = []
      · rw [hl] at h; cases h
      rw [tog_case hl] at h
      split at h
      · rename_i h4
        cases h
        rw [Bool.and_eq_true] at h4
        exact h4.2
      cases h
    have := graphOk_rng h3
    exact ⟨by omega, this.2.1, this.2.2⟩
/-- the parts of disks, if all have one -/
def partsOf (ds : List Disk) : List Graph := ds.map rpR
def haveAll (ds : List Disk) : Bool := ds.all fun d => (readPart d).isSome
def gathered (ds : List Disk) : Option Graph := if haveAll ds then together (partsOf ds) else none
def gaR (ds : List Disk) : Graph := (gathered ds).getD ⟨0, []⟩
theorem ga_no {ds : List Disk} (h : haveAll ds = false) : gaR ds = ⟨0, []⟩ ∧ (gathered ds).isSome = false := by unfold gaR gathered; rw [h]; exact ⟨rfl, rfl⟩
theorem ga_yes {ds : List Disk} (h : haveAll ds = true) : gaR ds = tgR (partsOf ds) ∧ (gathered ds).isSome = (together (partsOf ds)).isSome := by unfold gaR gathered tgR; rw [h]; exact ⟨rfl, rfl⟩
theorem parts_len (ds : List Disk) : (partsOf ds).length = ds.length := by unfold partsOf; rw [List.length_map]
theorem parts_next {ds : List Disk} {k : Nat} (hk : k < ds.length) : partsOf (ds.take (k + 1)) = partsOf (ds.take k) ++ [rpR (ds[k]?.getD default)] := by
  unfold partsOf
  rw [← List.take_append_getElem hk, List.map_append, List.getElem?_eq_getElem hk]; rfl
theorem have_next {ds : List Disk} {k : Nat} (hk : k < ds.length) (h : haveAll (ds.take k) = true) (h2 : (readPart (ds[k]?.getD default)).isSome = true) : haveAll (ds.take (k + 1)) = true := by
  unfold haveAll at *
  rw [List.getElem?_eq_getElem hk] at h2
  rw [← List.take_append_getElem hk, List.all_append, h]
  simpa using h2
theorem have_not {ds : List Disk} {k : Nat} (hk : k < ds.length) (h2 : (readPart (ds[k]?.getD default)) = none) : haveAll ds = false := by
  unfold haveAll
  rw [List.getElem?_eq_getElem hk] at h2
  rw [List.all_eq_false]
  exact ⟨ds[k], List.getElem_mem hk, by simpa using h2⟩
theorem ga_rng (ds : List Disk) : 0 ≤ (gaR ds).size ∧ (gaR ds).size ≤ 12 ∧ (gaR ds).edges.length ≤ 40 := by
  cases h : haveAll ds with
  | false => rw [(ga_no h).1]; exact ⟨Int.le_refl _, by decide, Nat.zero_le _⟩
  | true => rw [(ga_yes h).1]; exact tg_rng _
theorem ga_okI (ds : List Disk) : okI (gaR ds).size := by have := ga_rng ds; unfold okI; omega
attribute [local irreducible] readPart rpR tgR together
--@ct impl.Gathered new implGathered_ct _ _ _ $1 ?_ | %1 | obtain ⟨b#, c#, rfl, o#⟩ := o# ;; have p# := graph_ow (ga_okI _) o# ;; have r# := Gt.owrd _ p#
theorem implGathered_ct (b : Option Addr) (m c : Nat) (xs : List Disk) (hx : xs.length ≤ 1048576) : Ct Tryz.prog 52 [.slice b m c] [] (fun H => (gSl 153 gDisk).rd H [.slice b m c] xs) (fun v A => ∃ b c, v = .tuple #[.agg ⟨[.int .i64 (gaR xs).size, .slice b (gaR xs).edges.length c]⟩, .bool (gathered xs).isSome] ∧ (gSl 209 gEdge).ow [.slice b (gaR xs).edges.length c] (gaR xs).edges A) := by
  refine Ct.intro0 G_ok Tryz.func52 rfl rfl rfl fun E H hp => ?_
  obtain ⟨rfl, hcl, hl⟩ := sl_len hp
  refine VCnew.intro fun x0 => ?_
  apply loop_mod (α := (Nat) × (Hp) × (Option Addr) × (Nat)) G_ok [12, 13, 14, 6, 16, 17, 15, 18, 19, 7, 8, 20, 21, 22, 3, 23, 24, 25, 26, 4, 27, 11] (fun z => [(11, .v (.int .i64 z.1)), (4, .v (.slice z.2.2.1 (partsOf (xs.take z.1)).length z.2.2.2)), (3, .v (.bool false))]) (fun z => [{ id := x0, cs := [Value.int IntKind.i64 (0 : Int), Value.slice none (0 : Nat) (0 : Nat)], ty := (88 : Nat) }]) (fun z => [z.2.1, H]) (fun z => xs.length - z.1) (fun z => z.1 ≤ xs.length ∧ haveAll (xs.take z.1) = true ∧ (gSl 88 gGraph).ow [.slice z.2.2.1 (partsOf (xs.take z.1)).length z.2.2.2] (partsOf (xs.take z.1)) z.2.1) ((0, [], none, 0))
  · repeat' (first | exact trivial | refine ⟨⟨_, rfl, by first | rfl | exact inc_eq _ (by omega) | (refine sl_eq ?_; simp; done) | (refine sl_eq ?_; rw [parts_next (by omega)]), by first | exact trivial | simp [SV.ok]⟩, ?_⟩)
  · exact ⟨rfl, trivial⟩
  · try dsimp only
    exact ⟨by omega, rfl, sl_nil _ _ _⟩
  · exact .refl _
  rintro ⟨k, A, lb, lc⟩ hI
  obtain ⟨hk, ha, oA⟩ : k ≤ xs.length ∧ haveAll (xs.take k) = true ∧ (gSl 88 gGraph).ow [.slice lb (partsOf (xs.take k)).length lc] (partsOf (xs.take k)) A := hI
  try dsimp only
  refine VCsplit.intro (fun q1 => ?_) (fun q1 => ?_)
  ·
    simp at q1
    refine idx_rd hp ?_ ?_ fun b2 o2 hb2 => ?_
    · omega
    · omega
    refine load_allN default (k) rfl hp ?_ ?_ hb2 rfl (mem_at 1 rfl) fun l3 hl3 => ?_
    · omega
    · omega
    obtain ⟨b0x3, c0x3, rfl, h0x3⟩ := gDisk_rd.1 hl3
    refine VCnew.intro fun x4 => ?_
    refine call_new (implReadPart_ct _ (xs[k]?.getD default)) (Rp.mono _ (mem_at 1 rfl) hl3) ?_
    rintro v5 A5 o5
    obtain ⟨b5, c5, rfl, o5⟩ := o5
    refine VCnew.intro fun x6 => ?_
    refine VCsplit.intro (fun q7 => ?_) (fun q7 => ?_)
    ·
      simp at q7
      (obtain ⟨e1, e2⟩ := ga_no (have_not (by omega) ‹readPart _ = none›); rw [e1, e2]; exact ⟨[], ⟨none, 0, rfl, sl_nil _ _ _⟩, (.le fun a => by (try simp only [setR, List.cons_append, List.nil_append]); simp [List.count_cons, Blk.ent, idOf]; try omega)⟩)
    ·
      simp at q7
      refine VCnew.intro fun x8 => ?_
      refine gappend1 (g := gGraph) (T := (88 : TypeId)) G_ok A _ [H] ?_ oA (graph_ow (rp_okI _) ‹(gSl _ gEdge).ow _ _ _›) (List.mem_of_getElem? (i := 0) rfl) rfl rfl rfl rfl rfl rfl rfl rfl ?_ fun b9 c9 A9 o9 => ?_
      · exact .le fun a => by (try simp only [setR, List.cons_append, List.nil_append]); simp only [List.flatten_append, List.flatten_cons, List.flatten_nil, List.count_append, List.count_nil, List.append_nil, List.nil_append]; omega
      · (rw [parts_len, List.length_take]; omega)
      apply loop_stepA (k + 1, _, _, _)
      · exact .refl _
      · repeat' (first | exact trivial | refine ⟨⟨_, rfl, by first | rfl | exact inc_eq _ (by omega) | (refine sl_eq ?_; simp; done) | (refine sl_eq ?_; rw [parts_next (by omega)]), by first | exact trivial | simp [SV.ok]⟩, ?_⟩)
      · exact ⟨rfl, trivial⟩
      · try dsimp only
        (rw [parts_next (by omega)]; exact ⟨by omega, have_next (by omega) ha ‹_ = true›, by assumption⟩)
      try dsimp only
      omega
  ·
    simp at q1
    obtain rfl : k = xs.length := by omega
    simp only [List.take_length] at ha oA ⊢
    obtain ⟨e1, e2⟩ := ga_yes ha
    refine call_new (implTogether_ct _ _ _ (partsOf xs) ?_) (Rp.mono _ (mem_at 0 rfl) (Gt.owrd _ oA)) ?_
    · (rw [parts_len]; omega)
    rintro v10 A10 o10
    obtain ⟨b10, c10, rfl, o10⟩ := o10
    (rw [e1, e2]; exact ⟨_, ⟨_, _, rfl, by assumption⟩, (.le fun a => by (try simp only [setR, List.cons_append, List.nil_append]); simp [List.count_cons, Blk.ent, idOf]; try omega)⟩)
--@ct spec.Gathered new specGathered_ct _ _ _ $1 ?_ | %1 | obtain ⟨b#, c#, rfl, o#⟩ := o# ;; have p# := graph_ow (ga_okI _) o# ;; have r# := Gt.owrd _ p#
theorem specGathered_ct (b : Option Addr) (m c : Nat) (xs : List Disk) (hx : xs.length ≤ 1048576) : Ct Tryz.prog 54 [.slice b m c] [] (fun H => (gSl 153 gDisk).rd H [.slice b m c] xs) (fun v A => ∃ b c, v = .tuple #[.agg ⟨[.int .i64 (gaR xs).size, .slice b (gaR xs).edges.length c]⟩, .bool (gathered xs).isSome] ∧ (gSl 209 gEdge).ow [.slice b (gaR xs).edges.length c] (gaR xs).edges A) := by
  refine Ct.intro0 G_ok Tryz.func54 rfl rfl rfl fun E H hp => ?_
  obtain ⟨rfl, hcl, hl⟩ := sl_len hp
  refine VCnew.intro fun x0 => ?_
  refine VCnew.intro fun x1 => ?_
  apply loop_mod (α := (Nat) × (Hp) × (Option Addr) × (Nat)) G_ok [9, 10, 11, 12, 16, 17, 18, 19, 20, 15, 21, 22, 6, 7, 23, 24, 25, 3, 26, 27, 28, 29, 4, 13, 14, 5] (fun z => [(5, .v (.int .i64 z.1)), (4, .v (.slice z.2.2.1 (partsOf (xs.take z.1)).length z.2.2.2)), (3, .v (.bool false))]) (fun z => [{ id := x0, cs := [Value.int IntKind.i64 (0 : Int), Value.slice none (0 : Nat) (0 : Nat)], ty := (88 : Nat) }]) (fun z => [z.2.1, H]) (fun z => xs.length - z.1) (fun z => z.1 ≤ xs.length ∧ haveAll (xs.take z.1) = true ∧ (gSl 88 gGraph).ow [.slice z.2.2.1 (partsOf (xs.take z.1)).length z.2.2.2] (partsOf (xs.take z.1)) z.2.1) ((0, [], _, 0))
  · repeat' (first | exact trivial | refine ⟨⟨_, rfl, by first | rfl | exact inc_eq _ (by omega) | (refine sl_eq ?_; simp; done) | (refine sl_eq ?_; rw [parts_next (by omega)]), by first | exact trivial | simp [SV.ok]⟩, ?_⟩)
  · exact ⟨rfl, trivial⟩
  · try dsimp only
    exact ⟨by omega, rfl, sl_nil _ _ _⟩
  · exact .tl
  rintro ⟨k, A, lb, lc⟩ hI
  obtain ⟨hk, ha, oA⟩ : k ≤ xs.length ∧ haveAll (xs.take k) = true ∧ (gSl 88 gGraph).ow [.slice lb (partsOf (xs.take k)).length lc] (partsOf (xs.take k)) A := hI
  try dsimp only
  refine VCsplit.intro (fun q2 => ?_) (fun q2 => ?_)
  ·
    simp at q2
    refine idx_rd hp ?_ ?_ fun b3 o3 hb3 => ?_
    · omega
    · omega
    refine load_allN default (k) rfl hp ?_ ?_ hb3 rfl (mem_at 1 rfl) fun l4 hl4 => ?_
    · omega
    · omega
    obtain ⟨b0x4, c0x4, rfl, h0x4⟩ := gDisk_rd.1 hl4
    refine call_new (specReadPart_ct _ (xs[k]?.getD default)) (Rp.mono _ (mem_at 1 rfl) hl4) ?_
    rintro v5 A5 o5
    obtain ⟨b5, c5, rfl, o5⟩ := o5
    refine VCnew.intro fun x6 => ?_
    refine VCsplit.intro (fun q7 => ?_) (fun q7 => ?_)
    ·
      simp at q7
      (obtain ⟨e1, e2⟩ := ga_no (have_not (by omega) ‹readPart _ = none›); rw [e1, e2]; exact ⟨[], ⟨none, 0, rfl, sl_nil _ _ _⟩, (.le fun a => by (try simp only [setR, List.cons_append, List.nil_append]); simp [List.count_cons, Blk.ent, idOf]; try omega)⟩)
    ·
      simp at q7
      refine VCnew.intro fun x8 => ?_
      refine gappend1 (g := gGraph) (T := (88 : TypeId)) G_ok A _ [H] ?_ oA (graph_ow (rp_okI _) ‹(gSl _ gEdge).ow _ _ _›) (List.mem_of_getElem? (i := 0) rfl) rfl rfl rfl rfl rfl rfl rfl rfl ?_ fun b9 c9 A9 o9 => ?_
      · exact .le fun a => by (try simp only [setR, List.cons_append, List.nil_append]); simp only [List.flatten_append, List.flatten_cons, List.flatten_nil, List.count_append, List.count_nil, List.append_nil, List.nil_append]; omega
      · (rw [parts_len, List.length_take]; omega)
      apply loop_stepA (k + 1, _, _, _)
      · exact .refl _
      · repeat' (first | exact trivial | refine ⟨⟨_, rfl, by first | rfl | exact inc_eq _ (by omega) | (refine sl_eq ?_; simp; done) | (refine sl_eq ?_; rw [parts_next (by omega)]), by first | exact trivial | simp [SV.ok]⟩, ?_⟩)
      · exact ⟨rfl, trivial⟩
      · try dsimp only
        (rw [parts_next (by omega)]; exact ⟨by omega, have_next (by omega) ha ‹_ = true›, by assumption⟩)
      try dsimp only
      omega
  ·
    simp at q2
    obtain rfl : k = xs.length := by omega
    simp only [List.take_length] at ha oA ⊢
    obtain ⟨e1, e2⟩ := ga_yes ha
    refine call_new (specTogether_ct _ _ _ (partsOf xs) ?_) (Rp.mono _ (mem_at 0 rfl) (Gt.owrd _ oA)) ?_
    · (rw [parts_len]; omega)
    rintro v10 A10 o10
    obtain ⟨b10, c10, rfl, o10⟩ := o10
    (rw [e1, e2]; exact ⟨_, ⟨_, _, rfl, by assumption⟩, (.le fun a => by (try simp only [setR, List.cons_append, List.nil_append]); simp [List.count_cons, Blk.ent, idOf]; try omega)⟩)
end Go.Proofs.YtjgehblllhkdbaaGreat

namespace Go.Proofs.YtjgehblllhkdbaaGreat
open Go.SX Go.Proofs
set_option linter.unusedSimpArgs false
set_option linter.unusedVariables false
set_option maxHeartbeats 4000000
attribute [local irreducible] IntKind.wrap
theorem perm1 {α : Type} {e : α} {A : List α} : (e :: A).Perm (e :: [A].flatten) := by simp
theorem okI_lit' {n : Int} (h : -9223372036854775808 ≤ n) (h2 : n ≤ 9223372036854775807) : okI n := ⟨h, h2⟩
theorem lessS_irr (a : ByteArray) : lessS a a = false := bytesLess_irr _
theorem bytesLess_gt : ∀ x y : List UInt8, Op.bytesLess y x = (!Op.bytesLess x y && !(x == y))
  | [], [] => rfl
  | [], b :: y => rfl
  | a :: x, [] => rfl
  | a :: x, b :: y => by
    have ih := bytesLess_gt x y
    show (decide (b < a) || (b == a && Op.bytesLess y x)) = (!(decide (a < b) || (a == b && Op.bytesLess x y)) && !(a == b && x == y))
    rw [ih]
    by_cases h1 : a = b
    · subst h1
      have h2 : ¬ a < a := by rw [UInt8.lt_iff_toNat_lt]; omega
      simp [h2]
    have h3 : (a == b) = false := by simpa using h1
    have h4 : (b == a) = false := by simpa using fun h => h1 h.symm
    have h5 : ¬ a.toNat = b.toNat := fun h => h1 (UInt8.toNat_inj.1 h)
    rw [h3, h4]
    simp only [Bool.false_and, Bool.or_false, Bool.not_false, Bool.and_true]
    by_cases h6 : b < a
    · have h7 : ¬ a < b := by rw [UInt8.lt_iff_toNat_lt] at *; omega
      simp [h6, h7]
    have h7 : a < b := by rw [UInt8.lt_iff_toNat_lt] at *; omega
    simp [h6, h7]
theorem lessS_gt {a b : ByteArray} (h : lessS a b = false ∧ ¬ a = b) : lessS b a = true := by
  unfold lessS at *
  rw [bytesLess_gt, h.1, beq_str, decide_eq_false h.2]; rfl
theorem lessS_le {a b : ByteArray} (h : lessS a b = false → a = b) : lessS b a = false := by
  unfold lessS at *
  rw [bytesLess_gt, beq_str]
  cases e : Op.bytesLess a.toList b.toList with
  | true => rfl
  | false => rw [decide_eq_true (h e)]; rfl
theorem gDisk_sl {l : List Value} {d : Disk} {A : Hp} (h : gDisk.ow l d A) : ∃ b c, l = [.slice b d.files.length c] ∧ (gSl 323 gFile).ow [.slice b d.files.length c] d.files A := by
  obtain ⟨b, c, A0, rfl, hp, ho⟩ := gDisk_ow.1 h
  exact ⟨b, c, rfl, Gt.owp _ ho hp⟩
theorem disk_one_sz (f : File) : gDisk.sz ⟨[f]⟩ = 1 + (f.name.size + (f.text.size + 0)) + 0 := rfl
def recActs (name rec : ByteArray) : List Act := [⟨1, name, frame rec, .empty⟩, ⟨2, name, .empty, .empty⟩]
theorem act_ow {k : Int} {a b c : ByteArray} (h : okI k) (h1 : a.size ≤ 9223372036854775807) (h2 : b.size ≤ 9223372036854775807) (h3 : c.size ≤ 9223372036854775807) : gAct.ow [.int .i64 k, .string a, .string b, .string c] ⟨k, a, b, c⟩ [] :=
  gAct_ow.2 ⟨rfl, by simp, h, h1, h2, h3⟩
theorem recActs_ow {name rec : ByteArray} {x : Nat} (h1 : name.size ≤ 100) (h2 : rec.size ≤ 9000) : (gSl 382 gAct).ow [.slice (some ⟨x, 0, none⟩) 2 2] (recActs name rec) [(x, Obj.cells ⟨[.int .i64 1, .string name, .string (frame rec), .string .empty, .int .i64 2, .string name, .string .empty, .string .empty]⟩ 382)] := by
  have := frame_size rec
  exact glit2 (act_ow (okI_lit' (by decide) (by decide)) (by omega) (by omega) (by decide)) (act_ow (okI_lit' (by decide) (by decide)) (by omega) (by decide) (by decide))
--@ct impl.storeActs new storeActs_ct _ _ ?_ ?_ ?_ | trivial | obtain ⟨b#, c#, rfl, o#⟩ := o#
theorem storeActs_ct (name rec : ByteArray) (h1 : name.size ≤ 100) (h2 : rec.size ≤ 9000) (h3 : frameOk rec = true) : Ct Tryz.prog 308 [.string name, .string rec] [] (fun _ => True) (fun v A => ∃ b c, v = .tuple #[.slice b (recActs name rec).length c, .bool true] ∧ (gSl 382 gAct).ow [.slice b (recActs name rec).length c] (recActs name rec) A) := by
  refine Ct.intro0 G_ok Tryz.func308 rfl rfl rfl fun E H hp => ?_
  have hf := frame_size rec
  refine call_val (implFrame_ct _ ?_) trivial ?_
  · omega
  rintro _ rfl
  refine VCsplit.intro (fun q1 => ?_) (fun q1 => ?_)
  ·
    simp at q1
    exact absurd (h3.symm.trans q1) (by decide)
  ·
    simp at q1
    refine VCnew.intro fun x2 => ?_
    try dsimp only
    (simp only [h3, if_true]; exact ⟨_, ⟨_, _, rfl, recActs_ow h1 h2⟩, .tl⟩)
/-! the operations on an empty disk -/
def dk (name rec : ByteArray) (k : Nat) : Disk := if k = 0 then ⟨[]⟩ else if k = 1 then ⟨[⟨name, frame rec, 0⟩]⟩ else ⟨[⟨name, frame rec, (frame rec).size⟩]⟩
def ak (name rec : ByteArray) (k : Nat) : Act := if k = 0 then ⟨1, name, frame rec, .empty⟩ else ⟨2, name, .empty, .empty⟩
theorem recActs_at (name rec : ByteArray) (k : Nat) (h : k < 2) : (recActs name rec)[k]?.getD default = ak name rec k := by
  rcases (show k = 0 ∨ k = 1 by omega) with rfl | rfl <;> rfl
theorem nameOk_sz {s : ByteArray} (h : nameOk s = true) : 1 ≤ s.size ∧ s.size ≤ 8 := by
  have := inR_iff.1 h; omega
theorem diskOk_one {f : File} (h1 : nameOk f.name = true) (h2 : f.text.size ≤ 20000) (h3 : 0 ≤ f.kept) (h4 : f.kept ≤ f.text.size) : diskOk ⟨[f]⟩ = true := by
  have : fileOk ⟨[f]⟩ 0 = true := fileOk_iff.2 ⟨h1, h2, h3, h4, .inl rfl⟩
  unfold diskOk
  show (true && (true && fileOk ⟨[f]⟩ 0)) = true
  rw [this]; rfl
theorem at14_one (f : File) : at14 ⟨[f]⟩ f.name = 0 := by
  show (if (-1 : Int) < 0 then (if f.name = f.name then ((0 : Nat) : Int) else -1) else -1) = 0
  rw [if_pos (by decide), if_pos rfl]; rfl
def putF (d : Disk) (f : File) : Disk := ⟨d.files.filter (fun x => lessS x.name f.name) ++ ([f] ++ d.files.filter (fun x => lessS f.name x.name))⟩
theorem putF_one (f f' : File) (h : f'.name = f.name) : putF ⟨[f]⟩ f' = ⟨[f']⟩ := by
  unfold putF
  simp [h, lessS_irr]
--@ct impl.actFits val actFits_ct _ $1 _ _ ?_ ?_ | %1
theorem actFits_ct (l : List Value) (a : Act) (name rec : ByteArray) (hn : nameOk name = true) (ha : a = ak name rec 0 ∨ a = ak name rec 1) : Ct Tryz.prog 375 [.agg ⟨l⟩] [] (fun H => gAct.rd H l a) (fun v A => v = .bool true ∧ A = []) := by
  refine Ct.intro0 G_ok Tryz.func375 rfl rfl rfl fun E H hp => ?_
  have hz := nameOk_sz hn
  have hfs := frame_size rec
  rcases ha with rfl | rfl
  · obtain ⟨rfl, w0, w1, w2, w3⟩ := gAct_rd.1 hp
    simp only [ak, if_true, show ¬ (1 : Nat) = 0 by decide, if_false] at *
    refine VCnew.intro fun x0 => ?_
    refine VCsplit.intro (fun q1 => ?_) (fun q1 => ?_)
    ·
      simp at q1
    ·
      simp at q1
      refine VCsplit.intro (fun q2 => ?_) (fun q2 => ?_)
      ·
        simp at q2
      ·
        simp at q2
        refine call_val (isFileName_ct _ ?_) trivial ?_
        · trivial
        rintro _ rfl
        refine VCsplit.intro (fun q4 => ?_) (fun q4 => ?_)
        ·
          simp at q4
          exact absurd (hn.symm.trans q4) (by decide)
        ·
          simp at q4
          refine VCsplit.intro (fun q5 => ?_) (fun q5 => ?_)
          ·
            simp at q5
          ·
            simp at q5
            refine VCsplit.intro (fun q6 => ?_) (fun q6 => ?_)
            ·
              simp at q6
              exact ⟨[], ⟨by (rw [beq_str, decide_eq_true (show ByteArray.empty = (⟨#[]⟩ : ByteArray) from rfl)]), rfl⟩, (.le fun a => by (try simp only [setR, List.cons_append, List.nil_append]); simp only [List.flatten_append, List.flatten_cons, List.flatten_nil, List.count_append, List.count_nil, List.append_nil, List.nil_append]; omega)⟩
            ·
              simp at q6
  obtain ⟨rfl, w0, w1, w2, w3⟩ := gAct_rd.1 hp
  simp only [ak, if_true, show ¬ (1 : Nat) = 0 by decide, if_false] at *
  refine VCnew.intro fun x0 => ?_
  refine VCsplit.intro (fun q1 => ?_) (fun q1 => ?_)
  ·
    simp at q1
  ·
    simp at q1
    refine VCsplit.intro (fun q2 => ?_) (fun q2 => ?_)
    ·
      simp at q2
    ·
      simp at q2
      refine call_val (isFileName_ct _ ?_) trivial ?_
      · trivial
      rintro _ rfl
      refine VCsplit.intro (fun q4 => ?_) (fun q4 => ?_)
      ·
        simp at q4
        exact absurd (hn.symm.trans q4) (by decide)
      ·
        simp at q4
        refine VCsplit.intro (fun q5 => ?_) (fun q5 => ?_)
        ·
          simp at q5
          refine VCsplit.intro (fun q6 => ?_) (fun q6 => ?_)
          ·
            simp at q6
          ·
            simp at q6
            refine VCsplit.intro (fun q7 => ?_) (fun q7 => ?_)
            ·
              simp at q7
              exact ⟨[], ⟨by (rw [beq_str, decide_eq_true (show ByteArray.empty = (⟨#[]⟩ : ByteArray) from rfl)]), rfl⟩, (.le fun a => by (try simp only [setR, List.cons_append, List.nil_append]); simp only [List.flatten_append, List.flatten_cons, List.flatten_nil, List.count_append, List.count_nil, List.append_nil, List.nil_append]; omega)⟩
            ·
              simp at q7
        ·
          simp at q5
--@ct slices.Insert[[]impl.File,impl.File] raw refine callR_at &1 rfl (insFile_ct _ _ _ _ _ ~1) (Rp.mono _ (mem_at @3 rfl) (Gt.owrd _ (glit1 (gFile_own ‹gFile.rd _ _ _›)))) ?_ | | rintro _ A# ⟨b#, c#, rfl, o#⟩
theorem insFile_ct (b : Option Addr) (c x : Nat) (f : File) (A : Hp) (hA : (gSl 323 gFile).ow [.slice b 0 c] [] A) :
    CtR Tryz.prog 410 [.slice b 0 c, .int .i64 0, .slice (some ⟨x, 0, none⟩) 1 1] A (fun H => (gSl 323 gFile).rd H [.slice (some ⟨x, 0, none⟩) 1 1] [f]) (fun v A => ∃ b c, v = .slice b [f].length c ∧ (gSl 323 gFile).ow [.slice b [f].length c] [f] A) := by
  refine CtR.intro G_ok [A] Tryz.func410 rfl rfl rfl (by simp) fun E H hp => ?_
  refine VC.intro ?_ ?_
  · trivial
  refine VCsplit.intro (fun q0 => ?_) (fun q0 => ?_)
  ·
    simp at q0
  ·
    simp at q0
    refine VCsplit.intro (fun q1 => ?_) (fun q1 => ?_)
    ·
      simp at q1
      refine append_allN (g := gFile) (T := (323 : TypeId)) G_ok (by repeat (first | exact fl_plain | apply plain_iso | apply plain_pair)) A [H] 0 ?_ hA rfl hp rfl rfl rfl rfl rfl rfl rfl rfl ?_ fun b2 c2 A2 o2 => ?_
      · exact .refl _
      · simp_all
      exact ⟨_, ⟨_, _, rfl, by assumption⟩, (.le fun a => by (try simp only [setR, List.cons_append, List.nil_append]); simp only [List.flatten_append, List.flatten_cons, List.flatten_nil, List.count_append, List.count_nil, List.append_nil, List.nil_append]; omega)⟩
    ·
      simp at q1
--@ct (*impl.Disk).insertFile blk0s insertFile_ct _ _ _ _ _ $2 !o | %2 | rintro _ A# ⟨b#, c#, Ax#, rfl, rfl, o#⟩ ;; refine ⟨_, _, [Ax#], rfl, perm1, ?_⟩
theorem insertFile_ct (q : Nat) (b : Option Addr) (c : Nat) (A : Hp) (l : List Value) (f : File) (hA : (gSl 323 gFile).ow [.slice b 0 c] [] A) :
    CtR Tryz.prog 376 [.pointer (some ⟨q, 0, none⟩), .agg ⟨l⟩] ((q, Obj.cells ⟨[.slice b 0 c]⟩ 153) :: A) (fun H => gFile.rd H l f) (fun v B => ∃ b c A', v = .tuple #[] ∧ B = (q, Obj.cells ⟨[.slice b [f].length c]⟩ 153) :: A' ∧ (gSl 323 gFile).ow [.slice b [f].length c] [f] A') := by
  refine CtR.introB G_ok [.p 0 0, .v (.agg ⟨l⟩)] [⟨q, [.slice b 0 c], 153⟩] [A] Tryz.func376 rfl rfl rfl rfl (by simp [SV.ok]) (by simp [Blk.ent]) fun E H hp => ?_
  obtain ⟨rfl, w0p, w1p, w2p⟩ := gFile_rd.1 hp
  refine VCnew.intro fun x0 => ?_
  apply loop_mod (α := (Nat)) G_ok [5, 6, 7, 8, 9, 10, 11, 12, 13, 14, 15, 16, 17, 18, 19, 20, 21, 22, 23, 24, 25, 26, 4] (fun z => [(4, .v (.int .i64 0))]) (fun z => [{ id := q, cs := [Value.slice b (0 : Nat) c], ty := (153 : TypeId) }, { id := x0, cs := [Value.string f.name, Value.string f.text, Value.int IntKind.i64 f.kept], ty := (323 : Nat) }]) (fun z => [A] ++ [H]) (fun z => 0) (fun z => z = 0) (0)
  · repeat' (first | exact trivial | refine ⟨⟨_, rfl, by first | rfl | exact inc_eq _ (by omega) | (refine sl_eq ?_; simp; done), by first | exact trivial | simp [SV.ok]⟩, ?_⟩)
  · exact ⟨rfl, rfl, trivial⟩
  · dsimp only
  · exact .refl _
  rintro u hI
  obtain hu : u = 0 := hI
  try dsimp only
  refine draw G_ok mixed none (.q 0 (.q 1 (.q 2 (.q 3 (.q 4 (.q 5 (.q 6 (.q 7 (.q 8 (.q 9 (.q 10 (.q 11 (.q 12 (.q 13 (.q 14 (.q 15 (.q 16 (.q 17 (.q 18 (.q 19 (.nil))))))))))))))))))))) (by decide +kernel) ?_
  refine VCsplit.intro (fun q1 => ?_) (fun q1 => ?_)
  ·
    simp at q1
  ·
    simp at q1
    refine draw G_ok mixed none (.q 0 (.q 1 (.q 2 (.q 3 (.q 4 (.q 5 (.q 6 (.q 7 (.q 8 (.q 9 (.q 10 (.q 11 (.q 12 (.q 13 (.q 14 (.q 15 (.q 16 (.q 17 (.q 18 (.q 19 (.nil))))))))))))))))))))) (by decide +kernel) ?_
    refine VCsplit.intro (fun q2 => ?_) (fun q2 => ?_)
    ·
      simp at q2
    ·
      simp at q2
      refine draw G_ok mixed (some 8) (.q 0 (.q 1 (.q 2 (.q 3 (.q 4 (.q 5 (.q 6 (.f 7 (.tl 8 (.f 9 (.f 10 (.f 11 (.nil))))))))))))) (by decide +kernel) ?_
      refine VCnew.intro fun x3 => ?_
      refine VC.intro ?_ ?_
      · exact keep_new
      refine callR_at 1 rfl (insFile_ct _ _ _ _ _ hA) (Rp.mono _ (mem_at 0 rfl) (Gt.owrd _ (glit1 (gFile_own ‹gFile.rd _ _ _›)))) ?_
      rintro _ A4 ⟨b4, c4, rfl, o4⟩
      try dsimp only
      exact ⟨_, ⟨_, _, _, rfl, rfl, by assumption⟩, (.le fun a => by (try simp only [setR, List.cons_append, List.nil_append]); simp [List.count_cons, Blk.ent, idOf]; try omega)⟩
--@ct spec.l14Put new l14Put_ct _ _ $1 $2 ?_ | ⟨%1, %2⟩ | obtain ⟨l#, rfl, o#⟩ := o# ;; have r# := Gt.owrd _ o# ;; @open{Disk r# x#}
theorem l14Put_ct (l l2 : List Value) (d : Disk) (f : File) (hx : d.files.length ≤ 1000000) : Ct Tryz.prog 412 [.agg ⟨l⟩, .agg ⟨l2⟩] [] (fun H => gDisk.rd H l d ∧ gFile.rd H l2 f) (fun v A => ∃ l, v = .agg ⟨l⟩ ∧ gDisk.ow l (putF d f) A) := by
  refine Ct.intro0 G_ok Tryz.func412 rfl rfl rfl fun E H hp => ?_
  obtain ⟨hp, hp2⟩ := hp
  obtain ⟨b0p, c0p, rfl, h0p⟩ := gDisk_rd.1 hp
  obtain ⟨rfl, w0f, w1f, w2f⟩ := gFile_rd.1 hp2
  refine VCnew.intro fun x0 => ?_
  refine VCnew.intro fun x1 => ?_
  refine VCnew.intro fun x2 => ?_
  refine VCnew.intro fun x3 => ?_
  apply loop_mod (α := (Nat) × (List File) × (Hp) × (Option Addr) × (Nat)) G_ok [9, 10, 11, 12, 13, 16, 17, 18, 19, 20, 21, 22, 23, 24, 25, 26, 27, 28, 29, 30, 31, 32, 33, 34, 14, 15, 6] (fun z => [(6, .v (.int .i64 z.1))]) (fun z => [⟨x0, [Value.slice b0p d.files.length c0p], (153 : Nat)⟩, ⟨x1, [Value.string f.name, Value.string f.text, Value.int IntKind.i64 f.kept], (323 : Nat)⟩, ⟨x2, [Value.slice none (0 : Nat) (0 : Nat)], (153 : Nat)⟩, ⟨x3, [.slice z.2.2.2.1 z.2.1.length z.2.2.2.2], (153 : Nat)⟩]) (fun z => [z.2.2.1, H]) (fun z => d.files.length - z.1) (fun z => z.1 ≤ d.files.length ∧ z.2.1 = (d.files.take z.1).filter (fun x => lessS x.name f.name) ∧ (gSl 323 gFile).ow [.slice z.2.2.2.1 z.2.1.length z.2.2.2.2] z.2.1 z.2.2.1) ((0, [], [], none, 0))
  · repeat' (first | exact trivial | refine ⟨⟨_, rfl, by first | rfl | exact inc_eq _ (by omega) | (refine sl_eq ?_; simp; done), by first | exact trivial | simp [SV.ok]⟩, ?_⟩)
  · exact ⟨rfl, rfl, rfl, rfl, trivial⟩
  · try dsimp only
    exact ⟨by omega, rfl, sl_nil _ _ _⟩
  · exact .refl _
  rintro ⟨k, o, A, b, c⟩ hI
  obtain ⟨hk, ho, oA⟩ : k ≤ d.files.length ∧ o = (d.files.take k).filter (fun x => lessS x.name f.name) ∧ (gSl 323 gFile).ow [.slice b o.length c] o A := hI
  try dsimp only
  refine VCsplit.intro (fun q4 => ?_) (fun q4 => ?_)
  ·
    simp at q4
    have hol : o.length ≤ k := by rw [ho]; exact Nat.le_trans (List.length_filter_le _ _) (by rw [List.length_take]; omega)
    refine draw G_ok mixed none (.q 0 (.q 1 (.q 2 (.q 3 (.q 4 (.q 5 (.q 6 (.q 7 (.q 8 (.nil)))))))))) (by decide +kernel) ?_
    refine idx_rd h0p ?_ ?_ fun b5 o5 hb5 => ?_
    · omega
    · omega
    refine load_partN default (k) 0 rfl h0p ?_ ?_ hb5 rfl (by decide) (mem_at 1 rfl) fun l6 hl6 => ?_
    · omega
    · omega
    obtain ⟨rfl, w0x6, w1x6, w2x6⟩ := gFile_rd.1 hl6
    refine VCsplit.intro (fun q7 => ?_) (fun q7 => ?_)
    ·
      refine draw G_ok mixed (some 8) (.q 0 (.q 1 (.q 2 (.q 3 (.q 4 (.q 5 (.q 6 (.f 7 (.tl 8 (.f 9 (.f 10 (.nil)))))))))))) (by decide +kernel) ?_
      refine idx_rd h0p ?_ ?_ fun b8 o8 hb8 => ?_
      · omega
      · omega
      refine load_allN default (k) rfl h0p ?_ ?_ hb8 rfl (mem_at 1 rfl) fun l9 hl9 => ?_
      · omega
      · omega
      obtain ⟨rfl, w0x9, w1x9, w2x9⟩ := gFile_rd.1 hl9
      refine VCnew.intro fun x10 => ?_
      refine VC.intro ?_ ?_
      · exact keep_new
      refine gappend1 (g := gFile) (T := (323 : TypeId)) G_ok A _ [H] ?_ oA (gFile_own ‹_›) (List.mem_of_getElem? (i := 0) rfl) rfl rfl rfl rfl rfl rfl rfl rfl ?_ fun b11 c11 A11 o11 => ?_
      · exact .tl
      · omega
      apply loop_stepA (k + 1, _, _, _, _)
      · exact .refl _
      · repeat' (first | exact trivial | refine ⟨⟨_, rfl, by first | rfl | exact inc_eq _ (by omega) | (refine sl_eq ?_; simp; done), by first | exact trivial | simp [SV.ok]⟩, ?_⟩)
      · exact ⟨rfl, rfl, rfl, rfl, trivial⟩
      · try dsimp only
        exact ⟨by omega, by rw [ho, filter_yes default (by omega) (by exact ‹Op.bytesLess _ _ = true›)], ‹_›⟩
      try dsimp only
      omega
    ·
      apply loop_stepA (k + 1, _, _, _, _)
      · exact .refl _
      · repeat' (first | exact trivial | refine ⟨⟨_, rfl, by first | rfl | exact inc_eq _ (by omega) | (refine sl_eq ?_; simp; done), by first | exact trivial | simp [SV.ok]⟩, ?_⟩)
      · exact ⟨rfl, rfl, rfl, rfl, trivial⟩
      · try dsimp only
        exact ⟨by omega, by rw [ho, filter_no default (by omega) (by exact ‹Op.bytesLess _ _ = false›)], ‹_›⟩
      try dsimp only
      omega
  ·
    simp at q4
    obtain rfl : k = d.files.length := by omega
    rw [List.take_length] at ho
    have hol : o.length ≤ d.files.length := by rw [ho]; exact List.length_filter_le _ _
    refine VCnew.intro fun x12 => ?_
    refine gappend1 (g := gFile) (T := (323 : TypeId)) G_ok A _ [H] ?_ oA (gFile_own ‹_›) (List.mem_of_getElem? (i := 0) rfl) rfl rfl rfl rfl rfl rfl rfl rfl ?_ fun b13 c13 A13 o13 => ?_
    · exact .tl
    · omega
    apply loop_mod (α := (Nat) × (List File) × (Hp) × (Option Addr) × (Nat)) G_ok [41, 42, 43, 44, 45, 48, 49, 50, 51, 52, 53, 54, 55, 56, 57, 58, 59, 60, 61, 62, 63, 64, 65, 66, 46, 47, 7] (fun z => [(7, .v (.int .i64 z.1))]) (fun z => [⟨x0, [Value.slice b0p d.files.length c0p], (153 : Nat)⟩, ⟨x1, [Value.string f.name, Value.string f.text, Value.int IntKind.i64 f.kept], (323 : Nat)⟩, ⟨x2, [Value.slice none (0 : Nat) (0 : Nat)], (153 : Nat)⟩, ⟨x3, [.slice z.2.2.2.1 z.2.1.length z.2.2.2.2], (153 : Nat)⟩]) (fun z => [z.2.2.1, H]) (fun z => d.files.length - z.1) (fun z => z.1 ≤ d.files.length ∧ z.2.1 = d.files.filter (fun x => lessS x.name f.name) ++ ([f] ++ (d.files.take z.1).filter (fun x => lessS f.name x.name)) ∧ (gSl 323 gFile).ow [.slice z.2.2.2.1 z.2.1.length z.2.2.2.2] z.2.1 z.2.2.1) ((0, _, _, _, _))
    · repeat' (first | exact trivial | refine ⟨⟨_, rfl, by first | rfl | exact inc_eq _ (by omega) | (refine sl_eq ?_; simp; done), by first | exact trivial | simp [SV.ok]⟩, ?_⟩)
    · exact ⟨rfl, rfl, rfl, rfl, trivial⟩
    · try dsimp only
      exact ⟨by omega, by rw [ho]; simp, ‹_›⟩
    · exact .refl _
    rintro ⟨k, o, A, b, c⟩ hI
    obtain ⟨hk, ho, oA⟩ : k ≤ d.files.length ∧ o = d.files.filter (fun x => lessS x.name f.name) ++ ([f] ++ (d.files.take k).filter (fun x => lessS f.name x.name)) ∧ (gSl 323 gFile).ow [.slice b o.length c] o A := hI
    try dsimp only
    refine VCsplit.intro (fun q14 => ?_) (fun q14 => ?_)
    ·
      simp at q14
      refine draw G_ok mixed none (.q 0 (.q 1 (.q 2 (.q 3 (.q 4 (.q 5 (.q 6 (.q 7 (.q 8 (.nil)))))))))) (by decide +kernel) ?_
      refine idx_rd h0p ?_ ?_ fun b15 o15 hb15 => ?_
      · omega
      · omega
      refine load_partN default (k) 0 rfl h0p ?_ ?_ hb15 rfl (by decide) (mem_at 1 rfl) fun l16 hl16 => ?_
      · omega
      · omega
      obtain ⟨rfl, w0x16, w1x16, w2x16⟩ := gFile_rd.1 hl16
      refine VCsplit.intro (fun q17 => ?_) (fun q17 => ?_)
      ·
        simp at q17
        simp only [str_inj, u8_inj, u8_wrap] at q17
        refine draw G_ok mixed (some 8) (.q 0 (.q 1 (.q 2 (.q 3 (.q 4 (.q 5 (.q 6 (.f 7 (.tl 8 (.f 9 (.f 10 (.nil)))))))))))) (by decide +kernel) ?_
        refine idx_rd h0p ?_ ?_ fun b18 o18 hb18 => ?_
        · omega
        · omega
        refine load_allN default (k) rfl h0p ?_ ?_ hb18 rfl (mem_at 1 rfl) fun l19 hl19 => ?_
        · omega
        · omega
        obtain ⟨rfl, w0x19, w1x19, w2x19⟩ := gFile_rd.1 hl19
        refine VCnew.intro fun x20 => ?_
        refine VC.intro ?_ ?_
        · exact keep_new
        refine gappend1 (g := gFile) (T := (323 : TypeId)) G_ok A _ [H] ?_ oA (gFile_own ‹_›) (List.mem_of_getElem? (i := 0) rfl) rfl rfl rfl rfl rfl rfl rfl rfl ?_ fun b21 c21 A21 o21 => ?_
        · exact .tl
        · grind
        apply loop_stepA (k + 1, _, _, _, _)
        · exact .refl _
        · repeat' (first | exact trivial | refine ⟨⟨_, rfl, by first | rfl | exact inc_eq _ (by omega) | (refine sl_eq ?_; simp; done), by first | exact trivial | simp [SV.ok]⟩, ?_⟩)
        · exact ⟨rfl, rfl, rfl, rfl, trivial⟩
        · try dsimp only
          exact ⟨by omega, by rw [ho, filter_yes default (by omega) (by exact lessS_gt ‹_ ∧ _›)]; simp, ‹_›⟩
        try dsimp only
        omega
      ·
        simp at q17
        simp only [str_inj, u8_inj, u8_wrap] at q17
        apply loop_stepA (k + 1, _, _, _, _)
        · exact .refl _
        · repeat' (first | exact trivial | refine ⟨⟨_, rfl, by first | rfl | exact inc_eq _ (by omega) | (refine sl_eq ?_; simp; done), by first | exact trivial | simp [SV.ok]⟩, ?_⟩)
        · exact ⟨rfl, rfl, rfl, rfl, trivial⟩
        · try dsimp only
          exact ⟨by omega, by rw [ho, filter_no default (by omega) (by exact lessS_le ‹_ → _›)], ‹_›⟩
        try dsimp only
        omega
    ·
      simp at q14
      (have hke : k = d.files.length := (by omega); subst hke; rw [List.take_length] at ho; subst ho; exact ⟨_, ⟨_, rfl, gDisk_ow.2 ⟨_, _, _, rfl, .refl _, by assumption⟩⟩, (.le fun a => by (try simp only [setR, List.cons_append, List.nil_append]); simp [List.count_cons, Blk.ent, idOf]; try omega)⟩)
/-! one operation of the two -/
theorem dk0 (name rec : ByteArray) : dk name rec 0 = ⟨[]⟩ := rfl
theorem dk1 (name rec : ByteArray) : dk name rec 1 = ⟨[⟨name, frame rec, 0⟩]⟩ := rfl
theorem diskOk_nil : diskOk ⟨[]⟩ = true := rfl
--@ct impl.DoAct new implDoAct_ct _ _ _ _ _ ?_ ?_ ?_ | ⟨?_, ?_⟩ | obtain ⟨b#, c#, rfl, o#⟩ := o#
theorem implDoAct_ct (l la : List Value) (name rec : ByteArray) (k : Nat) (hn : nameOk name = true) (hf : frameOk rec = true) (hk : k < 2) : Ct Tryz.prog 310 [.agg ⟨l⟩, .agg ⟨la⟩] [] (fun H => gDisk.rd H l (dk name rec k) ∧ gAct.rd H la (ak name rec k)) (fun v A => ∃ b c, v = .tuple #[.agg ⟨[.slice b (dk name rec (k + 1)).files.length c]⟩, .bool true] ∧ (gSl 323 gFile).ow [.slice b (dk name rec (k + 1)).files.length c] (dk name rec (k + 1)).files A) := by
  refine Ct.intro0 G_ok Tryz.func310 rfl rfl rfl fun E H hp => ?_
  obtain ⟨hp, hp2⟩ := hp
  have hz := nameOk_sz hn
  have hfs := frame_size rec
  have hr : rec.size ≤ 9000 := by have := inR_iff.1 hf; omega
  have hd1 : diskOk ⟨[⟨name, frame rec, 0⟩]⟩ = true := diskOk_one hn (by show (frame rec).size ≤ _; omega) (Int.le_refl _) (Int.natCast_nonneg _)
  have hd2 : diskOk ⟨[⟨name, frame rec, (frame rec).size⟩]⟩ = true := diskOk_one hn (by show (frame rec).size ≤ _; omega) (Int.natCast_nonneg _) (Int.le_refl _)
  have ha1 : at14 ⟨[⟨name, frame rec, 0⟩]⟩ name = 0 := at14_one ⟨name, frame rec, 0⟩
  rcases (show k = 0 ∨ k = 1 by omega) with rfl | rfl
  · rw [dk0] at hp
    obtain ⟨b0, c0, rfl, h0⟩ := gDisk_rd.1 hp
    obtain ⟨rfl, w0, w1, w2, w3⟩ := gAct_rd.1 hp2
    simp only [ak, if_true] at *
    have hff : gFile.rd H [.string name, .string (ByteArray.empty ++ frame rec), .int .i64 0] ⟨name, ByteArray.empty ++ frame rec, 0⟩ := gFile_rd.2 ⟨rfl, by show name.size ≤ _; omega, by show (ByteArray.empty ++ frame rec).size ≤ _; rw [ByteArray.empty_append]; omega, okI_lit' (n := 0) (by decide) (by decide)⟩
    have hd1' : diskOk ⟨[⟨name, ByteArray.empty ++ frame rec, 0⟩]⟩ = true := by rw [ByteArray.empty_append]; exact hd1
    refine VCnew.intro fun x0 => ?_
    refine VCnew.intro fun x1 => ?_
    refine VCnew.intro fun x2 => ?_
    refine call_val (fileIndex_ct _ ({ files := [] }) _) (Rp.mono _ (mem_at 0 rfl) hp) ?_
    rintro _ rfl
    refine call_val (implDiskOk_ct _ _) (by (try exact Rp.mono _ (mem_at 0 rfl) hp); (try exact gDisk_rd.2 ⟨_, _, rfl, Rp.mono _ (mem_at 0 rfl) (Gt.owrd _ ‹(gSl _ gFile).ow _ _ _›)⟩)) ?_
    rintro _ rfl
    refine VCsplit.intro (fun q5 => ?_) (fun q5 => ?_)
    ·
      simp at q5
      exact absurd (diskOk_nil.symm.trans q5) (by decide)
    ·
      simp at q5
      refine call_val (actFits_ct _ ({ kind := (1 : Int), name := name, text := frame rec, to := ByteArray.empty }) name rec ?_ ?_) (Rp.mono _ (mem_at 0 rfl) hp2) ?_
      · trivial
      · exact .inl rfl
      rintro _ rfl
      refine VCsplit.intro (fun q7 => ?_) (fun q7 => ?_)
      ·
        simp at q7
      ·
        simp at q7
        refine VCsplit.intro (fun q8 => ?_) (fun q8 => ?_)
        ·
          simp at q8
          refine VCsplit.intro (fun q9 => ?_) (fun q9 => ?_)
          ·
            simp at q9
          ·
            simp at q9
            refine call_new (copyDisk_ct _ ({ files := [] }) ?_) (Rp.mono _ (mem_at 0 rfl) hp) ?_
            · trivial
            rintro v10 A10 o10
            obtain ⟨l10, rfl, o10⟩ := o10
            obtain ⟨b0x10, c0x10, rfl, o10⟩ := gDisk_sl o10
            refine VCnew.intro fun x11 => ?_
            refine VCsplit.intro (fun q12 => ?_) (fun q12 => ?_)
            ·
              simp at q12
              refine VCnew.intro fun x13 => ?_
              refine VCsplit.intro (fun q14 => ?_) (fun q14 => ?_)
              ·
                simp at q14
                exact absurd (show (0 : Int) ≤ -1 from q14) (by decide)
              ·
                simp at q14
                refine VC.intro ?_ ?_
                · simp; omega
                refine callR_blk 3 (A10) [H] rfl ?_ (insertFile_ct _ _ _ _ _ ({ name := name, text := ByteArray.empty ++ frame rec, kept := (0 : Int) }) o10) (Rp.mono _ (mem_at 0 rfl) hff) ?_
                · exact .refl _
                rintro _ A15 ⟨b15, c15, Ax15, rfl, rfl, o15⟩
                refine ⟨_, _, [Ax15], rfl, perm1, ?_⟩
                refine call_val (implDiskOk_ct _ _) (by (try exact Rp.mono _ (mem_at 0 rfl) hp); (try exact gDisk_rd.2 ⟨_, _, rfl, Rp.mono _ (mem_at 0 rfl) (Gt.owrd _ ‹(gSl _ gFile).ow _ _ _›)⟩)) ?_
                rintro _ rfl
                refine VCsplit.intro (fun q17 => ?_) (fun q17 => ?_)
                ·
                  simp at q17
                  exact absurd (hd1'.symm.trans q17) (by decide)
                ·
                  simp at q17
                  (rw [show dk name rec (0 + 1) = ⟨[⟨name, ByteArray.empty ++ frame rec, 0⟩]⟩ by rw [ByteArray.empty_append]; rfl]; exact ⟨_, ⟨_, _, rfl, by assumption⟩, (.le fun a => by (try simp only [setR, List.cons_append, List.nil_append]); simp [List.count_cons, Blk.ent, idOf]; try omega)⟩)
            ·
              simp at q12
        ·
          simp at q8
          exact absurd (show (0 : Int) ≤ -1 from q8) (by decide)
  rw [dk1] at hp
  obtain ⟨b0, c0, rfl, h0⟩ := gDisk_rd.1 hp
  obtain ⟨rfl, w0, w1, w2, w3⟩ := gAct_rd.1 hp2
  simp only [ak, if_true, show ¬ (1 : Nat) = 0 by decide, if_false] at *
  have hfi := fileIndex_ct [.slice b0 [(⟨name, frame rec, 0⟩ : File)].length c0] ⟨[⟨name, frame rec, 0⟩]⟩ name
  rw [ha1] at hfi
  have hpost : ∀ (b : Option Addr) (c : Nat) (A : Hp), (gSl 323 gFile).ow [.slice b 1 c] [⟨name, frame rec, ((frame rec).size : Nat)⟩] A → gDisk.rd A [.slice b 1 c] ⟨[⟨name, frame rec, ((frame rec).size : Nat)⟩]⟩ := fun b c A h => gDisk_rd.2 ⟨b, c, rfl, Gt.owrd _ h⟩
  refine VCnew.intro fun x0 => ?_
  refine VCnew.intro fun x1 => ?_
  refine VCnew.intro fun x2 => ?_
  refine call_val (hfi) (Rp.mono _ (mem_at 0 rfl) hp) ?_
  rintro _ rfl
  refine call_val (implDiskOk_ct _ _) (by (try exact Rp.mono _ (mem_at 0 rfl) hp); (try exact Rp.mono _ (mem_at 0 rfl) (hpost _ _ _ (by assumption)))) ?_
  rintro _ rfl
  refine VCsplit.intro (fun q5 => ?_) (fun q5 => ?_)
  ·
    simp at q5
    exact absurd (hd1.symm.trans q5) (by decide)
  ·
    simp at q5
    refine call_val (actFits_ct _ ({ kind := (2 : Int), name := name, text := ByteArray.empty, to := ByteArray.empty }) name rec ?_ ?_) (Rp.mono _ (mem_at 0 rfl) hp2) ?_
    · trivial
    · exact .inr rfl
    rintro _ rfl
    refine VCsplit.intro (fun q7 => ?_) (fun q7 => ?_)
    ·
      simp at q7
    ·
      simp at q7
      refine VCsplit.intro (fun q8 => ?_) (fun q8 => ?_)
      ·
        simp at q8
      ·
        simp at q8
        refine call_new (copyDisk_ct _ ({ files := [{ name := name, text := frame rec, kept := (0 : Int) }] }) ?_) (Rp.mono _ (mem_at 0 rfl) hp) ?_
        · (rw [disk_one_sz]; show 1 + (name.size + ((frame rec).size + 0)) + 0 ≤ 1048576; omega)
        rintro v9 A9 o9
        obtain ⟨l9, rfl, o9⟩ := o9
        obtain ⟨b0x9, c0x9, rfl, o9⟩ := gDisk_sl o9
        refine VCnew.intro fun x10 => ?_
        refine VCsplit.intro (fun q11 => ?_) (fun q11 => ?_)
        ·
          simp at q11
        ·
          simp at q11
          refine VCsplit.intro (fun q12 => ?_) (fun q12 => ?_)
          ·
            simp at q12
            refine draw G_ok mixed (some 12) (.q 0 (.q 1 (.q 2 (.q 3 (.q 4 (.q 5 (.q 6 (.q 7 (.q 8 (.q 9 (.q 10 (.q 11 (.tl 12 (.nil)))))))))))))) (by decide +kernel) ?_
            refine idx_rd (Gt.owrd _ o9) ?_ ?_ fun b13 o13 hb13 => ?_
            · trivial
            · simp_all
            refine load_partN default (0) 1 rfl (Gt.owrd _ o9) ?_ ?_ hb13 rfl (by decide) (mem_at 0 rfl) fun l14 hl14 => ?_
            · trivial
            · simp_all
            dsimp only at hl14
            obtain ⟨rfl, w0x14, w1x14, w2x14⟩ := gFile_rd.1 hl14
            refine idx_rd (Gt.owrd _ o9) ?_ ?_ fun b15 o15 hb15 => ?_
            · trivial
            · simp_all
            refine gstoreN gFile_kept default (0) 0 rfl rfl o9 ?_ ?_ hb15 rfl gI_pl _ (gI_ow ?_) fun A16 o16 => ?_
            · trivial
            · simp_all
            · unfold okI; omega
            dsimp only at o16
            refine call_val (implDiskOk_ct _ _) (by (try exact Rp.mono _ (mem_at 0 rfl) hp); (try exact Rp.mono _ (mem_at 0 rfl) (hpost _ _ _ (by assumption)))) ?_
            rintro _ rfl
            refine VCsplit.intro (fun q18 => ?_) (fun q18 => ?_)
            ·
              simp at q18
              exact absurd (hd2.symm.trans q18) (by decide)
            ·
              simp at q18
              try dsimp only
              exact ⟨_, ⟨_, _, rfl, by assumption⟩, (.le fun a => by (try simp only [setR, List.cons_append, List.nil_append]); simp [List.count_cons, Blk.ent, idOf]; try omega)⟩
          ·
            simp at q12
--@ct spec.DoAct new specDoAct_ct _ _ _ _ _ ?_ ?_ ?_ | ⟨?_, ?_⟩ | obtain ⟨b#, c#, rfl, o#⟩ := o#
theorem specDoAct_ct (l la : List Value) (name rec : ByteArray) (k : Nat) (hn : nameOk name = true) (hf : frameOk rec = true) (hk : k < 2) : Ct Tryz.prog 384 [.agg ⟨l⟩, .agg ⟨la⟩] [] (fun H => gDisk.rd H l (dk name rec k) ∧ gAct.rd H la (ak name rec k)) (fun v A => ∃ b c, v = .tuple #[.agg ⟨[.slice b (dk name rec (k + 1)).files.length c]⟩, .bool true] ∧ (gSl 323 gFile).ow [.slice b (dk name rec (k + 1)).files.length c] (dk name rec (k + 1)).files A) := by
  refine Ct.intro0 G_ok Tryz.func384 rfl rfl rfl fun E H hp => ?_
  obtain ⟨hp, hp2⟩ := hp
  have hz := nameOk_sz hn
  have hfs := frame_size rec
  have hr : rec.size ≤ 9000 := by have := inR_iff.1 hf; omega
  have hd1 : diskOk ⟨[⟨name, frame rec, 0⟩]⟩ = true := diskOk_one hn (by show (frame rec).size ≤ _; omega) (Int.le_refl _) (Int.natCast_nonneg _)
  have hd2 : diskOk ⟨[⟨name, frame rec, (frame rec).size⟩]⟩ = true := diskOk_one hn (by show (frame rec).size ≤ _; omega) (Int.natCast_nonneg _) (Int.le_refl _)
  have ha1 : at14 ⟨[⟨name, frame rec, 0⟩]⟩ name = 0 := at14_one ⟨name, frame rec, 0⟩
  rcases (show k = 0 ∨ k = 1 by omega) with rfl | rfl
  · rw [dk0] at hp
    obtain ⟨b0, c0, rfl, h0⟩ := gDisk_rd.1 hp
    obtain ⟨rfl, w0, w1, w2, w3⟩ := gAct_rd.1 hp2
    simp only [ak, if_true] at *
    have hff : gFile.rd H [.string name, .string (ByteArray.empty ++ frame rec), .int .i64 0] ⟨name, ByteArray.empty ++ frame rec, 0⟩ := gFile_rd.2 ⟨rfl, by show name.size ≤ _; omega, by show (ByteArray.empty ++ frame rec).size ≤ _; rw [ByteArray.empty_append]; omega, okI_lit' (n := 0) (by decide) (by decide)⟩
    have hd1' : diskOk (putF ⟨[]⟩ ⟨name, ByteArray.empty ++ frame rec, 0⟩) = true := by rw [ByteArray.empty_append]; exact hd1
    refine VCnew.intro fun x0 => ?_
    refine VCnew.intro fun x1 => ?_
    refine VCnew.intro fun x2 => ?_
    refine call_val (specDiskOk_ct _ ({ files := [] })) (Rp.mono _ (mem_at 0 rfl) hp) ?_
    rintro _ rfl
    refine VCsplit.intro (fun q4 => ?_) (fun q4 => ?_)
    ·
      simp at q4
      exact absurd (diskOk_nil.symm.trans q4) (by decide)
    ·
      simp at q4
      refine call_val (l14Name_ct _ ?_) trivial ?_
      · trivial
      rintro _ rfl
      refine VCsplit.intro (fun q6 => ?_) (fun q6 => ?_)
      ·
        simp at q6
        exact absurd (hn.symm.trans q6) (by decide)
      ·
        simp at q6
        refine VCsplit.intro (fun q7 => ?_) (fun q7 => ?_)
        ·
          simp at q7
          refine VCsplit.intro (fun q8 => ?_) (fun q8 => ?_)
          ·
            simp at q8
          ·
            simp at q8
            refine VCsplit.intro (fun q9 => ?_) (fun q9 => ?_)
            ·
              simp at q9
            ·
              simp at q9
              refine call_val (l14At_ct _ ({ files := [] }) _) (Rp.mono _ (mem_at 0 rfl) hp) ?_
              rintro _ rfl
              refine VCnew.intro fun x11 => ?_
              refine VCsplit.intro (fun q12 => ?_) (fun q12 => ?_)
              ·
                simp at q12
                exact absurd (show (0 : Int) ≤ -1 from q12) (by decide)
              ·
                simp at q12
                refine VCnew.intro fun x13 => ?_
                refine VCsplit.intro (fun q14 => ?_) (fun q14 => ?_)
                ·
                  simp at q14
                  refine VC.intro ?_ ?_
                  · simp; omega
                  refine call_new (l14Put_ct _ _ ({ files := [] }) ({ name := name, text := ByteArray.empty ++ frame rec, kept := (0 : Int) }) ?_) ⟨(Rp.mono _ (mem_at 0 rfl) hp), (Rp.mono _ (mem_at 0 rfl) hff)⟩ ?_
                  · trivial
                  rintro v15 A15 o15
                  obtain ⟨l15, rfl, o15⟩ := o15
                  have r15 := Gt.owrd _ o15
                  obtain ⟨b0x15, c0x15, rfl, h0x15⟩ := gDisk_rd.1 r15
                  refine call_val (specDiskOk_ct _ (putF { files := [] } { name := name, text := ByteArray.empty ++ frame rec, kept := (0 : Int) })) (Rp.mono _ (mem_at 0 rfl) r15) ?_
                  rintro _ rfl
                  refine VCsplit.intro (fun q17 => ?_) (fun q17 => ?_)
                  ·
                    simp at q17
                    exact absurd (hd1'.symm.trans q17) (by decide)
                  ·
                    simp at q17
                    (rw [show dk name rec (0 + 1) = putF ⟨[]⟩ ⟨name, ByteArray.empty ++ frame rec, 0⟩ by rw [ByteArray.empty_append]; rfl]; obtain ⟨bo, co, eo, oo⟩ := gDisk_sl ‹gDisk.ow _ _ _›; rw [eo]; exact ⟨_, ⟨_, _, rfl, oo⟩, (.le fun a => by (try simp only [setR, List.cons_append, List.nil_append]); simp [List.count_cons, Blk.ent, idOf]; try omega)⟩)
                ·
                  simp at q14
        ·
          simp at q7
  rw [dk1] at hp
  obtain ⟨b0, c0, rfl, h0⟩ := gDisk_rd.1 hp
  obtain ⟨rfl, w0, w1, w2, w3⟩ := gAct_rd.1 hp2
  simp only [ak, if_true, show ¬ (1 : Nat) = 0 by decide, if_false] at *
  have hfi := l14At_ct [.slice b0 [(⟨name, frame rec, 0⟩ : File)].length c0] ⟨[⟨name, frame rec, 0⟩]⟩ name
  rw [ha1] at hfi
  have hff : gFile.rd H [.string name, .string (frame rec), .int .i64 ((frame rec).size : Nat)] ⟨name, frame rec, ((frame rec).size : Nat)⟩ := gFile_rd.2 ⟨rfl, by show name.size ≤ _; omega, by show (frame rec).size ≤ _; omega, okI_lit' (n := ((frame rec).size : Nat)) (by omega) (by omega)⟩
  have ep : putF ⟨[⟨name, frame rec, 0⟩]⟩ ⟨name, frame rec, ((frame rec).size : Nat)⟩ = ⟨[⟨name, frame rec, ((frame rec).size : Nat)⟩]⟩ := putF_one _ _ rfl
  have hd2' : diskOk (putF ⟨[⟨name, frame rec, 0⟩]⟩ ⟨name, frame rec, ((frame rec).size : Nat)⟩) = true := by rw [ep]; exact hd2
  refine VCnew.intro fun x0 => ?_
  refine VCnew.intro fun x1 => ?_
  refine VCnew.intro fun x2 => ?_
  refine call_val (specDiskOk_ct _ ({ files := [{ name := name, text := frame rec, kept := (0 : Int) }] })) (Rp.mono _ (mem_at 0 rfl) hp) ?_
  rintro _ rfl
  refine VCsplit.intro (fun q4 => ?_) (fun q4 => ?_)
  ·
    simp at q4
    exact absurd (hd1.symm.trans q4) (by decide)
  ·
    simp at q4
    refine call_val (l14Name_ct _ ?_) trivial ?_
    · trivial
    rintro _ rfl
    refine VCsplit.intro (fun q6 => ?_) (fun q6 => ?_)
    ·
      simp at q6
      exact absurd (hn.symm.trans q6) (by decide)
    ·
      simp at q6
      refine VCsplit.intro (fun q7 => ?_) (fun q7 => ?_)
      ·
        simp at q7
        refine VCsplit.intro (fun q8 => ?_) (fun q8 => ?_)
        ·
          simp at q8
        ·
          simp at q8
          refine VCsplit.intro (fun q9 => ?_) (fun q9 => ?_)
          ·
            simp at q9
            refine VCsplit.intro (fun q10 => ?_) (fun q10 => ?_)
            ·
              simp at q10
            ·
              simp at q10
              refine call_val (hfi) (Rp.mono _ (mem_at 0 rfl) hp) ?_
              rintro _ rfl
              refine VCnew.intro fun x12 => ?_
              refine VCsplit.intro (fun q13 => ?_) (fun q13 => ?_)
              ·
                simp at q13
                refine idx_rd h0 ?_ ?_ fun b14 o14 hb14 => ?_
                · trivial
                · simp_all
                refine load_allN default (0) rfl h0 ?_ ?_ hb14 rfl (mem_at 0 rfl) fun l15 hl15 => ?_
                · trivial
                · simp_all
                obtain ⟨rfl, w0x15, w1x15, w2x15⟩ := gFile_rd.1 hl15
                refine VCnew.intro fun x16 => ?_
                refine VCsplit.intro (fun q17 => ?_) (fun q17 => ?_)
                ·
                  simp at q17
                ·
                  simp at q17
                  refine VCsplit.intro (fun q18 => ?_) (fun q18 => ?_)
                  ·
                    simp at q18
                  ·
                    simp at q18
                    refine VCsplit.intro (fun q19 => ?_) (fun q19 => ?_)
                    ·
                      simp at q19
                      refine call_new (l14Put_ct _ _ ({ files := [{ name := name, text := frame rec, kept := (0 : Int) }] }) ({ name := name, text := frame rec, kept := (↑(frame rec).size : Int) }) ?_) ⟨(Rp.mono _ (mem_at 0 rfl) hp), (Rp.mono _ (mem_at 0 rfl) hff)⟩ ?_
                      · simp_all
                      rintro v20 A20 o20
                      obtain ⟨l20, rfl, o20⟩ := o20
                      have r20 := Gt.owrd _ o20
                      obtain ⟨b0x20, c0x20, rfl, h0x20⟩ := gDisk_rd.1 r20
                      refine call_val (specDiskOk_ct _ (putF { files := [{ name := name, text := frame rec, kept := (0 : Int) }] } { name := name, text := frame rec, kept := (↑(frame rec).size : Int) })) (Rp.mono _ (mem_at 0 rfl) r20) ?_
                      rintro _ rfl
                      refine VCsplit.intro (fun q22 => ?_) (fun q22 => ?_)
                      ·
                        simp at q22
                        exact absurd (hd2'.symm.trans q22) (by decide)
                      ·
                        simp at q22
                        (rw [show dk name rec (1 + 1) = putF ⟨[⟨name, frame rec, 0⟩]⟩ ⟨name, frame rec, ((frame rec).size : Nat)⟩ by rw [ep]; rfl]; obtain ⟨bo, co, eo, oo⟩ := gDisk_sl ‹gDisk.ow _ _ _›; rw [eo]; exact ⟨_, ⟨_, _, rfl, oo⟩, (.le fun a => by (try simp only [setR, List.cons_append, List.nil_append]); simp [List.count_cons, Blk.ent, idOf]; try omega)⟩)
                    ·
                      simp at q19
              ·
                simp at q13
          ·
            simp at q9
      ·
        simp at q7
end Go.Proofs.YtjgehblllhkdbaaGreat
