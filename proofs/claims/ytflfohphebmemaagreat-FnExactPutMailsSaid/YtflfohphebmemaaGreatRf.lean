/-
  Letters that are right. Conditions: none.
-/
import Derived.Test.YtflfohphebmemaaGreatRe
namespace Go.Proofs.YtflfohphebmemaaGreat
open Go.SX Go.Proofs
set_option linter.unusedSimpArgs false
set_option linter.unusedVariables false
set_option maxHeartbeats 4000000
attribute [local irreducible] IntKind.wrap

theorem toL_nil9 {s : ByteArray} : s.toList = [] ↔ s.size = 0 := by
  have e : (ByteArray.empty).toList = [] := by simp
  constructor
  · intro h
    have h2 : s = ByteArray.empty := str_inj.1 (h.trans e.symm)
    rw [h2]; rfl
  · intro h
    have h2 := by_size s
    rw [h] at h2
    have h3 : s = ByteArray.empty := by_inj.1 (by rw [List.length_eq_zero_iff.1 h2]; rfl)
    rw [h3, e]
def letterP (x : Letter) : Prop :=
  (x.kind = 1 ∧ x.atom = 0 ∧ x.num = 0 ∧ x.black = false ∧ x.walks.length = 0 ∧ x.text.size ≤ 6000) ∨
  (x.kind = 2 ∧ x.atom = 0 ∧ x.num = 0 ∧ x.black = false ∧ x.text.size = 0 ∧ walksM x.walks = true) ∨
  (x.kind = 3 ∧ x.atom = 0 ∧ x.walks.length = 0 ∧ x.text.size = 0 ∧ -100000 ≤ x.num ∧ x.num ≤ 100000) ∨
  (x.kind = 4 ∧ x.atom = 0 ∧ x.num = 0 ∧ x.black = false ∧ x.walks.length = 0 ∧ x.text.size = 0) ∨
  (x.kind = 5 ∧ 0 ≤ x.atom ∧ x.atom ≤ 3 ∧ x.num = 0 ∧ x.black = false ∧ x.walks.length = 0 ∧ x.text.size ≤ 6000 ∧ rbOk x.text = true) ∨
  (x.kind = 6 ∧ x.atom = 0 ∧ x.num = 0 ∧ x.black = false ∧ x.walks.length = 0 ∧ x.text.size ≤ 6000 ∧ rbOk x.text = true)
noncomputable instance (x : Letter) : Decidable (letterP x) := by unfold letterP; infer_instance
noncomputable def letterM (x : Letter) : Bool := decide (letterP x)
--@ct impl.LetterOk val implLetterOk_ct _ $1 ?_ | %1
theorem implLetterOk_ct (l : List Value) (x : Letter) (hx : x.text.size ≤ 4194304) : Ct Tryz.prog 212 [.agg ⟨l⟩] [] (fun H => gLetter.rd H l x) (fun v A => v = .bool (letterM x) ∧ A = []) := by
  refine Ct.intro0 G_ok Tryz.func212 rfl rfl rfl fun E H hp => ?_
  obtain ⟨b4p, c4p, rfl, w0p, w1p, w2p, h4p, w5p⟩ := gLetter_rd.1 hp
  refine VCnew.intro fun x0 => ?_
  refine VCsplit.intro (fun q1 => ?_) (fun q1 => ?_)
  ·
    simp at q1
    refine VCsplit.intro (fun q2 => ?_) (fun q2 => ?_)
    ·
      simp at q2
      refine VCsplit.intro (fun q3 => ?_) (fun q3 => ?_)
      ·
        simp at q3
        refine VCsplit.intro (fun q4 => ?_) (fun q4 => ?_)
        ·
          simp at q4
          refine VCsplit.intro (fun q5 => ?_) (fun q5 => ?_)
          ·
            simp at q5
            exact ⟨[], ⟨congrArg Value.bool (by unfold letterM; rw [Bool.eq_iff_iff, decide_eq_true_iff]; unfold letterP; simp_all; omega), rfl⟩, (.le fun a => by (try simp only [setR, List.cons_append, List.nil_append]); simp [List.count_cons, Blk.ent, idOf]; try omega)⟩
          ·
            simp at q5
            exact ⟨[], ⟨congrArg Value.bool (by unfold letterM; rw [Bool.eq_iff_iff, decide_eq_true_iff]; unfold letterP; simp_all), rfl⟩, (.le fun a => by (try simp only [setR, List.cons_append, List.nil_append]); simp [List.count_cons, Blk.ent, idOf]; try omega)⟩
        ·
          simp at q4
          exact ⟨[], ⟨congrArg Value.bool (by unfold letterM; rw [Bool.eq_iff_iff, decide_eq_true_iff]; unfold letterP; simp_all), rfl⟩, (.le fun a => by (try simp only [setR, List.cons_append, List.nil_append]); simp [List.count_cons, Blk.ent, idOf]; try omega)⟩
      ·
        simp at q3
        exact ⟨[], ⟨congrArg Value.bool (by unfold letterM; rw [Bool.eq_iff_iff, decide_eq_true_iff]; unfold letterP; simp_all), rfl⟩, (.le fun a => by (try simp only [setR, List.cons_append, List.nil_append]); simp [List.count_cons, Blk.ent, idOf]; try omega)⟩
    ·
      simp at q2
      refine VCsplit.intro (fun q6 => ?_) (fun q6 => ?_)
      ·
        simp at q6
        refine VCsplit.intro (fun q7 => ?_) (fun q7 => ?_)
        ·
          simp at q7
          refine VCsplit.intro (fun q8 => ?_) (fun q8 => ?_)
          ·
            simp at q8
            refine VCsplit.intro (fun q9 => ?_) (fun q9 => ?_)
            ·
              simp at q9
              have iq9 := toL_nil9.1 q9
              refine call_val (walksOk_ct _ _ _ (x.walks)) (Rp.mono _ (mem_at 0 rfl) h4p) ?_
              rintro _ rfl
              exact ⟨[], ⟨congrArg Value.bool (by unfold letterM; rw [Bool.eq_iff_iff, decide_eq_true_iff]; unfold letterP; simp_all), rfl⟩, (.le fun a => by (try simp only [setR, List.cons_append, List.nil_append]); simp [List.count_cons, Blk.ent, idOf]; try omega)⟩
            ·
              simp at q9
              have iq9 := mt toL_nil9.2 q9
              exact ⟨[], ⟨congrArg Value.bool (by unfold letterM; rw [Bool.eq_iff_iff, decide_eq_true_iff]; unfold letterP; simp_all), rfl⟩, (.le fun a => by (try simp only [setR, List.cons_append, List.nil_append]); simp [List.count_cons, Blk.ent, idOf]; try omega)⟩
          ·
            simp at q8
            exact ⟨[], ⟨congrArg Value.bool (by unfold letterM; rw [Bool.eq_iff_iff, decide_eq_true_iff]; unfold letterP; simp_all), rfl⟩, (.le fun a => by (try simp only [setR, List.cons_append, List.nil_append]); simp [List.count_cons, Blk.ent, idOf]; try omega)⟩
        ·
          simp at q7
          exact ⟨[], ⟨congrArg Value.bool (by unfold letterM; rw [Bool.eq_iff_iff, decide_eq_true_iff]; unfold letterP; simp_all), rfl⟩, (.le fun a => by (try simp only [setR, List.cons_append, List.nil_append]); simp [List.count_cons, Blk.ent, idOf]; try omega)⟩
      ·
        simp at q6
        refine VCsplit.intro (fun q11 => ?_) (fun q11 => ?_)
        ·
          simp at q11
          refine VCsplit.intro (fun q12 => ?_) (fun q12 => ?_)
          ·
            simp at q12
            refine VCsplit.intro (fun q13 => ?_) (fun q13 => ?_)
            ·
              simp at q13
              refine VCsplit.intro (fun q14 => ?_) (fun q14 => ?_)
              ·
                simp at q14
                have iq14 := toL_nil9.1 q14
                refine VCsplit.intro (fun q15 => ?_) (fun q15 => ?_)
                ·
                  simp at q15
                  exact ⟨[], ⟨congrArg Value.bool (by unfold letterM; rw [Bool.eq_iff_iff, decide_eq_true_iff]; unfold letterP; simp_all), rfl⟩, (.le fun a => by (try simp only [setR, List.cons_append, List.nil_append]); simp [List.count_cons, Blk.ent, idOf]; try omega)⟩
                ·
                  simp at q15
                  exfalso; omega
              ·
                simp at q14
                have iq14 := mt toL_nil9.2 q14
                exact ⟨[], ⟨congrArg Value.bool (by unfold letterM; rw [Bool.eq_iff_iff, decide_eq_true_iff]; unfold letterP; simp_all), rfl⟩, (.le fun a => by (try simp only [setR, List.cons_append, List.nil_append]); simp [List.count_cons, Blk.ent, idOf]; try omega)⟩
            ·
              simp at q13
              exact ⟨[], ⟨congrArg Value.bool (by unfold letterM; rw [Bool.eq_iff_iff, decide_eq_true_iff]; unfold letterP; simp_all), rfl⟩, (.le fun a => by (try simp only [setR, List.cons_append, List.nil_append]); simp [List.count_cons, Blk.ent, idOf]; try omega)⟩
          ·
            simp at q12
            exact ⟨[], ⟨congrArg Value.bool (by unfold letterM; rw [Bool.eq_iff_iff, decide_eq_true_iff]; unfold letterP; simp_all), rfl⟩, (.le fun a => by (try simp only [setR, List.cons_append, List.nil_append]); simp [List.count_cons, Blk.ent, idOf]; try omega)⟩
        ·
          simp at q11
          refine VCsplit.intro (fun q16 => ?_) (fun q16 => ?_)
          ·
            simp at q16
            refine VCsplit.intro (fun q17 => ?_) (fun q17 => ?_)
            ·
              simp at q17
              refine VCsplit.intro (fun q18 => ?_) (fun q18 => ?_)
              ·
                simp at q18
                refine VCsplit.intro (fun q19 => ?_) (fun q19 => ?_)
                ·
                  simp at q19
                  exact ⟨[], ⟨congrArg Value.bool (by unfold letterM; rw [Bool.eq_iff_iff, decide_eq_true_iff]; unfold letterP; simp_all [toL_nil9]), rfl⟩, (.le fun a => by (try simp only [setR, List.cons_append, List.nil_append]); simp [List.count_cons, Blk.ent, idOf]; try omega)⟩
                ·
                  simp at q19
                  exact ⟨[], ⟨congrArg Value.bool (by unfold letterM; rw [Bool.eq_iff_iff, decide_eq_true_iff]; unfold letterP; simp_all), rfl⟩, (.le fun a => by (try simp only [setR, List.cons_append, List.nil_append]); simp [List.count_cons, Blk.ent, idOf]; try omega)⟩
              ·
                simp at q18
                exact ⟨[], ⟨congrArg Value.bool (by unfold letterM; rw [Bool.eq_iff_iff, decide_eq_true_iff]; unfold letterP; simp_all), rfl⟩, (.le fun a => by (try simp only [setR, List.cons_append, List.nil_append]); simp [List.count_cons, Blk.ent, idOf]; try omega)⟩
            ·
              simp at q17
              exact ⟨[], ⟨congrArg Value.bool (by unfold letterM; rw [Bool.eq_iff_iff, decide_eq_true_iff]; unfold letterP; simp_all), rfl⟩, (.le fun a => by (try simp only [setR, List.cons_append, List.nil_append]); simp [List.count_cons, Blk.ent, idOf]; try omega)⟩
          ·
            simp at q16
            refine VCsplit.intro (fun q20 => ?_) (fun q20 => ?_)
            ·
              simp at q20
              refine VCsplit.intro (fun q21 => ?_) (fun q21 => ?_)
              ·
                simp at q21
                refine VCsplit.intro (fun q22 => ?_) (fun q22 => ?_)
                ·
                  simp at q22
                  refine VCsplit.intro (fun q23 => ?_) (fun q23 => ?_)
                  ·
                    simp at q23
                    refine VCsplit.intro (fun q24 => ?_) (fun q24 => ?_)
                    ·
                      simp at q24
                      refine call_val (isBagText_ct _ ?_) trivial ?_
                      · trivial
                      rintro _ rfl
                      exact ⟨[], ⟨congrArg Value.bool (by unfold letterM; rw [Bool.eq_iff_iff, decide_eq_true_iff]; unfold letterP; simp_all; grind), rfl⟩, (.le fun a => by (try simp only [setR, List.cons_append, List.nil_append]); simp [List.count_cons, Blk.ent, idOf]; try omega)⟩
                    ·
                      simp at q24
                      exact ⟨[], ⟨congrArg Value.bool (by unfold letterM; rw [Bool.eq_iff_iff, decide_eq_true_iff]; unfold letterP; simp_all; omega), rfl⟩, (.le fun a => by (try simp only [setR, List.cons_append, List.nil_append]); simp [List.count_cons, Blk.ent, idOf]; try omega)⟩
                  ·
                    simp at q23
                    exact ⟨[], ⟨congrArg Value.bool (by unfold letterM; rw [Bool.eq_iff_iff, decide_eq_true_iff]; unfold letterP; simp_all; omega), rfl⟩, (.le fun a => by (try simp only [setR, List.cons_append, List.nil_append]); simp [List.count_cons, Blk.ent, idOf]; try omega)⟩
                ·
                  simp at q22
                  exact ⟨[], ⟨congrArg Value.bool (by unfold letterM; rw [Bool.eq_iff_iff, decide_eq_true_iff]; unfold letterP; simp_all), rfl⟩, (.le fun a => by (try simp only [setR, List.cons_append, List.nil_append]); simp [List.count_cons, Blk.ent, idOf]; try omega)⟩
              ·
                simp at q21
                exact ⟨[], ⟨congrArg Value.bool (by unfold letterM; rw [Bool.eq_iff_iff, decide_eq_true_iff]; unfold letterP; simp_all), rfl⟩, (.le fun a => by (try simp only [setR, List.cons_append, List.nil_append]); simp [List.count_cons, Blk.ent, idOf]; try omega)⟩
            ·
              simp at q20
              refine VCsplit.intro (fun q26 => ?_) (fun q26 => ?_)
              ·
                simp at q26
                refine VCsplit.intro (fun q27 => ?_) (fun q27 => ?_)
                ·
                  simp at q27
                  refine VCsplit.intro (fun q28 => ?_) (fun q28 => ?_)
                  ·
                    simp at q28
                    refine VCsplit.intro (fun q29 => ?_) (fun q29 => ?_)
                    ·
                      simp at q29
                      refine call_val (isBagText_ct _ ?_) trivial ?_
                      · trivial
                      rintro _ rfl
                      exact ⟨[], ⟨congrArg Value.bool (by unfold letterM; rw [Bool.eq_iff_iff, decide_eq_true_iff]; unfold letterP; simp_all; grind), rfl⟩, (.le fun a => by (try simp only [setR, List.cons_append, List.nil_append]); simp [List.count_cons, Blk.ent, idOf]; try omega)⟩
                    ·
                      simp at q29
                      exact ⟨[], ⟨congrArg Value.bool (by unfold letterM; rw [Bool.eq_iff_iff, decide_eq_true_iff]; unfold letterP; simp_all), rfl⟩, (.le fun a => by (try simp only [setR, List.cons_append, List.nil_append]); simp [List.count_cons, Blk.ent, idOf]; try omega)⟩
                  ·
                    simp at q28
                    exact ⟨[], ⟨congrArg Value.bool (by unfold letterM; rw [Bool.eq_iff_iff, decide_eq_true_iff]; unfold letterP; simp_all), rfl⟩, (.le fun a => by (try simp only [setR, List.cons_append, List.nil_append]); simp [List.count_cons, Blk.ent, idOf]; try omega)⟩
                ·
                  simp at q27
                  exact ⟨[], ⟨congrArg Value.bool (by unfold letterM; rw [Bool.eq_iff_iff, decide_eq_true_iff]; unfold letterP; simp_all), rfl⟩, (.le fun a => by (try simp only [setR, List.cons_append, List.nil_append]); simp [List.count_cons, Blk.ent, idOf]; try omega)⟩
              ·
                simp at q26
                exact ⟨[], ⟨congrArg Value.bool (by unfold letterM; rw [Bool.eq_iff_iff, decide_eq_true_iff]; unfold letterP; simp_all), rfl⟩, (.le fun a => by (try simp only [setR, List.cons_append, List.nil_append]); simp [List.count_cons, Blk.ent, idOf]; try omega)⟩
  ·
    simp at q1
    refine VCsplit.intro (fun q31 => ?_) (fun q31 => ?_)
    ·
      simp at q31
      exact ⟨[], ⟨congrArg Value.bool (by unfold letterM; rw [Bool.eq_iff_iff, decide_eq_true_iff]; unfold letterP; simp_all), rfl⟩, (.le fun a => by (try simp only [setR, List.cons_append, List.nil_append]); simp [List.count_cons, Blk.ent, idOf]; try omega)⟩
    ·
      simp at q31
      refine VCsplit.intro (fun q32 => ?_) (fun q32 => ?_)
      ·
        simp at q32
        exact ⟨[], ⟨congrArg Value.bool (by unfold letterM; rw [Bool.eq_iff_iff, decide_eq_true_iff]; unfold letterP; simp_all), rfl⟩, (.le fun a => by (try simp only [setR, List.cons_append, List.nil_append]); simp [List.count_cons, Blk.ent, idOf]; try omega)⟩
      ·
        simp at q32
        refine VCsplit.intro (fun q33 => ?_) (fun q33 => ?_)
        ·
          simp at q33
          refine VCsplit.intro (fun q34 => ?_) (fun q34 => ?_)
          ·
            simp at q34
            refine VCsplit.intro (fun q35 => ?_) (fun q35 => ?_)
            ·
              simp at q35
              refine VCsplit.intro (fun q36 => ?_) (fun q36 => ?_)
              ·
                simp at q36
                have iq36 := toL_nil9.1 q36
                refine VCsplit.intro (fun q37 => ?_) (fun q37 => ?_)
                ·
                  simp at q37
                  exact ⟨[], ⟨congrArg Value.bool (by unfold letterM; rw [Bool.eq_iff_iff, decide_eq_true_iff]; unfold letterP; simp_all), rfl⟩, (.le fun a => by (try simp only [setR, List.cons_append, List.nil_append]); simp [List.count_cons, Blk.ent, idOf]; try omega)⟩
                ·
                  simp at q37
                  exact ⟨[], ⟨congrArg Value.bool (by unfold letterM; rw [Bool.eq_iff_iff, decide_eq_true_iff]; unfold letterP; simp_all; omega), rfl⟩, (.le fun a => by (try simp only [setR, List.cons_append, List.nil_append]); simp [List.count_cons, Blk.ent, idOf]; try omega)⟩
              ·
                simp at q36
                have iq36 := mt toL_nil9.2 q36
                exact ⟨[], ⟨congrArg Value.bool (by unfold letterM; rw [Bool.eq_iff_iff, decide_eq_true_iff]; unfold letterP; simp_all), rfl⟩, (.le fun a => by (try simp only [setR, List.cons_append, List.nil_append]); simp [List.count_cons, Blk.ent, idOf]; try omega)⟩
            ·
              simp at q35
              exact ⟨[], ⟨congrArg Value.bool (by unfold letterM; rw [Bool.eq_iff_iff, decide_eq_true_iff]; unfold letterP; simp_all), rfl⟩, (.le fun a => by (try simp only [setR, List.cons_append, List.nil_append]); simp [List.count_cons, Blk.ent, idOf]; try omega)⟩
          ·
            simp at q34
            exact ⟨[], ⟨congrArg Value.bool (by unfold letterM; rw [Bool.eq_iff_iff, decide_eq_true_iff]; unfold letterP; simp_all), rfl⟩, (.le fun a => by (try simp only [setR, List.cons_append, List.nil_append]); simp [List.count_cons, Blk.ent, idOf]; try omega)⟩
        ·
          simp at q33
          refine VCsplit.intro (fun q38 => ?_) (fun q38 => ?_)
          ·
            simp at q38
            exact ⟨[], ⟨congrArg Value.bool (by unfold letterM; rw [Bool.eq_iff_iff, decide_eq_true_iff]; unfold letterP; simp_all), rfl⟩, (.le fun a => by (try simp only [setR, List.cons_append, List.nil_append]); simp [List.count_cons, Blk.ent, idOf]; try omega)⟩
          ·
            simp at q38
            refine VCsplit.intro (fun q39 => ?_) (fun q39 => ?_)
            ·
              simp at q39
              exact ⟨[], ⟨congrArg Value.bool (by unfold letterM; rw [Bool.eq_iff_iff, decide_eq_true_iff]; unfold letterP; simp_all), rfl⟩, (.le fun a => by (try simp only [setR, List.cons_append, List.nil_append]); simp [List.count_cons, Blk.ent, idOf]; try omega)⟩
            ·
              simp at q39
              refine VCsplit.intro (fun q40 => ?_) (fun q40 => ?_)
              ·
                simp at q40
                exact ⟨[], ⟨congrArg Value.bool (by unfold letterM; rw [Bool.eq_iff_iff, decide_eq_true_iff]; unfold letterP; simp_all), rfl⟩, (.le fun a => by (try simp only [setR, List.cons_append, List.nil_append]); simp [List.count_cons, Blk.ent, idOf]; try omega)⟩
              ·
                simp at q40
                exact ⟨[], ⟨congrArg Value.bool (by unfold letterM; rw [Bool.eq_iff_iff, decide_eq_true_iff]; unfold letterP; simp_all), rfl⟩, (.le fun a => by (try simp only [setR, List.cons_append, List.nil_append]); simp [List.count_cons, Blk.ent, idOf]; try omega)⟩

end Go.Proofs.YtflfohphebmemaaGreat
