/-
  Letters that are right, on the reference's side. Conditions: none.
-/
import Derived.Test.YtflfohphebmemaaGreatRf
namespace Go.Proofs.YtflfohphebmemaaGreat
open Go.SX Go.Proofs
set_option linter.unusedSimpArgs false
set_option linter.unusedVariables false
set_option maxHeartbeats 4000000
attribute [local irreducible] IntKind.wrap

theorem walks_all {ws : List Walk} (h : walksK ws ws.length = true) : walksM ws = (decide (1 ≤ ws.length) && decide (ws.length ≤ 60)) := by unfold walksM; rw [h, Bool.true_and]
theorem lm_of {x : Letter} {b : Bool} (h : letterP x ↔ b = true) : letterM x = b := by
  unfold letterM
  rw [Bool.eq_iff_iff, decide_eq_true_iff]; exact h
theorem lm_big {x : Letter} (h : ¬ x.text.size ≤ 6000) : letterM x = false := lm_of ⟨fun h1 => by
  unfold letterP at h1
  rcases h1 with h1 | h1 | h1 | h1 | h1 | h1 <;> (exfalso; omega), fun h1 => by cases h1⟩
theorem lm_5 {x : Letter} (hk : x.kind = 5) (h1 : x.num = 0) (h2 : x.black = false) (h3 : x.walks = []) (h4 : x.text.size ≤ 6000) (h5 : rbOk x.text = true) : letterM x = inR 0 3 x.atom := lm_of ⟨fun h => by
  unfold letterP at h
  rcases h with h | h | h | h | h | h <;> first | (exfalso; omega) | exact inR_iff.2 ⟨h.2.1, h.2.2.1⟩, fun h => by
  have h6 := inR_iff.1 h
  exact .inr (.inr (.inr (.inr (.inl ⟨hk, h6.1, h6.2, h1, h2, by rw [h3]; rfl, h4, h5⟩))))⟩
theorem lm_6 {x : Letter} (hk : x.kind = 6) (h0 : x.atom = 0) (h1 : x.num = 0) (h2 : x.black = false) (h3 : x.walks = []) (h4 : x.text.size ≤ 6000) (h5 : rbOk x.text = true) : letterM x = inR 0 3 x.atom := lm_of ⟨fun _ => inR_iff.2 (by omega), fun _ => .inr (.inr (.inr (.inr (.inr ⟨hk, h0, h1, h2, by rw [h3]; rfl, h4, h5⟩))))⟩
theorem lm_3 {x : Letter} (hk : x.kind = 3) (h0 : x.atom = 0) (h3 : x.walks = []) (h4 : x.text.size = 0) : letterM x = inR (-100000) 100000 x.num := lm_of ⟨fun h => by
  unfold letterP at h
  rcases h with h | h | h | h | h | h <;> first | (exfalso; omega) | exact inR_iff.2 ⟨h.2.2.2.2.1, h.2.2.2.2.2⟩, fun h => by
  have h6 := inR_iff.1 h
  exact .inr (.inr (.inl ⟨hk, h0, by rw [h3]; rfl, h4, h6.1, h6.2⟩))⟩
theorem lm_2 {x : Letter} (hk : x.kind = 2) (h0 : x.atom = 0) (h1 : x.num = 0) (h2 : x.black = false) (h4 : x.text.size = 0) : letterM x = walksM x.walks := lm_of ⟨fun h => by
  unfold letterP at h
  rcases h with h | h | h | h | h | h <;> first | (exfalso; omega) | exact h.2.2.2.2.2, fun h => .inr (.inl ⟨hk, h0, h1, h2, h4, h⟩)⟩
--@ct spec.LetterOk val specLetterOk_ct _ $1 ?_ | %1
theorem specLetterOk_ct (l : List Value) (x : Letter) (hx : x.text.size ≤ 4194304) : Ct Tryz.prog 201 [.agg ⟨l⟩] [] (fun H => gLetter.rd H l x) (fun v A => v = .bool (letterM x) ∧ A = []) := by
  refine Ct.intro0 G_ok Tryz.func201 rfl rfl rfl fun E H hp => ?_
  obtain ⟨b4p, c4p, rfl, w0p, w1p, w2p, h4p, w5p⟩ := gLetter_rd.1 hp
  have hl := (sl_len h4p).2.2
  refine VCnew.intro fun x0 => ?_
  refine call_val (l01In_ct _ _ _) trivial ?_
  rintro _ rfl
  refine VCsplit.intro (fun q2 => ?_) (fun q2 => ?_)
  ·
    simp at q2
    have iq2 := mt inR_iff.2 (Bool.eq_false_iff.1 q2)
    exact ⟨[], ⟨congrArg Value.bool (by unfold letterM; rw [Bool.eq_iff_iff, decide_eq_true_iff]; unfold letterP; simp_all; omega), rfl⟩, (.le fun a => by (try simp only [setR, List.cons_append, List.nil_append]); simp [List.count_cons, Blk.ent, idOf]; try omega)⟩
  ·
    simp at q2
    have iq2 := inR_iff.1 q2
    refine VCsplit.intro (fun q3 => ?_) (fun q3 => ?_)
    ·
      simp at q3
      exact ⟨[], ⟨by rw [lm_big (by omega)], rfl⟩, (.le fun a => by (try simp only [setR, List.cons_append, List.nil_append]); simp [List.count_cons, Blk.ent, idOf]; try omega)⟩
    ·
      simp at q3
      refine VCsplit.intro (fun q4 => ?_) (fun q4 => ?_)
      ·
        simp at q4
        refine VCsplit.intro (fun q5 => ?_) (fun q5 => ?_)
        ·
          simp at q5
          refine VCsplit.intro (fun q6 => ?_) (fun q6 => ?_)
          ·
            simp at q6
            exact ⟨[], ⟨congrArg Value.bool (by unfold letterM; rw [Bool.eq_iff_iff, decide_eq_true_iff]; unfold letterP; simp_all; grind), rfl⟩, (.le fun a => by (try simp only [setR, List.cons_append, List.nil_append]); simp [List.count_cons, Blk.ent, idOf]; try omega)⟩
          ·
            simp at q6
            refine VCsplit.intro (fun q7 => ?_) (fun q7 => ?_)
            ·
              simp at q7
              refine VCsplit.intro (fun q8 => ?_) (fun q8 => ?_)
              ·
                simp at q8
                exact ⟨[], ⟨congrArg Value.bool (by unfold letterM; rw [Bool.eq_iff_iff, decide_eq_true_iff]; unfold letterP; simp_all), rfl⟩, (.le fun a => by (try simp only [setR, List.cons_append, List.nil_append]); simp [List.count_cons, Blk.ent, idOf]; try omega)⟩
              ·
                simp at q8
                refine VCsplit.intro (fun q9 => ?_) (fun q9 => ?_)
                ·
                  exact ⟨[], ⟨congrArg Value.bool (by unfold letterM; rw [Bool.eq_iff_iff, decide_eq_true_iff]; unfold letterP; simp_all), rfl⟩, (.le fun a => by (try simp only [setR, List.cons_append, List.nil_append]); simp [List.count_cons, Blk.ent, idOf]; try omega)⟩
                ·
                  refine VCsplit.intro (fun q10 => ?_) (fun q10 => ?_)
                  ·
                    simp at q10
                    refine VCsplit.intro (fun q11 => ?_) (fun q11 => ?_)
                    ·
                      simp at q11
                      exact ⟨[], ⟨congrArg Value.bool (by unfold letterM; rw [Bool.eq_iff_iff, decide_eq_true_iff]; unfold letterP; simp_all), rfl⟩, (.le fun a => by (try simp only [setR, List.cons_append, List.nil_append]); simp [List.count_cons, Blk.ent, idOf]; try omega)⟩
                    ·
                      simp at q11
                      apply loop_mod (α := (Nat)) G_ok [72, 73, 74, 75, 76, 79, 80, 81, 82, 83, 84, 85, 2, 77, 78, 4] (fun z => [(4, .v (.int .i64 z))]) (fun z => [{ id := x0, cs := [Value.int IntKind.i64 x.kind, Value.int IntKind.i64 x.atom, Value.int IntKind.i64 x.num, Value.bool x.black, Value.slice b4p x.walks.length c4p, Value.string x.text], ty := (120 : Nat) }]) (fun z => [H]) (fun z => x.walks.length - z) (fun z => z ≤ x.walks.length ∧ walksK x.walks z = true) ((0))
                      · repeat' (first | exact trivial | refine ⟨⟨_, rfl, by first | rfl | exact inc_eq _ (by omega) | (refine sl_eq ?_; simp; done), by first | exact trivial | simp [SV.ok]⟩, ?_⟩)
                      · exact ⟨rfl, trivial⟩
                      · exact ⟨Nat.zero_le _, rfl⟩
                      · exact .refl _
                      rintro k hI
                      obtain ⟨hk, ha⟩ : k ≤ x.walks.length ∧ walksK x.walks k = true := hI
                      try dsimp only
                      refine VCsplit.intro (fun q12 => ?_) (fun q12 => ?_)
                      ·
                        simp at q12
                        refine idx_rd h4p ?_ ?_ fun b13 o13 hb13 => ?_
                        · omega
                        · omega
                        refine load_allN default (k) rfl h4p ?_ ?_ hb13 rfl (mem_at 0 rfl) fun l14 hl14 => ?_
                        · omega
                        · omega
                        obtain ⟨rfl, w0x14, w1x14, w2x14, w3x14⟩ := gWalk_rd.1 hl14
                        refine call_val (specWalkOk_ct _ (x.walks[k]?.getD default)) (Rp.mono _ (mem_at 0 rfl) hl14) ?_
                        rintro _ rfl
                        refine VCsplit.intro (fun q16 => ?_) (fun q16 => ?_)
                        ·
                          simp at q16
                          exact ⟨[], ⟨congrArg Value.bool (by unfold letterM; rw [Bool.eq_iff_iff, decide_eq_true_iff]; unfold letterP; simp_all), rfl⟩, (.le fun a => by (try simp only [setR, List.cons_append, List.nil_append]); simp [List.count_cons, Blk.ent, idOf]; try omega)⟩
                        ·
                          simp at q16
                          apply loop_stepA (k + 1)
                          · exact .refl _
                          · repeat' (first | exact trivial | refine ⟨⟨_, rfl, by first | rfl | exact inc_eq _ (by omega) | (refine sl_eq ?_; simp; done), by first | exact trivial | simp [SV.ok]⟩, ?_⟩)
                          · exact ⟨rfl, trivial⟩
                          · exact ⟨by omega, allK_step ha (by assumption)⟩
                          · omega
                      ·
                        simp at q12
                        refine VCsplit.intro (fun q17 => ?_) (fun q17 => ?_)
                        ·
                          simp at q17
                          exfalso; omega
                        ·
                          simp at q17
                          refine VCsplit.intro (fun q18 => ?_) (fun q18 => ?_)
                          ·
                            simp at q18
                            exfalso; omega
                          ·
                            simp at q18
                            refine VCsplit.intro (fun q19 => ?_) (fun q19 => ?_)
                            ·
                              simp at q19
                              exfalso; omega
                            ·
                              simp at q19
                              refine VCsplit.intro (fun q20 => ?_) (fun q20 => ?_)
                              ·
                                simp at q20
                                exfalso; omega
                              ·
                                simp at q20
                                exact ⟨[], ⟨congrArg Value.bool (by unfold letterM; rw [Bool.eq_iff_iff, decide_eq_true_iff]; unfold letterP; simp_all; omega), rfl⟩, (.le fun a => by (try simp only [setR, List.cons_append, List.nil_append]); simp [List.count_cons, Blk.ent, idOf]; try omega)⟩
                  ·
                    simp at q10
                    exfalso; omega
            ·
              simp at q7
              exfalso; omega
        ·
          simp at q5
          exfalso; omega
      ·
        simp at q4
        refine VCsplit.intro (fun q21 => ?_) (fun q21 => ?_)
        ·
          simp at q21
          refine VCsplit.intro (fun q22 => ?_) (fun q22 => ?_)
          ·
            simp at q22
            refine VCsplit.intro (fun q23 => ?_) (fun q23 => ?_)
            ·
              simp at q23
              exact ⟨[], ⟨congrArg Value.bool (by unfold letterM; rw [Bool.eq_iff_iff, decide_eq_true_iff]; unfold letterP; simp_all; grind), rfl⟩, (.le fun a => by (try simp only [setR, List.cons_append, List.nil_append]); simp [List.count_cons, Blk.ent, idOf]; try omega)⟩
            ·
              simp at q23
              refine VCsplit.intro (fun q24 => ?_) (fun q24 => ?_)
              ·
                simp at q24
                refine VCsplit.intro (fun q25 => ?_) (fun q25 => ?_)
                ·
                  simp at q25
                  exact ⟨[], ⟨congrArg Value.bool (by unfold letterM; rw [Bool.eq_iff_iff, decide_eq_true_iff]; unfold letterP; simp_all), rfl⟩, (.le fun a => by (try simp only [setR, List.cons_append, List.nil_append]); simp [List.count_cons, Blk.ent, idOf]; try omega)⟩
                ·
                  simp at q25
                  refine VCsplit.intro (fun q26 => ?_) (fun q26 => ?_)
                  ·
                    exact ⟨[], ⟨congrArg Value.bool (by unfold letterM; rw [Bool.eq_iff_iff, decide_eq_true_iff]; unfold letterP; simp_all), rfl⟩, (.le fun a => by (try simp only [setR, List.cons_append, List.nil_append]); simp [List.count_cons, Blk.ent, idOf]; try omega)⟩
                  ·
                    refine VCsplit.intro (fun q27 => ?_) (fun q27 => ?_)
                    ·
                      simp at q27
                      exfalso; omega
                    ·
                      simp at q27
                      apply loop_mod (α := (Nat)) G_ok [72, 73, 74, 75, 76, 79, 80, 81, 82, 83, 84, 85, 2, 77, 78, 4] (fun z => [(4, .v (.int .i64 z))]) (fun z => [{ id := x0, cs := [Value.int IntKind.i64 x.kind, Value.int IntKind.i64 x.atom, Value.int IntKind.i64 x.num, Value.bool x.black, Value.slice b4p x.walks.length c4p, Value.string x.text], ty := (120 : Nat) }]) (fun z => [H]) (fun z => x.walks.length - z) (fun z => z ≤ x.walks.length ∧ walksK x.walks z = true) ((0))
                      · repeat' (first | exact trivial | refine ⟨⟨_, rfl, by first | rfl | exact inc_eq _ (by omega) | (refine sl_eq ?_; simp; done), by first | exact trivial | simp [SV.ok]⟩, ?_⟩)
                      · exact ⟨rfl, trivial⟩
                      · exact ⟨Nat.zero_le _, rfl⟩
                      · exact .refl _
                      rintro k hI
                      obtain ⟨hk, ha⟩ : k ≤ x.walks.length ∧ walksK x.walks k = true := hI
                      try dsimp only
                      refine VCsplit.intro (fun q28 => ?_) (fun q28 => ?_)
                      ·
                        simp at q28
                        refine idx_rd h4p ?_ ?_ fun b29 o29 hb29 => ?_
                        · omega
                        · omega
                        refine load_allN default (k) rfl h4p ?_ ?_ hb29 rfl (mem_at 0 rfl) fun l30 hl30 => ?_
                        · omega
                        · omega
                        obtain ⟨rfl, w0x30, w1x30, w2x30, w3x30⟩ := gWalk_rd.1 hl30
                        refine call_val (specWalkOk_ct _ (x.walks[k]?.getD default)) (Rp.mono _ (mem_at 0 rfl) hl30) ?_
                        rintro _ rfl
                        refine VCsplit.intro (fun q32 => ?_) (fun q32 => ?_)
                        ·
                          simp at q32
                          exact ⟨[], ⟨congrArg Value.bool (by unfold letterM; rw [Bool.eq_iff_iff, decide_eq_true_iff]; unfold letterP; simp_all), rfl⟩, (.le fun a => by (try simp only [setR, List.cons_append, List.nil_append]); simp [List.count_cons, Blk.ent, idOf]; try omega)⟩
                        ·
                          simp at q32
                          apply loop_stepA (k + 1)
                          · exact .refl _
                          · repeat' (first | exact trivial | refine ⟨⟨_, rfl, by first | rfl | exact inc_eq _ (by omega) | (refine sl_eq ?_; simp; done), by first | exact trivial | simp [SV.ok]⟩, ?_⟩)
                          · exact ⟨rfl, trivial⟩
                          · exact ⟨by omega, allK_step ha (by assumption)⟩
                          · omega
                      ·
                        simp at q28
                        refine VCsplit.intro (fun q33 => ?_) (fun q33 => ?_)
                        ·
                          simp at q33
                          exfalso; omega
                        ·
                          simp at q33
                          refine VCsplit.intro (fun q34 => ?_) (fun q34 => ?_)
                          ·
                            simp at q34
                            exfalso; omega
                          ·
                            simp at q34
                            refine VCsplit.intro (fun q35 => ?_) (fun q35 => ?_)
                            ·
                              simp at q35
                              refine call_new (specReadBag_ct _ ?_) trivial ?_
                              · trivial
                              rintro v36 A36 o36
                              obtain ⟨l36, rfl, o36⟩ := o36
                              have r36 := Gt.owrd _ o36
                              obtain ⟨b0x36, c0x36, rfl, h0x36⟩ := gBag_rd.1 r36
                              refine VCnew.intro fun x37 => ?_
                              refine VCsplit.intro (fun q38 => ?_) (fun q38 => ?_)
                              ·
                                refine call_val (l01In_ct _ _ _) trivial ?_
                                rintro _ rfl
                                exact ⟨[], ⟨by rw [lm_5 (by assumption) (by assumption) (by assumption) (by assumption) (by omega) (by assumption)], rfl⟩, (.le fun a => by (try simp only [setR, List.cons_append, List.nil_append]); simp [List.count_cons, Blk.ent, idOf]; try omega)⟩
                              ·
                                exact ⟨[], ⟨congrArg Value.bool (by unfold letterM; rw [Bool.eq_iff_iff, decide_eq_true_iff]; unfold letterP; simp_all), rfl⟩, (.le fun a => by (try simp only [setR, List.cons_append, List.nil_append]); simp [List.count_cons, Blk.ent, idOf]; try omega)⟩
                            ·
                              simp at q35
                              exfalso; omega
              ·
                simp at q24
                exfalso; omega
          ·
            simp at q22
            exfalso; omega
        ·
          simp at q21
          refine VCsplit.intro (fun q40 => ?_) (fun q40 => ?_)
          ·
            simp at q40
            refine VCsplit.intro (fun q41 => ?_) (fun q41 => ?_)
            ·
              simp at q41
              exact ⟨[], ⟨congrArg Value.bool (by unfold letterM; rw [Bool.eq_iff_iff, decide_eq_true_iff]; unfold letterP; simp_all; grind), rfl⟩, (.le fun a => by (try simp only [setR, List.cons_append, List.nil_append]); simp [List.count_cons, Blk.ent, idOf]; try omega)⟩
            ·
              simp at q41
              refine VCsplit.intro (fun q42 => ?_) (fun q42 => ?_)
              ·
                simp at q42
                refine VCsplit.intro (fun q43 => ?_) (fun q43 => ?_)
                ·
                  simp at q43
                  exact ⟨[], ⟨congrArg Value.bool (by unfold letterM; rw [Bool.eq_iff_iff, decide_eq_true_iff]; unfold letterP; simp_all), rfl⟩, (.le fun a => by (try simp only [setR, List.cons_append, List.nil_append]); simp [List.count_cons, Blk.ent, idOf]; try omega)⟩
                ·
                  simp at q43
                  refine VCsplit.intro (fun q44 => ?_) (fun q44 => ?_)
                  ·
                    exact ⟨[], ⟨congrArg Value.bool (by unfold letterM; rw [Bool.eq_iff_iff, decide_eq_true_iff]; unfold letterP; simp_all), rfl⟩, (.le fun a => by (try simp only [setR, List.cons_append, List.nil_append]); simp [List.count_cons, Blk.ent, idOf]; try omega)⟩
                  ·
                    refine VCsplit.intro (fun q45 => ?_) (fun q45 => ?_)
                    ·
                      simp at q45
                      refine VCsplit.intro (fun q46 => ?_) (fun q46 => ?_)
                      ·
                        simp at q46
                        exact ⟨[], ⟨congrArg Value.bool (by unfold letterM; rw [Bool.eq_iff_iff, decide_eq_true_iff]; unfold letterP; simp_all), rfl⟩, (.le fun a => by (try simp only [setR, List.cons_append, List.nil_append]); simp [List.count_cons, Blk.ent, idOf]; try omega)⟩
                      ·
                        simp at q46
                        refine VCsplit.intro (fun q47 => ?_) (fun q47 => ?_)
                        ·
                          simp at q47
                          refine VCsplit.intro (fun q48 => ?_) (fun q48 => ?_)
                          ·
                            simp at q48
                            have iq48 := mt toL_nil9.2 q48
                            exact ⟨[], ⟨congrArg Value.bool (by unfold letterM; rw [Bool.eq_iff_iff, decide_eq_true_iff]; unfold letterP; simp_all), rfl⟩, (.le fun a => by (try simp only [setR, List.cons_append, List.nil_append]); simp [List.count_cons, Blk.ent, idOf]; try omega)⟩
                          ·
                            simp at q48
                            have iq48 := toL_nil9.1 q48
                            apply loop_mod (α := (Nat)) G_ok [72, 73, 74, 75, 76, 79, 80, 81, 82, 83, 84, 85, 2, 77, 78, 4] (fun z => [(4, .v (.int .i64 z))]) (fun z => [{ id := x0, cs := [Value.int IntKind.i64 x.kind, Value.int IntKind.i64 x.atom, Value.int IntKind.i64 x.num, Value.bool x.black, Value.slice b4p x.walks.length c4p, Value.string x.text], ty := (120 : Nat) }]) (fun z => [H]) (fun z => x.walks.length - z) (fun z => z ≤ x.walks.length ∧ walksK x.walks z = true) ((0))
                            · repeat' (first | exact trivial | refine ⟨⟨_, rfl, by first | rfl | exact inc_eq _ (by omega) | (refine sl_eq ?_; simp; done), by first | exact trivial | simp [SV.ok]⟩, ?_⟩)
                            · exact ⟨rfl, trivial⟩
                            · exact ⟨Nat.zero_le _, rfl⟩
                            · exact .refl _
                            rintro k hI
                            obtain ⟨hk, ha⟩ : k ≤ x.walks.length ∧ walksK x.walks k = true := hI
                            try dsimp only
                            refine VCsplit.intro (fun q49 => ?_) (fun q49 => ?_)
                            ·
                              simp at q49
                              refine idx_rd h4p ?_ ?_ fun b50 o50 hb50 => ?_
                              · omega
                              · omega
                              refine load_allN default (k) rfl h4p ?_ ?_ hb50 rfl (mem_at 0 rfl) fun l51 hl51 => ?_
                              · omega
                              · omega
                              obtain ⟨rfl, w0x51, w1x51, w2x51, w3x51⟩ := gWalk_rd.1 hl51
                              refine call_val (specWalkOk_ct _ (x.walks[k]?.getD default)) (Rp.mono _ (mem_at 0 rfl) hl51) ?_
                              rintro _ rfl
                              refine VCsplit.intro (fun q53 => ?_) (fun q53 => ?_)
                              ·
                                simp at q53
                                exact ⟨[], ⟨congrArg Value.bool (by unfold letterM; rw [Bool.eq_iff_iff, decide_eq_true_iff]; unfold letterP; simp_all), rfl⟩, (.le fun a => by (try simp only [setR, List.cons_append, List.nil_append]); simp [List.count_cons, Blk.ent, idOf]; try omega)⟩
                              ·
                                simp at q53
                                apply loop_stepA (k + 1)
                                · exact .refl _
                                · repeat' (first | exact trivial | refine ⟨⟨_, rfl, by first | rfl | exact inc_eq _ (by omega) | (refine sl_eq ?_; simp; done), by first | exact trivial | simp [SV.ok]⟩, ?_⟩)
                                · exact ⟨rfl, trivial⟩
                                · exact ⟨by omega, allK_step ha (by assumption)⟩
                                · omega
                            ·
                              simp at q49
                              refine VCsplit.intro (fun q54 => ?_) (fun q54 => ?_)
                              ·
                                simp at q54
                                exfalso; omega
                              ·
                                simp at q54
                                refine VCsplit.intro (fun q55 => ?_) (fun q55 => ?_)
                                ·
                                  simp at q55
                                  exfalso; omega
                                ·
                                  simp at q55
                                  refine VCsplit.intro (fun q56 => ?_) (fun q56 => ?_)
                                  ·
                                    simp at q56
                                    exfalso; omega
                                  ·
                                    simp at q56
                                    refine VCsplit.intro (fun q57 => ?_) (fun q57 => ?_)
                                    ·
                                      simp at q57
                                      exfalso; omega
                                    ·
                                      simp at q57
                                      exact ⟨[], ⟨congrArg Value.bool (by unfold letterM; rw [Bool.eq_iff_iff, decide_eq_true_iff]; unfold letterP; simp_all; omega), rfl⟩, (.le fun a => by (try simp only [setR, List.cons_append, List.nil_append]); simp [List.count_cons, Blk.ent, idOf]; try omega)⟩
                        ·
                          simp at q47
                          apply loop_mod (α := (Nat)) G_ok [72, 73, 74, 75, 76, 79, 80, 81, 82, 83, 84, 85, 2, 77, 78, 4] (fun z => [(4, .v (.int .i64 z))]) (fun z => [{ id := x0, cs := [Value.int IntKind.i64 x.kind, Value.int IntKind.i64 x.atom, Value.int IntKind.i64 x.num, Value.bool x.black, Value.slice b4p x.walks.length c4p, Value.string x.text], ty := (120 : Nat) }]) (fun z => [H]) (fun z => x.walks.length - z) (fun z => z ≤ x.walks.length ∧ walksK x.walks z = true) ((0))
                          · repeat' (first | exact trivial | refine ⟨⟨_, rfl, by first | rfl | exact inc_eq _ (by omega) | (refine sl_eq ?_; simp; done), by first | exact trivial | simp [SV.ok]⟩, ?_⟩)
                          · exact ⟨rfl, trivial⟩
                          · exact ⟨Nat.zero_le _, rfl⟩
                          · exact .refl _
                          rintro k hI
                          obtain ⟨hk, ha⟩ : k ≤ x.walks.length ∧ walksK x.walks k = true := hI
                          try dsimp only
                          refine VCsplit.intro (fun q58 => ?_) (fun q58 => ?_)
                          ·
                            simp at q58
                            refine idx_rd h4p ?_ ?_ fun b59 o59 hb59 => ?_
                            · omega
                            · omega
                            refine load_allN default (k) rfl h4p ?_ ?_ hb59 rfl (mem_at 0 rfl) fun l60 hl60 => ?_
                            · omega
                            · omega
                            obtain ⟨rfl, w0x60, w1x60, w2x60, w3x60⟩ := gWalk_rd.1 hl60
                            refine call_val (specWalkOk_ct _ (x.walks[k]?.getD default)) (Rp.mono _ (mem_at 0 rfl) hl60) ?_
                            rintro _ rfl
                            refine VCsplit.intro (fun q62 => ?_) (fun q62 => ?_)
                            ·
                              simp at q62
                              exact ⟨[], ⟨congrArg Value.bool (by unfold letterM; rw [Bool.eq_iff_iff, decide_eq_true_iff]; unfold letterP; simp_all), rfl⟩, (.le fun a => by (try simp only [setR, List.cons_append, List.nil_append]); simp [List.count_cons, Blk.ent, idOf]; try omega)⟩
                            ·
                              simp at q62
                              apply loop_stepA (k + 1)
                              · exact .refl _
                              · repeat' (first | exact trivial | refine ⟨⟨_, rfl, by first | rfl | exact inc_eq _ (by omega) | (refine sl_eq ?_; simp; done), by first | exact trivial | simp [SV.ok]⟩, ?_⟩)
                              · exact ⟨rfl, trivial⟩
                              · exact ⟨by omega, allK_step ha (by assumption)⟩
                              · omega
                          ·
                            simp at q58
                            refine VCsplit.intro (fun q63 => ?_) (fun q63 => ?_)
                            ·
                              simp at q63
                              exfalso; omega
                            ·
                              simp at q63
                              refine VCsplit.intro (fun q64 => ?_) (fun q64 => ?_)
                              ·
                                simp at q64
                                exfalso; omega
                              ·
                                simp at q64
                                refine VCsplit.intro (fun q65 => ?_) (fun q65 => ?_)
                                ·
                                  simp at q65
                                  exfalso; omega
                                ·
                                  simp at q65
                                  refine VCsplit.intro (fun q66 => ?_) (fun q66 => ?_)
                                  ·
                                    simp at q66
                                    refine call_new (specReadBag_ct _ ?_) trivial ?_
                                    · trivial
                                    rintro v67 A67 o67
                                    obtain ⟨l67, rfl, o67⟩ := o67
                                    have r67 := Gt.owrd _ o67
                                    obtain ⟨b0x67, c0x67, rfl, h0x67⟩ := gBag_rd.1 r67
                                    refine VCnew.intro fun x68 => ?_
                                    refine VCsplit.intro (fun q69 => ?_) (fun q69 => ?_)
                                    ·
                                      refine call_val (l01In_ct _ _ _) trivial ?_
                                      rintro _ rfl
                                      exact ⟨[], ⟨by rw [lm_6 (by assumption) (by assumption) (by assumption) (by assumption) (by assumption) (by omega) (by assumption)], rfl⟩, (.le fun a => by (try simp only [setR, List.cons_append, List.nil_append]); simp [List.count_cons, Blk.ent, idOf]; try omega)⟩
                                    ·
                                      exact ⟨[], ⟨congrArg Value.bool (by unfold letterM; rw [Bool.eq_iff_iff, decide_eq_true_iff]; unfold letterP; simp_all), rfl⟩, (.le fun a => by (try simp only [setR, List.cons_append, List.nil_append]); simp [List.count_cons, Blk.ent, idOf]; try omega)⟩
                                  ·
                                    simp at q66
                                    exfalso; omega
                    ·
                      simp at q45
                      exfalso; omega
              ·
                simp at q42
                refine VCsplit.intro (fun q71 => ?_) (fun q71 => ?_)
                ·
                  simp at q71
                  refine VCsplit.intro (fun q72 => ?_) (fun q72 => ?_)
                  ·
                    simp at q72
                    exact ⟨[], ⟨congrArg Value.bool (by unfold letterM; rw [Bool.eq_iff_iff, decide_eq_true_iff]; unfold letterP; simp_all), rfl⟩, (.le fun a => by (try simp only [setR, List.cons_append, List.nil_append]); simp [List.count_cons, Blk.ent, idOf]; try omega)⟩
                  ·
                    simp at q72
                    refine VCsplit.intro (fun q73 => ?_) (fun q73 => ?_)
                    ·
                      simp at q73
                      refine VCsplit.intro (fun q74 => ?_) (fun q74 => ?_)
                      ·
                        simp at q74
                        have iq74 := mt toL_nil9.2 q74
                        exact ⟨[], ⟨congrArg Value.bool (by unfold letterM; rw [Bool.eq_iff_iff, decide_eq_true_iff]; unfold letterP; simp_all), rfl⟩, (.le fun a => by (try simp only [setR, List.cons_append, List.nil_append]); simp [List.count_cons, Blk.ent, idOf]; try omega)⟩
                      ·
                        simp at q74
                        have iq74 := toL_nil9.1 q74
                        apply loop_mod (α := (Nat)) G_ok [72, 73, 74, 75, 76, 79, 80, 81, 82, 83, 84, 85, 2, 77, 78, 4] (fun z => [(4, .v (.int .i64 z))]) (fun z => [{ id := x0, cs := [Value.int IntKind.i64 x.kind, Value.int IntKind.i64 x.atom, Value.int IntKind.i64 x.num, Value.bool x.black, Value.slice b4p x.walks.length c4p, Value.string x.text], ty := (120 : Nat) }]) (fun z => [H]) (fun z => x.walks.length - z) (fun z => z ≤ x.walks.length ∧ walksK x.walks z = true) ((0))
                        · repeat' (first | exact trivial | refine ⟨⟨_, rfl, by first | rfl | exact inc_eq _ (by omega) | (refine sl_eq ?_; simp; done), by first | exact trivial | simp [SV.ok]⟩, ?_⟩)
                        · exact ⟨rfl, trivial⟩
                        · exact ⟨Nat.zero_le _, rfl⟩
                        · exact .refl _
                        rintro k hI
                        obtain ⟨hk, ha⟩ : k ≤ x.walks.length ∧ walksK x.walks k = true := hI
                        try dsimp only
                        refine VCsplit.intro (fun q75 => ?_) (fun q75 => ?_)
                        ·
                          simp at q75
                          refine idx_rd h4p ?_ ?_ fun b76 o76 hb76 => ?_
                          · omega
                          · omega
                          refine load_allN default (k) rfl h4p ?_ ?_ hb76 rfl (mem_at 0 rfl) fun l77 hl77 => ?_
                          · omega
                          · omega
                          obtain ⟨rfl, w0x77, w1x77, w2x77, w3x77⟩ := gWalk_rd.1 hl77
                          refine call_val (specWalkOk_ct _ (x.walks[k]?.getD default)) (Rp.mono _ (mem_at 0 rfl) hl77) ?_
                          rintro _ rfl
                          refine VCsplit.intro (fun q79 => ?_) (fun q79 => ?_)
                          ·
                            simp at q79
                            exact ⟨[], ⟨congrArg Value.bool (by unfold letterM; rw [Bool.eq_iff_iff, decide_eq_true_iff]; unfold letterP; simp_all), rfl⟩, (.le fun a => by (try simp only [setR, List.cons_append, List.nil_append]); simp [List.count_cons, Blk.ent, idOf]; try omega)⟩
                          ·
                            simp at q79
                            apply loop_stepA (k + 1)
                            · exact .refl _
                            · repeat' (first | exact trivial | refine ⟨⟨_, rfl, by first | rfl | exact inc_eq _ (by omega) | (refine sl_eq ?_; simp; done), by first | exact trivial | simp [SV.ok]⟩, ?_⟩)
                            · exact ⟨rfl, trivial⟩
                            · exact ⟨by omega, allK_step ha (by assumption)⟩
                            · omega
                        ·
                          simp at q75
                          refine VCsplit.intro (fun q80 => ?_) (fun q80 => ?_)
                          ·
                            simp at q80
                            exfalso; omega
                          ·
                            simp at q80
                            refine VCsplit.intro (fun q81 => ?_) (fun q81 => ?_)
                            ·
                              simp at q81
                              refine call_val (l01In_ct _ _ _) trivial ?_
                              rintro _ rfl
                              exact ⟨[], ⟨by rw [lm_3 (by assumption) (by assumption) (by assumption) (by omega)], rfl⟩, (.le fun a => by (try simp only [setR, List.cons_append, List.nil_append]); simp [List.count_cons, Blk.ent, idOf]; try omega)⟩
                            ·
                              simp at q81
                              exfalso; omega
                    ·
                      simp at q73
                      exfalso; omega
                ·
                  simp at q71
                  exfalso; omega
          ·
            simp at q40
            refine VCsplit.intro (fun q83 => ?_) (fun q83 => ?_)
            ·
              simp at q83
              refine VCsplit.intro (fun q84 => ?_) (fun q84 => ?_)
              ·
                simp at q84
                exact ⟨[], ⟨congrArg Value.bool (by unfold letterM; rw [Bool.eq_iff_iff, decide_eq_true_iff]; unfold letterP; simp_all), rfl⟩, (.le fun a => by (try simp only [setR, List.cons_append, List.nil_append]); simp [List.count_cons, Blk.ent, idOf]; try omega)⟩
              ·
                simp at q84
                refine VCsplit.intro (fun q85 => ?_) (fun q85 => ?_)
                ·
                  exact ⟨[], ⟨congrArg Value.bool (by unfold letterM; rw [Bool.eq_iff_iff, decide_eq_true_iff]; unfold letterP; simp_all), rfl⟩, (.le fun a => by (try simp only [setR, List.cons_append, List.nil_append]); simp [List.count_cons, Blk.ent, idOf]; try omega)⟩
                ·
                  refine VCsplit.intro (fun q86 => ?_) (fun q86 => ?_)
                  ·
                    simp at q86
                    refine VCsplit.intro (fun q87 => ?_) (fun q87 => ?_)
                    ·
                      simp at q87
                      exact ⟨[], ⟨congrArg Value.bool (by unfold letterM; rw [Bool.eq_iff_iff, decide_eq_true_iff]; unfold letterP; simp_all), rfl⟩, (.le fun a => by (try simp only [setR, List.cons_append, List.nil_append]); simp [List.count_cons, Blk.ent, idOf]; try omega)⟩
                    ·
                      simp at q87
                      refine VCsplit.intro (fun q88 => ?_) (fun q88 => ?_)
                      ·
                        simp at q88
                        refine VCsplit.intro (fun q89 => ?_) (fun q89 => ?_)
                        ·
                          simp at q89
                          have iq89 := mt toL_nil9.2 q89
                          exact ⟨[], ⟨congrArg Value.bool (by unfold letterM; rw [Bool.eq_iff_iff, decide_eq_true_iff]; unfold letterP; simp_all), rfl⟩, (.le fun a => by (try simp only [setR, List.cons_append, List.nil_append]); simp [List.count_cons, Blk.ent, idOf]; try omega)⟩
                        ·
                          simp at q89
                          have iq89 := toL_nil9.1 q89
                          apply loop_mod (α := (Nat)) G_ok [72, 73, 74, 75, 76, 79, 80, 81, 82, 83, 84, 85, 2, 77, 78, 4] (fun z => [(4, .v (.int .i64 z))]) (fun z => [{ id := x0, cs := [Value.int IntKind.i64 x.kind, Value.int IntKind.i64 x.atom, Value.int IntKind.i64 x.num, Value.bool x.black, Value.slice b4p x.walks.length c4p, Value.string x.text], ty := (120 : Nat) }]) (fun z => [H]) (fun z => x.walks.length - z) (fun z => z ≤ x.walks.length ∧ walksK x.walks z = true) ((0))
                          · repeat' (first | exact trivial | refine ⟨⟨_, rfl, by first | rfl | exact inc_eq _ (by omega) | (refine sl_eq ?_; simp; done), by first | exact trivial | simp [SV.ok]⟩, ?_⟩)
                          · exact ⟨rfl, trivial⟩
                          · exact ⟨Nat.zero_le _, rfl⟩
                          · exact .refl _
                          rintro k hI
                          obtain ⟨hk, ha⟩ : k ≤ x.walks.length ∧ walksK x.walks k = true := hI
                          try dsimp only
                          refine VCsplit.intro (fun q90 => ?_) (fun q90 => ?_)
                          ·
                            simp at q90
                            refine idx_rd h4p ?_ ?_ fun b91 o91 hb91 => ?_
                            · omega
                            · omega
                            refine load_allN default (k) rfl h4p ?_ ?_ hb91 rfl (mem_at 0 rfl) fun l92 hl92 => ?_
                            · omega
                            · omega
                            obtain ⟨rfl, w0x92, w1x92, w2x92, w3x92⟩ := gWalk_rd.1 hl92
                            refine call_val (specWalkOk_ct _ (x.walks[k]?.getD default)) (Rp.mono _ (mem_at 0 rfl) hl92) ?_
                            rintro _ rfl
                            refine VCsplit.intro (fun q94 => ?_) (fun q94 => ?_)
                            ·
                              simp at q94
                              exact ⟨[], ⟨by rw [lm_2 (by assumption) (by assumption) (by assumption) (by assumption) (by omega), walks_no (by omega) (by assumption)], rfl⟩, (.le fun a => by (try simp only [setR, List.cons_append, List.nil_append]); simp [List.count_cons, Blk.ent, idOf]; try omega)⟩
                            ·
                              simp at q94
                              apply loop_stepA (k + 1)
                              · exact .refl _
                              · repeat' (first | exact trivial | refine ⟨⟨_, rfl, by first | rfl | exact inc_eq _ (by omega) | (refine sl_eq ?_; simp; done), by first | exact trivial | simp [SV.ok]⟩, ?_⟩)
                              · exact ⟨rfl, trivial⟩
                              · exact ⟨by omega, allK_step ha (by assumption)⟩
                              · omega
                          ·
                            simp at q90
                            refine VCsplit.intro (fun q95 => ?_) (fun q95 => ?_)
                            ·
                              simp at q95
                              refine call_val (l01In_ct _ _ _) trivial ?_
                              rintro _ rfl
                              (have hke : k = x.walks.length := (by omega); subst hke; exact ⟨[], ⟨congrArg Value.bool (by rw [lm_2 (by assumption) (by assumption) (by assumption) (by assumption) (by omega), walks_all ha]; unfold inR; rw [Bool.eq_iff_iff]; simp; omega), rfl⟩, (.le fun a => by (try simp only [setR, List.cons_append, List.nil_append]); simp [List.count_cons, Blk.ent, idOf]; try omega)⟩)
                            ·
                              simp at q95
                              exfalso; omega
                      ·
                        simp at q88
                        exfalso; omega
                  ·
                    simp at q86
                    exfalso; omega
            ·
              simp at q83
              exfalso; omega

end Go.Proofs.YtflfohphebmemaaGreat
