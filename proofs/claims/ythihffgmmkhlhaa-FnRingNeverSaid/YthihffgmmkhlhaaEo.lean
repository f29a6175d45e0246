/-
  The laws over drawn rings, walked. Conditions: none.
-/
import Derived.Test.YthihffgmmkhlhaaEn
import Derived.Test.YthihffgmmkhlhaaEs
namespace Go.Proofs.Ythihffgmmkhlhaa
open Go.SX Go.Proofs
set_option linter.unusedSimpArgs false
set_option linter.unusedVariables false
set_option maxHeartbeats 4000000

theorem step_no (r : Ring) (t : Turn) (h : (ringStep r t).2 = false) : (ringStep r t).1 = r := by
  unfold ringStep at h ⊢
  split at h
  · cases h
  · rename_i h1; rw [if_neg h1]
theorem runOk_of (n : Int) (ts : List Turn) (h1 : 1 ≤ n) (h2 : n ≤ 8) (h3 : ts.length ≤ 120) : runOk n ts = true := by simp [runOk, inR, h1, h2, h3]
theorem runRing_lenOk (n : Int) (ts : List Turn) (h1 : 1 ≤ n) (h2 : n ≤ 8) (h3 : ts.length ≤ 120) : (runRing n ts).2.length = ts.length := by
  rw [runRing, runOk_of n ts h1 h2 h3, if_pos rfl, runN_len]

theorem rdr_counts {H : Hp} {r : Ring} {b1 b2 b3 b4 : Option Addr} {c1 c2 c3 c4 : Nat} (h : rdV true rpRing H (.agg ⟨ringCells r b1 b2 b3 b4 c1 c2 c3 c4⟩) r) : (rpSl flInt.rp).rd H [.slice b2 r.counts.length c2] r.counts := by
  obtain ⟨l, e, _, _, _, _, _, _, _, _, e2, g1, g2, g3, g4, _⟩ := h
  cases e; cases e2; exact g2
theorem rdr_fly {H : Hp} {r : Ring} {b1 b2 b3 b4 : Option Addr} {c1 c2 c3 c4 : Nat} (h : rdV true rpRing H (.agg ⟨ringCells r b1 b2 b3 b4 c1 c2 c3 c4⟩) r) : (rpSl flInt.rp).rd H [.slice b4 r.flying.length c4] r.flying := by
  obtain ⟨l, e, _, _, _, _, _, _, _, _, e2, g1, g2, g3, g4, _⟩ := h
  cases e; cases e2; exact g4
theorem tmodI_lt (x n : Int) (h0 : 0 ≤ x) (hn : 1 ≤ n) : 0 ≤ x.tmod n ∧ x.tmod n < n := ⟨Int.tmod_nonneg _ h0, Int.tmod_lt_of_pos _ (by omega)⟩
theorem fnRings_ct (v : Value) :
    Ct Try.prog 6 [v] [] (fun H => ∃ xs, rdV false (rpSl flByte.rp) H v xs) (fun v A => v = .bool true ∧ A = []) := by
  refine Ct.intro0 G_ok Try.func6 rfl rfl rfl fun E H hp => ?_
  obtain ⟨xs, hp⟩ := hp
  obtain ⟨b, c, e, hl1, hl2⟩ := id hp
  cases e
  have hp : (rpSl flByte.rp).rd H [.slice b xs.length c] xs := hp
  refine call_val (big_ct _ _ _) trivial ?_
  rintro _ rfl
  refine VCsplit.intro (fun q1 => ?_) (fun q1 => ?_)
  ·
    simp at q1
    exact ⟨[], ⟨rfl, rfl⟩, (.le fun a => by (try simp only [setR, List.cons_append, List.nil_append]); simp only [List.flatten_append, List.flatten_cons, List.flatten_nil, List.count_append, List.count_nil, List.append_nil, List.nil_append]; omega)⟩
  ·
    simp at q1
    refine call_newP (DrawTurns_ct _ _ _ _) (Rp.mono _ (mem_at 0 rfl) hp) ?_
    rintro v2 A2 o2
    obtain ⟨n2, ts2, tb2, tc2, rfl, ⟨hn2, hm2, htl2⟩, ot2⟩ := o2
    refine ⟨[A2], by simp, ?_⟩
    refine call_newP (implRunRing_ct _ _ _ _ (ts2)) (Rp.mono _ (mem_at 0 rfl) (Gt.owrd _ ot2)) ?_
    rintro v3 A3 o3
    obtain ⟨rv3, cb3, cc3, Aa3, Ab3, rfl, hp3, or3, oc3⟩ := o3
    refine ⟨[Aa3, Ab3], by simpa using hp3, ?_⟩
    replace oc3 := fl_ow oc3
    obtain ⟨d13, d23, d33, d43, g13, g23, g33, g43, B13, B23, B33, B43, rfl, -⟩ := id or3
    have fc3 := rdr_counts (OwR.rd or3)
    have ff3 := rdr_fly (OwR.rd or3)
    refine VCnew.intro fun x4 => ?_
    refine call_newP (specRunRing_ct _ _ _ _ (ts2)) (Rp.mono _ (mem_at 2 rfl) (Gt.owrd _ ot2)) ?_
    rintro v5 A5 o5
    obtain ⟨rv5, cb5, cc5, Aa5, Ab5, rfl, hp5, or5, oc5⟩ := o5
    refine ⟨[Aa5, Ab5], by simpa using hp5, ?_⟩
    replace oc5 := fl_ow oc5
    obtain ⟨d15, d25, d35, d45, g15, g25, g35, g45, B15, B25, B35, B45, rfl, -⟩ := id or5
    have fc5 := rdr_counts (OwR.rd or5)
    have ff5 := rdr_fly (OwR.rd or5)
    refine VCnew.intro fun x6 => ?_
    refine VCsplit.intro (fun q7 => ?_) (fun q7 => ?_)
    ·
      simp at q7
    ·
      simp at q7
      refine call_val (sameInts_ct _ _ _ _ _ _ ((runRing n2 ts2).snd) ((runRing n2 ts2).snd)) ⟨(Rp.mono _ (mem_at 3 rfl) (Ow.rd oc3)), (Rp.mono _ (mem_at 1 rfl) (Ow.rd oc5))⟩ ?_
      rintro _ rfl
      refine VCsplit.intro (fun q9 => ?_) (fun q9 => ?_)
      ·
        simp at q9
      ·
        simp at q9
        refine VCsplit.intro (fun q10 => ?_) (fun q10 => ?_)
        ·
          simp at q10
        ·
          simp at q10
          refine VCsplit.intro (fun q11 => ?_) (fun q11 => ?_)
          ·
            simp at q11
          ·
            simp at q11
            refine VCsplit.intro (fun q12 => ?_) (fun q12 => ?_)
            ·
              simp at q12
            ·
              simp at q12
              refine call_val (sameInts_ct _ _ _ _ _ _ ((runRing n2 ts2).fst.flying) ((runRing n2 ts2).fst.flying)) ⟨(Rp.mono _ (mem_at 2 rfl) ff3), (Rp.mono _ (mem_at 0 rfl) ff5)⟩ ?_
              rintro _ rfl
              refine VCsplit.intro (fun q14 => ?_) (fun q14 => ?_)
              ·
                simp at q14
              ·
                simp at q14
                have z1 := run_sum n2 ts2 (by omega) (by omega) (by omega)
                have z2 := runRing_ok n2 ts2 (by omega) (by omega) (by omega)
                have z3 := run_quiet n2 ts2 (by omega) (by omega) (by omega)
                have z4 := runOk_of n2 ts2 (by omega) (by omega) (by omega)
                have z5 := runRing_lenOk n2 ts2 (by omega) (by omega) (by omega)
                refine VCsplit.intro (fun q15 => ?_) (fun q15 => ?_)
                ·
                  refine VCsplit.intro (fun q16 => ?_) (fun q16 => ?_)
                  ·
                    simp at q16
                    refine call_val (implRingSum_ct _ ((runRing n2 ts2).fst)) (rdV_mono (mem_at 2 rfl) (OwR.rd or3)) ?_
                    rintro _ rfl
                    refine VCsplit.intro (fun q18 => ?_) (fun q18 => ?_)
                    ·
                      refine call_val (implRingOk_ct _ ((runRing n2 ts2).fst)) (rdV_mono (mem_at 2 rfl) (OwR.rd or3)) ?_
                      rintro _ rfl
                      refine VCsplit.intro (fun q20 => ?_) (fun q20 => ?_)
                      ·
                        exact ⟨[], ⟨by rw [z5]; simp, rfl⟩, (.le fun a => by (try simp only [setR, List.cons_append, List.nil_append]); simp only [List.flatten_append, List.flatten_cons, List.flatten_nil, List.count_append, List.count_nil, List.append_nil, List.nil_append]; omega)⟩
                      ·
                        exfalso; simp_all; done
                    ·
                      exfalso; simp_all; done
                  ·
                    simp at q16
                    refine call_val (implRingQuiet_ct _ ((runRing n2 ts2).fst)) (rdV_mono (mem_at 2 rfl) (OwR.rd or3)) ?_
                    rintro _ rfl
                    refine VCsplit.intro (fun q22 => ?_) (fun q22 => ?_)
                    ·
                      refine call_val (implRingSum_ct _ ((runRing n2 ts2).fst)) (rdV_mono (mem_at 2 rfl) (OwR.rd or3)) ?_
                      rintro _ rfl
                      refine VCsplit.intro (fun q24 => ?_) (fun q24 => ?_)
                      ·
                        refine call_val (implRingOk_ct _ ((runRing n2 ts2).fst)) (rdV_mono (mem_at 2 rfl) (OwR.rd or3)) ?_
                        rintro _ rfl
                        refine VCsplit.intro (fun q26 => ?_) (fun q26 => ?_)
                        ·
                          exact ⟨[], ⟨by rw [z5]; simp, rfl⟩, (.le fun a => by (try simp only [setR, List.cons_append, List.nil_append]); simp only [List.flatten_append, List.flatten_cons, List.flatten_nil, List.count_append, List.count_nil, List.append_nil, List.nil_append]; omega)⟩
                        ·
                          exfalso; simp_all; done
                      ·
                        exfalso; simp_all; done
                    ·
                      exfalso; simp_all; done
                ·
                  exfalso
                  simp_all

theorem fnRingsCalm_ct (v : Value) :
    Ct Try.prog 9 [v] [] (fun H => ∃ xs, rdV false (rpSl flByte.rp) H v xs) (fun v A => v = .bool true ∧ A = []) := by
  refine Ct.intro0 G_ok Try.func9 rfl rfl rfl fun E H hp => ?_
  obtain ⟨xs, hp⟩ := hp
  obtain ⟨b, c, e, hl1, hl2⟩ := id hp
  cases e
  have hp : (rpSl flByte.rp).rd H [.slice b xs.length c] xs := hp
  refine call_val (big_ct _ _ _) trivial ?_
  rintro _ rfl
  refine VCsplit.intro (fun q1 => ?_) (fun q1 => ?_)
  ·
    simp at q1
    exact ⟨[], ⟨rfl, rfl⟩, (.le fun a => by (try simp only [setR, List.cons_append, List.nil_append]); simp only [List.flatten_append, List.flatten_cons, List.flatten_nil, List.count_append, List.count_nil, List.append_nil, List.nil_append]; omega)⟩
  ·
    simp at q1
    refine call_newP (DrawTurns_ct _ _ _ _) (Rp.mono _ (mem_at 0 rfl) hp) ?_
    rintro v2 A2 o2
    obtain ⟨n2, ts2, tb2, tc2, rfl, ⟨hn2, hm2, htl2⟩, ot2⟩ := o2
    refine ⟨[A2], by simp, ?_⟩
    refine call_newP (implRunRing_ct _ _ _ _ (ts2)) (Rp.mono _ (mem_at 0 rfl) (Gt.owrd _ ot2)) ?_
    rintro v3 A3 o3
    obtain ⟨rv3, cb3, cc3, Aa3, Ab3, rfl, hp3, or3, oc3⟩ := o3
    refine ⟨[Aa3, Ab3], by simpa using hp3, ?_⟩
    replace oc3 := fl_ow oc3
    obtain ⟨d13, d23, d33, d43, g13, g23, g33, g43, B13, B23, B33, B43, rfl, -⟩ := id or3
    have fc3 := rdr_counts (OwR.rd or3)
    have ff3 := rdr_fly (OwR.rd or3)
    refine VCnew.intro fun x4 => ?_
    refine call_new (implCalmRing_ct _ ((runRing n2 ts2).fst) ?_) (rdV_mono (mem_at 0 rfl) (OwR.rd or3)) ?_
    · exact runRing_cells _ _
    rintro v5 A5 o5
    obtain ⟨d15, d25, d35, d45, g15, g25, g35, g45, B15, B25, B35, B45, rfl, -⟩ := id o5
    have fc5 := rdr_counts (OwR.rd o5)
    have ff5 := rdr_fly (OwR.rd o5)
    refine VCnew.intro fun x6 => ?_
    refine call_newP (DrawCalmRing_ct _ _ _ _) (Rp.mono _ (mem_at 4 rfl) hp) ?_
    rintro v7 A7 o7
    obtain ⟨r7, l7, rfl, or7, hrc7⟩ := o7
    refine ⟨[A7], by simp, ?_⟩
    have or7 : rdV true rpRing A7 _ r7 := ⟨_, rfl, or7⟩
    obtain ⟨_, e7, b17, b27, b37, b47, c17, c27, c37, c47, e17, -⟩ := id or7
    cases e7
    cases e17
    refine VCnew.intro fun x8 => ?_
    refine call_new (implCalmRing_ct _ (r7) ?_) (rdV_mono (mem_at 0 rfl) or7) ?_
    · trivial
    rintro v9 A9 o9
    obtain ⟨d19, d29, d39, d49, g19, g29, g39, g49, B19, B29, B39, B49, rfl, -⟩ := id o9
    have fc9 := rdr_counts (OwR.rd o9)
    have ff9 := rdr_fly (OwR.rd o9)
    refine VCnew.intro fun x10 => ?_
    refine call_new (specCalmRing_ct _ (r7) ?_) (rdV_mono (mem_at 1 rfl) or7) ?_
    · trivial
    rintro v11 A11 o11
    obtain ⟨d111, d211, d311, d411, g111, g211, g311, g411, B111, B211, B311, B411, rfl, -⟩ := id o11
    have fc11 := rdr_counts (OwR.rd o11)
    have ff11 := rdr_fly (OwR.rd o11)
    refine VCnew.intro fun x12 => ?_
    refine VCsplit.intro (fun q13 => ?_) (fun q13 => ?_)
    ·
      have z1 := calm_run n2 ts2 (by omega) (by omega) (by omega)
      refine VCsplit.intro (fun q14 => ?_) (fun q14 => ?_)
      ·
        refine call_val (implRingQuiet_ct _ (calm (runRing n2 ts2).fst)) (rdV_mono (mem_at 3 rfl) (OwR.rd o5)) ?_
        rintro _ rfl
        refine VCsplit.intro (fun q16 => ?_) (fun q16 => ?_)
        ·
          refine call_val (implRingSum_ct _ (calm (runRing n2 ts2).fst)) (rdV_mono (mem_at 3 rfl) (OwR.rd o5)) ?_
          rintro _ rfl
          refine VCsplit.intro (fun q18 => ?_) (fun q18 => ?_)
          ·
            refine VCsplit.intro (fun q19 => ?_) (fun q19 => ?_)
            ·
              simp at q19
              refine call_val (sameInts_ct _ _ _ _ _ _ ((calm r7).counts) ((calm r7).counts)) ⟨(Rp.mono _ (mem_at 1 rfl) fc9), (Rp.mono _ (mem_at 0 rfl) fc11)⟩ ?_
              rintro _ rfl
              refine VCsplit.intro (fun q21 => ?_) (fun q21 => ?_)
              ·
                simp at q21
                refine call_val (sameInts_ct _ _ _ _ _ _ ((calm r7).flying) ((calm r7).flying)) ⟨(Rp.mono _ (mem_at 1 rfl) ff9), (Rp.mono _ (mem_at 0 rfl) ff11)⟩ ?_
                rintro _ rfl
                exact ⟨[], ⟨by simp, rfl⟩, (.le fun a => by (try simp only [setR, List.cons_append, List.nil_append]); simp only [List.flatten_append, List.flatten_cons, List.flatten_nil, List.count_append, List.count_nil, List.append_nil, List.nil_append]; omega)⟩
              ·
                simp at q21
            ·
              simp at q19
          ·
            exfalso; simp_all; done
        ·
          exfalso; simp_all; done
      ·
        exfalso; simp_all; done
    ·
      have z4 := runOk_of n2 ts2 (by omega) (by omega) (by omega)
      exfalso; simp_all; done

theorem fnRingSteps_ct (v : Value) :
    Ct Try.prog 8 [v] [] (fun H => ∃ xs, rdV false (rpSl flByte.rp) H v xs) (fun v A => v = .bool true ∧ A = []) := by
  refine Ct.intro0 G_ok Try.func8 rfl rfl rfl fun E H hp => ?_
  obtain ⟨xs, hp⟩ := hp
  obtain ⟨b, c, e, hl1, hl2⟩ := id hp
  cases e
  have hp : (rpSl flByte.rp).rd H [.slice b xs.length c] xs := hp
  refine call_val (big_ct _ _ _) trivial ?_
  rintro _ rfl
  refine VCsplit.intro (fun q1 => ?_) (fun q1 => ?_)
  ·
    simp at q1
    exact ⟨[], ⟨by simp, rfl⟩, (.le fun a => by (try simp only [setR, List.cons_append, List.nil_append]); simp only [List.flatten_append, List.flatten_cons, List.flatten_nil, List.count_append, List.count_nil, List.append_nil, List.nil_append]; omega)⟩
  ·
    simp at q1
    refine call_newP (DrawRingStep_ct _ _ _ _) (Rp.mono _ (mem_at 0 rfl) hp) ?_
    rintro v2 A2 o2
    obtain ⟨r2, l2, k2, a2, t2, rfl, or2, hrc2, hk2, ha2, ht2⟩ := o2
    refine ⟨[A2], by simp, ?_⟩
    have or2 : rdV true rpRing A2 _ r2 := ⟨_, rfl, or2⟩
    obtain ⟨_, e2, b12, b22, b32, b42, c12, c22, c32, c42, e12, -⟩ := id or2
    cases e2
    cases e12
    have fr2 := rdr_fly or2
    refine VCnew.intro fun x3 => ?_
    refine VCnew.intro fun x4 => ?_
    refine call_new (implRingStep_ct _ (r2) ⟨k2, a2, t2⟩ ?_ ?_) (rdV_mono (mem_at 0 rfl) or2) ?_
    · trivial
    · trivial
    rintro v5 A5 o5
    obtain ⟨rv5, rfl, or5⟩ := o5
    obtain ⟨d15, d25, d35, d45, g15, g25, g35, g45, B15, B25, B35, B45, rfl, -⟩ := id or5
    have fc5 := rdr_counts (OwR.rd or5)
    have ff5 := rdr_fly (OwR.rd or5)
    refine VCnew.intro fun x6 => ?_
    refine call_new (specRingStep_ct _ (r2) ⟨k2, a2, t2⟩ ?_ ?_) (rdV_mono (mem_at 1 rfl) or2) ?_
    · trivial
    · trivial
    rintro v7 A7 o7
    obtain ⟨rv7, rfl, or7⟩ := o7
    obtain ⟨d17, d27, d37, d47, g17, g27, g37, g47, B17, B27, B37, B47, rfl, -⟩ := id or7
    have fc7 := rdr_counts (OwR.rd or7)
    have ff7 := rdr_fly (OwR.rd or7)
    refine VCnew.intro fun x8 => ?_
    refine call_newP (DrawRingQuiet_ct _ _ _ _) (Rp.mono _ (mem_at 3 rfl) hp) ?_
    rintro v9 A9 o9
    obtain ⟨r9, l9, rfl, or9, hrc9⟩ := o9
    refine ⟨[A9], by simp, ?_⟩
    have or9 : rdV true rpRing A9 _ r9 := ⟨_, rfl, or9⟩
    obtain ⟨_, e9, b19, b29, b39, b49, c19, c29, c39, c49, e19, -⟩ := id or9
    cases e9
    cases e19
    refine VCnew.intro fun x10 => ?_
    refine call_new (implRingNew_ct _) trivial ?_
    rintro v11 A11 o11
    obtain ⟨rv11, rfl, or11⟩ := o11
    obtain ⟨d111, d211, d311, d411, g111, g211, g311, g411, B111, B211, B311, B411, rfl, -⟩ := id or11
    refine VCnew.intro fun x12 => ?_
    refine call_new (implRingNew_ct _) trivial ?_
    rintro v13 A13 o13
    obtain ⟨rv13, rfl, or13⟩ := o13
    obtain ⟨d113, d213, d313, d413, g113, g213, g313, g413, B113, B213, B313, B413, rfl, -⟩ := id or13
    refine VCnew.intro fun x14 => ?_
    refine draw G_ok mixed none (.q 0 (.q 1 (.q 2 (.q 3 (.q 4 (.q 5 (.q 6 (.q 7 (.q 8 (.q 9 (.q 10 (.q 11 (.q 12 (.q 13 (.q 14 (.q 15 (.q 16 (.q 17 (.q 18 (.q 19 (.q 20 (.q 21 (.q 22 (.q 23 (.q 24 (.q 25 (.q 26 (.q 27 (.q 28 (.q 29 (.q 30 (.q 31 (.q 32 (.q 33 (.q 34 (.q 35 (.f 36 (.q 37 (.q 38 (.q 39 (.q 40 (.q 41 (.q 42 (.f 43 (.q 44 (.q 45 (.q 46 (.q 48 (.f 47 (.f 49 (.q 50 (.q 51 (.q 52 (.q 53 (.q 55 (.f 54 (.f 56 (.q 57 (.q 58 (.q 59 (.q 60 (.q 62 (.f 61 (.f 63 (.q 64 (.q 65 (.q 66 (.q 67 (.q 68 (.q 69 (.q 70 (.q 71 (.q 72 (.q 73 (.q 74 (.q 75 (.q 76 (.q 77 (.q 78 (.q 79 (.q 80 (.q 81 (.q 82 (.q 83 (.q 84 (.q 85 (.f 86 (.q 87 (.q 88 (.q 89 (.nil))))))))))))))))))))))))))))))))))))))))))))))))))))))))))))))))))))))))))))))))))))))))))) (by decide +kernel) ?_
    refine VCsplit.intro (fun q15 => ?_) (fun q15 => ?_)
    ·
      simp at q15
      refine VCsplit.intro (fun q16 => ?_) (fun q16 => ?_)
      ·
        simp at q16
        refine VCsplit.intro (fun q17 => ?_) (fun q17 => ?_)
        ·
          simp at q17
          refine VCsplit.intro (fun q18 => ?_) (fun q18 => ?_)
          ·
            simp at q18
            refine VCsplit.intro (fun q19 => ?_) (fun q19 => ?_)
            ·
              simp at q19
              refine call_val (sameInts_ct _ _ _ _ _ _ ((ringStep r2 { kind := k2, at' := a2, to := t2 }).fst.counts) ((ringStep r2 { kind := k2, at' := a2, to := t2 }).fst.counts)) ⟨(Rp.mono _ (mem_at 4 rfl) fc5), (Rp.mono _ (mem_at 3 rfl) fc7)⟩ ?_
              rintro _ rfl
              refine VC.intro ?_ ?_
              · exact fun _ h => h
              refine VCsplit.intro (fun q21 => ?_) (fun q21 => ?_)
              ·
                simp at q21
                refine call_val (sameInts_ct _ _ _ _ _ _ ((ringStep r2 { kind := k2, at' := a2, to := t2 }).fst.flying) ((ringStep r2 { kind := k2, at' := a2, to := t2 }).fst.flying)) ⟨(Rp.mono _ (mem_at 4 rfl) ff5), (Rp.mono _ (mem_at 3 rfl) ff7)⟩ ?_
                rintro _ rfl
                refine VC.intro ?_ ?_
                · exact fun _ h => h
                refine VCsplit.intro (fun q23 => ?_) (fun q23 => ?_)
                ·
                  simp at q23
                  refine call_val (implRingOk_ct _ (r2)) (rdV_mono (mem_at 5 rfl) or2) ?_
                  rintro _ rfl
                  refine VC.intro ?_ ?_
                  · exact fun _ h => h
                  refine call_val (specRingOk_ct _ (r2)) (rdV_mono (mem_at 5 rfl) or2) ?_
                  rintro _ rfl
                  refine VC.intro ?_ ?_
                  · exact fun _ h => h
                  refine VCsplit.intro (fun q26 => ?_) (fun q26 => ?_)
                  ·
                    simp at q26
                    refine call_val (implRingQuiet_ct _ (r9)) (rdV_mono (mem_at 2 rfl) or9) ?_
                    rintro _ rfl
                    refine VC.intro ?_ ?_
                    · exact fun _ h => h
                    refine call_val (specRingQuiet_ct _ (r9)) (rdV_mono (mem_at 2 rfl) or9) ?_
                    rintro _ rfl
                    refine VC.intro ?_ ?_
                    · exact fun _ h => h
                    refine VCsplit.intro (fun q29 => ?_) (fun q29 => ?_)
                    ·
                      simp at q29
                      refine call_val (implRingSum_ct _ (r9)) (rdV_mono (mem_at 2 rfl) or9) ?_
                      rintro _ rfl
                      refine VC.intro ?_ ?_
                      · exact fun _ h => h
                      refine call_val (specRingSum_ct _ (r9)) (rdV_mono (mem_at 2 rfl) or9) ?_
                      rintro _ rfl
                      refine VC.intro ?_ ?_
                      · exact fun _ h => h
                      refine VCsplit.intro (fun q32 => ?_) (fun q32 => ?_)
                      ·
                        simp at q32
                        refine VCsplit.intro (fun q33 => ?_) (fun q33 => ?_)
                        ·
                          refine VCsplit.intro (fun q34 => ?_) (fun q34 => ?_)
                          ·
                            simp at q34
                            refine VCsplit.intro (fun q35 => ?_) (fun q35 => ?_)
                            ·
                              simp at q35
                              refine VCsplit.intro (fun q36 => ?_) (fun q36 => ?_)
                              ·
                                exact ⟨[], ⟨by simp, rfl⟩, (.le fun a => by (try simp only [setR, List.cons_append, List.nil_append]); simp only [List.flatten_append, List.flatten_cons, List.flatten_nil, List.count_append, List.count_nil, List.append_nil, List.nil_append]; omega)⟩
                              ·
                                refine call_val (sameInts_ct _ _ _ _ _ _ ((ringStep r2 { kind := k2, at' := a2, to := t2 }).fst.flying) (r2.flying)) ⟨(Rp.mono _ (mem_at 4 rfl) ff5), (Rp.mono _ (mem_at 5 rfl) fr2)⟩ ?_
                                rintro _ rfl
                                refine VC.intro ?_ ?_
                                · exact fun _ h => h
                                exact ⟨[], ⟨by rw [step_no _ _ (by assumption)]; simp, rfl⟩, (.le fun a => by (try simp only [setR, List.cons_append, List.nil_append]); simp only [List.flatten_append, List.flatten_cons, List.flatten_nil, List.count_append, List.count_nil, List.append_nil, List.nil_append]; omega)⟩
                            ·
                              simp at q35
                              exfalso; simp [inR, ringNew] at *; done
                          ·
                            simp at q34
                            exfalso; simp [inR, ringNew] at *; done
                        ·
                          exfalso; simp [inR, ringNew] at *; done
                      ·
                        simp at q32
                    ·
                      simp at q29
                  ·
                    simp at q26
                ·
                  simp at q23
              ·
                simp at q21
            ·
              simp at q19
          ·
            simp at q18
        ·
          simp at q17
      ·
        simp at q16
    ·
      simp at q15

def nvA (k : Int) : Nat → List Turn
  | 0 => []
  | m + 1 => if (m : Int) = k then nvA k m else nvA k m ++ [⟨3, m, 0⟩]
def nvB (k : Int) : Nat → List Turn
  | 0 => []
  | m + 1 => nvB k m ++ [⟨1, k, k⟩, ⟨3, k, 0⟩, ⟨4, 0, 0⟩, ⟨4, 0, 0⟩, ⟨2, 0, 0⟩, ⟨4, 0, 0⟩]
theorem nvA_eq {k : Int} {m : Nat} (h : (m : Int) = k) : nvA k (m + 1) = nvA k m := if_pos h
theorem nvA_ne {k : Int} {m : Nat} (h : ¬ (m : Int) = k) : nvA k (m + 1) = nvA k m ++ [⟨3, m, 0⟩] := if_neg h
theorem nvB_len (k : Int) : ∀ m, (nvB k m).length = 6 * m
  | 0 => rfl
  | m + 1 => by rw [nvB, List.length_append, nvB_len k m]; simp; omega
theorem nvA_len (k : Int) : ∀ m, (nvA k m).length ≤ m
  | 0 => Nat.le_refl _
  | m + 1 => by
    have := nvA_len k m
    unfold nvA; split
    · omega
    · rw [List.length_append]; simp; omega
theorem nv_wf {k : Int} (h : okI k) : ∀ y ∈ ([⟨1, k, k⟩, ⟨3, k, 0⟩, ⟨4, 0, 0⟩, ⟨4, 0, 0⟩, ⟨2, 0, 0⟩, ⟨4, 0, 0⟩] : List Turn), flTurn.wf y := by
  have z : ∀ a b c : Int, okI a → okI b → okI c → flTurn.wf ⟨a, b, c⟩ := fun a b c ha hb hc => ⟨ha, hb, hc⟩
  have o : ∀ x : Int, 0 ≤ x → x ≤ 9 → okI x := fun x h0 h1 => by unfold okI; omega
  intro y hy
  simp only [List.mem_cons, List.not_mem_nil, or_false] at hy
  rcases hy with rfl | rfl | rfl | rfl | rfl | rfl
  · exact z _ _ _ (o _ (by omega) (by omega)) h h
  · exact z _ _ _ (o _ (by omega) (by omega)) h (o _ (by omega) (by omega))
  all_goals exact z _ _ _ (o _ (by omega) (by omega)) (o _ (by omega) (by omega)) (o _ (by omega) (by omega))
theorem never (n k : Int) (h1 : 1 ≤ n) (h2 : n ≤ 4) (h3 : 0 ≤ k) (h4 : k < n) :
    runOk n (nvA k n.toNat ++ nvB k 12) = true ∧ (runRing n (nvA k n.toNat ++ nvB k 12)).1.over = false ∧ (calm (runRing n (nvA k n.toNat ++ nvB k 12)).1).over = true ∧ ringSum (runRing n (nvA k n.toNat ++ nvB k 12)).1 = true := by
  have hn : n = 1 ∨ n = 2 ∨ n = 3 ∨ n = 4 := by omega
  rcases hn with rfl | rfl | rfl | rfl
  · obtain rfl : k = 0 := by omega
    decide +kernel
  · have hk : k = 0 ∨ k = 1 := by omega
    rcases hk with rfl | rfl <;> decide +kernel
  · have hk : k = 0 ∨ k = 1 ∨ k = 2 := by omega
    rcases hk with rfl | rfl | rfl <;> decide +kernel
  · have hk : k = 0 ∨ k = 1 ∨ k = 2 ∨ k = 3 := by omega
    rcases hk with rfl | rfl | rfl | rfl <;> decide +kernel

theorem fnRingNever_ct (v : Value) :
    Ct Try.prog 5 [v] [] (fun H => ∃ xs, rdV false (rpSl flByte.rp) H v xs) (fun v A => v = .bool true ∧ A = []) := by
  refine Ct.intro0 G_ok Try.func5 rfl rfl rfl fun E H hp => ?_
  obtain ⟨xs, hp⟩ := hp
  obtain ⟨b, c, e, hl1, hl2⟩ := id hp
  cases e
  have hp : (rpSl flByte.rp).rd H [.slice b xs.length c] xs := hp
  refine call_val (big_ct _ _ _) trivial ?_
  rintro _ rfl
  refine VCsplit.intro (fun q1 => ?_) (fun q1 => ?_)
  ·
    simp at q1
    exact ⟨[], ⟨rfl, rfl⟩, (.le fun a => by (try simp only [setR, List.cons_append, List.nil_append]); simp only [List.flatten_append, List.flatten_cons, List.flatten_nil, List.count_append, List.count_nil, List.append_nil, List.nil_append]; omega)⟩
  ·
    simp at q1
    refine call_new (DrawPlaces_ct _ _ _ _) (Rp.mono _ (mem_at 0 rfl) hp) ?_
    rintro v2 A2 o2
    obtain ⟨ps2, pb2, pc2, rfl, ⟨hpl2, hps2⟩, op2⟩ := o2
    have hx0 := hps2 _ (getD_mem (ls := ps2) 0 0 (by omega))
    have hx1 := hps2 _ (getD_mem (ls := ps2) 1 0 (by omega))
    have hm0 := tmodI_lt (ps2[0]?.getD 0) 4 hx0.1 (by omega)
    have hN : IntKind.i64.wrap (1 + (ps2[0]?.getD 0).tmod 4) = 1 + (ps2[0]?.getD 0).tmod 4 := wrap_of (by omega) (by omega)
    refine idx_rd (Gt.owrd _ op2) ?_ ?_ fun b3 o3 hb3 => ?_
    · trivial
    · omega
    refine load_allN 0 (0) rfl (Gt.owrd _ op2) ?_ ?_ hb3 rfl (mem_at 0 rfl) fun l4 hl4 => ?_
    · trivial
    · omega
    obtain ⟨rfl, hw4⟩ := hl4
    refine VC.intro ?_ ?_
    · trivial
    refine idx_rd (Gt.owrd _ op2) ?_ ?_ fun b5 o5 hb5 => ?_
    · trivial
    · omega
    refine load_allN 0 (1) rfl (Gt.owrd _ op2) ?_ ?_ hb5 rfl (mem_at 0 rfl) fun l6 hl6 => ?_
    · trivial
    · omega
    obtain ⟨rfl, hw6⟩ := hl6
    refine VC.intro ?_ ?_
    · omega
    refine VCnew.intro fun x7 => ?_
    apply loop_mod (α := (Nat) × (Option Addr) × (Nat) × (Hp)) G_ok [28, 29, 30, 33, 34, 35, 36, 37, 38, 39, 40, 6, 31, 32, 7] (fun z => [(7, .v (.int .i64 z.1)), (6, .v (.slice z.2.1 (nvA ((ps2[1]?.getD (0:Int)).tmod (IntKind.i64.wrap ((1:Int) + (ps2[0]?.getD (0:Int)).tmod 4))) z.1).length z.2.2.1))]) (fun z => []) (fun z => [z.2.2.2, A2, H]) (fun z => (IntKind.i64.wrap ((1:Int) + (ps2[0]?.getD (0:Int)).tmod 4)).toNat - z.1) (fun z => z.1 ≤ (IntKind.i64.wrap ((1:Int) + (ps2[0]?.getD (0:Int)).tmod 4)).toNat ∧ (gSl 43 gTurn).ow [.slice z.2.1 (nvA ((ps2[1]?.getD (0:Int)).tmod (IntKind.i64.wrap ((1:Int) + (ps2[0]?.getD (0:Int)).tmod 4))) z.1).length z.2.2.1] (nvA ((ps2[1]?.getD (0:Int)).tmod (IntKind.i64.wrap ((1:Int) + (ps2[0]?.getD (0:Int)).tmod 4))) z.1) z.2.2.2) ((0, some ⟨x7, 0, none⟩, 0, []))
    · repeat' (first | exact trivial | refine ⟨⟨_, rfl, by first | rfl | exact inc_eq _ (by omega) | (refine sl_eq ?_; simp; done) | (refine sl_eq ?_; dsimp only; simp only [nvB_len, List.length_append, List.length_cons, List.length_nil]; omega) | (refine sl_eq ?_; dsimp only; rw [nvA_eq (k := ((ps2[1]?.getD (0:Int)).tmod (IntKind.i64.wrap ((1:Int) + (ps2[0]?.getD (0:Int)).tmod 4)))) (m := k) (by rw [hN]; assumption)]) | (refine sl_eq ?_; dsimp only; rw [nvA_ne (k := ((ps2[1]?.getD (0:Int)).tmod (IntKind.i64.wrap ((1:Int) + (ps2[0]?.getD (0:Int)).tmod 4)))) (m := k) (by rw [hN]; assumption)]) | (refine sl_eq ?_; dsimp only; simp only [nvB, List.append_nil]), by first | exact trivial | simp [SV.ok]⟩, ?_⟩)
    · exact trivial
    · try dsimp only
      exact ⟨by omega, sl_nil _ _ _⟩
    · exact .tl
    rintro ⟨k, tb, tc, T⟩ hI
    obtain ⟨hk, oT⟩ : k ≤ (IntKind.i64.wrap ((1:Int) + (ps2[0]?.getD (0:Int)).tmod 4)).toNat ∧ (gSl 43 gTurn).ow [.slice tb (nvA ((ps2[1]?.getD (0:Int)).tmod (IntKind.i64.wrap ((1:Int) + (ps2[0]?.getD (0:Int)).tmod 4))) k).length tc] (nvA ((ps2[1]?.getD (0:Int)).tmod (IntKind.i64.wrap ((1:Int) + (ps2[0]?.getD (0:Int)).tmod 4))) k) T := hI
    try dsimp only
    have hK := tmodI_lt (ps2[1]?.getD (0:Int)) (IntKind.i64.wrap ((1:Int) + (ps2[0]?.getD (0:Int)).tmod 4)) hx1.1 (by rw [hN]; omega)
    have hAl := nvA_len ((ps2[1]?.getD (0:Int)).tmod (IntKind.i64.wrap ((1:Int) + (ps2[0]?.getD (0:Int)).tmod 4))) k
    refine VCsplit.intro (fun q8 => ?_) (fun q8 => ?_)
    ·
      simp at q8
      simp (disch := omega) only [wrap_of] at q8
      refine VCsplit.intro (fun q9 => ?_) (fun q9 => ?_)
      ·
        simp at q9
        simp (disch := omega) only [wrap_of] at q9
        refine VCnew.intro fun x10 => ?_
        refine gappend1 (g := gTurn) (T := (43 : TypeId)) G_ok T [] [A2, H] ?_ oT (gTurn_ow ?_ ?_ ?_) (List.mem_of_getElem? (i := 0) rfl) rfl rfl rfl rfl rfl rfl rfl rfl ?_ fun b11 c11 A11 o11 => ?_
        · exact .tl
        · trivial
        · unfold okI; omega
        · trivial
        · omega
        apply loop_step (k + 1, _, _, _)
        · repeat' (first | exact trivial | refine ⟨⟨_, rfl, by first | rfl | exact inc_eq _ (by omega) | (refine sl_eq ?_; simp; done) | (refine sl_eq ?_; dsimp only; simp only [nvB_len, List.length_append, List.length_cons, List.length_nil]; omega) | (refine sl_eq ?_; dsimp only; rw [nvA_eq (k := ((ps2[1]?.getD (0:Int)).tmod (IntKind.i64.wrap ((1:Int) + (ps2[0]?.getD (0:Int)).tmod 4)))) (m := k) (by rw [hN]; assumption)]) | (refine sl_eq ?_; dsimp only; rw [nvA_ne (k := ((ps2[1]?.getD (0:Int)).tmod (IntKind.i64.wrap ((1:Int) + (ps2[0]?.getD (0:Int)).tmod 4)))) (m := k) (by rw [hN]; assumption)]) | (refine sl_eq ?_; dsimp only; simp only [nvB, List.append_nil]), by first | exact trivial | simp [SV.ok]⟩, ?_⟩)
        · exact trivial
        · exact .refl _
        · try dsimp only
          rw [nvA_ne (k := ((ps2[1]?.getD (0:Int)).tmod (IntKind.i64.wrap ((1:Int) + (ps2[0]?.getD (0:Int)).tmod 4)))) (m := k) (by rw [hN]; assumption)]; exact ⟨by omega, by assumption⟩
        · try dsimp only
          omega
      ·
        simp at q9
        simp (disch := omega) only [wrap_of] at q9
        apply loop_step (k + 1, _, _, _)
        · repeat' (first | exact trivial | refine ⟨⟨_, rfl, by first | rfl | exact inc_eq _ (by omega) | (refine sl_eq ?_; simp; done) | (refine sl_eq ?_; dsimp only; simp only [nvB_len, List.length_append, List.length_cons, List.length_nil]; omega) | (refine sl_eq ?_; dsimp only; rw [nvA_eq (k := ((ps2[1]?.getD (0:Int)).tmod (IntKind.i64.wrap ((1:Int) + (ps2[0]?.getD (0:Int)).tmod 4)))) (m := k) (by rw [hN]; assumption)]) | (refine sl_eq ?_; dsimp only; rw [nvA_ne (k := ((ps2[1]?.getD (0:Int)).tmod (IntKind.i64.wrap ((1:Int) + (ps2[0]?.getD (0:Int)).tmod 4)))) (m := k) (by rw [hN]; assumption)]) | (refine sl_eq ?_; dsimp only; simp only [nvB, List.append_nil]), by first | exact trivial | simp [SV.ok]⟩, ?_⟩)
        · exact trivial
        · exact .refl _
        · try dsimp only
          rw [nvA_eq (k := ((ps2[1]?.getD (0:Int)).tmod (IntKind.i64.wrap ((1:Int) + (ps2[0]?.getD (0:Int)).tmod 4)))) (m := k) (by rw [hN]; assumption)]; exact ⟨by omega, by assumption⟩
        · try dsimp only
          omega
    ·
      simp at q8
      simp (disch := omega) only [wrap_of] at q8
      obtain rfl : k = (IntKind.i64.wrap ((1:Int) + (ps2[0]?.getD (0:Int)).tmod 4)).toNat := by omega
      apply loop_mod (α := (Nat) × (Option Addr) × (Nat) × (Hp)) G_ok [41, 42, 45, 46, 47, 48, 49, 50, 51, 52, 53, 54, 55, 56, 6, 43, 44, 8] (fun z => [(8, .v (.int .i64 z.1)), (6, .v (.slice z.2.1 (nvA ((ps2[1]?.getD (0:Int)).tmod (IntKind.i64.wrap ((1:Int) + (ps2[0]?.getD (0:Int)).tmod 4))) (IntKind.i64.wrap ((1:Int) + (ps2[0]?.getD (0:Int)).tmod 4)).toNat ++ nvB ((ps2[1]?.getD (0:Int)).tmod (IntKind.i64.wrap ((1:Int) + (ps2[0]?.getD (0:Int)).tmod 4))) z.1).length z.2.2.1))]) (fun z => []) (fun z => [z.2.2.2, A2, H]) (fun z => 12 - z.1) (fun z => z.1 ≤ 12 ∧ (gSl 43 gTurn).ow [.slice z.2.1 (nvA ((ps2[1]?.getD (0:Int)).tmod (IntKind.i64.wrap ((1:Int) + (ps2[0]?.getD (0:Int)).tmod 4))) (IntKind.i64.wrap ((1:Int) + (ps2[0]?.getD (0:Int)).tmod 4)).toNat ++ nvB ((ps2[1]?.getD (0:Int)).tmod (IntKind.i64.wrap ((1:Int) + (ps2[0]?.getD (0:Int)).tmod 4))) z.1).length z.2.2.1] (nvA ((ps2[1]?.getD (0:Int)).tmod (IntKind.i64.wrap ((1:Int) + (ps2[0]?.getD (0:Int)).tmod 4))) (IntKind.i64.wrap ((1:Int) + (ps2[0]?.getD (0:Int)).tmod 4)).toNat ++ nvB ((ps2[1]?.getD (0:Int)).tmod (IntKind.i64.wrap ((1:Int) + (ps2[0]?.getD (0:Int)).tmod 4))) z.1) z.2.2.2) ((0, _, _, T))
      · repeat' (first | exact trivial | refine ⟨⟨_, rfl, by first | rfl | exact inc_eq _ (by omega) | (refine sl_eq ?_; simp; done) | (refine sl_eq ?_; dsimp only; simp only [nvB_len, List.length_append, List.length_cons, List.length_nil]; omega) | (refine sl_eq ?_; dsimp only; rw [nvA_eq (k := ((ps2[1]?.getD (0:Int)).tmod (IntKind.i64.wrap ((1:Int) + (ps2[0]?.getD (0:Int)).tmod 4)))) (m := k) (by rw [hN]; assumption)]) | (refine sl_eq ?_; dsimp only; rw [nvA_ne (k := ((ps2[1]?.getD (0:Int)).tmod (IntKind.i64.wrap ((1:Int) + (ps2[0]?.getD (0:Int)).tmod 4)))) (m := k) (by rw [hN]; assumption)]) | (refine sl_eq ?_; dsimp only; simp only [nvB, List.append_nil]), by first | exact trivial | simp [SV.ok]⟩, ?_⟩)
      · exact trivial
      · try dsimp only
        exact ⟨by omega, by simp only [nvB, List.append_nil]; exact oT⟩
      · exact .refl _
      rintro ⟨j, ub, uc, U⟩ hI
      obtain ⟨hj, oU⟩ : j ≤ 12 ∧ (gSl 43 gTurn).ow [.slice ub (nvA ((ps2[1]?.getD (0:Int)).tmod (IntKind.i64.wrap ((1:Int) + (ps2[0]?.getD (0:Int)).tmod 4))) (IntKind.i64.wrap ((1:Int) + (ps2[0]?.getD (0:Int)).tmod 4)).toNat ++ nvB ((ps2[1]?.getD (0:Int)).tmod (IntKind.i64.wrap ((1:Int) + (ps2[0]?.getD (0:Int)).tmod 4))) j).length uc] (nvA ((ps2[1]?.getD (0:Int)).tmod (IntKind.i64.wrap ((1:Int) + (ps2[0]?.getD (0:Int)).tmod 4))) (IntKind.i64.wrap ((1:Int) + (ps2[0]?.getD (0:Int)).tmod 4)).toNat ++ nvB ((ps2[1]?.getD (0:Int)).tmod (IntKind.i64.wrap ((1:Int) + (ps2[0]?.getD (0:Int)).tmod 4))) j) U := hI
      try dsimp only
      refine VCsplit.intro (fun q12 => ?_) (fun q12 => ?_)
      ·
        simp at q12
        refine VCnew.intro fun x13 => ?_
        refine gappendF (f := flTurn) (T := (43 : TypeId)) G_ok U [A2, H] [⟨((1 : Int)), ((ps2[(1 : Nat)]?.getD (0 : Int)).tmod (IntKind.i64.wrap ((1 : Int) + (ps2[(0 : Nat)]?.getD (0 : Int)).tmod (4 : Int)))), ((ps2[(1 : Nat)]?.getD (0 : Int)).tmod (IntKind.i64.wrap ((1 : Int) + (ps2[(0 : Nat)]?.getD (0 : Int)).tmod (4 : Int))))⟩, ⟨((3 : Int)), ((ps2[(1 : Nat)]?.getD (0 : Int)).tmod (IntKind.i64.wrap ((1 : Int) + (ps2[(0 : Nat)]?.getD (0 : Int)).tmod (4 : Int)))), ((0 : Int))⟩, ⟨((4 : Int)), ((0 : Int)), ((0 : Int))⟩, ⟨((4 : Int)), ((0 : Int)), ((0 : Int))⟩, ⟨((2 : Int)), ((0 : Int)), ((0 : Int))⟩, ⟨((4 : Int)), ((0 : Int)), ((0 : Int))⟩] ?_ oU (List.mem_of_getElem? (i := 0) rfl) rfl ?_ rfl rfl rfl rfl rfl rfl rfl rfl ?_ fun b14 c14 A14 o14 => ?_
        · exact .tl
        · exact nv_wf (by unfold okI; omega)
        · (simp only [List.length_append, nvB_len, List.length_cons, List.length_nil]; omega)
        apply loop_step (j + 1, _, _, _)
        · repeat' (first | exact trivial | refine ⟨⟨_, rfl, by first | rfl | exact inc_eq _ (by omega) | (refine sl_eq ?_; simp; done) | (refine sl_eq ?_; dsimp only; simp only [nvB_len, List.length_append, List.length_cons, List.length_nil]; omega) | (refine sl_eq ?_; dsimp only; rw [nvA_eq (k := ((ps2[1]?.getD (0:Int)).tmod (IntKind.i64.wrap ((1:Int) + (ps2[0]?.getD (0:Int)).tmod 4)))) (m := k) (by rw [hN]; assumption)]) | (refine sl_eq ?_; dsimp only; rw [nvA_ne (k := ((ps2[1]?.getD (0:Int)).tmod (IntKind.i64.wrap ((1:Int) + (ps2[0]?.getD (0:Int)).tmod 4)))) (m := k) (by rw [hN]; assumption)]) | (refine sl_eq ?_; dsimp only; simp only [nvB, List.append_nil]), by first | exact trivial | simp [SV.ok]⟩, ?_⟩)
        · exact trivial
        · exact .refl _
        · try dsimp only
          exact ⟨by omega, by simp only [nvB, ← List.append_assoc]; assumption⟩
        · try dsimp only
          omega
      ·
        simp at q12
        obtain rfl : j = 12 := by omega
        obtain ⟨z1, z2, z3, z4⟩ := never (IntKind.i64.wrap ((1:Int) + (ps2[0]?.getD (0:Int)).tmod 4)) ((ps2[1]?.getD (0:Int)).tmod (IntKind.i64.wrap ((1:Int) + (ps2[0]?.getD (0:Int)).tmod 4))) (by omega) (by omega) (by omega) (by omega)
        refine call_newP (implRunRing_ct _ _ _ _ (nvA
    ((ps2[(1 : Nat)]?.getD (0 : Int)).tmod
      (IntKind.i64.wrap ((1 : Int) + (ps2[(0 : Nat)]?.getD (0 : Int)).tmod (4 : Int))))
    (IntKind.i64.wrap ((1 : Int) + (ps2[(0 : Nat)]?.getD (0 : Int)).tmod (4 : Int))).toNat ++
  nvB
    ((ps2[(1 : Nat)]?.getD (0 : Int)).tmod
      (IntKind.i64.wrap ((1 : Int) + (ps2[(0 : Nat)]?.getD (0 : Int)).tmod (4 : Int))))
    (12 : Nat))) (Rp.mono _ (mem_at 0 rfl) (Gt.owrd _ oU)) ?_
        rintro v15 A15 o15
        obtain ⟨rv15, cb15, cc15, Aa15, Ab15, rfl, hp15, or15, oc15⟩ := o15
        refine ⟨[Aa15, Ab15], by simpa using hp15, ?_⟩
        replace oc15 := fl_ow oc15
        obtain ⟨d115, d215, d315, d415, g115, g215, g315, g415, B115, B215, B315, B415, rfl, -⟩ := id or15
        refine VCnew.intro fun x16 => ?_
        refine call_new (implCalmRing_ct _ ((runRing (IntKind.i64.wrap ((1 : Int) + (ps2[(0 : Nat)]?.getD (0 : Int)).tmod (4 : Int)))
    (nvA
        ((ps2[(1 : Nat)]?.getD (0 : Int)).tmod
          (IntKind.i64.wrap ((1 : Int) + (ps2[(0 : Nat)]?.getD (0 : Int)).tmod (4 : Int))))
        (IntKind.i64.wrap ((1 : Int) + (ps2[(0 : Nat)]?.getD (0 : Int)).tmod (4 : Int))).toNat ++
      nvB
        ((ps2[(1 : Nat)]?.getD (0 : Int)).tmod
          (IntKind.i64.wrap ((1 : Int) + (ps2[(0 : Nat)]?.getD (0 : Int)).tmod (4 : Int))))
        (12 : Nat))).fst) ?_) (rdV_mono (mem_at 0 rfl) (OwR.rd or15)) ?_
        · exact runRing_cells _ _
        rintro v17 A17 o17
        obtain ⟨d117, d217, d317, d417, g117, g217, g317, g417, B117, B217, B317, B417, rfl, -⟩ := id o17
        refine VCnew.intro fun x18 => ?_
        refine VCsplit.intro (fun q19 => ?_) (fun q19 => ?_)
        ·
          simp (disch := omega) only [wrap_of] at q19
          refine VCsplit.intro (fun q20 => ?_) (fun q20 => ?_)
          ·
            simp at q20
            simp (disch := omega) only [wrap_of] at q20
            refine VCsplit.intro (fun q21 => ?_) (fun q21 => ?_)
            ·
              simp (disch := omega) only [wrap_of] at q21
              refine call_val (implRingSum_ct _ ((runRing (IntKind.i64.wrap ((1 : Int) + (ps2[(0 : Nat)]?.getD (0 : Int)).tmod (4 : Int)))
    (nvA
        ((ps2[(1 : Nat)]?.getD (0 : Int)).tmod
          (IntKind.i64.wrap ((1 : Int) + (ps2[(0 : Nat)]?.getD (0 : Int)).tmod (4 : Int))))
        (IntKind.i64.wrap ((1 : Int) + (ps2[(0 : Nat)]?.getD (0 : Int)).tmod (4 : Int))).toNat ++
      nvB
        ((ps2[(1 : Nat)]?.getD (0 : Int)).tmod
          (IntKind.i64.wrap ((1 : Int) + (ps2[(0 : Nat)]?.getD (0 : Int)).tmod (4 : Int))))
        (12 : Nat))).fst)) (rdV_mono (mem_at 1 rfl) (OwR.rd or15)) ?_
              rintro _ rfl
              exact ⟨[], ⟨by simp_all, rfl⟩, (.le fun a => by (try simp only [setR, List.cons_append, List.nil_append]); simp only [List.flatten_append, List.flatten_cons, List.flatten_nil, List.count_append, List.count_nil, List.append_nil, List.nil_append]; omega)⟩
            ·
              simp (disch := omega) only [wrap_of] at q21
              exact ⟨[], ⟨by simp_all, rfl⟩, (.le fun a => by (try simp only [setR, List.cons_append, List.nil_append]); simp only [List.flatten_append, List.flatten_cons, List.flatten_nil, List.count_append, List.count_nil, List.append_nil, List.nil_append]; omega)⟩
          ·
            simp at q20
            simp (disch := omega) only [wrap_of] at q20
            exact ⟨[], ⟨by simp_all, rfl⟩, (.le fun a => by (try simp only [setR, List.cons_append, List.nil_append]); simp only [List.flatten_append, List.flatten_cons, List.flatten_nil, List.count_append, List.count_nil, List.append_nil, List.nil_append]; omega)⟩
        ·
          simp (disch := omega) only [wrap_of] at q19
          exact ⟨[], ⟨by simp_all, rfl⟩, (.le fun a => by (try simp only [setR, List.cons_append, List.nil_append]); simp only [List.flatten_append, List.flatten_cons, List.flatten_nil, List.count_append, List.count_nil, List.append_nil, List.nil_append]; omega)⟩

end Go.Proofs.Ythihffgmmkhlhaa
