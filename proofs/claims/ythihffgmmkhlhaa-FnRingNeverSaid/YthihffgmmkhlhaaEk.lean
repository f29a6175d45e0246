/-
  The law of RunRing, walked. Conditions: none.
-/
import Derived.Test.YthihffgmmkhlhaaEj
namespace Go.Proofs.Ythihffgmmkhlhaa
open Go.SX Go.Proofs
set_option linter.unusedSimpArgs false
set_option linter.unusedVariables false
set_option maxHeartbeats 4000000

theorem runRing_cells (n : Int) (ts : List Turn) : (runRing n ts).1.cells ≤ 1048576 := by
  unfold runRing
  split
  · rename_i h
    simp only [runOk, Bool.and_eq_true] at h
    have := inR_le h.1
    exact runN_cells _ (ringNew_cells _ (by omega)) _
  · unfold Ring.cells ring0; simp
theorem runRing_len (n : Int) (ts : List Turn) : (runRing n ts).2.length ≤ 120 := by
  unfold runRing
  split
  · rename_i h
    simp only [runOk, Bool.and_eq_true, decide_eq_true_eq] at h
    rw [runN_len]; exact h.2
  · simp

theorem fnExactRunRing_ct (v0 v1 : Value) :
    Ct Try.prog 11 [v0, v1] [] (fun H => (∃ n, rdV false rpInt H v0 n) ∧ ∃ ts, rdV false (rpSl flTurn.rp) H v1 ts) (fun v A => v = .bool true ∧ A = []) := by
  refine Ct.intro0 G_ok Try.func11 rfl rfl rfl fun E H hp => ?_
  obtain ⟨⟨n, hn⟩, ts, hp⟩ := hp
  obtain ⟨e, hn⟩ := hn
  cases e
  obtain ⟨b, c, e, hl1, hl2⟩ := id hp
  cases e
  have hp : (rpSl flTurn.rp).rd H [.slice b ts.length c] ts := hp
  have hc := runRing_cells n ts
  have hm := runRing_len n ts
  refine call_val (szTurnS_ct _ _ _ _ ?_ ?_ ?_) trivial ?_
  · trivial
  · trivial
  · omega
  rintro _ rfl
  refine VCsplit.intro (fun q1 => ?_) (fun q1 => ?_)
  ·
    simp at q1
    exact ⟨[], ⟨rfl, rfl⟩, (.le fun a => by (try simp only [setR, List.cons_append, List.nil_append]); simp only [List.flatten_append, List.flatten_cons, List.flatten_nil, List.count_append, List.count_nil, List.append_nil, List.nil_append]; omega)⟩
  ·
    simp at q1
    refine call_new (toTurnS_ct _ _ _ (ts) ?_) (Rp.mono _ (mem_at 0 rfl) hp) ?_
    · omega
    rintro v2 A2 o2
    obtain ⟨_, _, tb2, tc2, rfl, -⟩ := id o2
    refine call_newP (specRunRing_ct _ _ _ _ (ts)) (Rp.mono _ (mem_at 0 rfl) (Ow.rd o2)) ?_
    rintro v3 A3 o3
    obtain ⟨rv3, cb3, cc3, Aa3, Ab3, rfl, hp3, or3, oc3⟩ := o3
    refine ⟨[Aa3, Ab3], by simpa using hp3, ?_⟩
    replace oc3 := fl_ow oc3
    obtain ⟨d13, d23, d33, d43, g13, g23, g33, g43, B13, B23, B33, B43, rfl, -⟩ := id or3
    refine VCnew.intro fun x4 => ?_
    refine call_new (toTurnS_ct _ _ _ (ts) ?_) (Rp.mono _ (mem_at 3 rfl) hp) ?_
    · omega
    rintro v5 A5 o5
    obtain ⟨_, _, tb5, tc5, rfl, -⟩ := id o5
    refine call_newP (implRunRing_ct _ _ _ _ (ts)) (Rp.mono _ (mem_at 0 rfl) (Ow.rd o5)) ?_
    rintro v6 A6 o6
    obtain ⟨rv6, cb6, cc6, Aa6, Ab6, rfl, hp6, or6, oc6⟩ := o6
    refine ⟨[Aa6, Ab6], by simpa using hp6, ?_⟩
    replace oc6 := fl_ow oc6
    obtain ⟨d16, d26, d36, d46, g16, g26, g36, g46, B16, B26, B36, B46, rfl, -⟩ := id or6
    refine VCnew.intro fun x7 => ?_
    refine call_val (eqRing_ct _ _ ((runRing n ts).fst) ((runRing n ts).fst)) ⟨(rdV_mono (mem_at 0 rfl) (OwR.rd or6)), (rdV_mono (mem_at 3 rfl) (OwR.rd or3))⟩ ?_
    rintro _ rfl
    refine VCsplit.intro (fun q9 => ?_) (fun q9 => ?_)
    ·
      simp at q9
    ·
      simp at q9
      refine call_val (eqIntS_ct _ _ _ _ _ _ ((runRing n ts).snd) ((runRing n ts).snd)) ⟨(Rp.mono _ (mem_at 1 rfl) (Ow.rd oc6)), (Rp.mono _ (mem_at 4 rfl) (Ow.rd oc3))⟩ ?_
      rintro _ rfl
      refine VCsplit.intro (fun q11 => ?_) (fun q11 => ?_)
      ·
        simp at q11
      ·
        simp at q11
        refine VCsplit.intro (fun q12 => ?_) (fun q12 => ?_)
        ·
          simp at q12
        ·
          simp at q12
          refine call_new (toTurnS_ct _ _ _ (ts) ?_) (Rp.mono _ (mem_at 6 rfl) hp) ?_
          · omega
          rintro v13 A13 o13
          obtain ⟨_, _, tb13, tc13, rfl, -⟩ := id o13
          refine call_val (eqTurnS_ct _ _ _ _ _ _ (ts) (ts)) ⟨(Rp.mono _ (mem_at 3 rfl) (Ow.rd o5)), (Rp.mono _ (mem_at 0 rfl) (Ow.rd o13))⟩ ?_
          rintro _ rfl
          refine VCsplit.intro (fun q15 => ?_) (fun q15 => ?_)
          ·
            simp at q15
          ·
            simp at q15
            refine call_at 3 rfl (markTurnS_ct _ _ _ _ _ _ o5 ?_ ?_ ?_) (fun _ _ _ => trivial) ?_
            · trivial
            · trivial
            · omega
            rintro _ A16 ⟨rfl, ys16, hy16, o16⟩
            refine VCsplit.intro (fun q17 => ?_) (fun q17 => ?_)
            ·
              simp at q17
              exfalso; omega
            ·
              simp at q17
              refine call_val (eqRing_ct _ _ ((runRing n ts).fst) ((runRing n ts).fst)) ⟨(rdV_mono (mem_at 1 rfl) (OwR.rd or6)), (rdV_mono (mem_at 4 rfl) (OwR.rd or3))⟩ ?_
              rintro _ rfl
              refine VCsplit.intro (fun q19 => ?_) (fun q19 => ?_)
              ·
                simp at q19
              ·
                simp at q19
                refine call_val (eqIntS_ct _ _ _ _ _ _ ((runRing n ts).snd) ((runRing n ts).snd)) ⟨(Rp.mono _ (mem_at 2 rfl) (Ow.rd oc6)), (Rp.mono _ (mem_at 5 rfl) (Ow.rd oc3))⟩ ?_
                rintro _ rfl
                refine VCsplit.intro (fun q21 => ?_) (fun q21 => ?_)
                ·
                  simp at q21
                ·
                  simp at q21
                  refine VCsplit.intro (fun q22 => ?_) (fun q22 => ?_)
                  ·
                    simp at q22
                  ·
                    simp at q22
                    refine call_at 1 rfl (markRing_ct _ _ _ _ or6 ?_ ?_ ?_) (fun _ _ _ => trivial) ?_
                    · trivial
                    · trivial
                    · omega
                    rintro _ A23 ⟨rfl, o23⟩
                    refine call_at 2 rfl (markIntS_ct _ _ _ _ _ _ oc6 ?_ ?_ ?_) (fun _ _ _ => trivial) ?_
                    · omega
                    · omega
                    · omega
                    rintro _ A24 ⟨rfl, o24⟩
                    refine call_val (heldRing_ct _ (runRing n ts).1 _ ?_ ?_ ?_) (rdV_mono (mem_at 1 rfl) (OwR.rd o23)) ?_
                    · trivial
                    · trivial
                    · omega
                    rintro _ rfl
                    refine VCsplit.intro (fun q26 => ?_) (fun q26 => ?_)
                    ·
                      simp at q26
                      exfalso; omega
                    ·
                      simp at q26
                      refine call_val (heldIntS_ct _ _ _ _ ?_ ?_ ?_) (Rp.mono _ (mem_at 2 rfl) (Ow.rd o24)) ?_
                      · trivial
                      · omega
                      · omega
                      rintro _ rfl
                      refine VCsplit.intro (fun q28 => ?_) (fun q28 => ?_)
                      ·
                        simp at q28
                        exfalso; omega
                      ·
                        simp at q28
                        refine VCsplit.intro (fun q29 => ?_) (fun q29 => ?_)
                        ·
                          simp at q29
                        ·
                          simp at q29
                          refine call_new (toTurnS_ct _ _ _ (ts) ?_) (Rp.mono _ (mem_at 7 rfl) hp) ?_
                          · omega
                          rintro v30 A30 o30
                          obtain ⟨_, _, tb30, tc30, rfl, -⟩ := id o30
                          refine call_newP (implRunRing_ct _ _ _ _ (ts)) (Rp.mono _ (mem_at 0 rfl) (Ow.rd o30)) ?_
                          rintro v31 A31 o31
                          obtain ⟨rv31, cb31, cc31, Aa31, Ab31, rfl, hp31, or31, oc31⟩ := o31
                          refine ⟨[Aa31, Ab31], by simpa using hp31, ?_⟩
                          replace oc31 := fl_ow oc31
                          obtain ⟨d131, d231, d331, d431, g131, g231, g331, g431, B131, B231, B331, B431, rfl, -⟩ := id or31
                          refine VCnew.intro fun x32 => ?_
                          refine call_val (eqRing_ct _ _ ((runRing n ts).fst) ((runRing n ts).fst)) ⟨(rdV_mono (mem_at 0 rfl) (OwR.rd or31)), (rdV_mono (mem_at 7 rfl) (OwR.rd or3))⟩ ?_
                          rintro _ rfl
                          refine VCsplit.intro (fun q34 => ?_) (fun q34 => ?_)
                          ·
                            simp at q34
                          ·
                            simp at q34
                            refine call_val (eqIntS_ct _ _ _ _ _ _ ((runRing n ts).snd) ((runRing n ts).snd)) ⟨(Rp.mono _ (mem_at 1 rfl) (Ow.rd oc31)), (Rp.mono _ (mem_at 8 rfl) (Ow.rd oc3))⟩ ?_
                            rintro _ rfl
                            refine VCsplit.intro (fun q36 => ?_) (fun q36 => ?_)
                            ·
                              simp at q36
                            ·
                              simp at q36
                              refine VCsplit.intro (fun q37 => ?_) (fun q37 => ?_)
                              ·
                                simp at q37
                              ·
                                simp at q37
                                refine call_val (heldRing_ct _ (runRing n ts).1 _ ?_ ?_ ?_) (rdV_mono (mem_at 4 rfl) (OwR.rd o23)) ?_
                                · trivial
                                · trivial
                                · omega
                                rintro _ rfl
                                refine VCsplit.intro (fun q39 => ?_) (fun q39 => ?_)
                                ·
                                  simp at q39
                                  exfalso; omega
                                ·
                                  simp at q39
                                  refine call_val (heldIntS_ct _ _ _ _ ?_ ?_ ?_) (Rp.mono _ (mem_at 5 rfl) (Ow.rd o24)) ?_
                                  · trivial
                                  · omega
                                  · omega
                                  rintro _ rfl
                                  refine VCsplit.intro (fun q41 => ?_) (fun q41 => ?_)
                                  ·
                                    simp at q41
                                    exfalso; omega
                                  ·
                                    simp at q41
                                    refine VCsplit.intro (fun q42 => ?_) (fun q42 => ?_)
                                    ·
                                      simp at q42
                                    ·
                                      simp at q42
                                      exact ⟨[], ⟨rfl, rfl⟩, (.le fun a => by (try simp only [setR, List.cons_append, List.nil_append]); simp only [List.flatten_append, List.flatten_cons, List.flatten_nil, List.count_append, List.count_nil, List.append_nil, List.nil_append]; omega)⟩

end Go.Proofs.Ythihffgmmkhlhaa
