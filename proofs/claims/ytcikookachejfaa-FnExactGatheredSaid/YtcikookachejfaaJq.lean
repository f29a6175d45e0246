/-
  The two graphs of the disks are the same. Conditions: none.
-/
import Derived.Test.YtcikookachejfaaJp
import Derived.Test.YtcikookachejfaaGd
namespace Go.Proofs.Ytcikookachejfaa
open Go.SX Go.Proofs
set_option linter.unusedSimpArgs false
set_option linter.unusedVariables false
set_option maxHeartbeats 8000000

theorem graph_cnt (x : Graph) (h : gGraph.sz x ≤ 1048576) : (gGraph.cntV x : Int) ≤ 1100000000 := by
  have h1 := gGraph.cntV_le x
  have h2 : gGraph.w ≤ 1000 := by decide
  have := Nat.mul_le_mul h2 (show 1 + gGraph.sz x ≤ 1048577 by omega)
  omega
theorem fnExactGathered_ct (v0 : Value) :
    Ct Try.prog 6 [v0] [] (fun H => (∃ x, rdV false (gSl 128 gDisk).toRp H v0 x)) (fun v A => v = .bool true ∧ A = []) := by
  refine Ct.intro0 G_ok Try.func6 rfl rfl rfl fun E H hp => ?_
  obtain ⟨xa0, hp0⟩ := hp
  obtain ⟨ba0, ca0, ea0, hs0⟩ := sl_rd hp0; cases ea0; clear hp0
  refine call_q (szDiskS_ct _ _ _ (xa0) _ ?_ ?_) (Rp.mono _ (mem_at 0 rfl) hs0) ?_
  · trivial
  · trivial
  rintro _ ⟨r0, rfl, hr0⟩
  refine VCsplit.intro (fun q1 => ?_) (fun q1 => ?_)
  ·
    simp at q1
    exact ⟨[], ⟨rfl, rfl⟩, (.le fun a => by (try simp only [setR, List.cons_append, List.nil_append]); simp only [List.flatten_append, List.flatten_cons, List.flatten_nil, List.count_append, List.count_nil, List.append_nil, List.nil_append]; omega)⟩
  ·
    simp at q1
    refine call_new (toDiskS_ct _ _ _ (xa0) ?_) (Rp.mono _ (mem_at 0 rfl) hs0) ?_
    · omega
    rintro v2 A2 o2
    obtain ⟨b2, c2, rfl, o2⟩ := o2
    refine call_new (specGathered_ct _ _ _ (xa0) ?_) (Rp.mono _ (mem_at 0 rfl) (Gt.owrd _ o2)) ?_
    · (have := len_szL gDisk xa0; omega)
    rintro v3 A3 o3
    obtain ⟨b3, c3, rfl, o3⟩ := o3
    have p3 := graph_ow (ga_okI _) o3
    have r3 := Gt.owrd _ p3
    refine VCnew.intro fun x4 => ?_
    refine call_new (toDiskS_ct _ _ _ (xa0) ?_) (Rp.mono _ (mem_at 2 rfl) hs0) ?_
    · omega
    rintro v5 A5 o5
    obtain ⟨b5, c5, rfl, o5⟩ := o5
    refine call_new (implGathered_ct _ _ _ (xa0) ?_) (Rp.mono _ (mem_at 0 rfl) (Gt.owrd _ o5)) ?_
    · (have := len_szL gDisk xa0; omega)
    rintro v6 A6 o6
    obtain ⟨b6, c6, rfl, o6⟩ := o6
    have p6 := graph_ow (ga_okI _) o6
    have r6 := Gt.owrd _ p6
    refine VCnew.intro fun x7 => ?_
    refine call_val (eqGraph_ct _ _ (gaR xa0) (gaR xa0)) ⟨(Rp.mono _ (mem_at 0 rfl) r6), (Rp.mono _ (mem_at 2 rfl) r3)⟩ ?_
    rintro _ rfl
    refine VCsplit.intro (fun q9 => ?_) (fun q9 => ?_)
    ·
      simp at q9
    ·
      simp at q9
      refine VCsplit.intro (fun q10 => ?_) (fun q10 => ?_)
      ·
        simp at q10
      ·
        simp at q10
        refine call_new (toDiskS_ct _ _ _ (xa0) ?_) (Rp.mono _ (mem_at 4 rfl) hs0) ?_
        · omega
        rintro v11 A11 o11
        obtain ⟨b11, c11, rfl, o11⟩ := o11
        refine call_val (eqDiskS_ct _ _ _ _ _ _ (xa0) (xa0)) ⟨(Rp.mono _ (mem_at 2 rfl) (Gt.owrd _ o5)), (Rp.mono _ (mem_at 0 rfl) (Gt.owrd _ o11))⟩ ?_
        rintro _ rfl
        refine VCsplit.intro (fun q13 => ?_) (fun q13 => ?_)
        ·
          simp at q13
        ·
          simp at q13
          refine callR_at 2 rfl (markDiskS_ct _ _ _ _ _ _ o5 ?_ ?_) trivial ?_
          · trivial
          · (have h1 := cntL_le gDisk xa0; have h2 : gDisk.w ≤ 1000 := (by decide); have := Nat.mul_le_mul h2 (show szL gDisk xa0 ≤ 1048576 by omega); omega)
          rintro _ A14 ⟨rfl, o14⟩
          refine VCsplit.intro (fun q15 => ?_) (fun q15 => ?_)
          ·
            simp at q15
            exfalso; omega
          ·
            simp at q15
            refine call_val (eqGraph_ct _ _ (gaR xa0) (gaR xa0)) ⟨(Rp.mono _ (mem_at 1 rfl) r6), (Rp.mono _ (mem_at 3 rfl) r3)⟩ ?_
            rintro _ rfl
            refine VCsplit.intro (fun q17 => ?_) (fun q17 => ?_)
            ·
              simp at q17
            ·
              simp at q17
              refine VCsplit.intro (fun q18 => ?_) (fun q18 => ?_)
              ·
                simp at q18
              ·
                simp at q18
                refine callR_at 1 rfl (markGraph_ct _ _ _ _ p6 ?_ ?_) trivial ?_
                · trivial
                · (have := graph_cnt (gaR xa0) (by have := gR_sz (ga_rng xa0).2.2; omega); omega)
                rintro _ A19 ⟨rfl, o19⟩
                refine call_val (heldGraph_ct _ _ _ _ ?_ ?_ ?_) (Rp.mono _ (mem_at 1 rfl) (Gt.owrd _ o19)) ?_
                · rfl
                · trivial
                · (have := graph_cnt (gaR xa0) (by have := gR_sz (ga_rng xa0).2.2; omega); omega)
                rintro _ rfl
                refine VCsplit.intro (fun q21 => ?_) (fun q21 => ?_)
                ·
                  simp at q21
                  exfalso; omega
                ·
                  simp at q21
                  refine VCsplit.intro (fun q22 => ?_) (fun q22 => ?_)
                  ·
                    simp at q22
                  ·
                    simp at q22
                    refine call_new (toDiskS_ct _ _ _ (xa0) ?_) (Rp.mono _ (mem_at 5 rfl) hs0) ?_
                    · omega
                    rintro v23 A23 o23
                    obtain ⟨b23, c23, rfl, o23⟩ := o23
                    refine call_new (implGathered_ct _ _ _ (xa0) ?_) (Rp.mono _ (mem_at 0 rfl) (Gt.owrd _ o23)) ?_
                    · (have := len_szL gDisk xa0; omega)
                    rintro v24 A24 o24
                    obtain ⟨b24, c24, rfl, o24⟩ := o24
                    have p24 := graph_ow (ga_okI _) o24
                    have r24 := Gt.owrd _ p24
                    refine VCnew.intro fun x25 => ?_
                    refine call_val (eqGraph_ct _ _ (gaR xa0) (gaR xa0)) ⟨(Rp.mono _ (mem_at 0 rfl) r24), (Rp.mono _ (mem_at 5 rfl) r3)⟩ ?_
                    rintro _ rfl
                    refine VCsplit.intro (fun q27 => ?_) (fun q27 => ?_)
                    ·
                      simp at q27
                    ·
                      simp at q27
                      refine VCsplit.intro (fun q28 => ?_) (fun q28 => ?_)
                      ·
                        simp at q28
                      ·
                        simp at q28
                        refine call_val (heldGraph_ct _ _ _ _ ?_ ?_ ?_) (Rp.mono _ (mem_at 3 rfl) (Gt.owrd _ o19)) ?_
                        · rfl
                        · trivial
                        · (have := graph_cnt (gaR xa0) (by have := gR_sz (ga_rng xa0).2.2; omega); omega)
                        rintro _ rfl
                        refine VCsplit.intro (fun q30 => ?_) (fun q30 => ?_)
                        ·
                          simp at q30
                          exfalso; omega
                        ·
                          simp at q30
                          refine VCsplit.intro (fun q31 => ?_) (fun q31 => ?_)
                          ·
                            simp at q31
                          ·
                            simp at q31
                            exact ⟨[], ⟨rfl, rfl⟩, (.le fun a => by (try simp only [setR, List.cons_append, List.nil_append]); simp only [List.flatten_append, List.flatten_cons, List.flatten_nil, List.count_append, List.count_nil, List.append_nil, List.nil_append]; omega)⟩

end Go.Proofs.Ytcikookachejfaa
