/-
  The two lists of disks are the same. Conditions: none.
-/
import Derived.Test.YtliheokappjdoaaJd
import Derived.Test.YtliheokappjdoaaGd
namespace Go.Proofs.Ytliheokappjdoaa
open Go.SX Go.Proofs
set_option linter.unusedSimpArgs false
set_option linter.unusedVariables false
set_option maxHeartbeats 8000000

theorem graph_cnt (x : Graph) (h : gGraph.sz x ≤ 1048576) : (gGraph.cntV x : Int) ≤ 1100000000 := by
  have h1 := gGraph.cntV_le x
  have h2 : gGraph.w ≤ 1000 := by decide
  have := Nat.mul_le_mul h2 (show 1 + gGraph.sz x ≤ 1048577 by omega)
  omega
theorem disksK_cnt (g : Graph) (n : Int) : ∀ k, cntL gDisk (disksK g n k) = 3 * k
  | 0 => rfl
  | k + 1 => by
    rw [disksK, cntL_append, disksK_cnt g n k]
    show 3 * k + (gDisk.cnt (freshDisk (partOf g k n)) + 0) = 3 * (k + 1)
    have : gDisk.cnt (freshDisk (partOf g k n)) = 3 := rfl
    omega
theorem disksOf_cnt (g : Graph) (n : Int) : (cntL gDisk (disksOf g n) : Int) ≤ 24 := by
  unfold disksOf
  split
  · rename_i h
    have := disksIf_iff.1 h
    rw [disksK_cnt]; omega
  · exact Int.natCast_nonneg 24
attribute [local irreducible] disksOf disksIf
theorem fnExactDisksOf_ct (v0 v1 : Value) :
    Ct Try.prog 5 [v0, v1] [] (fun H => (∃ x, rdV true gGraph.toRp H v0 x) ∧ (∃ x, rdV false gI.toRp H v1 x)) (fun v A => v = .bool true ∧ A = []) := by
  refine Ct.intro0 G_ok Try.func5 rfl rfl rfl fun E H hp => ?_
  obtain ⟨⟨xa0, hp0⟩, ⟨xa1, hp1⟩⟩ := hp
  obtain ⟨la0, rfl, hp0⟩ := hp0
  obtain ⟨b1a0, c1a0, rfl, w0a0, h1a0⟩ := gGraph_rd.1 hp0
  obtain ⟨ea1, wa1⟩ := hp1; cases ea1
  refine VCnew.intro fun x0 => ?_
  refine call_q (szGraph_ct _ (xa0) _ ?_ ?_) (Rp.mono _ (mem_at 0 rfl) hp0) ?_
  · trivial
  · trivial
  rintro _ ⟨r1, rfl, hr1⟩
  refine VCsplit.intro (fun q2 => ?_) (fun q2 => ?_)
  ·
    simp at q2
    exact ⟨[], ⟨rfl, rfl⟩, (.le fun a => by (try simp only [setR, List.cons_append, List.nil_append]); simp only [List.flatten_append, List.flatten_cons, List.flatten_nil, List.count_append, List.count_nil, List.append_nil, List.nil_append]; omega)⟩
  ·
    simp at q2
    refine call_new (toGraph_ct _ (xa0) ?_) (Rp.mono _ (mem_at 0 rfl) hp0) ?_
    · omega
    rintro v3 A3 o3
    obtain ⟨l3, rfl, o3⟩ := o3
    have r3 := Gt.owrd _ o3
    obtain ⟨b1x3, c1x3, rfl, w0x3, h1x3⟩ := gGraph_rd.1 r3
    refine call_new (specDisksOf_ct _ (xa0) _ ?_) (Rp.mono _ (mem_at 0 rfl) r3) ?_
    · trivial
    rintro v4 A4 o4
    obtain ⟨b4, c4, rfl, o4⟩ := o4
    refine call_new (toGraph_ct _ (xa0) ?_) (Rp.mono _ (mem_at 2 rfl) hp0) ?_
    · omega
    rintro v5 A5 o5
    obtain ⟨l5, rfl, o5⟩ := o5
    have r5 := Gt.owrd _ o5
    obtain ⟨b1x5, c1x5, rfl, w0x5, h1x5⟩ := gGraph_rd.1 r5
    refine VCnew.intro fun x6 => ?_
    refine call_new (implDisksOf_ct _ (xa0) _ ?_) (Rp.mono _ (mem_at 0 rfl) r5) ?_
    · trivial
    rintro v7 A7 o7
    obtain ⟨b7, c7, rfl, o7⟩ := o7
    refine call_val (eqDiskS_ct _ _ _ _ _ _ (disksOf xa0 xa1) (disksOf xa0 xa1)) ⟨(Rp.mono _ (mem_at 0 rfl) (Gt.owrd _ o7)), (Rp.mono _ (mem_at 2 rfl) (Gt.owrd _ o4))⟩ ?_
    rintro _ rfl
    refine VCsplit.intro (fun q9 => ?_) (fun q9 => ?_)
    ·
      simp at q9
    ·
      simp at q9
      refine VCsplit.intro (fun q10 => ?_) (fun q10 => ?_)
      ·
        simp at q10
      ·
        simp at q10
        refine draw G_ok mixed none (.q 0 (.q 1 (.f 2 (.f 3 (.q 4 (.nil)))))) (by decide +kernel) ?_
        refine call_new (toGraph_ct _ (xa0) ?_) (Rp.mono _ (mem_at 4 rfl) hp0) ?_
        · omega
        rintro v11 A11 o11
        obtain ⟨l11, rfl, o11⟩ := o11
        have r11 := Gt.owrd _ o11
        obtain ⟨b1x11, c1x11, rfl, w0x11, h1x11⟩ := gGraph_rd.1 r11
        refine VC.intro ?_ ?_
        · exact keep_new
        refine call_val (eqGraph_ct _ _ (xa0) (xa0)) ⟨(Rp.mono _ (mem_at 2 rfl) r5), (Rp.mono _ (mem_at 0 rfl) r11)⟩ ?_
        rintro _ rfl
        refine VC.intro ?_ ?_
        · exact keep_new
        refine VCsplit.intro (fun q13 => ?_) (fun q13 => ?_)
        ·
          simp at q13
        ·
          simp at q13
          refine callR_at 2 rfl (markGraph_ct _ _ _ _ o5 ?_ ?_) trivial ?_
          · trivial
          · (have := graph_cnt xa0 (by omega); omega)
          rintro _ A14 ⟨rfl, o14⟩
          refine VCsplit.intro (fun q15 => ?_) (fun q15 => ?_)
          ·
            simp at q15
            exfalso; omega
          ·
            simp at q15
            refine call_val (eqDiskS_ct _ _ _ _ _ _ (disksOf xa0 xa1) (disksOf xa0 xa1)) ⟨(Rp.mono _ (mem_at 1 rfl) (Gt.owrd _ o7)), (Rp.mono _ (mem_at 3 rfl) (Gt.owrd _ o4))⟩ ?_
            rintro _ rfl
            refine VCsplit.intro (fun q17 => ?_) (fun q17 => ?_)
            ·
              simp at q17
            ·
              simp at q17
              refine VCsplit.intro (fun q18 => ?_) (fun q18 => ?_)
              ·
                simp at q18
              ·
                simp at q18
                refine callR_at 1 rfl (markDiskS_ct _ _ _ _ _ _ o7 ?_ ?_) trivial ?_
                · trivial
                · (have := disksOf_cnt xa0 xa1; omega)
                rintro _ A19 ⟨rfl, o19⟩
                refine call_val (heldDiskS_ct _ _ _ _ _ _ ?_ ?_ ?_) (Rp.mono _ (mem_at 1 rfl) (Gt.owrd _ o19)) ?_
                · rfl
                · trivial
                · (have := disksOf_cnt xa0 xa1; omega)
                rintro _ rfl
                refine VCsplit.intro (fun q21 => ?_) (fun q21 => ?_)
                ·
                  simp at q21
                  exfalso; omega
                ·
                  simp at q21
                  refine VCsplit.intro (fun q22 => ?_) (fun q22 => ?_)
                  ·
                    simp at q22
                  ·
                    simp at q22
                    refine call_new (toGraph_ct _ (xa0) ?_) (Rp.mono _ (mem_at 5 rfl) hp0) ?_
                    · omega
                    rintro v23 A23 o23
                    obtain ⟨l23, rfl, o23⟩ := o23
                    have r23 := Gt.owrd _ o23
                    obtain ⟨b1x23, c1x23, rfl, w0x23, h1x23⟩ := gGraph_rd.1 r23
                    refine call_new (implDisksOf_ct _ (xa0) _ ?_) (Rp.mono _ (mem_at 0 rfl) r23) ?_
                    · trivial
                    rintro v24 A24 o24
                    obtain ⟨b24, c24, rfl, o24⟩ := o24
                    refine call_val (eqDiskS_ct _ _ _ _ _ _ (disksOf xa0 xa1) (disksOf xa0 xa1)) ⟨(Rp.mono _ (mem_at 0 rfl) (Gt.owrd _ o24)), (Rp.mono _ (mem_at 5 rfl) (Gt.owrd _ o4))⟩ ?_
                    rintro _ rfl
                    refine VCsplit.intro (fun q26 => ?_) (fun q26 => ?_)
                    ·
                      simp at q26
                    ·
                      simp at q26
                      refine VCsplit.intro (fun q27 => ?_) (fun q27 => ?_)
                      ·
                        simp at q27
                      ·
                        simp at q27
                        refine call_val (heldDiskS_ct _ _ _ _ _ _ ?_ ?_ ?_) (Rp.mono _ (mem_at 3 rfl) (Gt.owrd _ o19)) ?_
                        · rfl
                        · trivial
                        · (have := disksOf_cnt xa0 xa1; omega)
                        rintro _ rfl
                        refine VCsplit.intro (fun q29 => ?_) (fun q29 => ?_)
                        ·
                          simp at q29
                          exfalso; omega
                        ·
                          simp at q29
                          refine VCsplit.intro (fun q30 => ?_) (fun q30 => ?_)
                          ·
                            simp at q30
                          ·
                            simp at q30
                            exact ⟨[], ⟨rfl, rfl⟩, (.le fun a => by (try simp only [setR, List.cons_append, List.nil_append]); simp only [List.flatten_append, List.flatten_cons, List.flatten_nil, List.count_append, List.count_nil, List.append_nil, List.nil_append]; omega)⟩

end Go.Proofs.Ytliheokappjdoaa
