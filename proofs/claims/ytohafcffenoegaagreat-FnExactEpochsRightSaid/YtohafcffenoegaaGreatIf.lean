/-
  The two answers about epochs are the same. Conditions: none.
-/
import Derived.Test.YtohafcffenoegaaGreatIe
namespace Go.Proofs.YtohafcffenoegaaGreat
open Go.SX Go.Proofs
set_option linter.unusedSimpArgs false
set_option linter.unusedVariables false
set_option maxHeartbeats 8000000

theorem fnExactEpochsRight_ct (v0 : Value) :
    Ct Tryz.prog 3 [v0] [] (fun H => (∃ x, rdV true gCluster.toRp H v0 x)) (fun v A => v = .bool true ∧ A = []) := by
  refine Ct.intro0 G_ok Tryz.func3 rfl rfl rfl fun E H hp => ?_
  obtain ⟨xa0, hp0⟩ := hp
  obtain ⟨la0, rfl, hp0⟩ := hp0
  obtain ⟨l0a0, b1a0, c1a0, b2a0, c2a0, b3a0, c3a0, b4a0, c4a0, rfl, h0a0, h1a0, h2a0, h3a0, h4a0⟩ := gCluster_rd.1 hp0
  obtain ⟨b1_0a0, c1_0a0, b2_0a0, c2_0a0, b3_0a0, c3_0a0, rfl, h1_0a0, h2_0a0, h3_0a0⟩ := gQuery_rd.1 h0a0
  refine VCnew.intro fun x0 => ?_
  refine call_q (szCluster_ct _ (xa0) _ ?_ ?_) (Rp.mono _ (mem_at 0 rfl) hp0) ?_
  · trivial
  · trivial
  rintro _ ⟨r1, rfl, hr1⟩
  refine VCsplit.intro (fun q2 => ?_) (fun q2 => ?_)
  ·
    simp at q2
    exact ⟨[], ⟨rfl, rfl⟩, (.le fun a => by (try simp only [setR, List.cons_append, List.nil_append]); simp only [List.flatten_append, List.flatten_cons, List.flatten_nil, List.count_append, List.count_nil, List.append_nil, List.nil_append]; omega)⟩
  ·
    simp at q2
    refine call_new (toCluster_ct _ (xa0) ?_) (Rp.mono _ (mem_at 0 rfl) hp0) ?_
    · omega
    rintro v3 A3 o3
    obtain ⟨l3, rfl, o3⟩ := o3
    have r3 := Gt.owrd _ o3
    obtain ⟨l0x3, b1x3, c1x3, b2x3, c2x3, b3x3, c3x3, b4x3, c4x3, rfl, h0x3, h1x3, h2x3, h3x3, h4x3⟩ := gCluster_rd.1 r3
    obtain ⟨b1_0x3, c1_0x3, b2_0x3, c2_0x3, b3_0x3, c3_0x3, rfl, h1_0x3, h2_0x3, h3_0x3⟩ := gQuery_rd.1 h0x3
    refine call_val (specEpochsRight_ct _ (xa0)) (Rp.mono _ (mem_at 0 rfl) r3) ?_
    rintro _ rfl
    refine call_new (toCluster_ct _ (xa0) ?_) (Rp.mono _ (mem_at 1 rfl) hp0) ?_
    · omega
    rintro v5 A5 o5
    obtain ⟨l5, rfl, o5⟩ := o5
    have r5 := Gt.owrd _ o5
    obtain ⟨l0x5, b1x5, c1x5, b2x5, c2x5, b3x5, c3x5, b4x5, c4x5, rfl, h0x5, h1x5, h2x5, h3x5, h4x5⟩ := gCluster_rd.1 r5
    obtain ⟨b1_0x5, c1_0x5, b2_0x5, c2_0x5, b3_0x5, c3_0x5, rfl, h1_0x5, h2_0x5, h3_0x5⟩ := gQuery_rd.1 h0x5
    refine VCnew.intro fun x6 => ?_
    refine call_val (implEpochsRight_ct _ (xa0)) (Rp.mono _ (mem_at 0 rfl) r5) ?_
    rintro _ rfl
    refine VCsplit.intro (fun q8 => ?_) (fun q8 => ?_)
    ·
      simp at q8
    ·
      simp at q8
      refine draw G_ok mixed none (.q 0 (.q 1 (.f 2 (.f 3 (.q 4 (.nil)))))) (by decide +kernel) ?_
      refine call_new (toCluster_ct _ (xa0) ?_) (Rp.mono _ (mem_at 2 rfl) hp0) ?_
      · omega
      rintro v9 A9 o9
      obtain ⟨l9, rfl, o9⟩ := o9
      have r9 := Gt.owrd _ o9
      obtain ⟨l0x9, b1x9, c1x9, b2x9, c2x9, b3x9, c3x9, b4x9, c4x9, rfl, h0x9, h1x9, h2x9, h3x9, h4x9⟩ := gCluster_rd.1 r9
      obtain ⟨b1_0x9, c1_0x9, b2_0x9, c2_0x9, b3_0x9, c3_0x9, rfl, h1_0x9, h2_0x9, h3_0x9⟩ := gQuery_rd.1 h0x9
      refine VC.intro ?_ ?_
      · exact keep_new
      refine call_val (eqCluster_ct _ _ (xa0) (xa0)) ⟨(Rp.mono _ (mem_at 1 rfl) r5), (Rp.mono _ (mem_at 0 rfl) r9)⟩ ?_
      rintro _ rfl
      refine VC.intro ?_ ?_
      · exact keep_new
      refine VCsplit.intro (fun q11 => ?_) (fun q11 => ?_)
      ·
        simp at q11
      ·
        simp at q11
        exact ⟨[], ⟨rfl, rfl⟩, (.le fun a => by (try simp only [setR, List.cons_append, List.nil_append]); simp only [List.flatten_append, List.flatten_cons, List.flatten_nil, List.count_append, List.count_nil, List.append_nil, List.nil_append]; omega)⟩

end Go.Proofs.YtohafcffenoegaaGreat
