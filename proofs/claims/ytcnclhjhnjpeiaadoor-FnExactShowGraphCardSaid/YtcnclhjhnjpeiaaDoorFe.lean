/-
  Graphs shown: the law walked. Conditions: none.
-/
import Derived.Test.YtcnclhjhnjpeiaaDoorFc
import Derived.Test.YtcnclhjhnjpeiaaDoorGd
namespace Go.Proofs.YtcnclhjhnjpeiaaDoor
open Go.SX Go.Proofs
set_option linter.unusedSimpArgs false
set_option linter.unusedVariables false
set_option maxHeartbeats 8000000

theorem fnExactShowGraph_ct (v0 : Value) :
    Ct Tryd.prog 3 [v0] [] (fun H => (∃ x, rdV true gGraph.toRp H v0 x)) (fun v A => v = .bool true ∧ A = []) := by
  refine Ct.intro0 G_ok Tryd.func3 rfl rfl rfl fun E H hp => ?_
  obtain ⟨xa0, hp0⟩ := hp
  obtain ⟨la0, rfl, hp0⟩ := hp0
  obtain ⟨b1a0, c1a0, rfl, w0a0, h1a0⟩ := gGraph_rd.1 hp0
  refine VCnew.intro fun x0 => ?_
  refine call_q (szGraph_ct _ (xa0) _ ?_ ?_) (Rp.mono _ (mem_at 0 rfl) hp0) ?_
  · trivial
  · trivial
  rintro _ ⟨r1, rfl, hr1⟩
  refine VCsplit.intro (fun q2 => ?_) (fun q2 => ?_)
  ·
    simp at q2
    exact ⟨[], ⟨rfl, rfl⟩, (.le fun a => by (try simp only [setR, List.cons_append, List.nil_append]); simp only [List.flatten_append, List.flatten_cons, List.flatten_nil, List.count_append, List.count_nil, List.append_nil, List.nil_append]; omega)⟩
  ·
    simp at q2
    refine call_new (toGraph_ct _ (xa0) ?_) (Rp.mono _ (mem_at 0 rfl) hp0) ?_
    · omega
    rintro v3 A3 o3
    obtain ⟨l3, rfl, o3⟩ := o3
    have r3 := Gt.owrd _ o3
    obtain ⟨b1x3, c1x3, rfl, w0x3, h1x3⟩ := gGraph_rd.1 r3
    refine call_val (specShowGraph_ct _ (xa0)) (Rp.mono _ (mem_at 0 rfl) r3) ?_
    rintro _ rfl
    refine call_new (toGraph_ct _ (xa0) ?_) (Rp.mono _ (mem_at 1 rfl) hp0) ?_
    · omega
    rintro v5 A5 o5
    obtain ⟨l5, rfl, o5⟩ := o5
    have r5 := Gt.owrd _ o5
    obtain ⟨b1x5, c1x5, rfl, w0x5, h1x5⟩ := gGraph_rd.1 r5
    refine VCnew.intro fun x6 => ?_
    refine call_val (implShowGraph_ct _ (xa0)) (Rp.mono _ (mem_at 0 rfl) r5) ?_
    rintro _ rfl
    refine VCsplit.intro (fun q8 => ?_) (fun q8 => ?_)
    ·
      simp at q8
    ·
      simp at q8
      refine draw G_ok mixed none (.q 0 (.q 1 (.f 2 (.f 3 (.q 4 (.nil)))))) (by decide +kernel) ?_
      refine call_new (toGraph_ct _ (xa0) ?_) (Rp.mono _ (mem_at 2 rfl) hp0) ?_
      · omega
      rintro v9 A9 o9
      obtain ⟨l9, rfl, o9⟩ := o9
      have r9 := Gt.owrd _ o9
      obtain ⟨b1x9, c1x9, rfl, w0x9, h1x9⟩ := gGraph_rd.1 r9
      refine VC.intro ?_ ?_
      · exact keep_new
      refine call_val (eqGraph_ct _ _ (xa0) (xa0)) ⟨(Rp.mono _ (mem_at 1 rfl) r5), (Rp.mono _ (mem_at 0 rfl) r9)⟩ ?_
      rintro _ rfl
      refine VC.intro ?_ ?_
      · exact keep_new
      refine VCsplit.intro (fun q11 => ?_) (fun q11 => ?_)
      ·
        simp at q11
      ·
        simp at q11
        exact ⟨[], ⟨rfl, rfl⟩, (.le fun a => by (try simp only [setR, List.cons_append, List.nil_append]); simp only [List.flatten_append, List.flatten_cons, List.flatten_nil, List.count_append, List.count_nil, List.append_nil, List.nil_append]; omega)⟩

end Go.Proofs.YtcnclhjhnjpeiaaDoor
