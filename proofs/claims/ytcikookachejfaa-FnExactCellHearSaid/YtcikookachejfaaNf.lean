/-
  The two cells that heard are the same. Conditions: none.
-/
import Derived.Test.YtcikookachejfaaNe
import Derived.Test.YtcikookachejfaaGd
namespace Go.Proofs.Ytcikookachejfaa
open Go.SX Go.Proofs
set_option linter.unusedSimpArgs false
set_option linter.unusedVariables false
set_option maxHeartbeats 8000000

theorem szL_filter {α : Type} (g : Gt α) (p : α → Bool) : ∀ xs : List α, szL g (xs.filter p) ≤ szL g xs
  | [] => Nat.le_refl _
  | x :: r => by
    have ih := szL_filter g p r
    cases h : p x with
    | true => rw [List.filter_cons_of_pos (by simpa using h)]; simp only [szL]; omega
    | false => rw [List.filter_cons_of_neg (by simp [h])]; simp only [szL]; omega
theorem hear_sz (c : Cell) (f a : Int) (b : Bag) : gCell.sz (cellHear c f a b) ≤ 2 * gCell.sz c + gBag.sz b + 10 := by
  unfold cellHear
  split
  · unfold betw
    split
    · show gCell.sz c ≤ _
      omega
    · have h1 := szL_filter gGot (lessG ⟨f, a, b⟩) c.gots
      have h2 := szL_filter gGot (moreG ⟨f, a, b⟩) c.gots
      have h3 : szL gGot [(⟨f, a, b⟩ : Got)] = 1 + gGot.sz ⟨f, a, b⟩ + 0 := rfl
      have h4 : gGot.sz ⟨f, a, b⟩ = gBag.sz b := by rw [gGot_sz]; simp
      rw [gCell_sz, gCell_sz]
      simp only [szL_append, h3, h4]
      omega
  · omega
theorem cell_cnt (x : Cell) (h : gCell.sz x ≤ 4000000) : (gCell.cntV x : Int) ≤ 4100000000 := by
  have h1 := gCell.cntV_le x
  have h2 : gCell.w ≤ 1000 := by decide
  have := Nat.mul_le_mul h2 (show 1 + gCell.sz x ≤ 4000001 by omega)
  omega
theorem bag_cnt (x : Bag) (h : gBag.sz x ≤ 1048576) : (gBag.cntV x : Int) ≤ 4100000000 := by
  have h1 := gBag.cntV_le x
  have h2 : gBag.w ≤ 1000 := by decide
  have := Nat.mul_le_mul h2 (show 1 + gBag.sz x ≤ 1048577 by omega)
  omega
theorem fnExactCellHear_ct (v0 v1 v2 v3 : Value) :
    Ct Try.prog 7 [v0, v1, v2, v3] [] (fun H => (∃ x, rdV true gCell.toRp H v0 x) ∧ (∃ x, rdV false gI.toRp H v1 x) ∧ (∃ x, rdV false gI.toRp H v2 x) ∧ (∃ x, rdV true gBag.toRp H v3 x)) (fun v A => v = .bool true ∧ A = []) := by
  refine Ct.intro0 G_ok Try.func7 rfl rfl rfl fun E H hp => ?_
  obtain ⟨⟨xa0, hp0⟩, ⟨xa1, hp1⟩, ⟨xa2, hp2⟩, ⟨xa3, hp3⟩⟩ := hp
  obtain ⟨la0, rfl, hp0⟩ := hp0
  obtain ⟨l0a0, b1a0, c1a0, b4a0, c4a0, rfl, h0a0, h1a0, w2a0, w3a0, h4a0⟩ := gCell_rd.1 hp0
  obtain ⟨b1_0a0, c1_0a0, b2_0a0, c2_0a0, b3_0a0, c3_0a0, rfl, h1_0a0, h2_0a0, h3_0a0⟩ := gQuery_rd.1 h0a0
  obtain ⟨ea1, wa1⟩ := hp1; cases ea1
  obtain ⟨ea2, wa2⟩ := hp2; cases ea2
  obtain ⟨la3, rfl, hp3⟩ := hp3
  obtain ⟨b0a3, c0a3, rfl, h0a3⟩ := gBag_rd.1 hp3
  refine VCnew.intro fun x0 => ?_
  refine VCnew.intro fun x1 => ?_
  refine call_q (szCell_ct _ (xa0) _ ?_ ?_) (Rp.mono _ (mem_at 0 rfl) hp0) ?_
  · trivial
  · trivial
  rintro _ ⟨r2, rfl, hr2⟩
  refine VCsplit.intro (fun q3 => ?_) (fun q3 => ?_)
  ·
    simp at q3
    exact ⟨[], ⟨rfl, rfl⟩, (.le fun a => by (try simp only [setR, List.cons_append, List.nil_append]); simp only [List.flatten_append, List.flatten_cons, List.flatten_nil, List.count_append, List.count_nil, List.append_nil, List.nil_append]; omega)⟩
  ·
    simp at q3
    refine call_q (szBag_ct _ (xa3) _ ?_ ?_) (Rp.mono _ (mem_at 0 rfl) hp3) ?_
    · trivial
    · omega
    rintro _ ⟨r4, rfl, hr4⟩
    refine VCsplit.intro (fun q5 => ?_) (fun q5 => ?_)
    ·
      simp at q5
      exact ⟨[], ⟨rfl, rfl⟩, (.le fun a => by (try simp only [setR, List.cons_append, List.nil_append]); simp only [List.flatten_append, List.flatten_cons, List.flatten_nil, List.count_append, List.count_nil, List.append_nil, List.nil_append]; omega)⟩
    ·
      simp at q5
      refine draw G_ok mixed (some 8) (.q 0 (.q 2 (.q 3 (.q 4 (.hd (.alt 1 (.hd (.alt 5 (.hd (.alt 6 (.f 7 (.tl 8 (.nil))) (.alt 7 (.f 6 (.tl 8 (.nil))) (.nil)))) (.alt 7 (.f 5 (.f 6 (.tl 8 (.nil)))) (.nil)))) (.alt 7 (.f 1 (.f 5 (.f 6 (.tl 8 (.nil))))) (.nil)))))))) (by decide +kernel) ?_
      refine VC.intro ?_ ?_
      ·
        refine call_new (toCell_ct _ (xa0) ?_) (Rp.mono _ (mem_at 0 rfl) hp0) ?_
        · omega
        rintro v6 A6 o6
        obtain ⟨l6, rfl, o6⟩ := o6
        have r6 := Gt.owrd _ o6
        obtain ⟨l0x6, b1x6, c1x6, b4x6, c4x6, rfl, h0x6, h1x6, w2x6, w3x6, h4x6⟩ := gCell_rd.1 r6
        obtain ⟨b1_0x6, c1_0x6, b2_0x6, c2_0x6, b3_0x6, c3_0x6, rfl, h1_0x6, h2_0x6, h3_0x6⟩ := gQuery_rd.1 h0x6
        refine VC.intro ?_ ?_
        · exact keep_new
        refine VC.intro ?_ ?_
        ·
          refine call_new (toBag_ct _ (xa3) ?_) (Rp.mono _ (mem_at 1 rfl) hp3) ?_
          · omega
          rintro v7 A7 o7
          obtain ⟨l7, rfl, o7⟩ := o7
          have r7 := Gt.owrd _ o7
          obtain ⟨b0x7, c0x7, rfl, h0x7⟩ := gBag_rd.1 r7
          refine VC.intro ?_ ?_
          · exact keep_sub (by simp) (by simp)
          refine VC.intro ?_ ?_
          ·
            refine call_new (specCellHear_ct _ (xa0) _ _ _ (xa3) ?_ ?_ ?_ ?_) ⟨(Rp.mono _ (mem_at 1 rfl) r6), (Rp.mono _ (mem_at 0 rfl) r7)⟩ ?_
            · omega
            · omega
            · trivial
            · trivial
            rintro v8 A8 o8
            obtain ⟨l8, rfl, o8⟩ := o8
            have r8 := Gt.owrd _ o8
            obtain ⟨l0x8, b1x8, c1x8, b4x8, c4x8, rfl, h0x8, h1x8, w2x8, w3x8, h4x8⟩ := gCell_rd.1 r8
            obtain ⟨b1_0x8, c1_0x8, b2_0x8, c2_0x8, b3_0x8, c3_0x8, rfl, h1_0x8, h2_0x8, h3_0x8⟩ := gQuery_rd.1 h0x8
            refine VC.intro ?_ ?_
            · exact keep_sub (by simp) (by simp)
            refine VCnew.intro fun x9 => ?_
            refine VC.intro ?_ ?_
            · exact keep_sub (by simp) (by simp)
            refine call_new (toCell_ct _ (xa0) ?_) (Rp.mono _ (mem_at 3 rfl) hp0) ?_
            · omega
            rintro v10 A10 o10
            obtain ⟨l10, rfl, o10⟩ := o10
            have r10 := Gt.owrd _ o10
            obtain ⟨l0x10, b1x10, c1x10, b4x10, c4x10, rfl, h0x10, h1x10, w2x10, w3x10, h4x10⟩ := gCell_rd.1 r10
            obtain ⟨b1_0x10, c1_0x10, b2_0x10, c2_0x10, b3_0x10, c3_0x10, rfl, h1_0x10, h2_0x10, h3_0x10⟩ := gQuery_rd.1 h0x10
            refine VCnew.intro fun x11 => ?_
            refine call_new (toBag_ct _ (xa3) ?_) (Rp.mono _ (mem_at 4 rfl) hp3) ?_
            · omega
            rintro v12 A12 o12
            obtain ⟨l12, rfl, o12⟩ := o12
            have r12 := Gt.owrd _ o12
            obtain ⟨b0x12, c0x12, rfl, h0x12⟩ := gBag_rd.1 r12
            refine VCnew.intro fun x13 => ?_
            refine call_new (implCellHear_ct _ (xa0) _ _ _ (xa3) ?_ ?_ ?_ ?_) ⟨(Rp.mono _ (mem_at 1 rfl) r10), (Rp.mono _ (mem_at 0 rfl) r12)⟩ ?_
            · omega
            · omega
            · trivial
            · trivial
            rintro v14 A14 o14
            obtain ⟨l14, rfl, o14⟩ := o14
            have r14 := Gt.owrd _ o14
            obtain ⟨l0x14, b1x14, c1x14, b4x14, c4x14, rfl, h0x14, h1x14, w2x14, w3x14, h4x14⟩ := gCell_rd.1 r14
            obtain ⟨b1_0x14, c1_0x14, b2_0x14, c2_0x14, b3_0x14, c3_0x14, rfl, h1_0x14, h2_0x14, h3_0x14⟩ := gQuery_rd.1 h0x14
            refine VCnew.intro fun x15 => ?_
            refine call_val (eqCell_ct _ _ (cellHear xa0 xa1 xa2 xa3) (cellHear xa0 xa1 xa2 xa3)) ⟨(Rp.mono _ (mem_at 0 rfl) r14), (Rp.mono _ (mem_at 3 rfl) r8)⟩ ?_
            rintro _ rfl
            refine VCsplit.intro (fun q17 => ?_) (fun q17 => ?_)
            ·
              simp at q17
            ·
              simp at q17
              refine draw G_ok mixed none (.q 0 (.q 1 (.f 2 (.f 3 (.q 4 (.nil)))))) (by decide +kernel) ?_
              refine call_new (toCell_ct _ (xa0) ?_) (Rp.mono _ (mem_at 6 rfl) hp0) ?_
              · omega
              rintro v18 A18 o18
              obtain ⟨l18, rfl, o18⟩ := o18
              have r18 := Gt.owrd _ o18
              obtain ⟨l0x18, b1x18, c1x18, b4x18, c4x18, rfl, h0x18, h1x18, w2x18, w3x18, h4x18⟩ := gCell_rd.1 r18
              obtain ⟨b1_0x18, c1_0x18, b2_0x18, c2_0x18, b3_0x18, c3_0x18, rfl, h1_0x18, h2_0x18, h3_0x18⟩ := gQuery_rd.1 h0x18
              refine VC.intro ?_ ?_
              · exact keep_new
              refine call_val (eqCell_ct _ _ (xa0) (xa0)) ⟨(Rp.mono _ (mem_at 3 rfl) r10), (Rp.mono _ (mem_at 0 rfl) r18)⟩ ?_
              rintro _ rfl
              refine VC.intro ?_ ?_
              · exact keep_new
              refine VCsplit.intro (fun q20 => ?_) (fun q20 => ?_)
              ·
                simp at q20
              ·
                simp at q20
                refine draw G_ok mixed none (.q 0 (.q 1 (.f 2 (.f 3 (.q 4 (.nil)))))) (by decide +kernel) ?_
                refine call_new (toBag_ct _ (xa3) ?_) (Rp.mono _ (mem_at 7 rfl) hp3) ?_
                · omega
                rintro v21 A21 o21
                obtain ⟨l21, rfl, o21⟩ := o21
                have r21 := Gt.owrd _ o21
                obtain ⟨b0x21, c0x21, rfl, h0x21⟩ := gBag_rd.1 r21
                refine VC.intro ?_ ?_
                · exact keep_new
                refine call_val (eqBag_ct _ _ (xa3) (xa3)) ⟨(Rp.mono _ (mem_at 3 rfl) r12), (Rp.mono _ (mem_at 0 rfl) r21)⟩ ?_
                rintro _ rfl
                refine VC.intro ?_ ?_
                · exact keep_new
                refine VCsplit.intro (fun q23 => ?_) (fun q23 => ?_)
                ·
                  simp at q23
                ·
                  simp at q23
                  refine callR_at 4 rfl (markCell_ct _ _ _ _ o10 ?_ ?_) trivial ?_
                  · trivial
                  · (have h1 := cell_cnt xa0 (by omega); omega)
                  rintro _ A24 ⟨rfl, o24⟩
                  refine callR_at 3 rfl (markBag_ct _ _ _ _ o12 ?_ ?_) trivial ?_
                  · omega
                  · (have h1 := cell_cnt xa0 (by omega); have h2 := bag_cnt xa3 (by omega); omega)
                  rintro _ A25 ⟨rfl, o25⟩
                  refine VCsplit.intro (fun q26 => ?_) (fun q26 => ?_)
                  ·
                    simp at q26
                    exfalso; omega
                  ·
                    simp at q26
                    refine call_val (eqCell_ct _ _ (cellHear xa0 xa1 xa2 xa3) (cellHear xa0 xa1 xa2 xa3)) ⟨(Rp.mono _ (mem_at 2 rfl) r14), (Rp.mono _ (mem_at 5 rfl) r8)⟩ ?_
                    rintro _ rfl
                    refine VCsplit.intro (fun q28 => ?_) (fun q28 => ?_)
                    ·
                      simp at q28
                    ·
                      simp at q28
                      refine callR_at 2 rfl (markCell_ct _ _ _ _ o14 ?_ ?_) trivial ?_
                      · trivial
                      · (have h0 := hear_sz xa0 xa1 xa2 xa3; have h1 := cell_cnt (cellHear xa0 xa1 xa2 xa3) (by omega); omega)
                      rintro _ A29 ⟨rfl, o29⟩
                      refine call_val (heldCell_ct _ _ _ _ ?_ ?_ ?_) (Rp.mono _ (mem_at 2 rfl) (Gt.owrd _ o29)) ?_
                      · rfl
                      · trivial
                      · (have h0 := hear_sz xa0 xa1 xa2 xa3; have h1 := cell_cnt (cellHear xa0 xa1 xa2 xa3) (by omega); omega)
                      rintro _ rfl
                      refine VCsplit.intro (fun q31 => ?_) (fun q31 => ?_)
                      ·
                        simp at q31
                        exfalso; omega
                      ·
                        simp at q31
                        refine VCsplit.intro (fun q32 => ?_) (fun q32 => ?_)
                        ·
                          simp at q32
                        ·
                          simp at q32
                          refine draw G_ok mixed (some 8) (.q 0 (.q 2 (.q 3 (.q 4 (.hd (.alt 1 (.hd (.alt 5 (.hd (.alt 6 (.f 7 (.tl 8 (.nil))) (.alt 7 (.f 6 (.tl 8 (.nil))) (.nil)))) (.alt 7 (.f 5 (.f 6 (.tl 8 (.nil)))) (.nil)))) (.alt 7 (.f 1 (.f 5 (.f 6 (.tl 8 (.nil))))) (.nil)))))))) (by decide +kernel) ?_
                          refine VC.intro ?_ ?_
                          ·
                            refine call_new (toCell_ct _ (xa0) ?_) (Rp.mono _ (mem_at 8 rfl) hp0) ?_
                            · omega
                            rintro v33 A33 o33
                            obtain ⟨l33, rfl, o33⟩ := o33
                            have r33 := Gt.owrd _ o33
                            obtain ⟨l0x33, b1x33, c1x33, b4x33, c4x33, rfl, h0x33, h1x33, w2x33, w3x33, h4x33⟩ := gCell_rd.1 r33
                            obtain ⟨b1_0x33, c1_0x33, b2_0x33, c2_0x33, b3_0x33, c3_0x33, rfl, h1_0x33, h2_0x33, h3_0x33⟩ := gQuery_rd.1 h0x33
                            refine VC.intro ?_ ?_
                            · exact keep_new
                            refine VC.intro ?_ ?_
                            ·
                              refine call_new (toBag_ct _ (xa3) ?_) (Rp.mono _ (mem_at 9 rfl) hp3) ?_
                              · omega
                              rintro v34 A34 o34
                              obtain ⟨l34, rfl, o34⟩ := o34
                              have r34 := Gt.owrd _ o34
                              obtain ⟨b0x34, c0x34, rfl, h0x34⟩ := gBag_rd.1 r34
                              refine VC.intro ?_ ?_
                              · exact keep_sub (by simp) (by simp [setR])
                              refine VC.intro ?_ ?_
                              ·
                                refine call_new (implCellHear_ct _ (xa0) _ _ _ (xa3) ?_ ?_ ?_ ?_) ⟨(Rp.mono _ (mem_at 1 rfl) r33), (Rp.mono _ (mem_at 0 rfl) r34)⟩ ?_
                                · omega
                                · omega
                                · trivial
                                · trivial
                                rintro v35 A35 o35
                                obtain ⟨l35, rfl, o35⟩ := o35
                                have r35 := Gt.owrd _ o35
                                obtain ⟨l0x35, b1x35, c1x35, b4x35, c4x35, rfl, h0x35, h1x35, w2x35, w3x35, h4x35⟩ := gCell_rd.1 r35
                                obtain ⟨b1_0x35, c1_0x35, b2_0x35, c2_0x35, b3_0x35, c3_0x35, rfl, h1_0x35, h2_0x35, h3_0x35⟩ := gQuery_rd.1 h0x35
                                refine VC.intro ?_ ?_
                                · exact keep_sub (by simp) (by simp [setR])
                                refine VCnew.intro fun x36 => ?_
                                refine VC.intro ?_ ?_
                                · exact keep_sub (by simp) (by simp [setR])
                                refine call_val (eqCell_ct _ _ (cellHear xa0 xa1 xa2 xa3) (cellHear xa0 xa1 xa2 xa3)) ⟨(Rp.mono _ (mem_at 0 rfl) r35), (Rp.mono _ (mem_at 8 rfl) r8)⟩ ?_
                                rintro _ rfl
                                refine VCsplit.intro (fun q38 => ?_) (fun q38 => ?_)
                                ·
                                  simp at q38
                                ·
                                  simp at q38
                                  refine call_val (heldCell_ct _ _ _ _ ?_ ?_ ?_) (Rp.mono _ (mem_at 5 rfl) (Gt.owrd _ o29)) ?_
                                  · rfl
                                  · trivial
                                  · (have h0 := hear_sz xa0 xa1 xa2 xa3; have h1 := cell_cnt (cellHear xa0 xa1 xa2 xa3) (by omega); omega)
                                  rintro _ rfl
                                  refine VCsplit.intro (fun q40 => ?_) (fun q40 => ?_)
                                  ·
                                    simp at q40
                                    exfalso; omega
                                  ·
                                    simp at q40
                                    refine VCsplit.intro (fun q41 => ?_) (fun q41 => ?_)
                                    ·
                                      simp at q41
                                    ·
                                      simp at q41
                                      exact ⟨[], ⟨rfl, rfl⟩, (.le fun a => by (try simp only [setR, List.cons_append, List.nil_append]); simp only [List.flatten_append, List.flatten_cons, List.flatten_nil, List.count_append, List.count_nil, List.append_nil, List.nil_append]; omega)⟩
                              ·
                                refine VC.intro ?_ ?_
                                ·
                                  refine VCnew.intro fun x42 => ?_
                                  refine VC.intro ?_ ?_
                                  · exact keep_sub (by simp) (by simp [setR])
                                  refine call_new (implCellHear_ct _ (xa0) _ _ _ (xa3) ?_ ?_ ?_ ?_) ⟨(Rp.mono _ (mem_at 1 rfl) r33), (Rp.mono _ (mem_at 0 rfl) r34)⟩ ?_
                                  · omega
                                  · omega
                                  · trivial
                                  · trivial
                                  rintro v43 A43 o43
                                  obtain ⟨l43, rfl, o43⟩ := o43
                                  have r43 := Gt.owrd _ o43
                                  obtain ⟨l0x43, b1x43, c1x43, b4x43, c4x43, rfl, h0x43, h1x43, w2x43, w3x43, h4x43⟩ := gCell_rd.1 r43
                                  obtain ⟨b1_0x43, c1_0x43, b2_0x43, c2_0x43, b3_0x43, c3_0x43, rfl, h1_0x43, h2_0x43, h3_0x43⟩ := gQuery_rd.1 h0x43
                                  refine VC.intro ?_ ?_
                                  · exact keep_sub (by simp) (by simp [setR])
                                  refine call_val (eqCell_ct _ _ (cellHear xa0 xa1 xa2 xa3) (cellHear xa0 xa1 xa2 xa3)) ⟨(Rp.mono _ (mem_at 0 rfl) r43), (Rp.mono _ (mem_at 8 rfl) r8)⟩ ?_
                                  rintro _ rfl
                                  refine VCsplit.intro (fun q45 => ?_) (fun q45 => ?_)
                                  ·
                                    simp at q45
                                  ·
                                    simp at q45
                                    refine call_val (heldCell_ct _ _ _ _ ?_ ?_ ?_) (Rp.mono _ (mem_at 5 rfl) (Gt.owrd _ o29)) ?_
                                    · rfl
                                    · trivial
                                    · (have h0 := hear_sz xa0 xa1 xa2 xa3; have h1 := cell_cnt (cellHear xa0 xa1 xa2 xa3) (by omega); omega)
                                    rintro _ rfl
                                    refine VCsplit.intro (fun q47 => ?_) (fun q47 => ?_)
                                    ·
                                      simp at q47
                                      exfalso; omega
                                    ·
                                      simp at q47
                                      refine VCsplit.intro (fun q48 => ?_) (fun q48 => ?_)
                                      ·
                                        simp at q48
                                      ·
                                        simp at q48
                                        exact ⟨[], ⟨rfl, rfl⟩, (.le fun a => by (try simp only [setR, List.cons_append, List.nil_append]); simp only [List.flatten_append, List.flatten_cons, List.flatten_nil, List.count_append, List.count_nil, List.append_nil, List.nil_append]; omega)⟩
                                ·
                                  exact trivial
                            ·
                              refine VC.intro ?_ ?_
                              ·
                                refine VCnew.intro fun x49 => ?_
                                refine VC.intro ?_ ?_
                                · exact keep_sub (by simp) (by simp [setR])
                                refine call_new (toBag_ct _ (xa3) ?_) (Rp.mono _ (mem_at 9 rfl) hp3) ?_
                                · omega
                                rintro v50 A50 o50
                                obtain ⟨l50, rfl, o50⟩ := o50
                                have r50 := Gt.owrd _ o50
                                obtain ⟨b0x50, c0x50, rfl, h0x50⟩ := gBag_rd.1 r50
                                refine VC.intro ?_ ?_
                                · exact keep_sub (by simp) (by simp [setR])
                                refine call_new (implCellHear_ct _ (xa0) _ _ _ (xa3) ?_ ?_ ?_ ?_) ⟨(Rp.mono _ (mem_at 1 rfl) r33), (Rp.mono _ (mem_at 0 rfl) r50)⟩ ?_
                                · omega
                                · omega
                                · trivial
                                · trivial
                                rintro v51 A51 o51
                                obtain ⟨l51, rfl, o51⟩ := o51
                                have r51 := Gt.owrd _ o51
                                obtain ⟨l0x51, b1x51, c1x51, b4x51, c4x51, rfl, h0x51, h1x51, w2x51, w3x51, h4x51⟩ := gCell_rd.1 r51
                                obtain ⟨b1_0x51, c1_0x51, b2_0x51, c2_0x51, b3_0x51, c3_0x51, rfl, h1_0x51, h2_0x51, h3_0x51⟩ := gQuery_rd.1 h0x51
                                refine VC.intro ?_ ?_
                                · exact keep_sub (by simp) (by simp [setR])
                                refine call_val (eqCell_ct _ _ (cellHear xa0 xa1 xa2 xa3) (cellHear xa0 xa1 xa2 xa3)) ⟨(Rp.mono _ (mem_at 0 rfl) r51), (Rp.mono _ (mem_at 8 rfl) r8)⟩ ?_
                                rintro _ rfl
                                refine VCsplit.intro (fun q53 => ?_) (fun q53 => ?_)
                                ·
                                  simp at q53
                                ·
                                  simp at q53
                                  refine call_val (heldCell_ct _ _ _ _ ?_ ?_ ?_) (Rp.mono _ (mem_at 5 rfl) (Gt.owrd _ o29)) ?_
                                  · rfl
                                  · trivial
                                  · (have h0 := hear_sz xa0 xa1 xa2 xa3; have h1 := cell_cnt (cellHear xa0 xa1 xa2 xa3) (by omega); omega)
                                  rintro _ rfl
                                  refine VCsplit.intro (fun q55 => ?_) (fun q55 => ?_)
                                  ·
                                    simp at q55
                                    exfalso; omega
                                  ·
                                    simp at q55
                                    refine VCsplit.intro (fun q56 => ?_) (fun q56 => ?_)
                                    ·
                                      simp at q56
                                    ·
                                      simp at q56
                                      exact ⟨[], ⟨rfl, rfl⟩, (.le fun a => by (try simp only [setR, List.cons_append, List.nil_append]); simp only [List.flatten_append, List.flatten_cons, List.flatten_nil, List.count_append, List.count_nil, List.append_nil, List.nil_append]; omega)⟩
                              ·
                                exact trivial
                          ·
                            refine VC.intro ?_ ?_
                            ·
                              refine VCnew.intro fun x57 => ?_
                              refine VC.intro ?_ ?_
                              · exact keep_sub (by simp) (by simp)
                              refine call_new (toCell_ct _ (xa0) ?_) (Rp.mono _ (mem_at 8 rfl) hp0) ?_
                              · omega
                              rintro v58 A58 o58
                              obtain ⟨l58, rfl, o58⟩ := o58
                              have r58 := Gt.owrd _ o58
                              obtain ⟨l0x58, b1x58, c1x58, b4x58, c4x58, rfl, h0x58, h1x58, w2x58, w3x58, h4x58⟩ := gCell_rd.1 r58
                              obtain ⟨b1_0x58, c1_0x58, b2_0x58, c2_0x58, b3_0x58, c3_0x58, rfl, h1_0x58, h2_0x58, h3_0x58⟩ := gQuery_rd.1 h0x58
                              refine VC.intro ?_ ?_
                              · exact keep_sub (by simp) (by simp [setR])
                              refine call_new (toBag_ct _ (xa3) ?_) (Rp.mono _ (mem_at 9 rfl) hp3) ?_
                              · omega
                              rintro v59 A59 o59
                              obtain ⟨l59, rfl, o59⟩ := o59
                              have r59 := Gt.owrd _ o59
                              obtain ⟨b0x59, c0x59, rfl, h0x59⟩ := gBag_rd.1 r59
                              refine VC.intro ?_ ?_
                              · exact keep_sub (by simp) (by simp [setR])
                              refine call_new (implCellHear_ct _ (xa0) _ _ _ (xa3) ?_ ?_ ?_ ?_) ⟨(Rp.mono _ (mem_at 1 rfl) r58), (Rp.mono _ (mem_at 0 rfl) r59)⟩ ?_
                              · omega
                              · omega
                              · trivial
                              · trivial
                              rintro v60 A60 o60
                              obtain ⟨l60, rfl, o60⟩ := o60
                              have r60 := Gt.owrd _ o60
                              obtain ⟨l0x60, b1x60, c1x60, b4x60, c4x60, rfl, h0x60, h1x60, w2x60, w3x60, h4x60⟩ := gCell_rd.1 r60
                              obtain ⟨b1_0x60, c1_0x60, b2_0x60, c2_0x60, b3_0x60, c3_0x60, rfl, h1_0x60, h2_0x60, h3_0x60⟩ := gQuery_rd.1 h0x60
                              refine VC.intro ?_ ?_
                              · exact keep_sub (by simp) (by simp [setR])
                              refine call_val (eqCell_ct _ _ (cellHear xa0 xa1 xa2 xa3) (cellHear xa0 xa1 xa2 xa3)) ⟨(Rp.mono _ (mem_at 0 rfl) r60), (Rp.mono _ (mem_at 8 rfl) r8)⟩ ?_
                              rintro _ rfl
                              refine VCsplit.intro (fun q62 => ?_) (fun q62 => ?_)
                              ·
                                simp at q62
                              ·
                                simp at q62
                                refine call_val (heldCell_ct _ _ _ _ ?_ ?_ ?_) (Rp.mono _ (mem_at 5 rfl) (Gt.owrd _ o29)) ?_
                                · rfl
                                · trivial
                                · (have h0 := hear_sz xa0 xa1 xa2 xa3; have h1 := cell_cnt (cellHear xa0 xa1 xa2 xa3) (by omega); omega)
                                rintro _ rfl
                                refine VCsplit.intro (fun q64 => ?_) (fun q64 => ?_)
                                ·
                                  simp at q64
                                  exfalso; omega
                                ·
                                  simp at q64
                                  refine VCsplit.intro (fun q65 => ?_) (fun q65 => ?_)
                                  ·
                                    simp at q65
                                  ·
                                    simp at q65
                                    exact ⟨[], ⟨rfl, rfl⟩, (.le fun a => by (try simp only [setR, List.cons_append, List.nil_append]); simp only [List.flatten_append, List.flatten_cons, List.flatten_nil, List.count_append, List.count_nil, List.append_nil, List.nil_append]; omega)⟩
                            ·
                              exact trivial
          ·
            refine VC.intro ?_ ?_
            ·
              refine VCnew.intro fun x66 => ?_
              refine VC.intro ?_ ?_
              · exact keep_sub (by simp) (by simp)
              refine call_new (specCellHear_ct _ (xa0) _ _ _ (xa3) ?_ ?_ ?_ ?_) ⟨(Rp.mono _ (mem_at 1 rfl) r6), (Rp.mono _ (mem_at 0 rfl) r7)⟩ ?_
              · omega
              · omega
              · trivial
              · trivial
              rintro v67 A67 o67
              obtain ⟨l67, rfl, o67⟩ := o67
              have r67 := Gt.owrd _ o67
              obtain ⟨l0x67, b1x67, c1x67, b4x67, c4x67, rfl, h0x67, h1x67, w2x67, w3x67, h4x67⟩ := gCell_rd.1 r67
              obtain ⟨b1_0x67, c1_0x67, b2_0x67, c2_0x67, b3_0x67, c3_0x67, rfl, h1_0x67, h2_0x67, h3_0x67⟩ := gQuery_rd.1 h0x67
              refine VC.intro ?_ ?_
              · exact keep_sub (by simp) (by simp)
              refine call_new (toCell_ct _ (xa0) ?_) (Rp.mono _ (mem_at 3 rfl) hp0) ?_
              · omega
              rintro v68 A68 o68
              obtain ⟨l68, rfl, o68⟩ := o68
              have r68 := Gt.owrd _ o68
              obtain ⟨l0x68, b1x68, c1x68, b4x68, c4x68, rfl, h0x68, h1x68, w2x68, w3x68, h4x68⟩ := gCell_rd.1 r68
              obtain ⟨b1_0x68, c1_0x68, b2_0x68, c2_0x68, b3_0x68, c3_0x68, rfl, h1_0x68, h2_0x68, h3_0x68⟩ := gQuery_rd.1 h0x68
              refine VCnew.intro fun x69 => ?_
              refine call_new (toBag_ct _ (xa3) ?_) (Rp.mono _ (mem_at 4 rfl) hp3) ?_
              · omega
              rintro v70 A70 o70
              obtain ⟨l70, rfl, o70⟩ := o70
              have r70 := Gt.owrd _ o70
              obtain ⟨b0x70, c0x70, rfl, h0x70⟩ := gBag_rd.1 r70
              refine VCnew.intro fun x71 => ?_
              refine call_new (implCellHear_ct _ (xa0) _ _ _ (xa3) ?_ ?_ ?_ ?_) ⟨(Rp.mono _ (mem_at 1 rfl) r68), (Rp.mono _ (mem_at 0 rfl) r70)⟩ ?_
              · omega
              · omega
              · trivial
              · trivial
              rintro v72 A72 o72
              obtain ⟨l72, rfl, o72⟩ := o72
              have r72 := Gt.owrd _ o72
              obtain ⟨l0x72, b1x72, c1x72, b4x72, c4x72, rfl, h0x72, h1x72, w2x72, w3x72, h4x72⟩ := gCell_rd.1 r72
              obtain ⟨b1_0x72, c1_0x72, b2_0x72, c2_0x72, b3_0x72, c3_0x72, rfl, h1_0x72, h2_0x72, h3_0x72⟩ := gQuery_rd.1 h0x72
              refine VCnew.intro fun x73 => ?_
              refine call_val (eqCell_ct _ _ (cellHear xa0 xa1 xa2 xa3) (cellHear xa0 xa1 xa2 xa3)) ⟨(Rp.mono _ (mem_at 0 rfl) r72), (Rp.mono _ (mem_at 3 rfl) r67)⟩ ?_
              rintro _ rfl
              refine VCsplit.intro (fun q75 => ?_) (fun q75 => ?_)
              ·
                simp at q75
              ·
                simp at q75
                refine draw G_ok mixed none (.q 0 (.q 1 (.f 2 (.f 3 (.q 4 (.nil)))))) (by decide +kernel) ?_
                refine call_new (toCell_ct _ (xa0) ?_) (Rp.mono _ (mem_at 6 rfl) hp0) ?_
                · omega
                rintro v76 A76 o76
                obtain ⟨l76, rfl, o76⟩ := o76
                have r76 := Gt.owrd _ o76
                obtain ⟨l0x76, b1x76, c1x76, b4x76, c4x76, rfl, h0x76, h1x76, w2x76, w3x76, h4x76⟩ := gCell_rd.1 r76
                obtain ⟨b1_0x76, c1_0x76, b2_0x76, c2_0x76, b3_0x76, c3_0x76, rfl, h1_0x76, h2_0x76, h3_0x76⟩ := gQuery_rd.1 h0x76
                refine VC.intro ?_ ?_
                · exact keep_new
                refine call_val (eqCell_ct _ _ (xa0) (xa0)) ⟨(Rp.mono _ (mem_at 3 rfl) r68), (Rp.mono _ (mem_at 0 rfl) r76)⟩ ?_
                rintro _ rfl
                refine VC.intro ?_ ?_
                · exact keep_new
                refine VCsplit.intro (fun q78 => ?_) (fun q78 => ?_)
                ·
                  simp at q78
                ·
                  simp at q78
                  refine draw G_ok mixed none (.q 0 (.q 1 (.f 2 (.f 3 (.q 4 (.nil)))))) (by decide +kernel) ?_
                  refine call_new (toBag_ct _ (xa3) ?_) (Rp.mono _ (mem_at 7 rfl) hp3) ?_
                  · omega
                  rintro v79 A79 o79
                  obtain ⟨l79, rfl, o79⟩ := o79
                  have r79 := Gt.owrd _ o79
                  obtain ⟨b0x79, c0x79, rfl, h0x79⟩ := gBag_rd.1 r79
                  refine VC.intro ?_ ?_
                  · exact keep_new
                  refine call_val (eqBag_ct _ _ (xa3) (xa3)) ⟨(Rp.mono _ (mem_at 3 rfl) r70), (Rp.mono _ (mem_at 0 rfl) r79)⟩ ?_
                  rintro _ rfl
                  refine VC.intro ?_ ?_
                  · exact keep_new
                  refine VCsplit.intro (fun q81 => ?_) (fun q81 => ?_)
                  ·
                    simp at q81
                  ·
                    simp at q81
                    refine callR_at 4 rfl (markCell_ct _ _ _ _ o68 ?_ ?_) trivial ?_
                    · trivial
                    · (have h1 := cell_cnt xa0 (by omega); omega)
                    rintro _ A82 ⟨rfl, o82⟩
                    refine callR_at 3 rfl (markBag_ct _ _ _ _ o70 ?_ ?_) trivial ?_
                    · omega
                    · (have h1 := cell_cnt xa0 (by omega); have h2 := bag_cnt xa3 (by omega); omega)
                    rintro _ A83 ⟨rfl, o83⟩
                    refine VCsplit.intro (fun q84 => ?_) (fun q84 => ?_)
                    ·
                      simp at q84
                      exfalso; omega
                    ·
                      simp at q84
                      refine call_val (eqCell_ct _ _ (cellHear xa0 xa1 xa2 xa3) (cellHear xa0 xa1 xa2 xa3)) ⟨(Rp.mono _ (mem_at 2 rfl) r72), (Rp.mono _ (mem_at 5 rfl) r67)⟩ ?_
                      rintro _ rfl
                      refine VCsplit.intro (fun q86 => ?_) (fun q86 => ?_)
                      ·
                        simp at q86
                      ·
                        simp at q86
                        refine callR_at 2 rfl (markCell_ct _ _ _ _ o72 ?_ ?_) trivial ?_
                        · trivial
                        · (have h0 := hear_sz xa0 xa1 xa2 xa3; have h1 := cell_cnt (cellHear xa0 xa1 xa2 xa3) (by omega); omega)
                        rintro _ A87 ⟨rfl, o87⟩
                        refine call_val (heldCell_ct _ _ _ _ ?_ ?_ ?_) (Rp.mono _ (mem_at 2 rfl) (Gt.owrd _ o87)) ?_
                        · rfl
                        · trivial
                        · (have h0 := hear_sz xa0 xa1 xa2 xa3; have h1 := cell_cnt (cellHear xa0 xa1 xa2 xa3) (by omega); omega)
                        rintro _ rfl
                        refine VCsplit.intro (fun q89 => ?_) (fun q89 => ?_)
                        ·
                          simp at q89
                          exfalso; omega
                        ·
                          simp at q89
                          refine VCsplit.intro (fun q90 => ?_) (fun q90 => ?_)
                          ·
                            simp at q90
                          ·
                            simp at q90
                            refine draw G_ok mixed (some 8) (.q 0 (.q 2 (.q 3 (.q 4 (.hd (.alt 1 (.hd (.alt 5 (.hd (.alt 6 (.f 7 (.tl 8 (.nil))) (.alt 7 (.f 6 (.tl 8 (.nil))) (.nil)))) (.alt 7 (.f 5 (.f 6 (.tl 8 (.nil)))) (.nil)))) (.alt 7 (.f 1 (.f 5 (.f 6 (.tl 8 (.nil))))) (.nil)))))))) (by decide +kernel) ?_
                            refine VC.intro ?_ ?_
                            ·
                              refine call_new (toCell_ct _ (xa0) ?_) (Rp.mono _ (mem_at 8 rfl) hp0) ?_
                              · omega
                              rintro v91 A91 o91
                              obtain ⟨l91, rfl, o91⟩ := o91
                              have r91 := Gt.owrd _ o91
                              obtain ⟨l0x91, b1x91, c1x91, b4x91, c4x91, rfl, h0x91, h1x91, w2x91, w3x91, h4x91⟩ := gCell_rd.1 r91
                              obtain ⟨b1_0x91, c1_0x91, b2_0x91, c2_0x91, b3_0x91, c3_0x91, rfl, h1_0x91, h2_0x91, h3_0x91⟩ := gQuery_rd.1 h0x91
                              refine VC.intro ?_ ?_
                              · exact keep_new
                              refine VC.intro ?_ ?_
                              ·
                                refine call_new (toBag_ct _ (xa3) ?_) (Rp.mono _ (mem_at 9 rfl) hp3) ?_
                                · omega
                                rintro v92 A92 o92
                                obtain ⟨l92, rfl, o92⟩ := o92
                                have r92 := Gt.owrd _ o92
                                obtain ⟨b0x92, c0x92, rfl, h0x92⟩ := gBag_rd.1 r92
                                refine VC.intro ?_ ?_
                                · exact keep_sub (by simp) (by simp [setR])
                                refine VC.intro ?_ ?_
                                ·
                                  refine call_new (implCellHear_ct _ (xa0) _ _ _ (xa3) ?_ ?_ ?_ ?_) ⟨(Rp.mono _ (mem_at 1 rfl) r91), (Rp.mono _ (mem_at 0 rfl) r92)⟩ ?_
                                  · omega
                                  · omega
                                  · trivial
                                  · trivial
                                  rintro v93 A93 o93
                                  obtain ⟨l93, rfl, o93⟩ := o93
                                  have r93 := Gt.owrd _ o93
                                  obtain ⟨l0x93, b1x93, c1x93, b4x93, c4x93, rfl, h0x93, h1x93, w2x93, w3x93, h4x93⟩ := gCell_rd.1 r93
                                  obtain ⟨b1_0x93, c1_0x93, b2_0x93, c2_0x93, b3_0x93, c3_0x93, rfl, h1_0x93, h2_0x93, h3_0x93⟩ := gQuery_rd.1 h0x93
                                  refine VC.intro ?_ ?_
                                  · exact keep_sub (by simp) (by simp [setR])
                                  refine VCnew.intro fun x94 => ?_
                                  refine VC.intro ?_ ?_
                                  · exact keep_sub (by simp) (by simp [setR])
                                  refine call_val (eqCell_ct _ _ (cellHear xa0 xa1 xa2 xa3) (cellHear xa0 xa1 xa2 xa3)) ⟨(Rp.mono _ (mem_at 0 rfl) r93), (Rp.mono _ (mem_at 8 rfl) r67)⟩ ?_
                                  rintro _ rfl
                                  refine VCsplit.intro (fun q96 => ?_) (fun q96 => ?_)
                                  ·
                                    simp at q96
                                  ·
                                    simp at q96
                                    refine call_val (heldCell_ct _ _ _ _ ?_ ?_ ?_) (Rp.mono _ (mem_at 5 rfl) (Gt.owrd _ o87)) ?_
                                    · rfl
                                    · trivial
                                    · (have h0 := hear_sz xa0 xa1 xa2 xa3; have h1 := cell_cnt (cellHear xa0 xa1 xa2 xa3) (by omega); omega)
                                    rintro _ rfl
                                    refine VCsplit.intro (fun q98 => ?_) (fun q98 => ?_)
                                    ·
                                      simp at q98
                                      exfalso; omega
                                    ·
                                      simp at q98
                                      refine VCsplit.intro (fun q99 => ?_) (fun q99 => ?_)
                                      ·
                                        simp at q99
                                      ·
                                        simp at q99
                                        exact ⟨[], ⟨rfl, rfl⟩, (.le fun a => by (try simp only [setR, List.cons_append, List.nil_append]); simp only [List.flatten_append, List.flatten_cons, List.flatten_nil, List.count_append, List.count_nil, List.append_nil, List.nil_append]; omega)⟩
                                ·
                                  refine VC.intro ?_ ?_
                                  ·
                                    refine VCnew.intro fun x100 => ?_
                                    refine VC.intro ?_ ?_
                                    · exact keep_sub (by simp) (by simp [setR])
                                    refine call_new (implCellHear_ct _ (xa0) _ _ _ (xa3) ?_ ?_ ?_ ?_) ⟨(Rp.mono _ (mem_at 1 rfl) r91), (Rp.mono _ (mem_at 0 rfl) r92)⟩ ?_
                                    · omega
                                    · omega
                                    · trivial
                                    · trivial
                                    rintro v101 A101 o101
                                    obtain ⟨l101, rfl, o101⟩ := o101
                                    have r101 := Gt.owrd _ o101
                                    obtain ⟨l0x101, b1x101, c1x101, b4x101, c4x101, rfl, h0x101, h1x101, w2x101, w3x101, h4x101⟩ := gCell_rd.1 r101
                                    obtain ⟨b1_0x101, c1_0x101, b2_0x101, c2_0x101, b3_0x101, c3_0x101, rfl, h1_0x101, h2_0x101, h3_0x101⟩ := gQuery_rd.1 h0x101
                                    refine VC.intro ?_ ?_
                                    · exact keep_sub (by simp) (by simp [setR])
                                    refine call_val (eqCell_ct _ _ (cellHear xa0 xa1 xa2 xa3) (cellHear xa0 xa1 xa2 xa3)) ⟨(Rp.mono _ (mem_at 0 rfl) r101), (Rp.mono _ (mem_at 8 rfl) r67)⟩ ?_
                                    rintro _ rfl
                                    refine VCsplit.intro (fun q103 => ?_) (fun q103 => ?_)
                                    ·
                                      simp at q103
                                    ·
                                      simp at q103
                                      refine call_val (heldCell_ct _ _ _ _ ?_ ?_ ?_) (Rp.mono _ (mem_at 5 rfl) (Gt.owrd _ o87)) ?_
                                      · rfl
                                      · trivial
                                      · (have h0 := hear_sz xa0 xa1 xa2 xa3; have h1 := cell_cnt (cellHear xa0 xa1 xa2 xa3) (by omega); omega)
                                      rintro _ rfl
                                      refine VCsplit.intro (fun q105 => ?_) (fun q105 => ?_)
                                      ·
                                        simp at q105
                                        exfalso; omega
                                      ·
                                        simp at q105
                                        refine VCsplit.intro (fun q106 => ?_) (fun q106 => ?_)
                                        ·
                                          simp at q106
                                        ·
                                          simp at q106
                                          exact ⟨[], ⟨rfl, rfl⟩, (.le fun a => by (try simp only [setR, List.cons_append, List.nil_append]); simp only [List.flatten_append, List.flatten_cons, List.flatten_nil, List.count_append, List.count_nil, List.append_nil, List.nil_append]; omega)⟩
                                  ·
                                    exact trivial
                              ·
                                refine VC.intro ?_ ?_
                                ·
                                  refine VCnew.intro fun x107 => ?_
                                  refine VC.intro ?_ ?_
                                  · exact keep_sub (by simp) (by simp [setR])
                                  refine call_new (toBag_ct _ (xa3) ?_) (Rp.mono _ (mem_at 9 rfl) hp3) ?_
                                  · omega
                                  rintro v108 A108 o108
                                  obtain ⟨l108, rfl, o108⟩ := o108
                                  have r108 := Gt.owrd _ o108
                                  obtain ⟨b0x108, c0x108, rfl, h0x108⟩ := gBag_rd.1 r108
                                  refine VC.intro ?_ ?_
                                  · exact keep_sub (by simp) (by simp [setR])
                                  refine call_new (implCellHear_ct _ (xa0) _ _ _ (xa3) ?_ ?_ ?_ ?_) ⟨(Rp.mono _ (mem_at 1 rfl) r91), (Rp.mono _ (mem_at 0 rfl) r108)⟩ ?_
                                  · omega
                                  · omega
                                  · trivial
                                  · trivial
                                  rintro v109 A109 o109
                                  obtain ⟨l109, rfl, o109⟩ := o109
                                  have r109 := Gt.owrd _ o109
                                  obtain ⟨l0x109, b1x109, c1x109, b4x109, c4x109, rfl, h0x109, h1x109, w2x109, w3x109, h4x109⟩ := gCell_rd.1 r109
                                  obtain ⟨b1_0x109, c1_0x109, b2_0x109, c2_0x109, b3_0x109, c3_0x109, rfl, h1_0x109, h2_0x109, h3_0x109⟩ := gQuery_rd.1 h0x109
                                  refine VC.intro ?_ ?_
                                  · exact keep_sub (by simp) (by simp [setR])
                                  refine call_val (eqCell_ct _ _ (cellHear xa0 xa1 xa2 xa3) (cellHear xa0 xa1 xa2 xa3)) ⟨(Rp.mono _ (mem_at 0 rfl) r109), (Rp.mono _ (mem_at 8 rfl) r67)⟩ ?_
                                  rintro _ rfl
                                  refine VCsplit.intro (fun q111 => ?_) (fun q111 => ?_)
                                  ·
                                    simp at q111
                                  ·
                                    simp at q111
                                    refine call_val (heldCell_ct _ _ _ _ ?_ ?_ ?_) (Rp.mono _ (mem_at 5 rfl) (Gt.owrd _ o87)) ?_
                                    · rfl
                                    · trivial
                                    · (have h0 := hear_sz xa0 xa1 xa2 xa3; have h1 := cell_cnt (cellHear xa0 xa1 xa2 xa3) (by omega); omega)
                                    rintro _ rfl
                                    refine VCsplit.intro (fun q113 => ?_) (fun q113 => ?_)
                                    ·
                                      simp at q113
                                      exfalso; omega
                                    ·
                                      simp at q113
                                      refine VCsplit.intro (fun q114 => ?_) (fun q114 => ?_)
                                      ·
                                        simp at q114
                                      ·
                                        simp at q114
                                        exact ⟨[], ⟨rfl, rfl⟩, (.le fun a => by (try simp only [setR, List.cons_append, List.nil_append]); simp only [List.flatten_append, List.flatten_cons, List.flatten_nil, List.count_append, List.count_nil, List.append_nil, List.nil_append]; omega)⟩
                                ·
                                  exact trivial
                            ·
                              refine VC.intro ?_ ?_
                              ·
                                refine VCnew.intro fun x115 => ?_
                                refine VC.intro ?_ ?_
                                · exact keep_sub (by simp) (by simp)
                                refine call_new (toCell_ct _ (xa0) ?_) (Rp.mono _ (mem_at 8 rfl) hp0) ?_
                                · omega
                                rintro v116 A116 o116
                                obtain ⟨l116, rfl, o116⟩ := o116
                                have r116 := Gt.owrd _ o116
                                obtain ⟨l0x116, b1x116, c1x116, b4x116, c4x116, rfl, h0x116, h1x116, w2x116, w3x116, h4x116⟩ := gCell_rd.1 r116
                                obtain ⟨b1_0x116, c1_0x116, b2_0x116, c2_0x116, b3_0x116, c3_0x116, rfl, h1_0x116, h2_0x116, h3_0x116⟩ := gQuery_rd.1 h0x116
                                refine VC.intro ?_ ?_
                                · exact keep_sub (by simp) (by simp [setR])
                                refine call_new (toBag_ct _ (xa3) ?_) (Rp.mono _ (mem_at 9 rfl) hp3) ?_
                                · omega
                                rintro v117 A117 o117
                                obtain ⟨l117, rfl, o117⟩ := o117
                                have r117 := Gt.owrd _ o117
                                obtain ⟨b0x117, c0x117, rfl, h0x117⟩ := gBag_rd.1 r117
                                refine VC.intro ?_ ?_
                                · exact keep_sub (by simp) (by simp [setR])
                                refine call_new (implCellHear_ct _ (xa0) _ _ _ (xa3) ?_ ?_ ?_ ?_) ⟨(Rp.mono _ (mem_at 1 rfl) r116), (Rp.mono _ (mem_at 0 rfl) r117)⟩ ?_
                                · omega
                                · omega
                                · trivial
                                · trivial
                                rintro v118 A118 o118
                                obtain ⟨l118, rfl, o118⟩ := o118
                                have r118 := Gt.owrd _ o118
                                obtain ⟨l0x118, b1x118, c1x118, b4x118, c4x118, rfl, h0x118, h1x118, w2x118, w3x118, h4x118⟩ := gCell_rd.1 r118
                                obtain ⟨b1_0x118, c1_0x118, b2_0x118, c2_0x118, b3_0x118, c3_0x118, rfl, h1_0x118, h2_0x118, h3_0x118⟩ := gQuery_rd.1 h0x118
                                refine VC.intro ?_ ?_
                                · exact keep_sub (by simp) (by simp [setR])
                                refine call_val (eqCell_ct _ _ (cellHear xa0 xa1 xa2 xa3) (cellHear xa0 xa1 xa2 xa3)) ⟨(Rp.mono _ (mem_at 0 rfl) r118), (Rp.mono _ (mem_at 8 rfl) r67)⟩ ?_
                                rintro _ rfl
                                refine VCsplit.intro (fun q120 => ?_) (fun q120 => ?_)
                                ·
                                  simp at q120
                                ·
                                  simp at q120
                                  refine call_val (heldCell_ct _ _ _ _ ?_ ?_ ?_) (Rp.mono _ (mem_at 5 rfl) (Gt.owrd _ o87)) ?_
                                  · rfl
                                  · trivial
                                  · (have h0 := hear_sz xa0 xa1 xa2 xa3; have h1 := cell_cnt (cellHear xa0 xa1 xa2 xa3) (by omega); omega)
                                  rintro _ rfl
                                  refine VCsplit.intro (fun q122 => ?_) (fun q122 => ?_)
                                  ·
                                    simp at q122
                                    exfalso; omega
                                  ·
                                    simp at q122
                                    refine VCsplit.intro (fun q123 => ?_) (fun q123 => ?_)
                                    ·
                                      simp at q123
                                    ·
                                      simp at q123
                                      exact ⟨[], ⟨rfl, rfl⟩, (.le fun a => by (try simp only [setR, List.cons_append, List.nil_append]); simp only [List.flatten_append, List.flatten_cons, List.flatten_nil, List.count_append, List.count_nil, List.append_nil, List.nil_append]; omega)⟩
                              ·
                                exact trivial
            ·
              exact trivial
        ·
          refine VC.intro ?_ ?_
          ·
            refine VCnew.intro fun x124 => ?_
            refine VC.intro ?_ ?_
            · exact keep_sub (by simp) (by simp)
            refine call_new (toBag_ct _ (xa3) ?_) (Rp.mono _ (mem_at 1 rfl) hp3) ?_
            · omega
            rintro v125 A125 o125
            obtain ⟨l125, rfl, o125⟩ := o125
            have r125 := Gt.owrd _ o125
            obtain ⟨b0x125, c0x125, rfl, h0x125⟩ := gBag_rd.1 r125
            refine VC.intro ?_ ?_
            · exact keep_sub (by simp) (by simp)
            refine call_new (specCellHear_ct _ (xa0) _ _ _ (xa3) ?_ ?_ ?_ ?_) ⟨(Rp.mono _ (mem_at 1 rfl) r6), (Rp.mono _ (mem_at 0 rfl) r125)⟩ ?_
            · omega
            · omega
            · trivial
            · trivial
            rintro v126 A126 o126
            obtain ⟨l126, rfl, o126⟩ := o126
            have r126 := Gt.owrd _ o126
            obtain ⟨l0x126, b1x126, c1x126, b4x126, c4x126, rfl, h0x126, h1x126, w2x126, w3x126, h4x126⟩ := gCell_rd.1 r126
            obtain ⟨b1_0x126, c1_0x126, b2_0x126, c2_0x126, b3_0x126, c3_0x126, rfl, h1_0x126, h2_0x126, h3_0x126⟩ := gQuery_rd.1 h0x126
            refine VC.intro ?_ ?_
            · exact keep_sub (by simp) (by simp)
            refine call_new (toCell_ct _ (xa0) ?_) (Rp.mono _ (mem_at 3 rfl) hp0) ?_
            · omega
            rintro v127 A127 o127
            obtain ⟨l127, rfl, o127⟩ := o127
            have r127 := Gt.owrd _ o127
            obtain ⟨l0x127, b1x127, c1x127, b4x127, c4x127, rfl, h0x127, h1x127, w2x127, w3x127, h4x127⟩ := gCell_rd.1 r127
            obtain ⟨b1_0x127, c1_0x127, b2_0x127, c2_0x127, b3_0x127, c3_0x127, rfl, h1_0x127, h2_0x127, h3_0x127⟩ := gQuery_rd.1 h0x127
            refine VCnew.intro fun x128 => ?_
            refine call_new (toBag_ct _ (xa3) ?_) (Rp.mono _ (mem_at 4 rfl) hp3) ?_
            · omega
            rintro v129 A129 o129
            obtain ⟨l129, rfl, o129⟩ := o129
            have r129 := Gt.owrd _ o129
            obtain ⟨b0x129, c0x129, rfl, h0x129⟩ := gBag_rd.1 r129
            refine VCnew.intro fun x130 => ?_
            refine call_new (implCellHear_ct _ (xa0) _ _ _ (xa3) ?_ ?_ ?_ ?_) ⟨(Rp.mono _ (mem_at 1 rfl) r127), (Rp.mono _ (mem_at 0 rfl) r129)⟩ ?_
            · omega
            · omega
            · trivial
            · trivial
            rintro v131 A131 o131
            obtain ⟨l131, rfl, o131⟩ := o131
            have r131 := Gt.owrd _ o131
            obtain ⟨l0x131, b1x131, c1x131, b4x131, c4x131, rfl, h0x131, h1x131, w2x131, w3x131, h4x131⟩ := gCell_rd.1 r131
            obtain ⟨b1_0x131, c1_0x131, b2_0x131, c2_0x131, b3_0x131, c3_0x131, rfl, h1_0x131, h2_0x131, h3_0x131⟩ := gQuery_rd.1 h0x131
            refine VCnew.intro fun x132 => ?_
            refine call_val (eqCell_ct _ _ (cellHear xa0 xa1 xa2 xa3) (cellHear xa0 xa1 xa2 xa3)) ⟨(Rp.mono _ (mem_at 0 rfl) r131), (Rp.mono _ (mem_at 3 rfl) r126)⟩ ?_
            rintro _ rfl
            refine VCsplit.intro (fun q134 => ?_) (fun q134 => ?_)
            ·
              simp at q134
            ·
              simp at q134
              refine draw G_ok mixed none (.q 0 (.q 1 (.f 2 (.f 3 (.q 4 (.nil)))))) (by decide +kernel) ?_
              refine call_new (toCell_ct _ (xa0) ?_) (Rp.mono _ (mem_at 6 rfl) hp0) ?_
              · omega
              rintro v135 A135 o135
              obtain ⟨l135, rfl, o135⟩ := o135
              have r135 := Gt.owrd _ o135
              obtain ⟨l0x135, b1x135, c1x135, b4x135, c4x135, rfl, h0x135, h1x135, w2x135, w3x135, h4x135⟩ := gCell_rd.1 r135
              obtain ⟨b1_0x135, c1_0x135, b2_0x135, c2_0x135, b3_0x135, c3_0x135, rfl, h1_0x135, h2_0x135, h3_0x135⟩ := gQuery_rd.1 h0x135
              refine VC.intro ?_ ?_
              · exact keep_new
              refine call_val (eqCell_ct _ _ (xa0) (xa0)) ⟨(Rp.mono _ (mem_at 3 rfl) r127), (Rp.mono _ (mem_at 0 rfl) r135)⟩ ?_
              rintro _ rfl
              refine VC.intro ?_ ?_
              · exact keep_new
              refine VCsplit.intro (fun q137 => ?_) (fun q137 => ?_)
              ·
                simp at q137
              ·
                simp at q137
                refine draw G_ok mixed none (.q 0 (.q 1 (.f 2 (.f 3 (.q 4 (.nil)))))) (by decide +kernel) ?_
                refine call_new (toBag_ct _ (xa3) ?_) (Rp.mono _ (mem_at 7 rfl) hp3) ?_
                · omega
                rintro v138 A138 o138
                obtain ⟨l138, rfl, o138⟩ := o138
                have r138 := Gt.owrd _ o138
                obtain ⟨b0x138, c0x138, rfl, h0x138⟩ := gBag_rd.1 r138
                refine VC.intro ?_ ?_
                · exact keep_new
                refine call_val (eqBag_ct _ _ (xa3) (xa3)) ⟨(Rp.mono _ (mem_at 3 rfl) r129), (Rp.mono _ (mem_at 0 rfl) r138)⟩ ?_
                rintro _ rfl
                refine VC.intro ?_ ?_
                · exact keep_new
                refine VCsplit.intro (fun q140 => ?_) (fun q140 => ?_)
                ·
                  simp at q140
                ·
                  simp at q140
                  refine callR_at 4 rfl (markCell_ct _ _ _ _ o127 ?_ ?_) trivial ?_
                  · trivial
                  · (have h1 := cell_cnt xa0 (by omega); omega)
                  rintro _ A141 ⟨rfl, o141⟩
                  refine callR_at 3 rfl (markBag_ct _ _ _ _ o129 ?_ ?_) trivial ?_
                  · omega
                  · (have h1 := cell_cnt xa0 (by omega); have h2 := bag_cnt xa3 (by omega); omega)
                  rintro _ A142 ⟨rfl, o142⟩
                  refine VCsplit.intro (fun q143 => ?_) (fun q143 => ?_)
                  ·
                    simp at q143
                    exfalso; omega
                  ·
                    simp at q143
                    refine call_val (eqCell_ct _ _ (cellHear xa0 xa1 xa2 xa3) (cellHear xa0 xa1 xa2 xa3)) ⟨(Rp.mono _ (mem_at 2 rfl) r131), (Rp.mono _ (mem_at 5 rfl) r126)⟩ ?_
                    rintro _ rfl
                    refine VCsplit.intro (fun q145 => ?_) (fun q145 => ?_)
                    ·
                      simp at q145
                    ·
                      simp at q145
                      refine callR_at 2 rfl (markCell_ct _ _ _ _ o131 ?_ ?_) trivial ?_
                      · trivial
                      · (have h0 := hear_sz xa0 xa1 xa2 xa3; have h1 := cell_cnt (cellHear xa0 xa1 xa2 xa3) (by omega); omega)
                      rintro _ A146 ⟨rfl, o146⟩
                      refine call_val (heldCell_ct _ _ _ _ ?_ ?_ ?_) (Rp.mono _ (mem_at 2 rfl) (Gt.owrd _ o146)) ?_
                      · rfl
                      · trivial
                      · (have h0 := hear_sz xa0 xa1 xa2 xa3; have h1 := cell_cnt (cellHear xa0 xa1 xa2 xa3) (by omega); omega)
                      rintro _ rfl
                      refine VCsplit.intro (fun q148 => ?_) (fun q148 => ?_)
                      ·
                        simp at q148
                        exfalso; omega
                      ·
                        simp at q148
                        refine VCsplit.intro (fun q149 => ?_) (fun q149 => ?_)
                        ·
                          simp at q149
                        ·
                          simp at q149
                          refine draw G_ok mixed (some 8) (.q 0 (.q 2 (.q 3 (.q 4 (.hd (.alt 1 (.hd (.alt 5 (.hd (.alt 6 (.f 7 (.tl 8 (.nil))) (.alt 7 (.f 6 (.tl 8 (.nil))) (.nil)))) (.alt 7 (.f 5 (.f 6 (.tl 8 (.nil)))) (.nil)))) (.alt 7 (.f 1 (.f 5 (.f 6 (.tl 8 (.nil))))) (.nil)))))))) (by decide +kernel) ?_
                          refine VC.intro ?_ ?_
                          ·
                            refine call_new (toCell_ct _ (xa0) ?_) (Rp.mono _ (mem_at 8 rfl) hp0) ?_
                            · omega
                            rintro v150 A150 o150
                            obtain ⟨l150, rfl, o150⟩ := o150
                            have r150 := Gt.owrd _ o150
                            obtain ⟨l0x150, b1x150, c1x150, b4x150, c4x150, rfl, h0x150, h1x150, w2x150, w3x150, h4x150⟩ := gCell_rd.1 r150
                            obtain ⟨b1_0x150, c1_0x150, b2_0x150, c2_0x150, b3_0x150, c3_0x150, rfl, h1_0x150, h2_0x150, h3_0x150⟩ := gQuery_rd.1 h0x150
                            refine VC.intro ?_ ?_
                            · exact keep_new
                            refine VC.intro ?_ ?_
                            ·
                              refine call_new (toBag_ct _ (xa3) ?_) (Rp.mono _ (mem_at 9 rfl) hp3) ?_
                              · omega
                              rintro v151 A151 o151
                              obtain ⟨l151, rfl, o151⟩ := o151
                              have r151 := Gt.owrd _ o151
                              obtain ⟨b0x151, c0x151, rfl, h0x151⟩ := gBag_rd.1 r151
                              refine VC.intro ?_ ?_
                              · exact keep_sub (by simp) (by simp [setR])
                              refine VC.intro ?_ ?_
                              ·
                                refine call_new (implCellHear_ct _ (xa0) _ _ _ (xa3) ?_ ?_ ?_ ?_) ⟨(Rp.mono _ (mem_at 1 rfl) r150), (Rp.mono _ (mem_at 0 rfl) r151)⟩ ?_
                                · omega
                                · omega
                                · trivial
                                · trivial
                                rintro v152 A152 o152
                                obtain ⟨l152, rfl, o152⟩ := o152
                                have r152 := Gt.owrd _ o152
                                obtain ⟨l0x152, b1x152, c1x152, b4x152, c4x152, rfl, h0x152, h1x152, w2x152, w3x152, h4x152⟩ := gCell_rd.1 r152
                                obtain ⟨b1_0x152, c1_0x152, b2_0x152, c2_0x152, b3_0x152, c3_0x152, rfl, h1_0x152, h2_0x152, h3_0x152⟩ := gQuery_rd.1 h0x152
                                refine VC.intro ?_ ?_
                                · exact keep_sub (by simp) (by simp [setR])
                                refine VCnew.intro fun x153 => ?_
                                refine VC.intro ?_ ?_
                                · exact keep_sub (by simp) (by simp [setR])
                                refine call_val (eqCell_ct _ _ (cellHear xa0 xa1 xa2 xa3) (cellHear xa0 xa1 xa2 xa3)) ⟨(Rp.mono _ (mem_at 0 rfl) r152), (Rp.mono _ (mem_at 8 rfl) r126)⟩ ?_
                                rintro _ rfl
                                refine VCsplit.intro (fun q155 => ?_) (fun q155 => ?_)
                                ·
                                  simp at q155
                                ·
                                  simp at q155
                                  refine call_val (heldCell_ct _ _ _ _ ?_ ?_ ?_) (Rp.mono _ (mem_at 5 rfl) (Gt.owrd _ o146)) ?_
                                  · rfl
                                  · trivial
                                  · (have h0 := hear_sz xa0 xa1 xa2 xa3; have h1 := cell_cnt (cellHear xa0 xa1 xa2 xa3) (by omega); omega)
                                  rintro _ rfl
                                  refine VCsplit.intro (fun q157 => ?_) (fun q157 => ?_)
                                  ·
                                    simp at q157
                                    exfalso; omega
                                  ·
                                    simp at q157
                                    refine VCsplit.intro (fun q158 => ?_) (fun q158 => ?_)
                                    ·
                                      simp at q158
                                    ·
                                      simp at q158
                                      exact ⟨[], ⟨rfl, rfl⟩, (.le fun a => by (try simp only [setR, List.cons_append, List.nil_append]); simp only [List.flatten_append, List.flatten_cons, List.flatten_nil, List.count_append, List.count_nil, List.append_nil, List.nil_append]; omega)⟩
                              ·
                                refine VC.intro ?_ ?_
                                ·
                                  refine VCnew.intro fun x159 => ?_
                                  refine VC.intro ?_ ?_
                                  · exact keep_sub (by simp) (by simp [setR])
                                  refine call_new (implCellHear_ct _ (xa0) _ _ _ (xa3) ?_ ?_ ?_ ?_) ⟨(Rp.mono _ (mem_at 1 rfl) r150), (Rp.mono _ (mem_at 0 rfl) r151)⟩ ?_
                                  · omega
                                  · omega
                                  · trivial
                                  · trivial
                                  rintro v160 A160 o160
                                  obtain ⟨l160, rfl, o160⟩ := o160
                                  have r160 := Gt.owrd _ o160
                                  obtain ⟨l0x160, b1x160, c1x160, b4x160, c4x160, rfl, h0x160, h1x160, w2x160, w3x160, h4x160⟩ := gCell_rd.1 r160
                                  obtain ⟨b1_0x160, c1_0x160, b2_0x160, c2_0x160, b3_0x160, c3_0x160, rfl, h1_0x160, h2_0x160, h3_0x160⟩ := gQuery_rd.1 h0x160
                                  refine VC.intro ?_ ?_
                                  · exact keep_sub (by simp) (by simp [setR])
                                  refine call_val (eqCell_ct _ _ (cellHear xa0 xa1 xa2 xa3) (cellHear xa0 xa1 xa2 xa3)) ⟨(Rp.mono _ (mem_at 0 rfl) r160), (Rp.mono _ (mem_at 8 rfl) r126)⟩ ?_
                                  rintro _ rfl
                                  refine VCsplit.intro (fun q162 => ?_) (fun q162 => ?_)
                                  ·
                                    simp at q162
                                  ·
                                    simp at q162
                                    refine call_val (heldCell_ct _ _ _ _ ?_ ?_ ?_) (Rp.mono _ (mem_at 5 rfl) (Gt.owrd _ o146)) ?_
                                    · rfl
                                    · trivial
                                    · (have h0 := hear_sz xa0 xa1 xa2 xa3; have h1 := cell_cnt (cellHear xa0 xa1 xa2 xa3) (by omega); omega)
                                    rintro _ rfl
                                    refine VCsplit.intro (fun q164 => ?_) (fun q164 => ?_)
                                    ·
                                      simp at q164
                                      exfalso; omega
                                    ·
                                      simp at q164
                                      refine VCsplit.intro (fun q165 => ?_) (fun q165 => ?_)
                                      ·
                                        simp at q165
                                      ·
                                        simp at q165
                                        exact ⟨[], ⟨rfl, rfl⟩, (.le fun a => by (try simp only [setR, List.cons_append, List.nil_append]); simp only [List.flatten_append, List.flatten_cons, List.flatten_nil, List.count_append, List.count_nil, List.append_nil, List.nil_append]; omega)⟩
                                ·
                                  exact trivial
                            ·
                              refine VC.intro ?_ ?_
                              ·
                                refine VCnew.intro fun x166 => ?_
                                refine VC.intro ?_ ?_
                                · exact keep_sub (by simp) (by simp [setR])
                                refine call_new (toBag_ct _ (xa3) ?_) (Rp.mono _ (mem_at 9 rfl) hp3) ?_
                                · omega
                                rintro v167 A167 o167
                                obtain ⟨l167, rfl, o167⟩ := o167
                                have r167 := Gt.owrd _ o167
                                obtain ⟨b0x167, c0x167, rfl, h0x167⟩ := gBag_rd.1 r167
                                refine VC.intro ?_ ?_
                                · exact keep_sub (by simp) (by simp [setR])
                                refine call_new (implCellHear_ct _ (xa0) _ _ _ (xa3) ?_ ?_ ?_ ?_) ⟨(Rp.mono _ (mem_at 1 rfl) r150), (Rp.mono _ (mem_at 0 rfl) r167)⟩ ?_
                                · omega
                                · omega
                                · trivial
                                · trivial
                                rintro v168 A168 o168
                                obtain ⟨l168, rfl, o168⟩ := o168
                                have r168 := Gt.owrd _ o168
                                obtain ⟨l0x168, b1x168, c1x168, b4x168, c4x168, rfl, h0x168, h1x168, w2x168, w3x168, h4x168⟩ := gCell_rd.1 r168
                                obtain ⟨b1_0x168, c1_0x168, b2_0x168, c2_0x168, b3_0x168, c3_0x168, rfl, h1_0x168, h2_0x168, h3_0x168⟩ := gQuery_rd.1 h0x168
                                refine VC.intro ?_ ?_
                                · exact keep_sub (by simp) (by simp [setR])
                                refine call_val (eqCell_ct _ _ (cellHear xa0 xa1 xa2 xa3) (cellHear xa0 xa1 xa2 xa3)) ⟨(Rp.mono _ (mem_at 0 rfl) r168), (Rp.mono _ (mem_at 8 rfl) r126)⟩ ?_
                                rintro _ rfl
                                refine VCsplit.intro (fun q170 => ?_) (fun q170 => ?_)
                                ·
                                  simp at q170
                                ·
                                  simp at q170
                                  refine call_val (heldCell_ct _ _ _ _ ?_ ?_ ?_) (Rp.mono _ (mem_at 5 rfl) (Gt.owrd _ o146)) ?_
                                  · rfl
                                  · trivial
                                  · (have h0 := hear_sz xa0 xa1 xa2 xa3; have h1 := cell_cnt (cellHear xa0 xa1 xa2 xa3) (by omega); omega)
                                  rintro _ rfl
                                  refine VCsplit.intro (fun q172 => ?_) (fun q172 => ?_)
                                  ·
                                    simp at q172
                                    exfalso; omega
                                  ·
                                    simp at q172
                                    refine VCsplit.intro (fun q173 => ?_) (fun q173 => ?_)
                                    ·
                                      simp at q173
                                    ·
                                      simp at q173
                                      exact ⟨[], ⟨rfl, rfl⟩, (.le fun a => by (try simp only [setR, List.cons_append, List.nil_append]); simp only [List.flatten_append, List.flatten_cons, List.flatten_nil, List.count_append, List.count_nil, List.append_nil, List.nil_append]; omega)⟩
                              ·
                                exact trivial
                          ·
                            refine VC.intro ?_ ?_
                            ·
                              refine VCnew.intro fun x174 => ?_
                              refine VC.intro ?_ ?_
                              · exact keep_sub (by simp) (by simp)
                              refine call_new (toCell_ct _ (xa0) ?_) (Rp.mono _ (mem_at 8 rfl) hp0) ?_
                              · omega
                              rintro v175 A175 o175
                              obtain ⟨l175, rfl, o175⟩ := o175
                              have r175 := Gt.owrd _ o175
                              obtain ⟨l0x175, b1x175, c1x175, b4x175, c4x175, rfl, h0x175, h1x175, w2x175, w3x175, h4x175⟩ := gCell_rd.1 r175
                              obtain ⟨b1_0x175, c1_0x175, b2_0x175, c2_0x175, b3_0x175, c3_0x175, rfl, h1_0x175, h2_0x175, h3_0x175⟩ := gQuery_rd.1 h0x175
                              refine VC.intro ?_ ?_
                              · exact keep_sub (by simp) (by simp [setR])
                              refine call_new (toBag_ct _ (xa3) ?_) (Rp.mono _ (mem_at 9 rfl) hp3) ?_
                              · omega
                              rintro v176 A176 o176
                              obtain ⟨l176, rfl, o176⟩ := o176
                              have r176 := Gt.owrd _ o176
                              obtain ⟨b0x176, c0x176, rfl, h0x176⟩ := gBag_rd.1 r176
                              refine VC.intro ?_ ?_
                              · exact keep_sub (by simp) (by simp [setR])
                              refine call_new (implCellHear_ct _ (xa0) _ _ _ (xa3) ?_ ?_ ?_ ?_) ⟨(Rp.mono _ (mem_at 1 rfl) r175), (Rp.mono _ (mem_at 0 rfl) r176)⟩ ?_
                              · omega
                              · omega
                              · trivial
                              · trivial
                              rintro v177 A177 o177
                              obtain ⟨l177, rfl, o177⟩ := o177
                              have r177 := Gt.owrd _ o177
                              obtain ⟨l0x177, b1x177, c1x177, b4x177, c4x177, rfl, h0x177, h1x177, w2x177, w3x177, h4x177⟩ := gCell_rd.1 r177
                              obtain ⟨b1_0x177, c1_0x177, b2_0x177, c2_0x177, b3_0x177, c3_0x177, rfl, h1_0x177, h2_0x177, h3_0x177⟩ := gQuery_rd.1 h0x177
                              refine VC.intro ?_ ?_
                              · exact keep_sub (by simp) (by simp [setR])
                              refine call_val (eqCell_ct _ _ (cellHear xa0 xa1 xa2 xa3) (cellHear xa0 xa1 xa2 xa3)) ⟨(Rp.mono _ (mem_at 0 rfl) r177), (Rp.mono _ (mem_at 8 rfl) r126)⟩ ?_
                              rintro _ rfl
                              refine VCsplit.intro (fun q179 => ?_) (fun q179 => ?_)
                              ·
                                simp at q179
                              ·
                                simp at q179
                                refine call_val (heldCell_ct _ _ _ _ ?_ ?_ ?_) (Rp.mono _ (mem_at 5 rfl) (Gt.owrd _ o146)) ?_
                                · rfl
                                · trivial
                                · (have h0 := hear_sz xa0 xa1 xa2 xa3; have h1 := cell_cnt (cellHear xa0 xa1 xa2 xa3) (by omega); omega)
                                rintro _ rfl
                                refine VCsplit.intro (fun q181 => ?_) (fun q181 => ?_)
                                ·
                                  simp at q181
                                  exfalso; omega
                                ·
                                  simp at q181
                                  refine VCsplit.intro (fun q182 => ?_) (fun q182 => ?_)
                                  ·
                                    simp at q182
                                  ·
                                    simp at q182
                                    exact ⟨[], ⟨rfl, rfl⟩, (.le fun a => by (try simp only [setR, List.cons_append, List.nil_append]); simp only [List.flatten_append, List.flatten_cons, List.flatten_nil, List.count_append, List.count_nil, List.append_nil, List.nil_append]; omega)⟩
                            ·
                              exact trivial
          ·
            exact trivial
      ·
        refine VC.intro ?_ ?_
        ·
          refine VCnew.intro fun x183 => ?_
          refine VC.intro ?_ ?_
          · exact keep_sub (by simp) (by simp)
          refine call_new (toCell_ct _ (xa0) ?_) (Rp.mono _ (mem_at 0 rfl) hp0) ?_
          · omega
          rintro v184 A184 o184
          obtain ⟨l184, rfl, o184⟩ := o184
          have r184 := Gt.owrd _ o184
          obtain ⟨l0x184, b1x184, c1x184, b4x184, c4x184, rfl, h0x184, h1x184, w2x184, w3x184, h4x184⟩ := gCell_rd.1 r184
          obtain ⟨b1_0x184, c1_0x184, b2_0x184, c2_0x184, b3_0x184, c3_0x184, rfl, h1_0x184, h2_0x184, h3_0x184⟩ := gQuery_rd.1 h0x184
          refine VC.intro ?_ ?_
          · exact keep_sub (by simp) (by simp)
          refine call_new (toBag_ct _ (xa3) ?_) (Rp.mono _ (mem_at 1 rfl) hp3) ?_
          · omega
          rintro v185 A185 o185
          obtain ⟨l185, rfl, o185⟩ := o185
          have r185 := Gt.owrd _ o185
          obtain ⟨b0x185, c0x185, rfl, h0x185⟩ := gBag_rd.1 r185
          refine VC.intro ?_ ?_
          · exact keep_sub (by simp) (by simp)
          refine call_new (specCellHear_ct _ (xa0) _ _ _ (xa3) ?_ ?_ ?_ ?_) ⟨(Rp.mono _ (mem_at 1 rfl) r184), (Rp.mono _ (mem_at 0 rfl) r185)⟩ ?_
          · omega
          · omega
          · trivial
          · trivial
          rintro v186 A186 o186
          obtain ⟨l186, rfl, o186⟩ := o186
          have r186 := Gt.owrd _ o186
          obtain ⟨l0x186, b1x186, c1x186, b4x186, c4x186, rfl, h0x186, h1x186, w2x186, w3x186, h4x186⟩ := gCell_rd.1 r186
          obtain ⟨b1_0x186, c1_0x186, b2_0x186, c2_0x186, b3_0x186, c3_0x186, rfl, h1_0x186, h2_0x186, h3_0x186⟩ := gQuery_rd.1 h0x186
          refine VC.intro ?_ ?_
          · exact keep_sub (by simp) (by simp)
          refine call_new (toCell_ct _ (xa0) ?_) (Rp.mono _ (mem_at 3 rfl) hp0) ?_
          · omega
          rintro v187 A187 o187
          obtain ⟨l187, rfl, o187⟩ := o187
          have r187 := Gt.owrd _ o187
          obtain ⟨l0x187, b1x187, c1x187, b4x187, c4x187, rfl, h0x187, h1x187, w2x187, w3x187, h4x187⟩ := gCell_rd.1 r187
          obtain ⟨b1_0x187, c1_0x187, b2_0x187, c2_0x187, b3_0x187, c3_0x187, rfl, h1_0x187, h2_0x187, h3_0x187⟩ := gQuery_rd.1 h0x187
          refine VCnew.intro fun x188 => ?_
          refine call_new (toBag_ct _ (xa3) ?_) (Rp.mono _ (mem_at 4 rfl) hp3) ?_
          · omega
          rintro v189 A189 o189
          obtain ⟨l189, rfl, o189⟩ := o189
          have r189 := Gt.owrd _ o189
          obtain ⟨b0x189, c0x189, rfl, h0x189⟩ := gBag_rd.1 r189
          refine VCnew.intro fun x190 => ?_
          refine call_new (implCellHear_ct _ (xa0) _ _ _ (xa3) ?_ ?_ ?_ ?_) ⟨(Rp.mono _ (mem_at 1 rfl) r187), (Rp.mono _ (mem_at 0 rfl) r189)⟩ ?_
          · omega
          · omega
          · trivial
          · trivial
          rintro v191 A191 o191
          obtain ⟨l191, rfl, o191⟩ := o191
          have r191 := Gt.owrd _ o191
          obtain ⟨l0x191, b1x191, c1x191, b4x191, c4x191, rfl, h0x191, h1x191, w2x191, w3x191, h4x191⟩ := gCell_rd.1 r191
          obtain ⟨b1_0x191, c1_0x191, b2_0x191, c2_0x191, b3_0x191, c3_0x191, rfl, h1_0x191, h2_0x191, h3_0x191⟩ := gQuery_rd.1 h0x191
          refine VCnew.intro fun x192 => ?_
          refine call_val (eqCell_ct _ _ (cellHear xa0 xa1 xa2 xa3) (cellHear xa0 xa1 xa2 xa3)) ⟨(Rp.mono _ (mem_at 0 rfl) r191), (Rp.mono _ (mem_at 3 rfl) r186)⟩ ?_
          rintro _ rfl
          refine VCsplit.intro (fun q194 => ?_) (fun q194 => ?_)
          ·
            simp at q194
          ·
            simp at q194
            refine draw G_ok mixed none (.q 0 (.q 1 (.f 2 (.f 3 (.q 4 (.nil)))))) (by decide +kernel) ?_
            refine call_new (toCell_ct _ (xa0) ?_) (Rp.mono _ (mem_at 6 rfl) hp0) ?_
            · omega
            rintro v195 A195 o195
            obtain ⟨l195, rfl, o195⟩ := o195
            have r195 := Gt.owrd _ o195
            obtain ⟨l0x195, b1x195, c1x195, b4x195, c4x195, rfl, h0x195, h1x195, w2x195, w3x195, h4x195⟩ := gCell_rd.1 r195
            obtain ⟨b1_0x195, c1_0x195, b2_0x195, c2_0x195, b3_0x195, c3_0x195, rfl, h1_0x195, h2_0x195, h3_0x195⟩ := gQuery_rd.1 h0x195
            refine VC.intro ?_ ?_
            · exact keep_new
            refine call_val (eqCell_ct _ _ (xa0) (xa0)) ⟨(Rp.mono _ (mem_at 3 rfl) r187), (Rp.mono _ (mem_at 0 rfl) r195)⟩ ?_
            rintro _ rfl
            refine VC.intro ?_ ?_
            · exact keep_new
            refine VCsplit.intro (fun q197 => ?_) (fun q197 => ?_)
            ·
              simp at q197
            ·
              simp at q197
              refine draw G_ok mixed none (.q 0 (.q 1 (.f 2 (.f 3 (.q 4 (.nil)))))) (by decide +kernel) ?_
              refine call_new (toBag_ct _ (xa3) ?_) (Rp.mono _ (mem_at 7 rfl) hp3) ?_
              · omega
              rintro v198 A198 o198
              obtain ⟨l198, rfl, o198⟩ := o198
              have r198 := Gt.owrd _ o198
              obtain ⟨b0x198, c0x198, rfl, h0x198⟩ := gBag_rd.1 r198
              refine VC.intro ?_ ?_
              · exact keep_new
              refine call_val (eqBag_ct _ _ (xa3) (xa3)) ⟨(Rp.mono _ (mem_at 3 rfl) r189), (Rp.mono _ (mem_at 0 rfl) r198)⟩ ?_
              rintro _ rfl
              refine VC.intro ?_ ?_
              · exact keep_new
              refine VCsplit.intro (fun q200 => ?_) (fun q200 => ?_)
              ·
                simp at q200
              ·
                simp at q200
                refine callR_at 4 rfl (markCell_ct _ _ _ _ o187 ?_ ?_) trivial ?_
                · trivial
                · (have h1 := cell_cnt xa0 (by omega); omega)
                rintro _ A201 ⟨rfl, o201⟩
                refine callR_at 3 rfl (markBag_ct _ _ _ _ o189 ?_ ?_) trivial ?_
                · omega
                · (have h1 := cell_cnt xa0 (by omega); have h2 := bag_cnt xa3 (by omega); omega)
                rintro _ A202 ⟨rfl, o202⟩
                refine VCsplit.intro (fun q203 => ?_) (fun q203 => ?_)
                ·
                  simp at q203
                  exfalso; omega
                ·
                  simp at q203
                  refine call_val (eqCell_ct _ _ (cellHear xa0 xa1 xa2 xa3) (cellHear xa0 xa1 xa2 xa3)) ⟨(Rp.mono _ (mem_at 2 rfl) r191), (Rp.mono _ (mem_at 5 rfl) r186)⟩ ?_
                  rintro _ rfl
                  refine VCsplit.intro (fun q205 => ?_) (fun q205 => ?_)
                  ·
                    simp at q205
                  ·
                    simp at q205
                    refine callR_at 2 rfl (markCell_ct _ _ _ _ o191 ?_ ?_) trivial ?_
                    · trivial
                    · (have h0 := hear_sz xa0 xa1 xa2 xa3; have h1 := cell_cnt (cellHear xa0 xa1 xa2 xa3) (by omega); omega)
                    rintro _ A206 ⟨rfl, o206⟩
                    refine call_val (heldCell_ct _ _ _ _ ?_ ?_ ?_) (Rp.mono _ (mem_at 2 rfl) (Gt.owrd _ o206)) ?_
                    · rfl
                    · trivial
                    · (have h0 := hear_sz xa0 xa1 xa2 xa3; have h1 := cell_cnt (cellHear xa0 xa1 xa2 xa3) (by omega); omega)
                    rintro _ rfl
                    refine VCsplit.intro (fun q208 => ?_) (fun q208 => ?_)
                    ·
                      simp at q208
                      exfalso; omega
                    ·
                      simp at q208
                      refine VCsplit.intro (fun q209 => ?_) (fun q209 => ?_)
                      ·
                        simp at q209
                      ·
                        simp at q209
                        refine draw G_ok mixed (some 8) (.q 0 (.q 2 (.q 3 (.q 4 (.hd (.alt 1 (.hd (.alt 5 (.hd (.alt 6 (.f 7 (.tl 8 (.nil))) (.alt 7 (.f 6 (.tl 8 (.nil))) (.nil)))) (.alt 7 (.f 5 (.f 6 (.tl 8 (.nil)))) (.nil)))) (.alt 7 (.f 1 (.f 5 (.f 6 (.tl 8 (.nil))))) (.nil)))))))) (by decide +kernel) ?_
                        refine VC.intro ?_ ?_
                        ·
                          refine call_new (toCell_ct _ (xa0) ?_) (Rp.mono _ (mem_at 8 rfl) hp0) ?_
                          · omega
                          rintro v210 A210 o210
                          obtain ⟨l210, rfl, o210⟩ := o210
                          have r210 := Gt.owrd _ o210
                          obtain ⟨l0x210, b1x210, c1x210, b4x210, c4x210, rfl, h0x210, h1x210, w2x210, w3x210, h4x210⟩ := gCell_rd.1 r210
                          obtain ⟨b1_0x210, c1_0x210, b2_0x210, c2_0x210, b3_0x210, c3_0x210, rfl, h1_0x210, h2_0x210, h3_0x210⟩ := gQuery_rd.1 h0x210
                          refine VC.intro ?_ ?_
                          · exact keep_new
                          refine VC.intro ?_ ?_
                          ·
                            refine call_new (toBag_ct _ (xa3) ?_) (Rp.mono _ (mem_at 9 rfl) hp3) ?_
                            · omega
                            rintro v211 A211 o211
                            obtain ⟨l211, rfl, o211⟩ := o211
                            have r211 := Gt.owrd _ o211
                            obtain ⟨b0x211, c0x211, rfl, h0x211⟩ := gBag_rd.1 r211
                            refine VC.intro ?_ ?_
                            · exact keep_sub (by simp) (by simp [setR])
                            refine VC.intro ?_ ?_
                            ·
                              refine call_new (implCellHear_ct _ (xa0) _ _ _ (xa3) ?_ ?_ ?_ ?_) ⟨(Rp.mono _ (mem_at 1 rfl) r210), (Rp.mono _ (mem_at 0 rfl) r211)⟩ ?_
                              · omega
                              · omega
                              · trivial
                              · trivial
                              rintro v212 A212 o212
                              obtain ⟨l212, rfl, o212⟩ := o212
                              have r212 := Gt.owrd _ o212
                              obtain ⟨l0x212, b1x212, c1x212, b4x212, c4x212, rfl, h0x212, h1x212, w2x212, w3x212, h4x212⟩ := gCell_rd.1 r212
                              obtain ⟨b1_0x212, c1_0x212, b2_0x212, c2_0x212, b3_0x212, c3_0x212, rfl, h1_0x212, h2_0x212, h3_0x212⟩ := gQuery_rd.1 h0x212
                              refine VC.intro ?_ ?_
                              · exact keep_sub (by simp) (by simp [setR])
                              refine VCnew.intro fun x213 => ?_
                              refine VC.intro ?_ ?_
                              · exact keep_sub (by simp) (by simp [setR])
                              refine call_val (eqCell_ct _ _ (cellHear xa0 xa1 xa2 xa3) (cellHear xa0 xa1 xa2 xa3)) ⟨(Rp.mono _ (mem_at 0 rfl) r212), (Rp.mono _ (mem_at 8 rfl) r186)⟩ ?_
                              rintro _ rfl
                              refine VCsplit.intro (fun q215 => ?_) (fun q215 => ?_)
                              ·
                                simp at q215
                              ·
                                simp at q215
                                refine call_val (heldCell_ct _ _ _ _ ?_ ?_ ?_) (Rp.mono _ (mem_at 5 rfl) (Gt.owrd _ o206)) ?_
                                · rfl
                                · trivial
                                · (have h0 := hear_sz xa0 xa1 xa2 xa3; have h1 := cell_cnt (cellHear xa0 xa1 xa2 xa3) (by omega); omega)
                                rintro _ rfl
                                refine VCsplit.intro (fun q217 => ?_) (fun q217 => ?_)
                                ·
                                  simp at q217
                                  exfalso; omega
                                ·
                                  simp at q217
                                  refine VCsplit.intro (fun q218 => ?_) (fun q218 => ?_)
                                  ·
                                    simp at q218
                                  ·
                                    simp at q218
                                    exact ⟨[], ⟨rfl, rfl⟩, (.le fun a => by (try simp only [setR, List.cons_append, List.nil_append]); simp only [List.flatten_append, List.flatten_cons, List.flatten_nil, List.count_append, List.count_nil, List.append_nil, List.nil_append]; omega)⟩
                            ·
                              refine VC.intro ?_ ?_
                              ·
                                refine VCnew.intro fun x219 => ?_
                                refine VC.intro ?_ ?_
                                · exact keep_sub (by simp) (by simp [setR])
                                refine call_new (implCellHear_ct _ (xa0) _ _ _ (xa3) ?_ ?_ ?_ ?_) ⟨(Rp.mono _ (mem_at 1 rfl) r210), (Rp.mono _ (mem_at 0 rfl) r211)⟩ ?_
                                · omega
                                · omega
                                · trivial
                                · trivial
                                rintro v220 A220 o220
                                obtain ⟨l220, rfl, o220⟩ := o220
                                have r220 := Gt.owrd _ o220
                                obtain ⟨l0x220, b1x220, c1x220, b4x220, c4x220, rfl, h0x220, h1x220, w2x220, w3x220, h4x220⟩ := gCell_rd.1 r220
                                obtain ⟨b1_0x220, c1_0x220, b2_0x220, c2_0x220, b3_0x220, c3_0x220, rfl, h1_0x220, h2_0x220, h3_0x220⟩ := gQuery_rd.1 h0x220
                                refine VC.intro ?_ ?_
                                · exact keep_sub (by simp) (by simp [setR])
                                refine call_val (eqCell_ct _ _ (cellHear xa0 xa1 xa2 xa3) (cellHear xa0 xa1 xa2 xa3)) ⟨(Rp.mono _ (mem_at 0 rfl) r220), (Rp.mono _ (mem_at 8 rfl) r186)⟩ ?_
                                rintro _ rfl
                                refine VCsplit.intro (fun q222 => ?_) (fun q222 => ?_)
                                ·
                                  simp at q222
                                ·
                                  simp at q222
                                  refine call_val (heldCell_ct _ _ _ _ ?_ ?_ ?_) (Rp.mono _ (mem_at 5 rfl) (Gt.owrd _ o206)) ?_
                                  · rfl
                                  · trivial
                                  · (have h0 := hear_sz xa0 xa1 xa2 xa3; have h1 := cell_cnt (cellHear xa0 xa1 xa2 xa3) (by omega); omega)
                                  rintro _ rfl
                                  refine VCsplit.intro (fun q224 => ?_) (fun q224 => ?_)
                                  ·
                                    simp at q224
                                    exfalso; omega
                                  ·
                                    simp at q224
                                    refine VCsplit.intro (fun q225 => ?_) (fun q225 => ?_)
                                    ·
                                      simp at q225
                                    ·
                                      simp at q225
                                      exact ⟨[], ⟨rfl, rfl⟩, (.le fun a => by (try simp only [setR, List.cons_append, List.nil_append]); simp only [List.flatten_append, List.flatten_cons, List.flatten_nil, List.count_append, List.count_nil, List.append_nil, List.nil_append]; omega)⟩
                              ·
                                exact trivial
                          ·
                            refine VC.intro ?_ ?_
                            ·
                              refine VCnew.intro fun x226 => ?_
                              refine VC.intro ?_ ?_
                              · exact keep_sub (by simp) (by simp [setR])
                              refine call_new (toBag_ct _ (xa3) ?_) (Rp.mono _ (mem_at 9 rfl) hp3) ?_
                              · omega
                              rintro v227 A227 o227
                              obtain ⟨l227, rfl, o227⟩ := o227
                              have r227 := Gt.owrd _ o227
                              obtain ⟨b0x227, c0x227, rfl, h0x227⟩ := gBag_rd.1 r227
                              refine VC.intro ?_ ?_
                              · exact keep_sub (by simp) (by simp [setR])
                              refine call_new (implCellHear_ct _ (xa0) _ _ _ (xa3) ?_ ?_ ?_ ?_) ⟨(Rp.mono _ (mem_at 1 rfl) r210), (Rp.mono _ (mem_at 0 rfl) r227)⟩ ?_
                              · omega
                              · omega
                              · trivial
                              · trivial
                              rintro v228 A228 o228
                              obtain ⟨l228, rfl, o228⟩ := o228
                              have r228 := Gt.owrd _ o228
                              obtain ⟨l0x228, b1x228, c1x228, b4x228, c4x228, rfl, h0x228, h1x228, w2x228, w3x228, h4x228⟩ := gCell_rd.1 r228
                              obtain ⟨b1_0x228, c1_0x228, b2_0x228, c2_0x228, b3_0x228, c3_0x228, rfl, h1_0x228, h2_0x228, h3_0x228⟩ := gQuery_rd.1 h0x228
                              refine VC.intro ?_ ?_
                              · exact keep_sub (by simp) (by simp [setR])
                              refine call_val (eqCell_ct _ _ (cellHear xa0 xa1 xa2 xa3) (cellHear xa0 xa1 xa2 xa3)) ⟨(Rp.mono _ (mem_at 0 rfl) r228), (Rp.mono _ (mem_at 8 rfl) r186)⟩ ?_
                              rintro _ rfl
                              refine VCsplit.intro (fun q230 => ?_) (fun q230 => ?_)
                              ·
                                simp at q230
                              ·
                                simp at q230
                                refine call_val (heldCell_ct _ _ _ _ ?_ ?_ ?_) (Rp.mono _ (mem_at 5 rfl) (Gt.owrd _ o206)) ?_
                                · rfl
                                · trivial
                                · (have h0 := hear_sz xa0 xa1 xa2 xa3; have h1 := cell_cnt (cellHear xa0 xa1 xa2 xa3) (by omega); omega)
                                rintro _ rfl
                                refine VCsplit.intro (fun q232 => ?_) (fun q232 => ?_)
                                ·
                                  simp at q232
                                  exfalso; omega
                                ·
                                  simp at q232
                                  refine VCsplit.intro (fun q233 => ?_) (fun q233 => ?_)
                                  ·
                                    simp at q233
                                  ·
                                    simp at q233
                                    exact ⟨[], ⟨rfl, rfl⟩, (.le fun a => by (try simp only [setR, List.cons_append, List.nil_append]); simp only [List.flatten_append, List.flatten_cons, List.flatten_nil, List.count_append, List.count_nil, List.append_nil, List.nil_append]; omega)⟩
                            ·
                              exact trivial
                        ·
                          refine VC.intro ?_ ?_
                          ·
                            refine VCnew.intro fun x234 => ?_
                            refine VC.intro ?_ ?_
                            · exact keep_sub (by simp) (by simp)
                            refine call_new (toCell_ct _ (xa0) ?_) (Rp.mono _ (mem_at 8 rfl) hp0) ?_
                            · omega
                            rintro v235 A235 o235
                            obtain ⟨l235, rfl, o235⟩ := o235
                            have r235 := Gt.owrd _ o235
                            obtain ⟨l0x235, b1x235, c1x235, b4x235, c4x235, rfl, h0x235, h1x235, w2x235, w3x235, h4x235⟩ := gCell_rd.1 r235
                            obtain ⟨b1_0x235, c1_0x235, b2_0x235, c2_0x235, b3_0x235, c3_0x235, rfl, h1_0x235, h2_0x235, h3_0x235⟩ := gQuery_rd.1 h0x235
                            refine VC.intro ?_ ?_
                            · exact keep_sub (by simp) (by simp [setR])
                            refine call_new (toBag_ct _ (xa3) ?_) (Rp.mono _ (mem_at 9 rfl) hp3) ?_
                            · omega
                            rintro v236 A236 o236
                            obtain ⟨l236, rfl, o236⟩ := o236
                            have r236 := Gt.owrd _ o236
                            obtain ⟨b0x236, c0x236, rfl, h0x236⟩ := gBag_rd.1 r236
                            refine VC.intro ?_ ?_
                            · exact keep_sub (by simp) (by simp [setR])
                            refine call_new (implCellHear_ct _ (xa0) _ _ _ (xa3) ?_ ?_ ?_ ?_) ⟨(Rp.mono _ (mem_at 1 rfl) r235), (Rp.mono _ (mem_at 0 rfl) r236)⟩ ?_
                            · omega
                            · omega
                            · trivial
                            · trivial
                            rintro v237 A237 o237
                            obtain ⟨l237, rfl, o237⟩ := o237
                            have r237 := Gt.owrd _ o237
                            obtain ⟨l0x237, b1x237, c1x237, b4x237, c4x237, rfl, h0x237, h1x237, w2x237, w3x237, h4x237⟩ := gCell_rd.1 r237
                            obtain ⟨b1_0x237, c1_0x237, b2_0x237, c2_0x237, b3_0x237, c3_0x237, rfl, h1_0x237, h2_0x237, h3_0x237⟩ := gQuery_rd.1 h0x237
                            refine VC.intro ?_ ?_
                            · exact keep_sub (by simp) (by simp [setR])
                            refine call_val (eqCell_ct _ _ (cellHear xa0 xa1 xa2 xa3) (cellHear xa0 xa1 xa2 xa3)) ⟨(Rp.mono _ (mem_at 0 rfl) r237), (Rp.mono _ (mem_at 8 rfl) r186)⟩ ?_
                            rintro _ rfl
                            refine VCsplit.intro (fun q239 => ?_) (fun q239 => ?_)
                            ·
                              simp at q239
                            ·
                              simp at q239
                              refine call_val (heldCell_ct _ _ _ _ ?_ ?_ ?_) (Rp.mono _ (mem_at 5 rfl) (Gt.owrd _ o206)) ?_
                              · rfl
                              · trivial
                              · (have h0 := hear_sz xa0 xa1 xa2 xa3; have h1 := cell_cnt (cellHear xa0 xa1 xa2 xa3) (by omega); omega)
                              rintro _ rfl
                              refine VCsplit.intro (fun q241 => ?_) (fun q241 => ?_)
                              ·
                                simp at q241
                                exfalso; omega
                              ·
                                simp at q241
                                refine VCsplit.intro (fun q242 => ?_) (fun q242 => ?_)
                                ·
                                  simp at q242
                                ·
                                  simp at q242
                                  exact ⟨[], ⟨rfl, rfl⟩, (.le fun a => by (try simp only [setR, List.cons_append, List.nil_append]); simp only [List.flatten_append, List.flatten_cons, List.flatten_nil, List.count_append, List.count_nil, List.append_nil, List.nil_append]; omega)⟩
                          ·
                            exact trivial
        ·
          exact trivial

end Go.Proofs.Ytcikookachejfaa
