/-
  The two workers after the token are the same. Conditions: none.
-/
import Derived.Test.YtohafcffenoegaaGreatIq
import Derived.Test.YtohafcffenoegaaGreatGd
namespace Go.Proofs.YtohafcffenoegaaGreat
open Go.SX Go.Proofs
set_option linter.unusedSimpArgs false
set_option linter.unusedVariables false
set_option maxHeartbeats 8000000

theorem work_cnt (x : Work) (h : gWork.sz x ≤ 1048576) : (gWork.cntV x : Int) ≤ 1100000000 := by
  have h1 := gWork.cntV_le x
  have h2 : gWork.w ≤ 1000 := by decide
  have := Nat.mul_le_mul h2 (show 1 + gWork.sz x ≤ 1048577 by omega)
  omega
theorem tick_cnt (w : Work) (id : Int) (h : gWork.sz w ≤ 1048576) : (gWork.cntV (tickW w id) : Int) ≤ 1100000000 := by
  have e : gWork.cntV (tickW w id) = gWork.cntV w := by
    unfold tickW; repeat' split
    all_goals rfl
  rw [e]; exact work_cnt w h
theorem cntL_app {α : Type} (g : Gt α) : ∀ xs ys : List α, cntL g (xs ++ ys) = cntL g xs + cntL g ys
  | [], ys => by simp [cntL]
  | x :: xs, ys => by
    show g.cnt x + cntL g (xs ++ ys) = g.cnt x + cntL g xs + cntL g ys
    rw [cntL_app g xs ys, Nat.add_assoc]
theorem walkMails_cnt : ∀ k, cntL gMail (walkMails k) = k * gMail.cnt ⟨0, lWalked⟩
  | 0 => by rw [Nat.zero_mul]; rfl
  | k + 1 => by
    rw [walkMails, cntL_app, walkMails_cnt k, Nat.succ_mul]; rfl
theorem tickM_cnt (w : Work) (id : Int) : (cntL gMail (tickM w id) : Int) ≤ 1000000 := by
  unfold tickM
  split
  · exact Int.natCast_nonneg 1000000
  · split
    · rename_i h1 h2
      have h3 := tickOk_iff.1 (by simpa using h1 : tickOk w id = true)
      rw [walkMails_cnt]
      have h4 : gMail.cnt ⟨0, lWalked⟩ ≤ 100 := by decide
      have h5 : (w.count - 1).toNat ≤ 8 := by omega
      have := Nat.mul_le_mul h5 h4
      omega
    · split
      · exact Int.natCast_nonneg 1000000
      · have hm : ∀ p n b, cntL gMail [⟨p, lToken n b⟩] ≤ 100 := fun _ _ _ => by show gMail.cnt ⟨0, lToken 0 false⟩ + 0 ≤ 100; decide
        split
        · have := hm (IntKind.i64.wrap (id.tmod w.count + 1)) 0 false
          omega
        · have := hm (IntKind.i64.wrap (id.tmod w.count + 1)) (IntKind.i64.wrap (w.tokNum + w.num)) (w.tokBlack || w.black)
          omega
attribute [local irreducible] tickW tickM
theorem fnExactTickWork_ct (v0 v1 : Value) :
    Ct Tryz.prog 4 [v0, v1] [] (fun H => (∃ x, rdV true gWork.toRp H v0 x) ∧ (∃ x, rdV false gI.toRp H v1 x)) (fun v A => v = .bool true ∧ A = []) := by
  refine Ct.intro0 G_ok Tryz.func4 rfl rfl rfl fun E H hp => ?_
  obtain ⟨⟨xa0, hp0⟩, ⟨xa1, hp1⟩⟩ := hp
  obtain ⟨la0, rfl, hp0⟩ := hp0
  obtain ⟨l1a0, b2a0, c2a0, b4a0, c4a0, l11a0, b13a0, c13a0, rfl, h1a0, h2a0, w3a0, h4a0, w5a0, w8a0, h11a0, h13a0⟩ := gWork_rd.1 hp0
  obtain ⟨b1_1a0, c1_1a0, b2_1a0, c2_1a0, b3_1a0, c3_1a0, rfl, h1_1a0, h2_1a0, h3_1a0⟩ := gQuery_rd.1 h1a0
  obtain ⟨l0_11a0, b1_11a0, c1_11a0, b4_11a0, c4_11a0, rfl, h0_11a0, h1_11a0, w2_11a0, w3_11a0, h4_11a0⟩ := gCell_rd.1 h11a0
  obtain ⟨b1_0_11a0, c1_0_11a0, b2_0_11a0, c2_0_11a0, b3_0_11a0, c3_0_11a0, rfl, h1_0_11a0, h2_0_11a0, h3_0_11a0⟩ := gQuery_rd.1 h0_11a0
  obtain ⟨ea1, wa1⟩ := hp1; cases ea1
  refine VCnew.intro fun x0 => ?_
  refine call_q (szWork_ct _ (xa0) _ ?_ ?_) (Rp.mono _ (mem_at 0 rfl) hp0) ?_
  · trivial
  · trivial
  rintro _ ⟨r1, rfl, hr1⟩
  refine VCsplit.intro (fun q2 => ?_) (fun q2 => ?_)
  ·
    simp at q2
    exact ⟨[], ⟨rfl, rfl⟩, (.le fun a => by (try simp only [setR, List.cons_append, List.nil_append]); simp only [List.flatten_append, List.flatten_cons, List.flatten_nil, List.count_append, List.count_nil, List.append_nil, List.nil_append]; omega)⟩
  ·
    simp at q2
    refine call_new (toWork_ct _ (xa0) ?_) (Rp.mono _ (mem_at 0 rfl) hp0) ?_
    · omega
    rintro v3 A3 o3
    obtain ⟨l3, rfl, o3⟩ := o3
    have r3 := Gt.owrd _ o3
    obtain ⟨l1x3, b2x3, c2x3, b4x3, c4x3, l11x3, b13x3, c13x3, rfl, h1x3, h2x3, w3x3, h4x3, w5x3, w8x3, h11x3, h13x3⟩ := gWork_rd.1 r3
    obtain ⟨b1_1x3, c1_1x3, b2_1x3, c2_1x3, b3_1x3, c3_1x3, rfl, h1_1x3, h2_1x3, h3_1x3⟩ := gQuery_rd.1 h1x3
    obtain ⟨l0_11x3, b1_11x3, c1_11x3, b4_11x3, c4_11x3, rfl, h0_11x3, h1_11x3, w2_11x3, w3_11x3, h4_11x3⟩ := gCell_rd.1 h11x3
    obtain ⟨b1_0_11x3, c1_0_11x3, b2_0_11x3, c2_0_11x3, b3_0_11x3, c3_0_11x3, rfl, h1_0_11x3, h2_0_11x3, h3_0_11x3⟩ := gQuery_rd.1 h0_11x3
    refine call_newP (specTickWork_ct _ (xa0) _ ?_ ?_) (Rp.mono _ (mem_at 0 rfl) r3) ?_
    · omega
    · trivial
    rintro v4 A4 o4
    obtain ⟨l4, b4, c4, A4y, A4z, rfl, hp4, o4y, o4z⟩ := o4
    refine ⟨[A4y, A4z], hp4, ?_⟩
    have r4 := Gt.owrd _ o4y
    obtain ⟨l1x4, b2x4, c2x4, b4x4, c4x4, l11x4, b13x4, c13x4, rfl, h1x4, h2x4, w3x4, h4x4, w5x4, w8x4, h11x4, h13x4⟩ := gWork_rd.1 r4
    obtain ⟨b1_1x4, c1_1x4, b2_1x4, c2_1x4, b3_1x4, c3_1x4, rfl, h1_1x4, h2_1x4, h3_1x4⟩ := gQuery_rd.1 h1x4
    obtain ⟨l0_11x4, b1_11x4, c1_11x4, b4_11x4, c4_11x4, rfl, h0_11x4, h1_11x4, w2_11x4, w3_11x4, h4_11x4⟩ := gCell_rd.1 h11x4
    obtain ⟨b1_0_11x4, c1_0_11x4, b2_0_11x4, c2_0_11x4, b3_0_11x4, c3_0_11x4, rfl, h1_0_11x4, h2_0_11x4, h3_0_11x4⟩ := gQuery_rd.1 h0_11x4
    refine VCnew.intro fun x5 => ?_
    refine call_new (toWork_ct _ (xa0) ?_) (Rp.mono _ (mem_at 3 rfl) hp0) ?_
    · omega
    rintro v6 A6 o6
    obtain ⟨l6, rfl, o6⟩ := o6
    have r6 := Gt.owrd _ o6
    obtain ⟨l1x6, b2x6, c2x6, b4x6, c4x6, l11x6, b13x6, c13x6, rfl, h1x6, h2x6, w3x6, h4x6, w5x6, w8x6, h11x6, h13x6⟩ := gWork_rd.1 r6
    obtain ⟨b1_1x6, c1_1x6, b2_1x6, c2_1x6, b3_1x6, c3_1x6, rfl, h1_1x6, h2_1x6, h3_1x6⟩ := gQuery_rd.1 h1x6
    obtain ⟨l0_11x6, b1_11x6, c1_11x6, b4_11x6, c4_11x6, rfl, h0_11x6, h1_11x6, w2_11x6, w3_11x6, h4_11x6⟩ := gCell_rd.1 h11x6
    obtain ⟨b1_0_11x6, c1_0_11x6, b2_0_11x6, c2_0_11x6, b3_0_11x6, c3_0_11x6, rfl, h1_0_11x6, h2_0_11x6, h3_0_11x6⟩ := gQuery_rd.1 h0_11x6
    refine VCnew.intro fun x7 => ?_
    refine call_newP (implTickWork_ct _ (xa0) _ ?_ ?_) (Rp.mono _ (mem_at 0 rfl) r6) ?_
    · omega
    · trivial
    rintro v8 A8 o8
    obtain ⟨l8, b8, c8, A8y, A8z, rfl, hp8, o8y, o8z⟩ := o8
    refine ⟨[A8y, A8z], hp8, ?_⟩
    have r8 := Gt.owrd _ o8y
    obtain ⟨l1x8, b2x8, c2x8, b4x8, c4x8, l11x8, b13x8, c13x8, rfl, h1x8, h2x8, w3x8, h4x8, w5x8, w8x8, h11x8, h13x8⟩ := gWork_rd.1 r8
    obtain ⟨b1_1x8, c1_1x8, b2_1x8, c2_1x8, b3_1x8, c3_1x8, rfl, h1_1x8, h2_1x8, h3_1x8⟩ := gQuery_rd.1 h1x8
    obtain ⟨l0_11x8, b1_11x8, c1_11x8, b4_11x8, c4_11x8, rfl, h0_11x8, h1_11x8, w2_11x8, w3_11x8, h4_11x8⟩ := gCell_rd.1 h11x8
    obtain ⟨b1_0_11x8, c1_0_11x8, b2_0_11x8, c2_0_11x8, b3_0_11x8, c3_0_11x8, rfl, h1_0_11x8, h2_0_11x8, h3_0_11x8⟩ := gQuery_rd.1 h0_11x8
    refine VCnew.intro fun x9 => ?_
    refine call_val (eqWork_ct _ _ (tickW xa0 xa1) (tickW xa0 xa1)) ⟨(Rp.mono _ (mem_at 0 rfl) r8), (Rp.mono _ (mem_at 3 rfl) r4)⟩ ?_
    rintro _ rfl
    refine VCsplit.intro (fun q11 => ?_) (fun q11 => ?_)
    ·
      simp at q11
    ·
      simp at q11
      refine call_val (eqMailS_ct _ _ _ _ _ _ (tickM xa0 xa1) (tickM xa0 xa1)) ⟨(Rp.mono _ (mem_at 1 rfl) (Gt.owrd _ o8z)), (Rp.mono _ (mem_at 4 rfl) (Gt.owrd _ o4z))⟩ ?_
      rintro _ rfl
      refine VCsplit.intro (fun q13 => ?_) (fun q13 => ?_)
      ·
        simp at q13
      ·
        simp at q13
        refine draw G_ok mixed none (.q 0 (.q 1 (.f 2 (.f 3 (.q 4 (.nil)))))) (by decide +kernel) ?_
        refine call_new (toWork_ct _ (xa0) ?_) (Rp.mono _ (mem_at 6 rfl) hp0) ?_
        · omega
        rintro v14 A14 o14
        obtain ⟨l14, rfl, o14⟩ := o14
        have r14 := Gt.owrd _ o14
        obtain ⟨l1x14, b2x14, c2x14, b4x14, c4x14, l11x14, b13x14, c13x14, rfl, h1x14, h2x14, w3x14, h4x14, w5x14, w8x14, h11x14, h13x14⟩ := gWork_rd.1 r14
        obtain ⟨b1_1x14, c1_1x14, b2_1x14, c2_1x14, b3_1x14, c3_1x14, rfl, h1_1x14, h2_1x14, h3_1x14⟩ := gQuery_rd.1 h1x14
        obtain ⟨l0_11x14, b1_11x14, c1_11x14, b4_11x14, c4_11x14, rfl, h0_11x14, h1_11x14, w2_11x14, w3_11x14, h4_11x14⟩ := gCell_rd.1 h11x14
        obtain ⟨b1_0_11x14, c1_0_11x14, b2_0_11x14, c2_0_11x14, b3_0_11x14, c3_0_11x14, rfl, h1_0_11x14, h2_0_11x14, h3_0_11x14⟩ := gQuery_rd.1 h0_11x14
        refine VC.intro ?_ ?_
        · exact keep_new
        refine call_val (eqWork_ct _ _ (xa0) (xa0)) ⟨(Rp.mono _ (mem_at 3 rfl) r6), (Rp.mono _ (mem_at 0 rfl) r14)⟩ ?_
        rintro _ rfl
        refine VC.intro ?_ ?_
        · exact keep_new
        refine VCsplit.intro (fun q16 => ?_) (fun q16 => ?_)
        ·
          simp at q16
        ·
          simp at q16
          refine callR_at 3 rfl (markWork_ct _ _ _ _ o6 ?_ ?_) trivial ?_
          · trivial
          · (have := work_cnt xa0 (by omega); omega)
          rintro _ A17 ⟨rfl, o17⟩
          refine VCsplit.intro (fun q18 => ?_) (fun q18 => ?_)
          ·
            simp at q18
            exfalso; omega
          ·
            simp at q18
            refine call_val (eqWork_ct _ _ (tickW xa0 xa1) (tickW xa0 xa1)) ⟨(Rp.mono _ (mem_at 1 rfl) r8), (Rp.mono _ (mem_at 4 rfl) r4)⟩ ?_
            rintro _ rfl
            refine VCsplit.intro (fun q20 => ?_) (fun q20 => ?_)
            ·
              simp at q20
            ·
              simp at q20
              refine call_val (eqMailS_ct _ _ _ _ _ _ (tickM xa0 xa1) (tickM xa0 xa1)) ⟨(Rp.mono _ (mem_at 2 rfl) (Gt.owrd _ o8z)), (Rp.mono _ (mem_at 5 rfl) (Gt.owrd _ o4z))⟩ ?_
              rintro _ rfl
              refine VCsplit.intro (fun q22 => ?_) (fun q22 => ?_)
              ·
                simp at q22
              ·
                simp at q22
                refine callR_at 1 rfl (markWork_ct _ _ _ _ o8y ?_ ?_) trivial ?_
                · trivial
                · (have := tick_cnt xa0 xa1 (by omega); omega)
                rintro _ A23 ⟨rfl, o23⟩
                refine callR_at 2 rfl (markMailS_ct _ _ _ _ _ _ o8z ?_ ?_) trivial ?_
                · omega
                · (have := tick_cnt xa0 xa1 (by omega); have := tickM_cnt xa0 xa1; omega)
                rintro _ A24 ⟨rfl, o24⟩
                refine call_val (heldWork_ct _ _ _ _ ?_ ?_ ?_) (Rp.mono _ (mem_at 1 rfl) (Gt.owrd _ o23)) ?_
                · rfl
                · trivial
                · (have := tick_cnt xa0 xa1 (by omega); omega)
                rintro _ rfl
                refine VCsplit.intro (fun q26 => ?_) (fun q26 => ?_)
                ·
                  simp at q26
                  exfalso; omega
                ·
                  simp at q26
                  refine call_val (heldMailS_ct _ _ _ _ _ _ ?_ ?_ ?_) (Rp.mono _ (mem_at 2 rfl) (Gt.owrd _ o24)) ?_
                  · rfl
                  · trivial
                  · (have := tick_cnt xa0 xa1 (by omega); have := tickM_cnt xa0 xa1; omega)
                  rintro _ rfl
                  refine VCsplit.intro (fun q28 => ?_) (fun q28 => ?_)
                  ·
                    simp at q28
                    exfalso; omega
                  ·
                    simp at q28
                    refine VCsplit.intro (fun q29 => ?_) (fun q29 => ?_)
                    ·
                      simp at q29
                    ·
                      simp at q29
                      refine call_new (toWork_ct _ (xa0) ?_) (Rp.mono _ (mem_at 7 rfl) hp0) ?_
                      · omega
                      rintro v30 A30 o30
                      obtain ⟨l30, rfl, o30⟩ := o30
                      have r30 := Gt.owrd _ o30
                      obtain ⟨l1x30, b2x30, c2x30, b4x30, c4x30, l11x30, b13x30, c13x30, rfl, h1x30, h2x30, w3x30, h4x30, w5x30, w8x30, h11x30, h13x30⟩ := gWork_rd.1 r30
                      obtain ⟨b1_1x30, c1_1x30, b2_1x30, c2_1x30, b3_1x30, c3_1x30, rfl, h1_1x30, h2_1x30, h3_1x30⟩ := gQuery_rd.1 h1x30
                      obtain ⟨l0_11x30, b1_11x30, c1_11x30, b4_11x30, c4_11x30, rfl, h0_11x30, h1_11x30, w2_11x30, w3_11x30, h4_11x30⟩ := gCell_rd.1 h11x30
                      obtain ⟨b1_0_11x30, c1_0_11x30, b2_0_11x30, c2_0_11x30, b3_0_11x30, c3_0_11x30, rfl, h1_0_11x30, h2_0_11x30, h3_0_11x30⟩ := gQuery_rd.1 h0_11x30
                      refine call_newP (implTickWork_ct _ (xa0) _ ?_ ?_) (Rp.mono _ (mem_at 0 rfl) r30) ?_
                      · omega
                      · trivial
                      rintro v31 A31 o31
                      obtain ⟨l31, b31, c31, A31y, A31z, rfl, hp31, o31y, o31z⟩ := o31
                      refine ⟨[A31y, A31z], hp31, ?_⟩
                      have r31 := Gt.owrd _ o31y
                      obtain ⟨l1x31, b2x31, c2x31, b4x31, c4x31, l11x31, b13x31, c13x31, rfl, h1x31, h2x31, w3x31, h4x31, w5x31, w8x31, h11x31, h13x31⟩ := gWork_rd.1 r31
                      obtain ⟨b1_1x31, c1_1x31, b2_1x31, c2_1x31, b3_1x31, c3_1x31, rfl, h1_1x31, h2_1x31, h3_1x31⟩ := gQuery_rd.1 h1x31
                      obtain ⟨l0_11x31, b1_11x31, c1_11x31, b4_11x31, c4_11x31, rfl, h0_11x31, h1_11x31, w2_11x31, w3_11x31, h4_11x31⟩ := gCell_rd.1 h11x31
                      obtain ⟨b1_0_11x31, c1_0_11x31, b2_0_11x31, c2_0_11x31, b3_0_11x31, c3_0_11x31, rfl, h1_0_11x31, h2_0_11x31, h3_0_11x31⟩ := gQuery_rd.1 h0_11x31
                      refine VCnew.intro fun x32 => ?_
                      refine call_val (eqWork_ct _ _ (tickW xa0 xa1) (tickW xa0 xa1)) ⟨(Rp.mono _ (mem_at 0 rfl) r31), (Rp.mono _ (mem_at 7 rfl) r4)⟩ ?_
                      rintro _ rfl
                      refine VCsplit.intro (fun q34 => ?_) (fun q34 => ?_)
                      ·
                        simp at q34
                      ·
                        simp at q34
                        refine call_val (eqMailS_ct _ _ _ _ _ _ (tickM xa0 xa1) (tickM xa0 xa1)) ⟨(Rp.mono _ (mem_at 1 rfl) (Gt.owrd _ o31z)), (Rp.mono _ (mem_at 8 rfl) (Gt.owrd _ o4z))⟩ ?_
                        rintro _ rfl
                        refine VCsplit.intro (fun q36 => ?_) (fun q36 => ?_)
                        ·
                          simp at q36
                        ·
                          simp at q36
                          refine call_val (heldWork_ct _ _ _ _ ?_ ?_ ?_) (Rp.mono _ (mem_at 4 rfl) (Gt.owrd _ o23)) ?_
                          · rfl
                          · trivial
                          · (have := tick_cnt xa0 xa1 (by omega); omega)
                          rintro _ rfl
                          refine VCsplit.intro (fun q38 => ?_) (fun q38 => ?_)
                          ·
                            simp at q38
                            exfalso; omega
                          ·
                            simp at q38
                            refine call_val (heldMailS_ct _ _ _ _ _ _ ?_ ?_ ?_) (Rp.mono _ (mem_at 5 rfl) (Gt.owrd _ o24)) ?_
                            · rfl
                            · trivial
                            · (have := tick_cnt xa0 xa1 (by omega); have := tickM_cnt xa0 xa1; omega)
                            rintro _ rfl
                            refine VCsplit.intro (fun q40 => ?_) (fun q40 => ?_)
                            ·
                              simp at q40
                              exfalso; omega
                            ·
                              simp at q40
                              refine VCsplit.intro (fun q41 => ?_) (fun q41 => ?_)
                              ·
                                simp at q41
                              ·
                                simp at q41
                                exact ⟨[], ⟨rfl, rfl⟩, (.le fun a => by (try simp only [setR, List.cons_append, List.nil_append]); simp only [List.flatten_append, List.flatten_cons, List.flatten_nil, List.count_append, List.count_nil, List.append_nil, List.nil_append]; omega)⟩

end Go.Proofs.YtohafcffenoegaaGreat
