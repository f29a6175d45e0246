/-
  The two risen nodes are the same. Conditions: none.
-/
import Derived.Test.YtohafcffenoegaaGreatIr
import Derived.Test.YtohafcffenoegaaGreatGd
namespace Go.Proofs.YtohafcffenoegaaGreat
open Go.SX Go.Proofs
set_option linter.unusedSimpArgs false
set_option linter.unusedVariables false
set_option maxHeartbeats 8000000

theorem disk_cnt (d : Disk) (h : gDisk.sz d ≤ 1048576) : (gDisk.cntV d : Int) ≤ 1000000000 := by
  have h1 := gDisk.cntV_le d
  have h2 : gDisk.w = 3 := by decide
  rw [h2] at h1; omega
theorem nodeNew_cnt (id : Int) (d : Disk) (n : Int) (h : gDisk.sz d ≤ 1048576) : (gNode.cntV (nodeNew id d n) : Int) ≤ 2000000000 := by
  have h0 := disk_cnt d h
  have h1 : cntL gLink (List.replicate (min n 8 + 1).toNat zLink) = 2 * (min n 8 + 1).toNat := by
    generalize (min n 8 + 1).toNat = k
    induction k with
    | zero => rfl
    | succ k ih =>
      rw [List.replicate_succ]
      show gLink.cnt zLink + cntL gLink _ = _
      rw [ih, show gLink.cnt zLink = 2 from rfl]; omega
  have h2 := gNode_cntV (nodeNew id d n)
  have h3 : gWork.cntV zWork = 0 := rfl
  have h4 : gAsk.cntV zAsk = 0 := rfl
  unfold nodeNew at h2 ⊢
  simp only [h1, h3, h4] at h2
  omega
theorem node_cnt (x : Node) (h : gNode.sz x ≤ 1048576) : (gNode.cntV x : Int) ≤ 1100000000 := by
  have h1 := gNode.cntV_le x
  have h2 : gNode.w ≤ 1000 := by decide
  have := Nat.mul_le_mul h2 (show 1 + gNode.sz x ≤ 1048577 by omega)
  omega
theorem rise_cnt (x : Node) (h : gNode.sz x ≤ 1048576) : (gNode.cntV (riseNode x) : Int) ≤ 2000000000 := by
  unfold riseNode; split
  · have := node_cnt x h; omega
  · exact nodeNew_cnt _ _ _ (by have := gNode_sz x; omega)
attribute [local irreducible] nodeNew epochOf riseNode
theorem fnExactRiseNode_ct (v0 : Value) :
    Ct Tryz.prog 5 [v0] [] (fun H => (∃ x, rdV true gNode.toRp H v0 x)) (fun v A => v = .bool true ∧ A = []) := by
  refine Ct.intro0 G_ok Tryz.func5 rfl rfl rfl fun E H hp => ?_
  obtain ⟨xa0, hp0⟩ := hp
  obtain ⟨la0, rfl, hp0⟩ := hp0
  obtain ⟨l2a0, b5a0, c5a0, l6a0, l7a0, rfl, w0a0, h2a0, w3a0, h5a0, h6a0, h7a0⟩ := gNode_rd.1 hp0
  obtain ⟨b0_2a0, c0_2a0, rfl, h0_2a0⟩ := gDisk_rd.1 h2a0
  obtain ⟨l1_6a0, b2_6a0, c2_6a0, b4_6a0, c4_6a0, l11_6a0, b13_6a0, c13_6a0, rfl, h1_6a0, h2_6a0, w3_6a0, h4_6a0, w5_6a0, w8_6a0, h11_6a0, h13_6a0⟩ := gWork_rd.1 h6a0
  obtain ⟨b1_1_6a0, c1_1_6a0, b2_1_6a0, c2_1_6a0, b3_1_6a0, c3_1_6a0, rfl, h1_1_6a0, h2_1_6a0, h3_1_6a0⟩ := gQuery_rd.1 h1_6a0
  obtain ⟨l0_11_6a0, b1_11_6a0, c1_11_6a0, b4_11_6a0, c4_11_6a0, rfl, h0_11_6a0, h1_11_6a0, w2_11_6a0, w3_11_6a0, h4_11_6a0⟩ := gCell_rd.1 h11_6a0
  obtain ⟨b1_0_11_6a0, c1_0_11_6a0, b2_0_11_6a0, c2_0_11_6a0, b3_0_11_6a0, c3_0_11_6a0, rfl, h1_0_11_6a0, h2_0_11_6a0, h3_0_11_6a0⟩ := gQuery_rd.1 h0_11_6a0
  obtain ⟨l1_7a0, b2_7a0, c2_7a0, b4_7a0, c4_7a0, l6_7a0, rfl, h1_7a0, h2_7a0, w3_7a0, h4_7a0, h6_7a0⟩ := gAsk_rd.1 h7a0
  obtain ⟨b1_1_7a0, c1_1_7a0, b2_1_7a0, c2_1_7a0, b3_1_7a0, c3_1_7a0, rfl, h1_1_7a0, h2_1_7a0, h3_1_7a0⟩ := gQuery_rd.1 h1_7a0
  obtain ⟨b0_6_7a0, c0_6_7a0, rfl, h0_6_7a0⟩ := gBag_rd.1 h6_7a0
  refine VCnew.intro fun x0 => ?_
  refine call_q (szNode_ct _ (xa0) _ ?_ ?_) (Rp.mono _ (mem_at 0 rfl) hp0) ?_
  · trivial
  · trivial
  rintro _ ⟨r1, rfl, hr1⟩
  refine VCsplit.intro (fun q2 => ?_) (fun q2 => ?_)
  ·
    simp at q2
    exact ⟨[], ⟨rfl, rfl⟩, (.le fun a => by (try simp only [setR, List.cons_append, List.nil_append]); simp only [List.flatten_append, List.flatten_cons, List.flatten_nil, List.count_append, List.count_nil, List.append_nil, List.nil_append]; omega)⟩
  ·
    simp at q2
    refine call_new (toNode_ct _ (xa0) ?_) (Rp.mono _ (mem_at 0 rfl) hp0) ?_
    · omega
    rintro v3 A3 o3
    obtain ⟨l3, rfl, o3⟩ := o3
    have r3 := Gt.owrd _ o3
    obtain ⟨l2x3, b5x3, c5x3, l6x3, l7x3, rfl, w0x3, h2x3, w3x3, h5x3, h6x3, h7x3⟩ := gNode_rd.1 r3
    obtain ⟨b0_2x3, c0_2x3, rfl, h0_2x3⟩ := gDisk_rd.1 h2x3
    obtain ⟨l1_6x3, b2_6x3, c2_6x3, b4_6x3, c4_6x3, l11_6x3, b13_6x3, c13_6x3, rfl, h1_6x3, h2_6x3, w3_6x3, h4_6x3, w5_6x3, w8_6x3, h11_6x3, h13_6x3⟩ := gWork_rd.1 h6x3
    obtain ⟨b1_1_6x3, c1_1_6x3, b2_1_6x3, c2_1_6x3, b3_1_6x3, c3_1_6x3, rfl, h1_1_6x3, h2_1_6x3, h3_1_6x3⟩ := gQuery_rd.1 h1_6x3
    obtain ⟨l0_11_6x3, b1_11_6x3, c1_11_6x3, b4_11_6x3, c4_11_6x3, rfl, h0_11_6x3, h1_11_6x3, w2_11_6x3, w3_11_6x3, h4_11_6x3⟩ := gCell_rd.1 h11_6x3
    obtain ⟨b1_0_11_6x3, c1_0_11_6x3, b2_0_11_6x3, c2_0_11_6x3, b3_0_11_6x3, c3_0_11_6x3, rfl, h1_0_11_6x3, h2_0_11_6x3, h3_0_11_6x3⟩ := gQuery_rd.1 h0_11_6x3
    obtain ⟨l1_7x3, b2_7x3, c2_7x3, b4_7x3, c4_7x3, l6_7x3, rfl, h1_7x3, h2_7x3, w3_7x3, h4_7x3, h6_7x3⟩ := gAsk_rd.1 h7x3
    obtain ⟨b1_1_7x3, c1_1_7x3, b2_1_7x3, c2_1_7x3, b3_1_7x3, c3_1_7x3, rfl, h1_1_7x3, h2_1_7x3, h3_1_7x3⟩ := gQuery_rd.1 h1_7x3
    obtain ⟨b0_6_7x3, c0_6_7x3, rfl, h0_6_7x3⟩ := gBag_rd.1 h6_7x3
    refine call_new (specRiseNode_ct _ (xa0) ?_) (Rp.mono _ (mem_at 0 rfl) r3) ?_
    · omega
    rintro v4 A4 o4
    obtain ⟨l4, rfl, o4⟩ := o4
    have r4 := Gt.owrd _ o4
    obtain ⟨l2x4, b5x4, c5x4, l6x4, l7x4, rfl, w0x4, h2x4, w3x4, h5x4, h6x4, h7x4⟩ := gNode_rd.1 r4
    obtain ⟨b0_2x4, c0_2x4, rfl, h0_2x4⟩ := gDisk_rd.1 h2x4
    obtain ⟨l1_6x4, b2_6x4, c2_6x4, b4_6x4, c4_6x4, l11_6x4, b13_6x4, c13_6x4, rfl, h1_6x4, h2_6x4, w3_6x4, h4_6x4, w5_6x4, w8_6x4, h11_6x4, h13_6x4⟩ := gWork_rd.1 h6x4
    obtain ⟨b1_1_6x4, c1_1_6x4, b2_1_6x4, c2_1_6x4, b3_1_6x4, c3_1_6x4, rfl, h1_1_6x4, h2_1_6x4, h3_1_6x4⟩ := gQuery_rd.1 h1_6x4
    obtain ⟨l0_11_6x4, b1_11_6x4, c1_11_6x4, b4_11_6x4, c4_11_6x4, rfl, h0_11_6x4, h1_11_6x4, w2_11_6x4, w3_11_6x4, h4_11_6x4⟩ := gCell_rd.1 h11_6x4
    obtain ⟨b1_0_11_6x4, c1_0_11_6x4, b2_0_11_6x4, c2_0_11_6x4, b3_0_11_6x4, c3_0_11_6x4, rfl, h1_0_11_6x4, h2_0_11_6x4, h3_0_11_6x4⟩ := gQuery_rd.1 h0_11_6x4
    obtain ⟨l1_7x4, b2_7x4, c2_7x4, b4_7x4, c4_7x4, l6_7x4, rfl, h1_7x4, h2_7x4, w3_7x4, h4_7x4, h6_7x4⟩ := gAsk_rd.1 h7x4
    obtain ⟨b1_1_7x4, c1_1_7x4, b2_1_7x4, c2_1_7x4, b3_1_7x4, c3_1_7x4, rfl, h1_1_7x4, h2_1_7x4, h3_1_7x4⟩ := gQuery_rd.1 h1_7x4
    obtain ⟨b0_6_7x4, c0_6_7x4, rfl, h0_6_7x4⟩ := gBag_rd.1 h6_7x4
    refine VCnew.intro fun x5 => ?_
    refine call_new (toNode_ct _ (xa0) ?_) (Rp.mono _ (mem_at 2 rfl) hp0) ?_
    · omega
    rintro v6 A6 o6
    obtain ⟨l6, rfl, o6⟩ := o6
    have r6 := Gt.owrd _ o6
    obtain ⟨l2x6, b5x6, c5x6, l6x6, l7x6, rfl, w0x6, h2x6, w3x6, h5x6, h6x6, h7x6⟩ := gNode_rd.1 r6
    obtain ⟨b0_2x6, c0_2x6, rfl, h0_2x6⟩ := gDisk_rd.1 h2x6
    obtain ⟨l1_6x6, b2_6x6, c2_6x6, b4_6x6, c4_6x6, l11_6x6, b13_6x6, c13_6x6, rfl, h1_6x6, h2_6x6, w3_6x6, h4_6x6, w5_6x6, w8_6x6, h11_6x6, h13_6x6⟩ := gWork_rd.1 h6x6
    obtain ⟨b1_1_6x6, c1_1_6x6, b2_1_6x6, c2_1_6x6, b3_1_6x6, c3_1_6x6, rfl, h1_1_6x6, h2_1_6x6, h3_1_6x6⟩ := gQuery_rd.1 h1_6x6
    obtain ⟨l0_11_6x6, b1_11_6x6, c1_11_6x6, b4_11_6x6, c4_11_6x6, rfl, h0_11_6x6, h1_11_6x6, w2_11_6x6, w3_11_6x6, h4_11_6x6⟩ := gCell_rd.1 h11_6x6
    obtain ⟨b1_0_11_6x6, c1_0_11_6x6, b2_0_11_6x6, c2_0_11_6x6, b3_0_11_6x6, c3_0_11_6x6, rfl, h1_0_11_6x6, h2_0_11_6x6, h3_0_11_6x6⟩ := gQuery_rd.1 h0_11_6x6
    obtain ⟨l1_7x6, b2_7x6, c2_7x6, b4_7x6, c4_7x6, l6_7x6, rfl, h1_7x6, h2_7x6, w3_7x6, h4_7x6, h6_7x6⟩ := gAsk_rd.1 h7x6
    obtain ⟨b1_1_7x6, c1_1_7x6, b2_1_7x6, c2_1_7x6, b3_1_7x6, c3_1_7x6, rfl, h1_1_7x6, h2_1_7x6, h3_1_7x6⟩ := gQuery_rd.1 h1_7x6
    obtain ⟨b0_6_7x6, c0_6_7x6, rfl, h0_6_7x6⟩ := gBag_rd.1 h6_7x6
    refine VCnew.intro fun x7 => ?_
    refine call_new (implRiseNode_ct _ (xa0) ?_) (Rp.mono _ (mem_at 0 rfl) r6) ?_
    · omega
    rintro v8 A8 o8
    obtain ⟨l8, rfl, o8⟩ := o8
    have r8 := Gt.owrd _ o8
    obtain ⟨l2x8, b5x8, c5x8, l6x8, l7x8, rfl, w0x8, h2x8, w3x8, h5x8, h6x8, h7x8⟩ := gNode_rd.1 r8
    obtain ⟨b0_2x8, c0_2x8, rfl, h0_2x8⟩ := gDisk_rd.1 h2x8
    obtain ⟨l1_6x8, b2_6x8, c2_6x8, b4_6x8, c4_6x8, l11_6x8, b13_6x8, c13_6x8, rfl, h1_6x8, h2_6x8, w3_6x8, h4_6x8, w5_6x8, w8_6x8, h11_6x8, h13_6x8⟩ := gWork_rd.1 h6x8
    obtain ⟨b1_1_6x8, c1_1_6x8, b2_1_6x8, c2_1_6x8, b3_1_6x8, c3_1_6x8, rfl, h1_1_6x8, h2_1_6x8, h3_1_6x8⟩ := gQuery_rd.1 h1_6x8
    obtain ⟨l0_11_6x8, b1_11_6x8, c1_11_6x8, b4_11_6x8, c4_11_6x8, rfl, h0_11_6x8, h1_11_6x8, w2_11_6x8, w3_11_6x8, h4_11_6x8⟩ := gCell_rd.1 h11_6x8
    obtain ⟨b1_0_11_6x8, c1_0_11_6x8, b2_0_11_6x8, c2_0_11_6x8, b3_0_11_6x8, c3_0_11_6x8, rfl, h1_0_11_6x8, h2_0_11_6x8, h3_0_11_6x8⟩ := gQuery_rd.1 h0_11_6x8
    obtain ⟨l1_7x8, b2_7x8, c2_7x8, b4_7x8, c4_7x8, l6_7x8, rfl, h1_7x8, h2_7x8, w3_7x8, h4_7x8, h6_7x8⟩ := gAsk_rd.1 h7x8
    obtain ⟨b1_1_7x8, c1_1_7x8, b2_1_7x8, c2_1_7x8, b3_1_7x8, c3_1_7x8, rfl, h1_1_7x8, h2_1_7x8, h3_1_7x8⟩ := gQuery_rd.1 h1_7x8
    obtain ⟨b0_6_7x8, c0_6_7x8, rfl, h0_6_7x8⟩ := gBag_rd.1 h6_7x8
    refine VCnew.intro fun x9 => ?_
    refine call_val (eqNode_ct _ _ (riseNode xa0) (riseNode xa0)) ⟨(Rp.mono _ (mem_at 0 rfl) r8), (Rp.mono _ (mem_at 2 rfl) r4)⟩ ?_
    rintro _ rfl
    refine VCsplit.intro (fun q11 => ?_) (fun q11 => ?_)
    ·
      simp at q11
    ·
      simp at q11
      refine draw G_ok mixed none (.q 0 (.q 1 (.f 2 (.f 3 (.q 4 (.nil)))))) (by decide +kernel) ?_
      refine call_new (toNode_ct _ (xa0) ?_) (Rp.mono _ (mem_at 4 rfl) hp0) ?_
      · omega
      rintro v12 A12 o12
      obtain ⟨l12, rfl, o12⟩ := o12
      have r12 := Gt.owrd _ o12
      obtain ⟨l2x12, b5x12, c5x12, l6x12, l7x12, rfl, w0x12, h2x12, w3x12, h5x12, h6x12, h7x12⟩ := gNode_rd.1 r12
      obtain ⟨b0_2x12, c0_2x12, rfl, h0_2x12⟩ := gDisk_rd.1 h2x12
      obtain ⟨l1_6x12, b2_6x12, c2_6x12, b4_6x12, c4_6x12, l11_6x12, b13_6x12, c13_6x12, rfl, h1_6x12, h2_6x12, w3_6x12, h4_6x12, w5_6x12, w8_6x12, h11_6x12, h13_6x12⟩ := gWork_rd.1 h6x12
      obtain ⟨b1_1_6x12, c1_1_6x12, b2_1_6x12, c2_1_6x12, b3_1_6x12, c3_1_6x12, rfl, h1_1_6x12, h2_1_6x12, h3_1_6x12⟩ := gQuery_rd.1 h1_6x12
      obtain ⟨l0_11_6x12, b1_11_6x12, c1_11_6x12, b4_11_6x12, c4_11_6x12, rfl, h0_11_6x12, h1_11_6x12, w2_11_6x12, w3_11_6x12, h4_11_6x12⟩ := gCell_rd.1 h11_6x12
      obtain ⟨b1_0_11_6x12, c1_0_11_6x12, b2_0_11_6x12, c2_0_11_6x12, b3_0_11_6x12, c3_0_11_6x12, rfl, h1_0_11_6x12, h2_0_11_6x12, h3_0_11_6x12⟩ := gQuery_rd.1 h0_11_6x12
      obtain ⟨l1_7x12, b2_7x12, c2_7x12, b4_7x12, c4_7x12, l6_7x12, rfl, h1_7x12, h2_7x12, w3_7x12, h4_7x12, h6_7x12⟩ := gAsk_rd.1 h7x12
      obtain ⟨b1_1_7x12, c1_1_7x12, b2_1_7x12, c2_1_7x12, b3_1_7x12, c3_1_7x12, rfl, h1_1_7x12, h2_1_7x12, h3_1_7x12⟩ := gQuery_rd.1 h1_7x12
      obtain ⟨b0_6_7x12, c0_6_7x12, rfl, h0_6_7x12⟩ := gBag_rd.1 h6_7x12
      refine VC.intro ?_ ?_
      · exact keep_new
      refine call_val (eqNode_ct _ _ (xa0) (xa0)) ⟨(Rp.mono _ (mem_at 2 rfl) r6), (Rp.mono _ (mem_at 0 rfl) r12)⟩ ?_
      rintro _ rfl
      refine VC.intro ?_ ?_
      · exact keep_new
      refine VCsplit.intro (fun q14 => ?_) (fun q14 => ?_)
      ·
        simp at q14
      ·
        simp at q14
        refine callR_at 2 rfl (markNode_ct _ _ _ _ o6 ?_ ?_) trivial ?_
        · trivial
        · (have := node_cnt xa0 (by omega); omega)
        rintro _ A15 ⟨rfl, o15⟩
        refine VCsplit.intro (fun q16 => ?_) (fun q16 => ?_)
        ·
          simp at q16
          exfalso; omega
        ·
          simp at q16
          refine call_val (eqNode_ct _ _ (riseNode xa0) (riseNode xa0)) ⟨(Rp.mono _ (mem_at 1 rfl) r8), (Rp.mono _ (mem_at 3 rfl) r4)⟩ ?_
          rintro _ rfl
          refine VCsplit.intro (fun q18 => ?_) (fun q18 => ?_)
          ·
            simp at q18
          ·
            simp at q18
            refine callR_at 1 rfl (markNode_ct _ _ _ _ o8 ?_ ?_) trivial ?_
            · trivial
            · (have := rise_cnt xa0 (by omega); omega)
            rintro _ A19 ⟨rfl, o19⟩
            refine call_val (heldNode_ct _ _ _ _ ?_ ?_ ?_) (Rp.mono _ (mem_at 1 rfl) (Gt.owrd _ o19)) ?_
            · rfl
            · trivial
            · (have := rise_cnt xa0 (by omega); omega)
            rintro _ rfl
            refine VCsplit.intro (fun q21 => ?_) (fun q21 => ?_)
            ·
              simp at q21
              exfalso; omega
            ·
              simp at q21
              refine VCsplit.intro (fun q22 => ?_) (fun q22 => ?_)
              ·
                simp at q22
              ·
                simp at q22
                refine call_new (toNode_ct _ (xa0) ?_) (Rp.mono _ (mem_at 5 rfl) hp0) ?_
                · omega
                rintro v23 A23 o23
                obtain ⟨l23, rfl, o23⟩ := o23
                have r23 := Gt.owrd _ o23
                obtain ⟨l2x23, b5x23, c5x23, l6x23, l7x23, rfl, w0x23, h2x23, w3x23, h5x23, h6x23, h7x23⟩ := gNode_rd.1 r23
                obtain ⟨b0_2x23, c0_2x23, rfl, h0_2x23⟩ := gDisk_rd.1 h2x23
                obtain ⟨l1_6x23, b2_6x23, c2_6x23, b4_6x23, c4_6x23, l11_6x23, b13_6x23, c13_6x23, rfl, h1_6x23, h2_6x23, w3_6x23, h4_6x23, w5_6x23, w8_6x23, h11_6x23, h13_6x23⟩ := gWork_rd.1 h6x23
                obtain ⟨b1_1_6x23, c1_1_6x23, b2_1_6x23, c2_1_6x23, b3_1_6x23, c3_1_6x23, rfl, h1_1_6x23, h2_1_6x23, h3_1_6x23⟩ := gQuery_rd.1 h1_6x23
                obtain ⟨l0_11_6x23, b1_11_6x23, c1_11_6x23, b4_11_6x23, c4_11_6x23, rfl, h0_11_6x23, h1_11_6x23, w2_11_6x23, w3_11_6x23, h4_11_6x23⟩ := gCell_rd.1 h11_6x23
                obtain ⟨b1_0_11_6x23, c1_0_11_6x23, b2_0_11_6x23, c2_0_11_6x23, b3_0_11_6x23, c3_0_11_6x23, rfl, h1_0_11_6x23, h2_0_11_6x23, h3_0_11_6x23⟩ := gQuery_rd.1 h0_11_6x23
                obtain ⟨l1_7x23, b2_7x23, c2_7x23, b4_7x23, c4_7x23, l6_7x23, rfl, h1_7x23, h2_7x23, w3_7x23, h4_7x23, h6_7x23⟩ := gAsk_rd.1 h7x23
                obtain ⟨b1_1_7x23, c1_1_7x23, b2_1_7x23, c2_1_7x23, b3_1_7x23, c3_1_7x23, rfl, h1_1_7x23, h2_1_7x23, h3_1_7x23⟩ := gQuery_rd.1 h1_7x23
                obtain ⟨b0_6_7x23, c0_6_7x23, rfl, h0_6_7x23⟩ := gBag_rd.1 h6_7x23
                refine call_new (implRiseNode_ct _ (xa0) ?_) (Rp.mono _ (mem_at 0 rfl) r23) ?_
                · omega
                rintro v24 A24 o24
                obtain ⟨l24, rfl, o24⟩ := o24
                have r24 := Gt.owrd _ o24
                obtain ⟨l2x24, b5x24, c5x24, l6x24, l7x24, rfl, w0x24, h2x24, w3x24, h5x24, h6x24, h7x24⟩ := gNode_rd.1 r24
                obtain ⟨b0_2x24, c0_2x24, rfl, h0_2x24⟩ := gDisk_rd.1 h2x24
                obtain ⟨l1_6x24, b2_6x24, c2_6x24, b4_6x24, c4_6x24, l11_6x24, b13_6x24, c13_6x24, rfl, h1_6x24, h2_6x24, w3_6x24, h4_6x24, w5_6x24, w8_6x24, h11_6x24, h13_6x24⟩ := gWork_rd.1 h6x24
                obtain ⟨b1_1_6x24, c1_1_6x24, b2_1_6x24, c2_1_6x24, b3_1_6x24, c3_1_6x24, rfl, h1_1_6x24, h2_1_6x24, h3_1_6x24⟩ := gQuery_rd.1 h1_6x24
                obtain ⟨l0_11_6x24, b1_11_6x24, c1_11_6x24, b4_11_6x24, c4_11_6x24, rfl, h0_11_6x24, h1_11_6x24, w2_11_6x24, w3_11_6x24, h4_11_6x24⟩ := gCell_rd.1 h11_6x24
                obtain ⟨b1_0_11_6x24, c1_0_11_6x24, b2_0_11_6x24, c2_0_11_6x24, b3_0_11_6x24, c3_0_11_6x24, rfl, h1_0_11_6x24, h2_0_11_6x24, h3_0_11_6x24⟩ := gQuery_rd.1 h0_11_6x24
                obtain ⟨l1_7x24, b2_7x24, c2_7x24, b4_7x24, c4_7x24, l6_7x24, rfl, h1_7x24, h2_7x24, w3_7x24, h4_7x24, h6_7x24⟩ := gAsk_rd.1 h7x24
                obtain ⟨b1_1_7x24, c1_1_7x24, b2_1_7x24, c2_1_7x24, b3_1_7x24, c3_1_7x24, rfl, h1_1_7x24, h2_1_7x24, h3_1_7x24⟩ := gQuery_rd.1 h1_7x24
                obtain ⟨b0_6_7x24, c0_6_7x24, rfl, h0_6_7x24⟩ := gBag_rd.1 h6_7x24
                refine VCnew.intro fun x25 => ?_
                refine call_val (eqNode_ct _ _ (riseNode xa0) (riseNode xa0)) ⟨(Rp.mono _ (mem_at 0 rfl) r24), (Rp.mono _ (mem_at 5 rfl) r4)⟩ ?_
                rintro _ rfl
                refine VCsplit.intro (fun q27 => ?_) (fun q27 => ?_)
                ·
                  simp at q27
                ·
                  simp at q27
                  refine call_val (heldNode_ct _ _ _ _ ?_ ?_ ?_) (Rp.mono _ (mem_at 3 rfl) (Gt.owrd _ o19)) ?_
                  · rfl
                  · trivial
                  · (have := rise_cnt xa0 (by omega); omega)
                  rintro _ rfl
                  refine VCsplit.intro (fun q29 => ?_) (fun q29 => ?_)
                  ·
                    simp at q29
                    exfalso; omega
                  ·
                    simp at q29
                    refine VCsplit.intro (fun q30 => ?_) (fun q30 => ?_)
                    ·
                      simp at q30
                    ·
                      simp at q30
                      exact ⟨[], ⟨rfl, rfl⟩, (.le fun a => by (try simp only [setR, List.cons_append, List.nil_append]); simp only [List.flatten_append, List.flatten_cons, List.flatten_nil, List.count_append, List.count_nil, List.append_nil, List.nil_append]; omega)⟩

end Go.Proofs.YtohafcffenoegaaGreat
