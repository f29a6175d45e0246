/-
  The two sides put mails alike. Conditions: none.
-/
import Derived.Test.YtflfohphebmemaaGreatRl
import Derived.Test.YtflfohphebmemaaGreatGd
namespace Go.Proofs.YtflfohphebmemaaGreat
open Go.SX Go.Proofs
set_option linter.unusedSimpArgs false
set_option linter.unusedVariables false
set_option maxHeartbeats 8000000

theorem node_cnt9 (x : Node) (h : gNode.sz x ≤ 1048576) : (gNode.cntV x : Int) ≤ 1100000000 := by
  have h1 := gNode.cntV_le x
  have h2 : gNode.w ≤ 1000 := by decide
  have := Nat.mul_le_mul h2 (show 1 + gNode.sz x ≤ 1048577 by omega)
  omega
theorem mails_cnt9 (ms : List Mail) (h : szL gMail ms ≤ 1048576) : (cntL gMail ms : Int) ≤ 100000000 := by
  have h1 := cntL_le gMail ms
  have h2 : gMail.w ≤ 50 := by decide
  have := Nat.mul_le_mul h2 h
  omega
theorem linkPut_cnt (l : Link) (t : ByteArray) : gLink.cnt (linkPut l t).1 ≤ gLink.cnt l + 1 := by
  unfold linkPut
  split
  · show gLink.cnt ⟨l.sent ++ [t], l.acked, l.took⟩ ≤ _
    rw [gLink_cnt, gLink_cnt, cntL_append]
    show _ + cntL gS [t] + _ ≤ _
    rw [show cntL gS [t] = 1 from rfl]; omega
  · exact Nat.le_succ _
theorem cntL_set {α : Type} (g : Gt α) (z : α) {y : α} : ∀ (xs : List α) (k : Nat), k < xs.length → g.cnt y ≤ g.cnt (xs[k]?.getD z) + 1 → cntL g (xs.set k y) ≤ cntL g xs + 1
  | [], k, h, _ => absurd h (by simp)
  | x :: r, 0, _, h => by
    have h : g.cnt y ≤ g.cnt x + 1 := h
    show g.cnt y + cntL g r ≤ g.cnt x + cntL g r + 1; omega
  | x :: r, k + 1, hk, h => by
    have := cntL_set g z r k (by simpa using hk) h
    show g.cnt x + cntL g (r.set k y) ≤ g.cnt x + cntL g r + 1; omega
theorem putMail_cnt (ls : List Link) (m : Mail) : cntL gLink (putMail ls m) ≤ cntL gLink ls + 1 := by
  unfold putMail
  split
  · rename_i h
    have h2 := inR_iff.1 h.2
    exact cntL_set gLink default ls _ (by omega) (linkPut_cnt _ _)
  · exact Nat.le_succ _
theorem putMs_cnt : ∀ (ms : List Mail) (ls : List Link), cntL gLink (putMs ls ms) ≤ cntL gLink ls + ms.length
  | [], _ => Nat.le_refl _
  | m :: r, ls => by
    have h1 := putMs_cnt r (putMail ls m)
    have h2 := putMail_cnt ls m
    rw [List.length_cons]
    show cntL gLink (putMs (putMail ls m) r) ≤ _; omega
theorem put_cnt9 (x : Node) (ms : List Mail) (h : gNode.sz x ≤ 1048576) (hm : szL gMail ms ≤ 1048576) : (gNode.cntV (putNode x ms) : Int) ≤ 1200000000 := by
  have h1 := node_cnt9 x h
  have h2 := gNode_cntV x
  have h3 := gNode_cntV (putNode x ms)
  have h4 := putMs_cnt ms x.links
  have h5 := len_szL gMail ms
  unfold putNode at h3 ⊢
  dsimp only at h3
  omega
attribute [local irreducible] putNode putMs
theorem fnExactPutMails_ct (v0 v1 : Value) :
    Ct Tryz.prog 3 [v0, v1] [] (fun H => (∃ x, rdV true gNode.toRp H v0 x) ∧ (∃ x, rdV false (gSl 122 gMail).toRp H v1 x)) (fun v A => v = .bool true ∧ A = []) := by
  refine Ct.intro0 G_ok Tryz.func3 rfl rfl rfl fun E H hp => ?_
  obtain ⟨⟨xa0, hp0⟩, ⟨xa1, hp1⟩⟩ := hp
  obtain ⟨la0, rfl, hp0⟩ := hp0
  obtain ⟨l2a0, b5a0, c5a0, l6a0, l7a0, rfl, w0a0, h2a0, w3a0, h5a0, h6a0, h7a0⟩ := gNode_rd.1 hp0
  obtain ⟨b0_2a0, c0_2a0, rfl, h0_2a0⟩ := gDisk_rd.1 h2a0
  obtain ⟨l1_6a0, b2_6a0, c2_6a0, b4_6a0, c4_6a0, l11_6a0, b13_6a0, c13_6a0, rfl, h1_6a0, h2_6a0, w3_6a0, h4_6a0, w5_6a0, w8_6a0, h11_6a0, h13_6a0⟩ := gWork_rd.1 h6a0
  obtain ⟨b1_1_6a0, c1_1_6a0, b2_1_6a0, c2_1_6a0, b3_1_6a0, c3_1_6a0, rfl, h1_1_6a0, h2_1_6a0, h3_1_6a0⟩ := gQuery_rd.1 h1_6a0
  obtain ⟨l0_11_6a0, b1_11_6a0, c1_11_6a0, b4_11_6a0, c4_11_6a0, rfl, h0_11_6a0, h1_11_6a0, w2_11_6a0, w3_11_6a0, h4_11_6a0⟩ := gCell_rd.1 h11_6a0
  obtain ⟨b1_0_11_6a0, c1_0_11_6a0, b2_0_11_6a0, c2_0_11_6a0, b3_0_11_6a0, c3_0_11_6a0, rfl, h1_0_11_6a0, h2_0_11_6a0, h3_0_11_6a0⟩ := gQuery_rd.1 h0_11_6a0
  obtain ⟨l1_7a0, b2_7a0, c2_7a0, b4_7a0, c4_7a0, l6_7a0, rfl, h1_7a0, h2_7a0, w3_7a0, h4_7a0, h6_7a0⟩ := gAsk_rd.1 h7a0
  obtain ⟨b1_1_7a0, c1_1_7a0, b2_1_7a0, c2_1_7a0, b3_1_7a0, c3_1_7a0, rfl, h1_1_7a0, h2_1_7a0, h3_1_7a0⟩ := gQuery_rd.1 h1_7a0
  obtain ⟨b0_6_7a0, c0_6_7a0, rfl, h0_6_7a0⟩ := gBag_rd.1 h6_7a0
  obtain ⟨ba1, ca1, ea1, hs1⟩ := sl_rd hp1; cases ea1; clear hp1
  refine VCnew.intro fun x0 => ?_
  refine call_q (szNode_ct _ (xa0) _ ?_ ?_) (Rp.mono _ (mem_at 0 rfl) hp0) ?_
  · trivial
  · trivial
  rintro _ ⟨r1, rfl, hr1⟩
  refine VCsplit.intro (fun q2 => ?_) (fun q2 => ?_)
  ·
    simp at q2
    exact ⟨[], ⟨rfl, rfl⟩, (.le fun a => by (try simp only [setR, List.cons_append, List.nil_append]); simp only [List.flatten_append, List.flatten_cons, List.flatten_nil, List.count_append, List.count_nil, List.append_nil, List.nil_append]; omega)⟩
  ·
    simp at q2
    refine call_q (szMailS_ct _ _ _ (xa1) _ ?_ ?_) (Rp.mono _ (mem_at 0 rfl) hs1) ?_
    · trivial
    · omega
    rintro _ ⟨r3, rfl, hr3⟩
    refine VCsplit.intro (fun q4 => ?_) (fun q4 => ?_)
    ·
      simp at q4
      exact ⟨[], ⟨rfl, rfl⟩, (.le fun a => by (try simp only [setR, List.cons_append, List.nil_append]); simp only [List.flatten_append, List.flatten_cons, List.flatten_nil, List.count_append, List.count_nil, List.append_nil, List.nil_append]; omega)⟩
    ·
      simp at q4
      refine call_new (toNode_ct _ (xa0) ?_) (Rp.mono _ (mem_at 0 rfl) hp0) ?_
      · omega
      rintro v5 A5 o5
      obtain ⟨l5, rfl, o5⟩ := o5
      have r5 := Gt.owrd _ o5
      obtain ⟨l2x5, b5x5, c5x5, l6x5, l7x5, rfl, w0x5, h2x5, w3x5, h5x5, h6x5, h7x5⟩ := gNode_rd.1 r5
      obtain ⟨b0_2x5, c0_2x5, rfl, h0_2x5⟩ := gDisk_rd.1 h2x5
      obtain ⟨l1_6x5, b2_6x5, c2_6x5, b4_6x5, c4_6x5, l11_6x5, b13_6x5, c13_6x5, rfl, h1_6x5, h2_6x5, w3_6x5, h4_6x5, w5_6x5, w8_6x5, h11_6x5, h13_6x5⟩ := gWork_rd.1 h6x5
      obtain ⟨b1_1_6x5, c1_1_6x5, b2_1_6x5, c2_1_6x5, b3_1_6x5, c3_1_6x5, rfl, h1_1_6x5, h2_1_6x5, h3_1_6x5⟩ := gQuery_rd.1 h1_6x5
      obtain ⟨l0_11_6x5, b1_11_6x5, c1_11_6x5, b4_11_6x5, c4_11_6x5, rfl, h0_11_6x5, h1_11_6x5, w2_11_6x5, w3_11_6x5, h4_11_6x5⟩ := gCell_rd.1 h11_6x5
      obtain ⟨b1_0_11_6x5, c1_0_11_6x5, b2_0_11_6x5, c2_0_11_6x5, b3_0_11_6x5, c3_0_11_6x5, rfl, h1_0_11_6x5, h2_0_11_6x5, h3_0_11_6x5⟩ := gQuery_rd.1 h0_11_6x5
      obtain ⟨l1_7x5, b2_7x5, c2_7x5, b4_7x5, c4_7x5, l6_7x5, rfl, h1_7x5, h2_7x5, w3_7x5, h4_7x5, h6_7x5⟩ := gAsk_rd.1 h7x5
      obtain ⟨b1_1_7x5, c1_1_7x5, b2_1_7x5, c2_1_7x5, b3_1_7x5, c3_1_7x5, rfl, h1_1_7x5, h2_1_7x5, h3_1_7x5⟩ := gQuery_rd.1 h1_7x5
      obtain ⟨b0_6_7x5, c0_6_7x5, rfl, h0_6_7x5⟩ := gBag_rd.1 h6_7x5
      refine call_new (toMailS_ct _ _ _ (xa1) ?_) (Rp.mono _ (mem_at 1 rfl) hs1) ?_
      · omega
      rintro v6 A6 o6
      obtain ⟨b6, c6, rfl, o6⟩ := o6
      refine call_new (specPutMails_ct _ (xa0) _ _ _ (xa1) ?_ ?_) ⟨(Rp.mono _ (mem_at 1 rfl) r5), (Rp.mono _ (mem_at 0 rfl) (Gt.owrd _ o6))⟩ ?_
      · omega
      · omega
      rintro v7 A7 o7
      obtain ⟨l7, rfl, o7⟩ := o7
      have r7 := Gt.owrd _ o7
      obtain ⟨l2x7, b5x7, c5x7, l6x7, l7x7, rfl, w0x7, h2x7, w3x7, h5x7, h6x7, h7x7⟩ := gNode_rd.1 r7
      obtain ⟨b0_2x7, c0_2x7, rfl, h0_2x7⟩ := gDisk_rd.1 h2x7
      obtain ⟨l1_6x7, b2_6x7, c2_6x7, b4_6x7, c4_6x7, l11_6x7, b13_6x7, c13_6x7, rfl, h1_6x7, h2_6x7, w3_6x7, h4_6x7, w5_6x7, w8_6x7, h11_6x7, h13_6x7⟩ := gWork_rd.1 h6x7
      obtain ⟨b1_1_6x7, c1_1_6x7, b2_1_6x7, c2_1_6x7, b3_1_6x7, c3_1_6x7, rfl, h1_1_6x7, h2_1_6x7, h3_1_6x7⟩ := gQuery_rd.1 h1_6x7
      obtain ⟨l0_11_6x7, b1_11_6x7, c1_11_6x7, b4_11_6x7, c4_11_6x7, rfl, h0_11_6x7, h1_11_6x7, w2_11_6x7, w3_11_6x7, h4_11_6x7⟩ := gCell_rd.1 h11_6x7
      obtain ⟨b1_0_11_6x7, c1_0_11_6x7, b2_0_11_6x7, c2_0_11_6x7, b3_0_11_6x7, c3_0_11_6x7, rfl, h1_0_11_6x7, h2_0_11_6x7, h3_0_11_6x7⟩ := gQuery_rd.1 h0_11_6x7
      obtain ⟨l1_7x7, b2_7x7, c2_7x7, b4_7x7, c4_7x7, l6_7x7, rfl, h1_7x7, h2_7x7, w3_7x7, h4_7x7, h6_7x7⟩ := gAsk_rd.1 h7x7
      obtain ⟨b1_1_7x7, c1_1_7x7, b2_1_7x7, c2_1_7x7, b3_1_7x7, c3_1_7x7, rfl, h1_1_7x7, h2_1_7x7, h3_1_7x7⟩ := gQuery_rd.1 h1_7x7
      obtain ⟨b0_6_7x7, c0_6_7x7, rfl, h0_6_7x7⟩ := gBag_rd.1 h6_7x7
      refine VCnew.intro fun x8 => ?_
      refine call_new (toNode_ct _ (xa0) ?_) (Rp.mono _ (mem_at 3 rfl) hp0) ?_
      · omega
      rintro v9 A9 o9
      obtain ⟨l9, rfl, o9⟩ := o9
      have r9 := Gt.owrd _ o9
      obtain ⟨l2x9, b5x9, c5x9, l6x9, l7x9, rfl, w0x9, h2x9, w3x9, h5x9, h6x9, h7x9⟩ := gNode_rd.1 r9
      obtain ⟨b0_2x9, c0_2x9, rfl, h0_2x9⟩ := gDisk_rd.1 h2x9
      obtain ⟨l1_6x9, b2_6x9, c2_6x9, b4_6x9, c4_6x9, l11_6x9, b13_6x9, c13_6x9, rfl, h1_6x9, h2_6x9, w3_6x9, h4_6x9, w5_6x9, w8_6x9, h11_6x9, h13_6x9⟩ := gWork_rd.1 h6x9
      obtain ⟨b1_1_6x9, c1_1_6x9, b2_1_6x9, c2_1_6x9, b3_1_6x9, c3_1_6x9, rfl, h1_1_6x9, h2_1_6x9, h3_1_6x9⟩ := gQuery_rd.1 h1_6x9
      obtain ⟨l0_11_6x9, b1_11_6x9, c1_11_6x9, b4_11_6x9, c4_11_6x9, rfl, h0_11_6x9, h1_11_6x9, w2_11_6x9, w3_11_6x9, h4_11_6x9⟩ := gCell_rd.1 h11_6x9
      obtain ⟨b1_0_11_6x9, c1_0_11_6x9, b2_0_11_6x9, c2_0_11_6x9, b3_0_11_6x9, c3_0_11_6x9, rfl, h1_0_11_6x9, h2_0_11_6x9, h3_0_11_6x9⟩ := gQuery_rd.1 h0_11_6x9
      obtain ⟨l1_7x9, b2_7x9, c2_7x9, b4_7x9, c4_7x9, l6_7x9, rfl, h1_7x9, h2_7x9, w3_7x9, h4_7x9, h6_7x9⟩ := gAsk_rd.1 h7x9
      obtain ⟨b1_1_7x9, c1_1_7x9, b2_1_7x9, c2_1_7x9, b3_1_7x9, c3_1_7x9, rfl, h1_1_7x9, h2_1_7x9, h3_1_7x9⟩ := gQuery_rd.1 h1_7x9
      obtain ⟨b0_6_7x9, c0_6_7x9, rfl, h0_6_7x9⟩ := gBag_rd.1 h6_7x9
      refine VCnew.intro fun x10 => ?_
      refine call_new (toMailS_ct _ _ _ (xa1) ?_) (Rp.mono _ (mem_at 4 rfl) hs1) ?_
      · omega
      rintro v11 A11 o11
      obtain ⟨b11, c11, rfl, o11⟩ := o11
      refine call_new (implPutMails_ct _ (xa0) _ _ _ (xa1) ?_ ?_) ⟨(Rp.mono _ (mem_at 1 rfl) r9), (Rp.mono _ (mem_at 0 rfl) (Gt.owrd _ o11))⟩ ?_
      · omega
      · omega
      rintro v12 A12 o12
      obtain ⟨l12, rfl, o12⟩ := o12
      have r12 := Gt.owrd _ o12
      obtain ⟨l2x12, b5x12, c5x12, l6x12, l7x12, rfl, w0x12, h2x12, w3x12, h5x12, h6x12, h7x12⟩ := gNode_rd.1 r12
      obtain ⟨b0_2x12, c0_2x12, rfl, h0_2x12⟩ := gDisk_rd.1 h2x12
      obtain ⟨l1_6x12, b2_6x12, c2_6x12, b4_6x12, c4_6x12, l11_6x12, b13_6x12, c13_6x12, rfl, h1_6x12, h2_6x12, w3_6x12, h4_6x12, w5_6x12, w8_6x12, h11_6x12, h13_6x12⟩ := gWork_rd.1 h6x12
      obtain ⟨b1_1_6x12, c1_1_6x12, b2_1_6x12, c2_1_6x12, b3_1_6x12, c3_1_6x12, rfl, h1_1_6x12, h2_1_6x12, h3_1_6x12⟩ := gQuery_rd.1 h1_6x12
      obtain ⟨l0_11_6x12, b1_11_6x12, c1_11_6x12, b4_11_6x12, c4_11_6x12, rfl, h0_11_6x12, h1_11_6x12, w2_11_6x12, w3_11_6x12, h4_11_6x12⟩ := gCell_rd.1 h11_6x12
      obtain ⟨b1_0_11_6x12, c1_0_11_6x12, b2_0_11_6x12, c2_0_11_6x12, b3_0_11_6x12, c3_0_11_6x12, rfl, h1_0_11_6x12, h2_0_11_6x12, h3_0_11_6x12⟩ := gQuery_rd.1 h0_11_6x12
      obtain ⟨l1_7x12, b2_7x12, c2_7x12, b4_7x12, c4_7x12, l6_7x12, rfl, h1_7x12, h2_7x12, w3_7x12, h4_7x12, h6_7x12⟩ := gAsk_rd.1 h7x12
      obtain ⟨b1_1_7x12, c1_1_7x12, b2_1_7x12, c2_1_7x12, b3_1_7x12, c3_1_7x12, rfl, h1_1_7x12, h2_1_7x12, h3_1_7x12⟩ := gQuery_rd.1 h1_7x12
      obtain ⟨b0_6_7x12, c0_6_7x12, rfl, h0_6_7x12⟩ := gBag_rd.1 h6_7x12
      refine VCnew.intro fun x13 => ?_
      refine call_val (eqNode_ct _ _ (putNode xa0 xa1) (putNode xa0 xa1)) ⟨(Rp.mono _ (mem_at 0 rfl) r12), (Rp.mono _ (mem_at 3 rfl) r7)⟩ ?_
      rintro _ rfl
      refine VCsplit.intro (fun q15 => ?_) (fun q15 => ?_)
      ·
        simp at q15
      ·
        simp at q15
        refine draw G_ok mixed none (.q 0 (.q 1 (.f 2 (.f 3 (.q 4 (.nil)))))) (by decide +kernel) ?_
        refine call_new (toNode_ct _ (xa0) ?_) (Rp.mono _ (mem_at 6 rfl) hp0) ?_
        · omega
        rintro v16 A16 o16
        obtain ⟨l16, rfl, o16⟩ := o16
        have r16 := Gt.owrd _ o16
        obtain ⟨l2x16, b5x16, c5x16, l6x16, l7x16, rfl, w0x16, h2x16, w3x16, h5x16, h6x16, h7x16⟩ := gNode_rd.1 r16
        obtain ⟨b0_2x16, c0_2x16, rfl, h0_2x16⟩ := gDisk_rd.1 h2x16
        obtain ⟨l1_6x16, b2_6x16, c2_6x16, b4_6x16, c4_6x16, l11_6x16, b13_6x16, c13_6x16, rfl, h1_6x16, h2_6x16, w3_6x16, h4_6x16, w5_6x16, w8_6x16, h11_6x16, h13_6x16⟩ := gWork_rd.1 h6x16
        obtain ⟨b1_1_6x16, c1_1_6x16, b2_1_6x16, c2_1_6x16, b3_1_6x16, c3_1_6x16, rfl, h1_1_6x16, h2_1_6x16, h3_1_6x16⟩ := gQuery_rd.1 h1_6x16
        obtain ⟨l0_11_6x16, b1_11_6x16, c1_11_6x16, b4_11_6x16, c4_11_6x16, rfl, h0_11_6x16, h1_11_6x16, w2_11_6x16, w3_11_6x16, h4_11_6x16⟩ := gCell_rd.1 h11_6x16
        obtain ⟨b1_0_11_6x16, c1_0_11_6x16, b2_0_11_6x16, c2_0_11_6x16, b3_0_11_6x16, c3_0_11_6x16, rfl, h1_0_11_6x16, h2_0_11_6x16, h3_0_11_6x16⟩ := gQuery_rd.1 h0_11_6x16
        obtain ⟨l1_7x16, b2_7x16, c2_7x16, b4_7x16, c4_7x16, l6_7x16, rfl, h1_7x16, h2_7x16, w3_7x16, h4_7x16, h6_7x16⟩ := gAsk_rd.1 h7x16
        obtain ⟨b1_1_7x16, c1_1_7x16, b2_1_7x16, c2_1_7x16, b3_1_7x16, c3_1_7x16, rfl, h1_1_7x16, h2_1_7x16, h3_1_7x16⟩ := gQuery_rd.1 h1_7x16
        obtain ⟨b0_6_7x16, c0_6_7x16, rfl, h0_6_7x16⟩ := gBag_rd.1 h6_7x16
        refine VC.intro ?_ ?_
        · exact keep_new
        refine call_val (eqNode_ct _ _ (xa0) (xa0)) ⟨(Rp.mono _ (mem_at 3 rfl) r9), (Rp.mono _ (mem_at 0 rfl) r16)⟩ ?_
        rintro _ rfl
        refine VC.intro ?_ ?_
        · exact keep_new
        refine VCsplit.intro (fun q18 => ?_) (fun q18 => ?_)
        ·
          simp at q18
        ·
          simp at q18
          refine call_new (toMailS_ct _ _ _ (xa1) ?_) (Rp.mono _ (mem_at 7 rfl) hs1) ?_
          · omega
          rintro v19 A19 o19
          obtain ⟨b19, c19, rfl, o19⟩ := o19
          refine call_val (eqMailS_ct _ _ _ _ _ _ (xa1) (xa1)) ⟨(Rp.mono _ (mem_at 3 rfl) (Gt.owrd _ o11)), (Rp.mono _ (mem_at 0 rfl) (Gt.owrd _ o19))⟩ ?_
          rintro _ rfl
          refine VCsplit.intro (fun q21 => ?_) (fun q21 => ?_)
          ·
            simp at q21
          ·
            simp at q21
            refine callR_at 4 rfl (markNode_ct _ _ _ _ o9 ?_ ?_) trivial ?_
            · trivial
            · (have := node_cnt9 xa0 (by omega); have := mails_cnt9 xa1 (by omega); omega)
            rintro _ A22 ⟨rfl, o22⟩
            refine callR_at 3 rfl (markMailS_ct _ _ _ _ _ _ o11 ?_ ?_) trivial ?_
            · omega
            · (have := node_cnt9 xa0 (by omega); have := mails_cnt9 xa1 (by omega); omega)
            rintro _ A23 ⟨rfl, o23⟩
            refine VCsplit.intro (fun q24 => ?_) (fun q24 => ?_)
            ·
              simp at q24
              exfalso; omega
            ·
              simp at q24
              refine call_val (eqNode_ct _ _ (putNode xa0 xa1) (putNode xa0 xa1)) ⟨(Rp.mono _ (mem_at 2 rfl) r12), (Rp.mono _ (mem_at 5 rfl) r7)⟩ ?_
              rintro _ rfl
              refine VCsplit.intro (fun q26 => ?_) (fun q26 => ?_)
              ·
                simp at q26
              ·
                simp at q26
                refine callR_at 2 rfl (markNode_ct _ _ _ _ o12 ?_ ?_) trivial ?_
                · trivial
                · (have := put_cnt9 xa0 xa1 (by omega) (by omega); omega)
                rintro _ A27 ⟨rfl, o27⟩
                refine call_val (heldNode_ct _ _ _ _ ?_ ?_ ?_) (Rp.mono _ (mem_at 2 rfl) (Gt.owrd _ o27)) ?_
                · rfl
                · trivial
                · (have := put_cnt9 xa0 xa1 (by omega) (by omega); omega)
                rintro _ rfl
                refine VCsplit.intro (fun q29 => ?_) (fun q29 => ?_)
                ·
                  simp at q29
                  exfalso; omega
                ·
                  simp at q29
                  refine VCsplit.intro (fun q30 => ?_) (fun q30 => ?_)
                  ·
                    simp at q30
                  ·
                    simp at q30
                    refine call_new (toNode_ct _ (xa0) ?_) (Rp.mono _ (mem_at 8 rfl) hp0) ?_
                    · omega
                    rintro v31 A31 o31
                    obtain ⟨l31, rfl, o31⟩ := o31
                    have r31 := Gt.owrd _ o31
                    obtain ⟨l2x31, b5x31, c5x31, l6x31, l7x31, rfl, w0x31, h2x31, w3x31, h5x31, h6x31, h7x31⟩ := gNode_rd.1 r31
                    obtain ⟨b0_2x31, c0_2x31, rfl, h0_2x31⟩ := gDisk_rd.1 h2x31
                    obtain ⟨l1_6x31, b2_6x31, c2_6x31, b4_6x31, c4_6x31, l11_6x31, b13_6x31, c13_6x31, rfl, h1_6x31, h2_6x31, w3_6x31, h4_6x31, w5_6x31, w8_6x31, h11_6x31, h13_6x31⟩ := gWork_rd.1 h6x31
                    obtain ⟨b1_1_6x31, c1_1_6x31, b2_1_6x31, c2_1_6x31, b3_1_6x31, c3_1_6x31, rfl, h1_1_6x31, h2_1_6x31, h3_1_6x31⟩ := gQuery_rd.1 h1_6x31
                    obtain ⟨l0_11_6x31, b1_11_6x31, c1_11_6x31, b4_11_6x31, c4_11_6x31, rfl, h0_11_6x31, h1_11_6x31, w2_11_6x31, w3_11_6x31, h4_11_6x31⟩ := gCell_rd.1 h11_6x31
                    obtain ⟨b1_0_11_6x31, c1_0_11_6x31, b2_0_11_6x31, c2_0_11_6x31, b3_0_11_6x31, c3_0_11_6x31, rfl, h1_0_11_6x31, h2_0_11_6x31, h3_0_11_6x31⟩ := gQuery_rd.1 h0_11_6x31
                    obtain ⟨l1_7x31, b2_7x31, c2_7x31, b4_7x31, c4_7x31, l6_7x31, rfl, h1_7x31, h2_7x31, w3_7x31, h4_7x31, h6_7x31⟩ := gAsk_rd.1 h7x31
                    obtain ⟨b1_1_7x31, c1_1_7x31, b2_1_7x31, c2_1_7x31, b3_1_7x31, c3_1_7x31, rfl, h1_1_7x31, h2_1_7x31, h3_1_7x31⟩ := gQuery_rd.1 h1_7x31
                    obtain ⟨b0_6_7x31, c0_6_7x31, rfl, h0_6_7x31⟩ := gBag_rd.1 h6_7x31
                    refine call_new (toMailS_ct _ _ _ (xa1) ?_) (Rp.mono _ (mem_at 9 rfl) hs1) ?_
                    · omega
                    rintro v32 A32 o32
                    obtain ⟨b32, c32, rfl, o32⟩ := o32
                    refine call_new (implPutMails_ct _ (xa0) _ _ _ (xa1) ?_ ?_) ⟨(Rp.mono _ (mem_at 1 rfl) r31), (Rp.mono _ (mem_at 0 rfl) (Gt.owrd _ o32))⟩ ?_
                    · omega
                    · omega
                    rintro v33 A33 o33
                    obtain ⟨l33, rfl, o33⟩ := o33
                    have r33 := Gt.owrd _ o33
                    obtain ⟨l2x33, b5x33, c5x33, l6x33, l7x33, rfl, w0x33, h2x33, w3x33, h5x33, h6x33, h7x33⟩ := gNode_rd.1 r33
                    obtain ⟨b0_2x33, c0_2x33, rfl, h0_2x33⟩ := gDisk_rd.1 h2x33
                    obtain ⟨l1_6x33, b2_6x33, c2_6x33, b4_6x33, c4_6x33, l11_6x33, b13_6x33, c13_6x33, rfl, h1_6x33, h2_6x33, w3_6x33, h4_6x33, w5_6x33, w8_6x33, h11_6x33, h13_6x33⟩ := gWork_rd.1 h6x33
                    obtain ⟨b1_1_6x33, c1_1_6x33, b2_1_6x33, c2_1_6x33, b3_1_6x33, c3_1_6x33, rfl, h1_1_6x33, h2_1_6x33, h3_1_6x33⟩ := gQuery_rd.1 h1_6x33
                    obtain ⟨l0_11_6x33, b1_11_6x33, c1_11_6x33, b4_11_6x33, c4_11_6x33, rfl, h0_11_6x33, h1_11_6x33, w2_11_6x33, w3_11_6x33, h4_11_6x33⟩ := gCell_rd.1 h11_6x33
                    obtain ⟨b1_0_11_6x33, c1_0_11_6x33, b2_0_11_6x33, c2_0_11_6x33, b3_0_11_6x33, c3_0_11_6x33, rfl, h1_0_11_6x33, h2_0_11_6x33, h3_0_11_6x33⟩ := gQuery_rd.1 h0_11_6x33
                    obtain ⟨l1_7x33, b2_7x33, c2_7x33, b4_7x33, c4_7x33, l6_7x33, rfl, h1_7x33, h2_7x33, w3_7x33, h4_7x33, h6_7x33⟩ := gAsk_rd.1 h7x33
                    obtain ⟨b1_1_7x33, c1_1_7x33, b2_1_7x33, c2_1_7x33, b3_1_7x33, c3_1_7x33, rfl, h1_1_7x33, h2_1_7x33, h3_1_7x33⟩ := gQuery_rd.1 h1_7x33
                    obtain ⟨b0_6_7x33, c0_6_7x33, rfl, h0_6_7x33⟩ := gBag_rd.1 h6_7x33
                    refine VCnew.intro fun x34 => ?_
                    refine call_val (eqNode_ct _ _ (putNode xa0 xa1) (putNode xa0 xa1)) ⟨(Rp.mono _ (mem_at 0 rfl) r33), (Rp.mono _ (mem_at 8 rfl) r7)⟩ ?_
                    rintro _ rfl
                    refine VCsplit.intro (fun q36 => ?_) (fun q36 => ?_)
                    ·
                      simp at q36
                    ·
                      simp at q36
                      refine call_val (heldNode_ct _ _ _ _ ?_ ?_ ?_) (Rp.mono _ (mem_at 5 rfl) (Gt.owrd _ o27)) ?_
                      · rfl
                      · trivial
                      · (have := put_cnt9 xa0 xa1 (by omega) (by omega); omega)
                      rintro _ rfl
                      refine VCsplit.intro (fun q38 => ?_) (fun q38 => ?_)
                      ·
                        simp at q38
                        exfalso; omega
                      ·
                        simp at q38
                        refine VCsplit.intro (fun q39 => ?_) (fun q39 => ?_)
                        ·
                          simp at q39
                        ·
                          simp at q39
                          exact ⟨[], ⟨rfl, rfl⟩, (.le fun a => by (try simp only [setR, List.cons_append, List.nil_append]); simp only [List.flatten_append, List.flatten_cons, List.flatten_nil, List.count_append, List.count_nil, List.append_nil, List.nil_append]; omega)⟩

end Go.Proofs.YtflfohphebmemaaGreat
