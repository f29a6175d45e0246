/-
  Nodes whose mails are put, on both sides. Conditions: none.
-/
import Derived.Test.YtflfohphebmemaaGreatRj
namespace Go.Proofs.YtflfohphebmemaaGreat
open Go.SX Go.Proofs
set_option linter.unusedSimpArgs false
set_option linter.unusedVariables false
set_option maxHeartbeats 8000000
attribute [local irreducible] IntKind.wrap

noncomputable def putNode (x : Node) (ms : List Mail) : Node := { x with links := putMs x.links ms }
theorem sz_get9 {α : Type} (g : Gt α) (z : α) : ∀ (xs : List α) (k : Nat), k < xs.length → g.sz (xs[k]?.getD z) + 1 ≤ szL g xs
  | [], k, h => absurd h (by simp)
  | x :: r, 0, _ => by rw [show szL g (x :: r) = 1 + g.sz x + szL g r from rfl]; show g.sz x + 1 ≤ _; omega
  | x :: r, k + 1, h => by
    have := sz_get9 g z r k (by simpa using h)
    rw [show szL g (x :: r) = 1 + g.sz x + szL g r from rfl]
    show g.sz (r[k]?.getD z) + 1 ≤ _; omega
theorem node_short {x : Node} (h : gNode.sz x ≤ 1048576) : shortL x.links := fun i hi => by
  have h1 := gNode_sz x
  have h2 := sz_get9 gLink default x.links i hi
  have h3 := gLink_sz (x.links[i]?.getD default)
  have h4 := len_szL gS (x.links[i]?.getD default).sent
  omega
theorem mails_text {ms : List Mail} (h : szL gMail ms ≤ 1048576) (i : Nat) (hi : i < ms.length) : (ms[i]?.getD default).letter.text.size ≤ 4194304 := by
  have h2 := sz_get9 gMail default ms i hi
  have h3 := gMail_sz (ms[i]?.getD default)
  have h4 := gLetter_sz (ms[i]?.getD default).letter
  omega
theorem node_put {x : Node} {ms : List Mail} {l2 l6 l7 : List Value} {A2 B A6 A7 : Hp} {b : Option Addr} {c : Nat} (w0 : okI x.id) (o2 : gDisk.ow l2 x.disk A2) (w3 : okI x.epoch) (o5 : (gSl 180 gLink).ow [.slice b x.links.length c] (putMs x.links ms) B) (o6 : gWork.ow l6 x.work A6) (o7 : gAsk.ow l7 x.ask A7) :
    gNode.ow (.int .i64 x.id :: .bool x.up :: l2 ++ (.int .i64 x.epoch :: .bool x.joined :: .slice b x.links.length c :: l6 ++ (l7 ++ ([])))) (putNode x ms) (A2 ++ (B ++ (A6 ++ A7))) :=
  gNode_ow.2 ⟨l2, A2, b, c, B, l6, A6, l7, A7, by unfold putNode; dsimp only; rw [putMs_len], .refl _, w0, o2, w3, by unfold putNode; dsimp only; rw [putMs_len]; exact o5, o6, o7⟩

--@ct impl.PutMails new implPutMails_ct _ $1 _ _ _ $2 ?_ ?_ | ⟨%1, %2⟩ | obtain ⟨l#, rfl, o#⟩ := o# ;; have r# := Gt.owrd _ o# ;; @open{Node r# x#}
--@ct spec.PutMails new specPutMails_ct _ $1 _ _ _ $2 ?_ ?_ | ⟨%1, %2⟩ | obtain ⟨l#, rfl, o#⟩ := o# ;; have r# := Gt.owrd _ o# ;; @open{Node r# x#}
theorem implPutMails_ct (l : List Value) (x : Node) (bm : Option Addr) (m cm : Nat) (ms : List Mail) (hx : gNode.sz x ≤ 1048576) (hm : szL gMail ms ≤ 1048576) :
    Ct Tryz.prog 12 [.agg ⟨l⟩, .slice bm m cm] [] (fun H => gNode.rd H l x ∧ (gSl 122 gMail).rd H [.slice bm m cm] ms) (fun v A => ∃ l, v = .agg ⟨l⟩ ∧ gNode.ow l (putNode x ms) A) := by
  refine Ct.intro0 G_ok Tryz.func12 rfl rfl rfl fun E H hp => ?_
  obtain ⟨hp, hq⟩ := hp
  obtain ⟨l2p, b5p, c5p, l6p, l7p, rfl, w0p, h2p, w3p, h5p, h6p, h7p⟩ := gNode_rd.1 hp
  obtain ⟨b0_2p, c0_2p, rfl, h0_2p⟩ := gDisk_rd.1 h2p
  obtain ⟨l1_6p, b2_6p, c2_6p, b4_6p, c4_6p, l11_6p, b13_6p, c13_6p, rfl, h1_6p, h2_6p, w3_6p, h4_6p, w5_6p, w8_6p, h11_6p, h13_6p⟩ := gWork_rd.1 h6p
  obtain ⟨b1_1_6p, c1_1_6p, b2_1_6p, c2_1_6p, b3_1_6p, c3_1_6p, rfl, h1_1_6p, h2_1_6p, h3_1_6p⟩ := gQuery_rd.1 h1_6p
  obtain ⟨l0_11_6p, b1_11_6p, c1_11_6p, b4_11_6p, c4_11_6p, rfl, h0_11_6p, h1_11_6p, w2_11_6p, w3_11_6p, h4_11_6p⟩ := gCell_rd.1 h11_6p
  obtain ⟨b1_0_11_6p, c1_0_11_6p, b2_0_11_6p, c2_0_11_6p, b3_0_11_6p, c3_0_11_6p, rfl, h1_0_11_6p, h2_0_11_6p, h3_0_11_6p⟩ := gQuery_rd.1 h0_11_6p
  obtain ⟨l1_7p, b2_7p, c2_7p, b4_7p, c4_7p, l6_7p, rfl, h1_7p, h2_7p, w3_7p, h4_7p, h6_7p⟩ := gAsk_rd.1 h7p
  obtain ⟨b1_1_7p, c1_1_7p, b2_1_7p, c2_1_7p, b3_1_7p, c3_1_7p, rfl, h1_1_7p, h2_1_7p, h3_1_7p⟩ := gQuery_rd.1 h1_7p
  obtain ⟨b0_6_7p, c0_6_7p, rfl, h0_6_7p⟩ := gBag_rd.1 h6_7p
  obtain ⟨rfl, hcm, hml⟩ := sl_len hq
  refine VCnew.intro fun x0 => ?_
  refine VCnew.intro fun x1 => ?_
  refine call_newP (copyNode_ct _ x ?_) (Rp.mono _ (mem_at 0 rfl) hp) ?_
  · trivial
  rintro v2 A2 o2
  obtain ⟨l2, rfl, o2⟩ := o2
  obtain ⟨l2x2, A22, b5x2, c5x2, A52, l6x2, A62, l7x2, A72, rfl, hp2, w0x2, o22, w3x2, o52, o62, o72⟩ := gNode_ow.1 o2
  have h2x2 := Gt.owrd _ o22
  have h5x2 := Gt.owrd _ o52
  have h6x2 := Gt.owrd _ o62
  have h7x2 := Gt.owrd _ o72
  refine ⟨[A22, A52, A62, A72], by simpa using hp2, ?_⟩
  obtain ⟨b0_2x2, c0_2x2, rfl, h0_2x2⟩ := gDisk_rd.1 h2x2
  obtain ⟨l1_6x2, b2_6x2, c2_6x2, b4_6x2, c4_6x2, l11_6x2, b13_6x2, c13_6x2, rfl, h1_6x2, h2_6x2, w3_6x2, h4_6x2, w5_6x2, w8_6x2, h11_6x2, h13_6x2⟩ := gWork_rd.1 h6x2
  obtain ⟨b1_1_6x2, c1_1_6x2, b2_1_6x2, c2_1_6x2, b3_1_6x2, c3_1_6x2, rfl, h1_1_6x2, h2_1_6x2, h3_1_6x2⟩ := gQuery_rd.1 h1_6x2
  obtain ⟨l0_11_6x2, b1_11_6x2, c1_11_6x2, b4_11_6x2, c4_11_6x2, rfl, h0_11_6x2, h1_11_6x2, w2_11_6x2, w3_11_6x2, h4_11_6x2⟩ := gCell_rd.1 h11_6x2
  obtain ⟨b1_0_11_6x2, c1_0_11_6x2, b2_0_11_6x2, c2_0_11_6x2, b3_0_11_6x2, c3_0_11_6x2, rfl, h1_0_11_6x2, h2_0_11_6x2, h3_0_11_6x2⟩ := gQuery_rd.1 h0_11_6x2
  obtain ⟨l1_7x2, b2_7x2, c2_7x2, b4_7x2, c4_7x2, l6_7x2, rfl, h1_7x2, h2_7x2, w3_7x2, h4_7x2, h6_7x2⟩ := gAsk_rd.1 h7x2
  obtain ⟨b1_1_7x2, c1_1_7x2, b2_1_7x2, c2_1_7x2, b3_1_7x2, c3_1_7x2, rfl, h1_1_7x2, h2_1_7x2, h3_1_7x2⟩ := gQuery_rd.1 h1_7x2
  obtain ⟨b0_6_7x2, c0_6_7x2, rfl, h0_6_7x2⟩ := gBag_rd.1 h6_7x2
  refine VCnew.intro fun x3 => ?_
  refine callR_blk 2 (A52) [A22, A62, A72, H] rfl ?_ (putMails_ct _ _ _ _ _ _ _ _ _ _ _ _ _ _ _ _ _ _ _ _ _ _ _ _ _ _ _ _ _ _ _ _ _ _ _ _ _ _ _ _ _ _ _ _ _ _ _ (ms) o52 ?_ ?_) (Rp.mono _ (mem_at 3 rfl) hq) ?_
  · exact .le fun a => by (try simp only [setR, List.cons_append, List.nil_append]); simp only [List.flatten_append, List.flatten_cons, List.flatten_nil, List.count_append, List.count_nil, List.append_nil, List.nil_append]; omega
  · exact node_short hx
  · exact mails_text hm
  rintro _ A4 ⟨B4, rfl, rfl, o4⟩
  refine ⟨_, _, [B4], rfl, perm1, ?_⟩
  try dsimp only
  exact ⟨_, ⟨_, rfl, node_put (by assumption) (by assumption) (by assumption) (by assumption) (by assumption) (by assumption)⟩, (.le fun a => by (try simp only [setR, List.cons_append, List.nil_append]); simp [List.count_cons, Blk.ent, idOf]; try omega)⟩

theorem specPutMails_ct (l : List Value) (x : Node) (bm : Option Addr) (m cm : Nat) (ms : List Mail) (hx : gNode.sz x ≤ 1048576) (hm : szL gMail ms ≤ 1048576) :
    Ct Tryz.prog 9 [.agg ⟨l⟩, .slice bm m cm] [] (fun H => gNode.rd H l x ∧ (gSl 122 gMail).rd H [.slice bm m cm] ms) (fun v A => ∃ l, v = .agg ⟨l⟩ ∧ gNode.ow l (putNode x ms) A) := by
  refine Ct.intro0 G_ok Tryz.func9 rfl rfl rfl fun E H hp => ?_
  obtain ⟨hp, hq⟩ := hp
  obtain ⟨l2p, b5p, c5p, l6p, l7p, rfl, w0p, h2p, w3p, h5p, h6p, h7p⟩ := gNode_rd.1 hp
  obtain ⟨b0_2p, c0_2p, rfl, h0_2p⟩ := gDisk_rd.1 h2p
  obtain ⟨l1_6p, b2_6p, c2_6p, b4_6p, c4_6p, l11_6p, b13_6p, c13_6p, rfl, h1_6p, h2_6p, w3_6p, h4_6p, w5_6p, w8_6p, h11_6p, h13_6p⟩ := gWork_rd.1 h6p
  obtain ⟨b1_1_6p, c1_1_6p, b2_1_6p, c2_1_6p, b3_1_6p, c3_1_6p, rfl, h1_1_6p, h2_1_6p, h3_1_6p⟩ := gQuery_rd.1 h1_6p
  obtain ⟨l0_11_6p, b1_11_6p, c1_11_6p, b4_11_6p, c4_11_6p, rfl, h0_11_6p, h1_11_6p, w2_11_6p, w3_11_6p, h4_11_6p⟩ := gCell_rd.1 h11_6p
  obtain ⟨b1_0_11_6p, c1_0_11_6p, b2_0_11_6p, c2_0_11_6p, b3_0_11_6p, c3_0_11_6p, rfl, h1_0_11_6p, h2_0_11_6p, h3_0_11_6p⟩ := gQuery_rd.1 h0_11_6p
  obtain ⟨l1_7p, b2_7p, c2_7p, b4_7p, c4_7p, l6_7p, rfl, h1_7p, h2_7p, w3_7p, h4_7p, h6_7p⟩ := gAsk_rd.1 h7p
  obtain ⟨b1_1_7p, c1_1_7p, b2_1_7p, c2_1_7p, b3_1_7p, c3_1_7p, rfl, h1_1_7p, h2_1_7p, h3_1_7p⟩ := gQuery_rd.1 h1_7p
  obtain ⟨b0_6_7p, c0_6_7p, rfl, h0_6_7p⟩ := gBag_rd.1 h6_7p
  obtain ⟨rfl, hcm, hml⟩ := sl_len hq
  refine VCnew.intro fun x0 => ?_
  refine VCnew.intro fun x1 => ?_
  refine call_newP (s_l26Copy_ct _ x ?_) (Rp.mono _ (mem_at 0 rfl) hp) ?_
  · trivial
  rintro v2 A2 o2
  obtain ⟨l2, rfl, o2⟩ := o2
  obtain ⟨l2x2, A22, b5x2, c5x2, A52, l6x2, A62, l7x2, A72, rfl, hp2, w0x2, o22, w3x2, o52, o62, o72⟩ := gNode_ow.1 o2
  have h2x2 := Gt.owrd _ o22
  have h5x2 := Gt.owrd _ o52
  have h6x2 := Gt.owrd _ o62
  have h7x2 := Gt.owrd _ o72
  refine ⟨[A22, A52, A62, A72], by simpa using hp2, ?_⟩
  obtain ⟨b0_2x2, c0_2x2, rfl, h0_2x2⟩ := gDisk_rd.1 h2x2
  obtain ⟨l1_6x2, b2_6x2, c2_6x2, b4_6x2, c4_6x2, l11_6x2, b13_6x2, c13_6x2, rfl, h1_6x2, h2_6x2, w3_6x2, h4_6x2, w5_6x2, w8_6x2, h11_6x2, h13_6x2⟩ := gWork_rd.1 h6x2
  obtain ⟨b1_1_6x2, c1_1_6x2, b2_1_6x2, c2_1_6x2, b3_1_6x2, c3_1_6x2, rfl, h1_1_6x2, h2_1_6x2, h3_1_6x2⟩ := gQuery_rd.1 h1_6x2
  obtain ⟨l0_11_6x2, b1_11_6x2, c1_11_6x2, b4_11_6x2, c4_11_6x2, rfl, h0_11_6x2, h1_11_6x2, w2_11_6x2, w3_11_6x2, h4_11_6x2⟩ := gCell_rd.1 h11_6x2
  obtain ⟨b1_0_11_6x2, c1_0_11_6x2, b2_0_11_6x2, c2_0_11_6x2, b3_0_11_6x2, c3_0_11_6x2, rfl, h1_0_11_6x2, h2_0_11_6x2, h3_0_11_6x2⟩ := gQuery_rd.1 h0_11_6x2
  obtain ⟨l1_7x2, b2_7x2, c2_7x2, b4_7x2, c4_7x2, l6_7x2, rfl, h1_7x2, h2_7x2, w3_7x2, h4_7x2, h6_7x2⟩ := gAsk_rd.1 h7x2
  obtain ⟨b1_1_7x2, c1_1_7x2, b2_1_7x2, c2_1_7x2, b3_1_7x2, c3_1_7x2, rfl, h1_1_7x2, h2_1_7x2, h3_1_7x2⟩ := gQuery_rd.1 h1_7x2
  obtain ⟨b0_6_7x2, c0_6_7x2, rfl, h0_6_7x2⟩ := gBag_rd.1 h6_7x2
  refine VCnew.intro fun x3 => ?_
  refine callR_blk 2 (A52) [A22, A62, A72, H] rfl ?_ (l26Put_ct _ _ _ _ _ _ _ _ _ _ _ _ _ _ _ _ _ _ _ _ _ _ _ _ _ _ _ _ _ _ _ _ _ _ _ _ _ _ _ _ _ _ _ _ _ _ _ (ms) o52 ?_ ?_) (Rp.mono _ (mem_at 3 rfl) hq) ?_
  · exact .le fun a => by (try simp only [setR, List.cons_append, List.nil_append]); simp only [List.flatten_append, List.flatten_cons, List.flatten_nil, List.count_append, List.count_nil, List.append_nil, List.nil_append]; omega
  · exact node_short hx
  · exact mails_text hm
  rintro _ A4 ⟨B4, rfl, rfl, o4⟩
  refine ⟨_, _, [B4], rfl, perm1, ?_⟩
  try dsimp only
  exact ⟨_, ⟨_, rfl, node_put (by assumption) (by assumption) (by assumption) (by assumption) (by assumption) (by assumption)⟩, (.le fun a => by (try simp only [setR, List.cons_append, List.nil_append]); simp [List.count_cons, Blk.ent, idOf]; try omega)⟩

end Go.Proofs.YtflfohphebmemaaGreat
