/-
  Links written by longer lists, links of a node. Conditions: none.
-/
import Derived.Test.YtflfohphebmemaaGreatRk
import Derived.Test.YtflfohphebmemaaGreatKa
namespace Go.Proofs.YtflfohphebmemaaGreat
open Go.SX Go.Proofs
set_option linter.unusedSimpArgs false
set_option linter.unusedVariables false
set_option maxHeartbeats 4000000
attribute [local irreducible] IntKind.wrap

theorem cloneSb_ct (b : Option Addr) (m c : Nat) (xs : List ByteArray) (hx : xs.length ≤ 1048576) :
    Ct Tryz.prog 178 [.slice b m c] [] (fun H => (gSl 9 gS).rd H [.slice b m c] xs) (fun v A => ∃ b c, v = .slice b xs.length c ∧ (gSl 9 gS).ow [.slice b xs.length c] xs A) := by
  refine Ct.intro0 G_ok Tryz.func178 rfl rfl rfl fun E H hp => ?_
  obtain ⟨rfl, hcl, hl⟩ := sl_len hp
  refine VCsplit.intro (fun q0 => ?_) (fun q0 => ?_)
  ·
    simp at q0
    (obtain rfl := sl_none hp ‹_ = none›; exact ⟨[], ⟨none, 0, rfl, sl_nil _ _ _⟩, (.le fun a => by (try simp only [setR, List.cons_append, List.nil_append]); simp only [List.flatten_append, List.flatten_cons, List.flatten_nil, List.count_append, List.count_nil, List.append_nil, List.nil_append]; omega)⟩)
  ·
    simp at q0
    refine VCnew.intro fun x1 => ?_
    refine append_allN (g := gS) (T := (9 : TypeId)) G_ok (by repeat (first | exact fl_plain | apply plain_iso | apply plain_pair)) [] [[(x1, Obj.cells { toList := zeros (0 : Nat) [Value.string ByteArray.empty] } (9 : TypeId))], H] 1 ?_ (sl_nil _ _ _) rfl hp rfl rfl rfl rfl rfl rfl rfl rfl ?_ fun b2 c2 A2 o2 => ?_
    · exact .refl _
    · simp; omega
    exact ⟨_, ⟨_, _, rfl, by assumption⟩, (.le fun a => by (try simp only [setR, List.cons_append, List.nil_append]); simp only [List.flatten_append, List.flatten_cons, List.flatten_nil, List.count_append, List.count_nil, List.append_nil, List.nil_append]; omega)⟩
theorem copyLinkb_ct (l : List Value) (x : Link) (hx : x.sent.length ≤ 1048576) :
    Ct Tryz.prog 138 [.agg ⟨l⟩] [] (fun H => gLink.rd H l x) (fun v A => ∃ l, v = .agg ⟨l⟩ ∧ gLink.ow l x A) := by
  refine Ct.intro0 G_ok Tryz.func138 rfl rfl rfl fun E H hp => ?_
  obtain ⟨b0p, c0p, rfl, h0p, w1p, w2p⟩ := gLink_rd.1 hp
  refine VCnew.intro fun x0 => ?_
  refine VCnew.intro fun x1 => ?_
  refine call_new (cloneSb_ct _ _ _ (x.sent) ?_) (Rp.mono _ (mem_at 0 rfl) h0p) ?_
  · trivial
  rintro v2 A2 o2
  obtain ⟨b2, c2, rfl, o2⟩ := o2
  exact ⟨_, ⟨_, rfl, gLink_ow.2 ⟨_, _, _, rfl, .refl _, by assumption, by assumption, by assumption⟩⟩, (.le fun a => by (try simp only [setR, List.cons_append, List.nil_append]); simp only [List.flatten_append, List.flatten_cons, List.flatten_nil, List.count_append, List.count_nil, List.append_nil, List.nil_append]; omega)⟩
theorem s_l18Copyb_ct (l : List Value) (x : Link) (hx : x.sent.length ≤ 1048576) :
    Ct Tryz.prog 127 [.agg ⟨l⟩] [] (fun H => gLink.rd H l x) (fun v A => ∃ l, v = .agg ⟨l⟩ ∧ gLink.ow l x A) := by
  refine Ct.intro0 G_ok Tryz.func127 rfl rfl rfl fun E H hp => ?_
  obtain ⟨b0p, c0p, rfl, h0p, w1p, w2p⟩ := gLink_rd.1 hp
  refine VCnew.intro fun x0 => ?_
  refine VCnew.intro fun x1 => ?_
  refine draw G_ok mixed (some 9) (.q 1 (.q 2 (.q 4 (.q 5 (.q 6 (.q 7 (.f 0 (.f 3 (.q 8 (.tl 9 (.nil))))))))))) (by decide +kernel) ?_
  refine VCnew.intro fun x2 => ?_
  refine VC.intro ?_ ?_
  · exact keep_new
  refine append_allN (g := gS) (T := (9 : TypeId)) G_ok (by repeat (first | exact fl_plain | apply plain_iso | apply plain_pair)) [] [[(x2, Obj.cells { toList := zeros (0 : Nat) [Value.string ByteArray.empty] } (9 : TypeId))], H] 1 ?_ (sl_nil _ _ _) rfl h0p rfl rfl rfl rfl rfl rfl rfl rfl ?_ fun b3 c3 A3 o3 => ?_
  · exact .refl _
  · simp; omega
  refine VC.intro ?_ ?_
  · exact keep_sub (by simp) (by simp)
  exact ⟨_, ⟨_, rfl, gLink_ow.2 ⟨_, _, _, rfl, .refl _, by assumption, by assumption, by assumption⟩⟩, (.le fun a => by (try simp only [setR, List.cons_append, List.nil_append]); simp only [List.flatten_append, List.flatten_cons, List.flatten_nil, List.count_append, List.count_nil, List.append_nil, List.nil_append]; omega)⟩
theorem implLinkPutb_ct (l : List Value) (x : Link) (t : ByteArray) (hx : x.sent.length ≤ 1048576) (ht : t.size ≤ 9223372036854775807) : Ct Tryz.prog 143 [.agg ⟨l⟩, .string t] [] (fun H => gLink.rd H l x) (fun v A => ∃ l, v = .tuple #[.agg ⟨l⟩, .bool (linkPut x t).2] ∧ gLink.ow l (linkPut x t).1 A) := by
  refine Ct.intro0 G_ok Tryz.func143 rfl rfl rfl fun E H hp => ?_
  obtain ⟨b0p, c0p, rfl, h0p, w1p, w2p⟩ := gLink_rd.1 hp
  have hl := (rd_len h0p).2
  refine VCnew.intro fun x0 => ?_
  refine VCnew.intro fun x1 => ?_
  refine call_newP (copyLinkb_ct _ (x) ?_) (Rp.mono _ (mem_at 0 rfl) hp) ?_
  · trivial
  rintro v2 A2 o2
  obtain ⟨l2, rfl, o2⟩ := o2
  obtain ⟨bs, cs, As, rfl, hpm, os, w1z, w2z⟩ := gLink_ow.1 o2
  refine ⟨[As], by simpa using hpm, ?_⟩
  refine VCnew.intro fun x3 => ?_
  refine call_val (implLinkOk_ct _ (x)) (Rp.mono _ (mem_at 1 rfl) hp) ?_
  rintro _ rfl
  refine VCsplit.intro (fun q5 => ?_) (fun q5 => ?_)
  ·
    simp at q5
    (rw [put_no1 (by assumption)]; exact ⟨_, ⟨_, rfl, link_back os w1z w2z⟩, (.le fun a => by (try simp only [setR, List.cons_append, List.nil_append]); simp only [List.flatten_append, List.flatten_cons, List.flatten_nil, List.count_append, List.count_nil, List.append_nil, List.nil_append]; omega)⟩)
  ·
    simp at q5
    refine VCsplit.intro (fun q6 => ?_) (fun q6 => ?_)
    ·
      simp at q6
      (rw [linkPut_no (by omega)]; exact ⟨_, ⟨_, rfl, link_back os w1z w2z⟩, (.le fun a => by (try simp only [setR, List.cons_append, List.nil_append]); simp only [List.flatten_append, List.flatten_cons, List.flatten_nil, List.count_append, List.count_nil, List.append_nil, List.nil_append]; omega)⟩)
    ·
      simp at q6
      refine call_val (isBody_ct _ ?_) trivial ?_
      · trivial
      rintro _ rfl
      refine VCsplit.intro (fun q8 => ?_) (fun q8 => ?_)
      ·
        simp at q8
        (rw [put_no3 (by assumption)]; exact ⟨_, ⟨_, rfl, link_back os w1z w2z⟩, (.le fun a => by (try simp only [setR, List.cons_append, List.nil_append]); simp only [List.flatten_append, List.flatten_cons, List.flatten_nil, List.count_append, List.count_nil, List.append_nil, List.nil_append]; omega)⟩)
      ·
        simp at q8
        refine VCnew.intro fun x9 => ?_
        refine gappend1 (g := gS) (T := (9 : TypeId)) G_ok As [] [H] ?_ os (gS_ow ?_) (List.mem_of_getElem? (i := 0) rfl) rfl rfl rfl rfl rfl rfl rfl rfl ?_ fun b10 c10 A10 o10 => ?_
        · exact .tl
        · trivial
        · omega
        (have hk := linkOk_iff.1 ‹linkOk x = true›; rw [linkPut_yes (by assumption) (by omega) (by assumption)]; exact ⟨_, ⟨_, rfl, link_back (by assumption) w1z w2z⟩, (.le fun a => by (try simp only [setR, List.cons_append, List.nil_append]); simp only [List.flatten_append, List.flatten_cons, List.flatten_nil, List.count_append, List.count_nil, List.append_nil, List.nil_append]; omega)⟩)
theorem specLinkPutb_ct (l : List Value) (x : Link) (t : ByteArray) (hx : x.sent.length ≤ 1048576) (ht : t.size ≤ 9223372036854775807) : Ct Tryz.prog 131 [.agg ⟨l⟩, .string t] [] (fun H => gLink.rd H l x) (fun v A => ∃ l, v = .tuple #[.agg ⟨l⟩, .bool (linkPut x t).2] ∧ gLink.ow l (linkPut x t).1 A) := by
  refine Ct.intro0 G_ok Tryz.func131 rfl rfl rfl fun E H hp => ?_
  obtain ⟨b0p, c0p, rfl, h0p, w1p, w2p⟩ := gLink_rd.1 hp
  have hl := (rd_len h0p).2
  refine VCnew.intro fun x0 => ?_
  refine VCnew.intro fun x1 => ?_
  refine call_newP (s_l18Copyb_ct _ (x) ?_) (Rp.mono _ (mem_at 0 rfl) hp) ?_
  · trivial
  rintro v2 A2 o2
  obtain ⟨l2, rfl, o2⟩ := o2
  obtain ⟨bs, cs, As, rfl, hpm, os, w1z, w2z⟩ := gLink_ow.1 o2
  refine ⟨[As], by simpa using hpm, ?_⟩
  refine VCnew.intro fun x3 => ?_
  refine VCnew.intro fun x4 => ?_
  refine gappend1 (g := gS) (T := (9 : TypeId)) G_ok As [] [H] ?_ os (gS_ow ?_) (List.mem_of_getElem? (i := 0) rfl) rfl rfl rfl rfl rfl rfl rfl rfl ?_ fun b5 c5 A5 o5 => ?_
  · exact .tl
  · trivial
  · omega
  refine call_val (specLinkOk_ct _ (x)) (Rp.mono _ (mem_at 1 rfl) hp) ?_
  rintro _ rfl
  refine VCsplit.intro (fun q7 => ?_) (fun q7 => ?_)
  ·
    simp at q7
    refine call_newP (s_l18Copyb_ct _ (x) ?_) (Rp.mono _ (mem_at 1 rfl) hp) ?_
    · trivial
    rintro v8 A8 o8
    obtain ⟨l8, rfl, o8⟩ := o8
    obtain ⟨bs, cs, As, rfl, hpm, os, w1z, w2z⟩ := gLink_ow.1 o8
    refine ⟨[As], by simpa using hpm, ?_⟩
    (rw [put_no1 (by assumption)]; exact ⟨_, ⟨_, rfl, link_back os w1z w2z⟩, (.le fun a => by (try simp only [setR, List.cons_append, List.nil_append]); simp only [List.flatten_append, List.flatten_cons, List.flatten_nil, List.count_append, List.count_nil, List.append_nil, List.nil_append]; omega)⟩)
  ·
    simp at q7
    have r9 := Gt.owrd _ (link_back (a := x.acked) (k := x.took) o5 w1z w2z)
    refine call_val (specLinkOk_ct _ ({ sent := x.sent ++ [t], acked := x.acked, took := x.took })) (Rp.mono _ (mem_at 0 rfl) r9) ?_
    rintro _ rfl
    refine VCsplit.intro (fun q10 => ?_) (fun q10 => ?_)
    ·
      simp at q10
      refine call_newP (s_l18Copyb_ct _ (x) ?_) (Rp.mono _ (mem_at 1 rfl) hp) ?_
      · trivial
      rintro v11 A11 o11
      obtain ⟨l11, rfl, o11⟩ := o11
      obtain ⟨bs, cs, As, rfl, hpm, os, w1z, w2z⟩ := gLink_ow.1 o11
      refine ⟨[As], by simpa using hpm, ?_⟩
      (rw [linkPut_no (fun h2 => by (have h3 := (linkOk_put (t := t) h2.1).2 h2.2; rw [‹linkOk ⟨_, _, _⟩ = false›] at h3; cases h3))]; exact ⟨_, ⟨_, rfl, link_back os w1z w2z⟩, (.le fun a => by (try simp only [setR, List.cons_append, List.nil_append]); simp only [List.flatten_append, List.flatten_cons, List.flatten_nil, List.count_append, List.count_nil, List.append_nil, List.nil_append]; omega)⟩)
    ·
      simp at q10
      (have hk := (linkOk_put (t := t) ‹linkOk x = true›).1 ‹linkOk ⟨_, _, _⟩ = true›; rw [linkPut_yes (by assumption) hk.1 hk.2]; exact ⟨_, ⟨_, rfl, link_back o5 w1z w2z⟩, (.le fun a => by (try simp only [setR, List.cons_append, List.nil_append]); simp only [List.flatten_append, List.flatten_cons, List.flatten_nil, List.count_append, List.count_nil, List.append_nil, List.nil_append]; omega)⟩)

theorem hasLink_ct (j : Int) (c0 c1 c2 c3 c4 c6 c7 c8 c9 c10 c11 c12 c13 c14 c15 c16 c17 c18 c19 c20 c21 c22 c23 c24 c25 c26 c27 c28 c29 c30 c31 c32 c33 c34 c35 c36 c37 c38 c39 : Value) (b : Option Addr) (n c : Nat) : Ct Tryz.prog 142 [.agg ⟨[c0, c1, c2, c3, c4, .slice b n c, c6, c7, c8, c9, c10, c11, c12, c13, c14, c15, c16, c17, c18, c19, c20, c21, c22, c23, c24, c25, c26, c27, c28, c29, c30, c31, c32, c33, c34, c35, c36, c37, c38, c39]⟩, .int .i64 j] [] (fun _ => True) (fun v A => v = .bool (inR 0 ((n : Int) - 1) j) ∧ A = []) := by
  refine Ct.intro0 G_ok Tryz.func142 rfl rfl rfl fun E H hp => ?_
  refine VCnew.intro fun x0 => ?_
  refine VCsplit.intro (fun q1 => ?_) (fun q1 => ?_)
  ·
    simp at q1
    try dsimp only
    exact ⟨[], ⟨congrArg Value.bool (by unfold inR; rw [Bool.eq_iff_iff]; simp; omega), rfl⟩, (.le fun a => by (try simp only [setR, List.cons_append, List.nil_append]); simp only [List.flatten_append, List.flatten_cons, List.flatten_nil, List.count_append, List.count_nil, List.append_nil, List.nil_append]; omega)⟩
  ·
    simp at q1
    try dsimp only
    exact ⟨[], ⟨congrArg Value.bool (by unfold inR; rw [Bool.eq_iff_iff]; simp; omega), rfl⟩, (.le fun a => by (try simp only [setR, List.cons_append, List.nil_append]); simp only [List.flatten_append, List.flatten_cons, List.flatten_nil, List.count_append, List.count_nil, List.append_nil, List.nil_append]; omega)⟩

/-! mails put into links -/
noncomputable def putMail (ls : List Link) (m : Mail) : List Link := if letterM m.letter = true ∧ inR 0 ((ls.length : Int) - 1) m.peer = true then ls.set m.peer.toNat (linkPut (ls[m.peer.toNat]?.getD default) (ltR m.letter)).1 else ls
noncomputable def putMs (ls : List Link) (ms : List Mail) : List Link := ms.foldl putMail ls
theorem putMail_len (ls : List Link) (m : Mail) : (putMail ls m).length = ls.length := by
  unfold putMail; split
  · rw [List.length_set]
  · rfl
theorem putMs_len : ∀ (ms : List Mail) (ls : List Link), (putMs ls ms).length = ls.length
  | [], _ => rfl
  | m :: r, ls => (putMs_len r (putMail ls m)).trans (putMail_len ls m)
theorem putMs_step {ls : List Link} {ms : List Mail} {k : Nat} (h : k < ms.length) : putMs ls (ms.take (k + 1)) = putMail (putMs ls (ms.take k)) (ms[k]?.getD default) := by
  unfold putMs
  rw [← List.take_append_getElem h, List.foldl_append, List.getElem?_eq_getElem h]; rfl
def shortL (ls : List Link) : Prop := ∀ i, i < ls.length → (ls[i]?.getD default).sent.length ≤ 1048576
theorem linkPut_short {l : Link} {t : ByteArray} (h : l.sent.length ≤ 1048576) : (linkPut l t).1.sent.length ≤ 1048576 := by
  unfold linkPut
  split
  · rename_i h1
    show (l.sent ++ [t]).length ≤ _
    rw [List.length_append]; show l.sent.length + 1 ≤ _; omega
  · exact h
theorem putMail_short {ls : List Link} (m : Mail) (h : shortL ls) : shortL (putMail ls m) := by
  unfold putMail
  split
  · rename_i h1
    have h2 := inR_iff.1 h1.2
    intro i hi
    rw [List.length_set] at hi
    rw [List.getElem?_set]
    split
    · subst i
      rw [if_pos hi]
      exact linkPut_short (h _ hi)
    · exact h i hi
  · exact h
theorem putMs_short : ∀ (ms : List Mail) {ls : List Link}, shortL ls → shortL (putMs ls ms)
  | [], _, h => h
  | m :: r, _, h => putMs_short r (putMail_short m h)
theorem putMail_no1 {ls : List Link} {m : Mail} (h : letterM m.letter = false) : putMail ls m = ls := if_neg fun e => by rw [h] at e; cases e.1
theorem putMail_no2 {ls : List Link} {m : Mail} (h : inR 0 ((ls.length : Int) - 1) m.peer = false) : putMail ls m = ls := if_neg fun e => by rw [h] at e; cases e.2
theorem putMail_yes {ls : List Link} {m : Mail} (h1 : letterM m.letter = true) (h2 : inR 0 ((ls.length : Int) - 1) m.peer = true) : putMail ls m = ls.set m.peer.toNat (linkPut (ls[m.peer.toNat]?.getD default) (ltR m.letter)).1 := if_pos ⟨h1, h2⟩

end Go.Proofs.YtflfohphebmemaaGreat
