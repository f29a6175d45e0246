/-
  What a link takes, on both sides. Conditions: none.
-/
import Derived.Test.YtmmmjikanmgpfaaKe
namespace Go.Proofs.Ytmmmjikanmgpfaa
open Go.SX Go.Proofs
set_option linter.unusedSimpArgs false
set_option linter.unusedVariables false
set_option maxHeartbeats 4000000
attribute [local irreducible] IntKind.wrap

--@ct impl.LinkTake new implLinkTake_ct _ $1 _ $2 ?_ | ⟨%1, %2⟩ | obtain ⟨l#, rfl, o#⟩ := o# ;; have r# := Gt.owrd _ o# ;; @open{Link r# x#}
--@ct spec.LinkTake new specLinkTake_ct _ $1 _ $2 ?_ | ⟨%1, %2⟩ | obtain ⟨l#, rfl, o#⟩ := o# ;; have r# := Gt.owrd _ o# ;; @open{Link r# x#}
theorem take_is {x : Link} {p : Packet} {a t : Int} {b : ByteArray} (h : linkOk x = true) (h2 : packOk p = true) (ha : (x.acked < p.ack ∧ p.ack ≤ x.sent.length ∧ a = p.ack) ∨ (¬ (x.acked < p.ack ∧ p.ack ≤ x.sent.length) ∧ a = x.acked))
    (ht : (p.seq = x.took + 1 ∧ t = p.seq ∧ b = p.body) ∨ (p.seq ≠ x.took + 1 ∧ t = x.took ∧ b = .empty)) : linkTake x p = (⟨x.sent, a, t⟩, b) := by
  rw [take_yes h h2]
  rcases ha with ⟨h3, h4, rfl⟩ | ⟨h3, rfl⟩
  · rw [if_pos ⟨h3, h4⟩]
    rcases ht with ⟨h5, rfl, rfl⟩ | ⟨h5, rfl, rfl⟩
    · rw [if_pos h5, if_pos h5]
    · rw [if_neg h5, if_neg h5]
  · rw [if_neg h3]
    rcases ht with ⟨h5, rfl, rfl⟩ | ⟨h5, rfl, rfl⟩
    · rw [if_pos h5, if_pos h5]
    · rw [if_neg h5, if_neg h5]
theorem implLinkTake_ct (l : List Value) (x : Link) (l2 : List Value) (p : Packet) (hx : gLink.sz x ≤ 1048576) : Ct Try.prog 74 [.agg ⟨l⟩, .agg ⟨l2⟩] [] (fun H => gLink.rd H l x ∧ gPacket.rd H l2 p) (fun v A => ∃ l, v = .tuple #[.agg ⟨l⟩, .string (linkTake x p).2] ∧ gLink.ow l (linkTake x p).1 A) := by
  refine Ct.intro0 G_ok Try.func74 rfl rfl rfl fun E H hp => ?_
  obtain ⟨hp, hp2⟩ := hp
  obtain ⟨b0p, c0p, rfl, h0p, w1p, w2p⟩ := gLink_rd.1 hp
  obtain ⟨rfl, w0y, w1y, w2y, w3y, w4y, w5y⟩ := gPacket_rd.1 hp2
  have hl := (rd_len h0p).2
  have hz := gLink_sz x
  have hls := len_szL gS x.sent
  refine VCnew.intro fun x0 => ?_
  refine VCnew.intro fun x1 => ?_
  refine VCnew.intro fun x2 => ?_
  refine call_newP (copyLink_ct _ (x) ?_) (Rp.mono _ (mem_at 0 rfl) hp) ?_
  · trivial
  rintro v3 A3 o3
  obtain ⟨l3, rfl, o3⟩ := o3
  obtain ⟨bs, cs, As, rfl, hpm, os, w1z, w2z⟩ := gLink_ow.1 o3
  refine ⟨[As], by simpa using hpm, ?_⟩
  refine VCnew.intro fun x4 => ?_
  refine call_val (implLinkOk_ct _ (x)) (Rp.mono _ (mem_at 1 rfl) hp) ?_
  rintro _ rfl
  refine VCsplit.intro (fun q6 => ?_) (fun q6 => ?_)
  ·
    simp at q6
    (rw [take_no (by simp_all)]; exact ⟨_, ⟨_, rfl, link_new os w1z w2z⟩, (.le fun a => by (try simp only [setR, List.cons_append, List.nil_append]); simp [List.count_cons, Blk.ent, idOf]; try omega)⟩)
  ·
    simp at q6
    refine call_val (implPacketOk_ct _ (p)) (Rp.mono _ (mem_at 1 rfl) hp2) ?_
    rintro _ rfl
    refine VCsplit.intro (fun q8 => ?_) (fun q8 => ?_)
    ·
      simp at q8
      (rw [take_no (by simp_all)]; exact ⟨_, ⟨_, rfl, link_new os w1z w2z⟩, (.le fun a => by (try simp only [setR, List.cons_append, List.nil_append]); simp [List.count_cons, Blk.ent, idOf]; try omega)⟩)
    ·
      simp at q8
      have hk := linkOk_iff.1 ‹linkOk x = true›
      have hwt : IntKind.i64.wrap (x.took + 1) = x.took + 1 := wrap_of (by omega) (by omega)
      refine VCsplit.intro (fun q9 => ?_) (fun q9 => ?_)
      ·
        simp at q9
        refine VCsplit.intro (fun q10 => ?_) (fun q10 => ?_)
        ·
          simp at q10
          refine VCsplit.intro (fun q11 => ?_) (fun q11 => ?_)
          ·
            rw [hwt] at q11
            simp at q11
            (rw [take_is (a := p.ack) (t := x.took) (b := .empty) ‹linkOk x = true› ‹packOk p = true› (by omega) (.inr ⟨by omega, rfl, rfl⟩)]; exact ⟨_, ⟨_, rfl, link_new os (by assumption) (by assumption)⟩, (.le fun a => by (try simp only [setR, List.cons_append, List.nil_append]); simp [List.count_cons, Blk.ent, idOf]; try omega)⟩)
          ·
            rw [hwt] at q11
            simp at q11
            refine draw G_ok mixed none (.q 1 (.hd (.alt 0 (.hd (.alt 2 (.f 3 (.q 4 (.nil))) (.alt 3 (.f 2 (.q 4 (.nil))) (.nil)))) (.alt 2 (.f 0 (.f 3 (.q 4 (.nil)))) (.nil))))) (by decide +kernel) ?_
            refine VC.intro ?_ ?_
            ·
              refine VC.intro ?_ ?_
              ·
                (rw [take_is (a := p.ack) (t := p.seq) (b := p.body) ‹linkOk x = true› ‹packOk p = true› (by omega) (.inl ⟨by omega, rfl, rfl⟩)]; exact ⟨_, ⟨_, rfl, link_new os (by assumption) (by assumption)⟩, (.le fun a => by (try simp only [setR, List.cons_append, List.nil_append]); simp [List.count_cons, Blk.ent, idOf]; try omega)⟩)
              ·
                refine VC.intro ?_ ?_
                ·
                  (rw [take_is (a := p.ack) (t := p.seq) (b := p.body) ‹linkOk x = true› ‹packOk p = true› (by omega) (.inl ⟨by omega, rfl, rfl⟩)]; exact ⟨_, ⟨_, rfl, link_new os (by assumption) (by assumption)⟩, (.le fun a => by (try simp only [setR, List.cons_append, List.nil_append]); simp [List.count_cons, Blk.ent, idOf]; try omega)⟩)
                ·
                  exact trivial
            ·
              refine VC.intro ?_ ?_
              ·
                (rw [take_is (a := p.ack) (t := p.seq) (b := p.body) ‹linkOk x = true› ‹packOk p = true› (by omega) (.inl ⟨by omega, rfl, rfl⟩)]; exact ⟨_, ⟨_, rfl, link_new os (by assumption) (by assumption)⟩, (.le fun a => by (try simp only [setR, List.cons_append, List.nil_append]); simp [List.count_cons, Blk.ent, idOf]; try omega)⟩)
              ·
                exact trivial
        ·
          simp at q10
          refine VCsplit.intro (fun q12 => ?_) (fun q12 => ?_)
          ·
            rw [hwt] at q12
            simp at q12
            (rw [take_is (a := x.acked) (t := x.took) (b := .empty) ‹linkOk x = true› ‹packOk p = true› (by omega) (.inr ⟨by omega, rfl, rfl⟩)]; exact ⟨_, ⟨_, rfl, link_new os (by assumption) (by assumption)⟩, (.le fun a => by (try simp only [setR, List.cons_append, List.nil_append]); simp [List.count_cons, Blk.ent, idOf]; try omega)⟩)
          ·
            rw [hwt] at q12
            simp at q12
            refine draw G_ok mixed none (.q 1 (.hd (.alt 0 (.hd (.alt 2 (.f 3 (.q 4 (.nil))) (.alt 3 (.f 2 (.q 4 (.nil))) (.nil)))) (.alt 2 (.f 0 (.f 3 (.q 4 (.nil)))) (.nil))))) (by decide +kernel) ?_
            refine VC.intro ?_ ?_
            ·
              refine VC.intro ?_ ?_
              ·
                (rw [take_is (a := x.acked) (t := p.seq) (b := p.body) ‹linkOk x = true› ‹packOk p = true› (by omega) (.inl ⟨by omega, rfl, rfl⟩)]; exact ⟨_, ⟨_, rfl, link_new os (by assumption) (by assumption)⟩, (.le fun a => by (try simp only [setR, List.cons_append, List.nil_append]); simp [List.count_cons, Blk.ent, idOf]; try omega)⟩)
              ·
                refine VC.intro ?_ ?_
                ·
                  (rw [take_is (a := x.acked) (t := p.seq) (b := p.body) ‹linkOk x = true› ‹packOk p = true› (by omega) (.inl ⟨by omega, rfl, rfl⟩)]; exact ⟨_, ⟨_, rfl, link_new os (by assumption) (by assumption)⟩, (.le fun a => by (try simp only [setR, List.cons_append, List.nil_append]); simp [List.count_cons, Blk.ent, idOf]; try omega)⟩)
                ·
                  exact trivial
            ·
              refine VC.intro ?_ ?_
              ·
                (rw [take_is (a := x.acked) (t := p.seq) (b := p.body) ‹linkOk x = true› ‹packOk p = true› (by omega) (.inl ⟨by omega, rfl, rfl⟩)]; exact ⟨_, ⟨_, rfl, link_new os (by assumption) (by assumption)⟩, (.le fun a => by (try simp only [setR, List.cons_append, List.nil_append]); simp [List.count_cons, Blk.ent, idOf]; try omega)⟩)
              ·
                exact trivial
      ·
        simp at q9
        refine VCsplit.intro (fun q13 => ?_) (fun q13 => ?_)
        ·
          rw [hwt] at q13
          simp at q13
          (rw [take_is (a := x.acked) (t := x.took) (b := .empty) ‹linkOk x = true› ‹packOk p = true› (by omega) (.inr ⟨by omega, rfl, rfl⟩)]; exact ⟨_, ⟨_, rfl, link_new os (by assumption) (by assumption)⟩, (.le fun a => by (try simp only [setR, List.cons_append, List.nil_append]); simp [List.count_cons, Blk.ent, idOf]; try omega)⟩)
        ·
          rw [hwt] at q13
          simp at q13
          refine draw G_ok mixed none (.q 1 (.hd (.alt 0 (.hd (.alt 2 (.f 3 (.q 4 (.nil))) (.alt 3 (.f 2 (.q 4 (.nil))) (.nil)))) (.alt 2 (.f 0 (.f 3 (.q 4 (.nil)))) (.nil))))) (by decide +kernel) ?_
          refine VC.intro ?_ ?_
          ·
            refine VC.intro ?_ ?_
            ·
              (rw [take_is (a := x.acked) (t := p.seq) (b := p.body) ‹linkOk x = true› ‹packOk p = true› (by omega) (.inl ⟨by omega, rfl, rfl⟩)]; exact ⟨_, ⟨_, rfl, link_new os (by assumption) (by assumption)⟩, (.le fun a => by (try simp only [setR, List.cons_append, List.nil_append]); simp [List.count_cons, Blk.ent, idOf]; try omega)⟩)
            ·
              refine VC.intro ?_ ?_
              ·
                (rw [take_is (a := x.acked) (t := p.seq) (b := p.body) ‹linkOk x = true› ‹packOk p = true› (by omega) (.inl ⟨by omega, rfl, rfl⟩)]; exact ⟨_, ⟨_, rfl, link_new os (by assumption) (by assumption)⟩, (.le fun a => by (try simp only [setR, List.cons_append, List.nil_append]); simp [List.count_cons, Blk.ent, idOf]; try omega)⟩)
              ·
                exact trivial
          ·
            refine VC.intro ?_ ?_
            ·
              (rw [take_is (a := x.acked) (t := p.seq) (b := p.body) ‹linkOk x = true› ‹packOk p = true› (by omega) (.inl ⟨by omega, rfl, rfl⟩)]; exact ⟨_, ⟨_, rfl, link_new os (by assumption) (by assumption)⟩, (.le fun a => by (try simp only [setR, List.cons_append, List.nil_append]); simp [List.count_cons, Blk.ent, idOf]; try omega)⟩)
            ·
              exact trivial
theorem specLinkTake_ct (l : List Value) (x : Link) (l2 : List Value) (p : Packet) (hx : gLink.sz x ≤ 1048576) : Ct Try.prog 81 [.agg ⟨l⟩, .agg ⟨l2⟩] [] (fun H => gLink.rd H l x ∧ gPacket.rd H l2 p) (fun v A => ∃ l, v = .tuple #[.agg ⟨l⟩, .string (linkTake x p).2] ∧ gLink.ow l (linkTake x p).1 A) := by
  refine Ct.intro0 G_ok Try.func81 rfl rfl rfl fun E H hp => ?_
  obtain ⟨hp, hp2⟩ := hp
  obtain ⟨b0p, c0p, rfl, h0p, w1p, w2p⟩ := gLink_rd.1 hp
  obtain ⟨rfl, w0y, w1y, w2y, w3y, w4y, w5y⟩ := gPacket_rd.1 hp2
  have hl := (rd_len h0p).2
  have hz := gLink_sz x
  have hls := len_szL gS x.sent
  refine VCnew.intro fun x0 => ?_
  refine VCnew.intro fun x1 => ?_
  refine VCnew.intro fun x2 => ?_
  refine call_newP (s_l18Copy_ct _ (x) ?_) (Rp.mono _ (mem_at 0 rfl) hp) ?_
  · trivial
  rintro v3 A3 o3
  obtain ⟨l3, rfl, o3⟩ := o3
  obtain ⟨bs, cs, As, rfl, hpm, os, w1z, w2z⟩ := gLink_ow.1 o3
  refine ⟨[As], by simpa using hpm, ?_⟩
  refine VCnew.intro fun x4 => ?_
  refine call_val (specLinkOk_ct _ (x)) (Rp.mono _ (mem_at 1 rfl) hp) ?_
  rintro _ rfl
  refine VCsplit.intro (fun q6 => ?_) (fun q6 => ?_)
  ·
    simp at q6
    (rw [take_no (by simp_all)]; exact ⟨_, ⟨_, rfl, link_new os w1z w2z⟩, (.le fun a => by (try simp only [setR, List.cons_append, List.nil_append]); simp [List.count_cons, Blk.ent, idOf]; try omega)⟩)
  ·
    simp at q6
    refine call_val (specPacketOk_ct _ (p)) (Rp.mono _ (mem_at 1 rfl) hp2) ?_
    rintro _ rfl
    refine VCsplit.intro (fun q8 => ?_) (fun q8 => ?_)
    ·
      simp at q8
      (rw [take_no (by simp_all)]; exact ⟨_, ⟨_, rfl, link_new os w1z w2z⟩, (.le fun a => by (try simp only [setR, List.cons_append, List.nil_append]); simp [List.count_cons, Blk.ent, idOf]; try omega)⟩)
    ·
      simp at q8
      have hk := linkOk_iff.1 ‹linkOk x = true›
      have hwt : IntKind.i64.wrap (x.took + 1) = x.took + 1 := wrap_of (by omega) (by omega)
      refine VCsplit.intro (fun q9 => ?_) (fun q9 => ?_)
      ·
        simp at q9
        refine VCsplit.intro (fun q10 => ?_) (fun q10 => ?_)
        ·
          simp at q10
          refine VCsplit.intro (fun q11 => ?_) (fun q11 => ?_)
          ·
            rw [hwt] at q11
            simp at q11
            refine draw G_ok mixed none (.q 1 (.hd (.alt 0 (.hd (.alt 2 (.f 3 (.q 4 (.nil))) (.alt 3 (.f 2 (.q 4 (.nil))) (.nil)))) (.alt 2 (.f 0 (.f 3 (.q 4 (.nil)))) (.nil))))) (by decide +kernel) ?_
            refine VC.intro ?_ ?_
            ·
              refine VC.intro ?_ ?_
              ·
                (rw [take_is (a := p.ack) (t := p.seq) (b := p.body) ‹linkOk x = true› ‹packOk p = true› (by omega) (.inl ⟨by omega, rfl, rfl⟩)]; exact ⟨_, ⟨_, rfl, link_new os (by assumption) (by assumption)⟩, (.le fun a => by (try simp only [setR, List.cons_append, List.nil_append]); simp [List.count_cons, Blk.ent, idOf]; try omega)⟩)
              ·
                refine VC.intro ?_ ?_
                ·
                  (rw [take_is (a := p.ack) (t := p.seq) (b := p.body) ‹linkOk x = true› ‹packOk p = true› (by omega) (.inl ⟨by omega, rfl, rfl⟩)]; exact ⟨_, ⟨_, rfl, link_new os (by assumption) (by assumption)⟩, (.le fun a => by (try simp only [setR, List.cons_append, List.nil_append]); simp [List.count_cons, Blk.ent, idOf]; try omega)⟩)
                ·
                  exact trivial
            ·
              refine VC.intro ?_ ?_
              ·
                (rw [take_is (a := p.ack) (t := p.seq) (b := p.body) ‹linkOk x = true› ‹packOk p = true› (by omega) (.inl ⟨by omega, rfl, rfl⟩)]; exact ⟨_, ⟨_, rfl, link_new os (by assumption) (by assumption)⟩, (.le fun a => by (try simp only [setR, List.cons_append, List.nil_append]); simp [List.count_cons, Blk.ent, idOf]; try omega)⟩)
              ·
                exact trivial
          ·
            rw [hwt] at q11
            simp at q11
            (rw [take_is (a := p.ack) (t := x.took) (b := .empty) ‹linkOk x = true› ‹packOk p = true› (by omega) (.inr ⟨by omega, rfl, rfl⟩)]; exact ⟨_, ⟨_, rfl, link_new os (by assumption) (by assumption)⟩, (.le fun a => by (try simp only [setR, List.cons_append, List.nil_append]); simp [List.count_cons, Blk.ent, idOf]; try omega)⟩)
        ·
          simp at q10
          refine VCsplit.intro (fun q12 => ?_) (fun q12 => ?_)
          ·
            rw [hwt] at q12
            simp at q12
            refine draw G_ok mixed none (.q 1 (.hd (.alt 0 (.hd (.alt 2 (.f 3 (.q 4 (.nil))) (.alt 3 (.f 2 (.q 4 (.nil))) (.nil)))) (.alt 2 (.f 0 (.f 3 (.q 4 (.nil)))) (.nil))))) (by decide +kernel) ?_
            refine VC.intro ?_ ?_
            ·
              refine VC.intro ?_ ?_
              ·
                (rw [take_is (a := x.acked) (t := p.seq) (b := p.body) ‹linkOk x = true› ‹packOk p = true› (by omega) (.inl ⟨by omega, rfl, rfl⟩)]; exact ⟨_, ⟨_, rfl, link_new os (by assumption) (by assumption)⟩, (.le fun a => by (try simp only [setR, List.cons_append, List.nil_append]); simp [List.count_cons, Blk.ent, idOf]; try omega)⟩)
              ·
                refine VC.intro ?_ ?_
                ·
                  (rw [take_is (a := x.acked) (t := p.seq) (b := p.body) ‹linkOk x = true› ‹packOk p = true› (by omega) (.inl ⟨by omega, rfl, rfl⟩)]; exact ⟨_, ⟨_, rfl, link_new os (by assumption) (by assumption)⟩, (.le fun a => by (try simp only [setR, List.cons_append, List.nil_append]); simp [List.count_cons, Blk.ent, idOf]; try omega)⟩)
                ·
                  exact trivial
            ·
              refine VC.intro ?_ ?_
              ·
                (rw [take_is (a := x.acked) (t := p.seq) (b := p.body) ‹linkOk x = true› ‹packOk p = true› (by omega) (.inl ⟨by omega, rfl, rfl⟩)]; exact ⟨_, ⟨_, rfl, link_new os (by assumption) (by assumption)⟩, (.le fun a => by (try simp only [setR, List.cons_append, List.nil_append]); simp [List.count_cons, Blk.ent, idOf]; try omega)⟩)
              ·
                exact trivial
          ·
            rw [hwt] at q12
            simp at q12
            (rw [take_is (a := x.acked) (t := x.took) (b := .empty) ‹linkOk x = true› ‹packOk p = true› (by omega) (.inr ⟨by omega, rfl, rfl⟩)]; exact ⟨_, ⟨_, rfl, link_new os (by assumption) (by assumption)⟩, (.le fun a => by (try simp only [setR, List.cons_append, List.nil_append]); simp [List.count_cons, Blk.ent, idOf]; try omega)⟩)
      ·
        simp at q9
        refine VCsplit.intro (fun q13 => ?_) (fun q13 => ?_)
        ·
          rw [hwt] at q13
          simp at q13
          refine draw G_ok mixed none (.q 1 (.hd (.alt 0 (.hd (.alt 2 (.f 3 (.q 4 (.nil))) (.alt 3 (.f 2 (.q 4 (.nil))) (.nil)))) (.alt 2 (.f 0 (.f 3 (.q 4 (.nil)))) (.nil))))) (by decide +kernel) ?_
          refine VC.intro ?_ ?_
          ·
            refine VC.intro ?_ ?_
            ·
              (rw [take_is (a := x.acked) (t := p.seq) (b := p.body) ‹linkOk x = true› ‹packOk p = true› (by omega) (.inl ⟨by omega, rfl, rfl⟩)]; exact ⟨_, ⟨_, rfl, link_new os (by assumption) (by assumption)⟩, (.le fun a => by (try simp only [setR, List.cons_append, List.nil_append]); simp [List.count_cons, Blk.ent, idOf]; try omega)⟩)
            ·
              refine VC.intro ?_ ?_
              ·
                (rw [take_is (a := x.acked) (t := p.seq) (b := p.body) ‹linkOk x = true› ‹packOk p = true› (by omega) (.inl ⟨by omega, rfl, rfl⟩)]; exact ⟨_, ⟨_, rfl, link_new os (by assumption) (by assumption)⟩, (.le fun a => by (try simp only [setR, List.cons_append, List.nil_append]); simp [List.count_cons, Blk.ent, idOf]; try omega)⟩)
              ·
                exact trivial
          ·
            refine VC.intro ?_ ?_
            ·
              (rw [take_is (a := x.acked) (t := p.seq) (b := p.body) ‹linkOk x = true› ‹packOk p = true› (by omega) (.inl ⟨by omega, rfl, rfl⟩)]; exact ⟨_, ⟨_, rfl, link_new os (by assumption) (by assumption)⟩, (.le fun a => by (try simp only [setR, List.cons_append, List.nil_append]); simp [List.count_cons, Blk.ent, idOf]; try omega)⟩)
            ·
              exact trivial
        ·
          rw [hwt] at q13
          simp at q13
          (rw [take_is (a := x.acked) (t := x.took) (b := .empty) ‹linkOk x = true› ‹packOk p = true› (by omega) (.inr ⟨by omega, rfl, rfl⟩)]; exact ⟨_, ⟨_, rfl, link_new os (by assumption) (by assumption)⟩, (.le fun a => by (try simp only [setR, List.cons_append, List.nil_append]); simp [List.count_cons, Blk.ent, idOf]; try omega)⟩)

--@ct spec.LinkPackets new specLinkPackets_ct _ $1 _ _ _ ?_ ?_ ?_ ?_ | %1 | obtain ⟨b#, c#, rfl, o#⟩ := o#
theorem specLinkPackets_ct (l : List Value) (x : Link) (e f t : Int) (hx : gLink.sz x ≤ 1048576) (he : okI e) (hf : okI f) (ht : okI t) : Ct Try.prog 42 [.agg ⟨l⟩, .int .i64 e, .int .i64 f, .int .i64 t] [] (fun H => gLink.rd H l x) (fun v A => ∃ b c, v = .slice b (linkPacks x e f t).length c ∧ (gSl 89 gPacket).ow [.slice b (linkPacks x e f t).length c] (linkPacks x e f t) A) := by
  refine Ct.intro0 G_ok Try.func42 rfl rfl rfl fun E H hp => ?_
  obtain ⟨b0p, c0p, rfl, h0p, w1p, w2p⟩ := gLink_rd.1 hp
  have hl := (rd_len h0p).2
  have hz := gLink_sz x
  have hls := len_szL gS x.sent
  have hsl := sends_len x
  refine VCnew.intro fun x0 => ?_
  refine VCnew.intro fun x1 => ?_
  refine call_val (specLinkOk_ct _ (x)) (Rp.mono _ (mem_at 1 rfl) hp) ?_
  rintro _ rfl
  refine VCsplit.intro (fun q3 => ?_) (fun q3 => ?_)
  ·
    simp at q3
    (rw [linkPacks_no ‹linkOk x = false›]; exact ⟨[], ⟨_, _, rfl, sl_nil _ _ _⟩, (.le fun a => by (try simp only [setR, List.cons_append, List.nil_append]); simp [List.count_cons, Blk.ent, idOf]; try omega)⟩)
  ·
    simp at q3
    refine call_new (specLinkSends_ct _ (x) ?_) (Rp.mono _ (mem_at 1 rfl) hp) ?_
    · trivial
    rintro v4 A4 o4
    obtain ⟨b4, c4, rfl, o4⟩ := o4
    apply loop_mod (α := (Nat) × (Hp) × (Option Addr) × (Nat)) G_ok [20, 21, 22, 23, 26, 27, 28, 29, 30, 31, 32, 33, 34, 35, 36, 37, 38, 39, 40, 41, 42, 43, 44, 45, 46, 47, 9, 24, 25, 11] (fun z => [(11, .v (.int .i64 z.1)), (9, .v (.slice z.2.2.1 (packsK x e f t z.1).length z.2.2.2))]) (fun z => [{ id := x0, cs := [Value.slice b0p x.sent.length c0p, Value.int IntKind.i64 x.acked, Value.int IntKind.i64 x.took], ty := (45 : Nat) }]) (fun z => [z.2.1, A4, [(x1, Obj.cells { toList := zeros (0 : Nat) [Value.int IntKind.i64 (0 : Int), Value.int IntKind.i64 (0 : Int), Value.int IntKind.i64 (0 : Int), Value.int IntKind.i64 (0 : Int), Value.int IntKind.i64 (0 : Int), Value.string ByteArray.empty] } (89 : TypeId))], H]) (fun z => (sends x).length - z.1) (fun z => z.1 ≤ (sends x).length ∧ (gSl 89 gPacket).ow [.slice z.2.2.1 (packsK x e f t z.1).length z.2.2.2] (packsK x e f t z.1) z.2.1) ((0, [], _, 0))
    · repeat' (first | exact trivial | refine ⟨⟨_, rfl, by first | rfl | exact inc_eq _ (by omega) | (refine sl_eq ?_; simp; done) | (refine sl_eq ?_; rw [packsK_next]), by first | exact trivial | simp [SV.ok]⟩, ?_⟩)
    · exact ⟨rfl, trivial⟩
    · try dsimp only
      exact ⟨Nat.zero_le _, sl_nil _ _ _⟩
    · exact .refl _
    rintro ⟨k, A, lb, lc⟩ hI
    obtain ⟨hk, oA⟩ : k ≤ (sends x).length ∧ (gSl 89 gPacket).ow [.slice lb (packsK x e f t k).length lc] (packsK x e f t k) A := hI
    try dsimp only
    refine VCsplit.intro (fun q5 => ?_) (fun q5 => ?_)
    ·
      simp at q5
      have hsa := sends_at (l := x) (by omega : k < (sends x).length)
      refine draw G_ok mixed (some 21) (.q 0 (.q 1 (.q 2 (.q 3 (.q 4 (.q 5 (.q 6 (.q 7 (.q 8 (.q 9 (.q 10 (.q 11 (.q 12 (.q 13 (.q 14 (.q 15 (.q 16 (.q 17 (.q 18 (.q 19 (.f 20 (.tl 21 (.f 22 (.nil)))))))))))))))))))))))) (by decide +kernel) ?_
      refine idx_rd (Gt.owrd _ o4) ?_ ?_ fun b6 o6 hb6 => ?_
      · omega
      · omega
      refine load_allN 0 (k) rfl (Gt.owrd _ o4) ?_ ?_ hb6 rfl (mem_at 1 rfl) fun l7 hl7 => ?_
      · omega
      · omega
      obtain ⟨rfl, hw7⟩ := hl7; simp only [flStr, flInt, okI] at hw7
      refine idx_rd (Gt.owrd _ o4) ?_ ?_ fun b8 o8 hb8 => ?_
      · omega
      · omega
      refine load_allN 0 (k) rfl (Gt.owrd _ o4) ?_ ?_ hb8 rfl (mem_at 1 rfl) fun l9 hl9 => ?_
      · omega
      · omega
      obtain ⟨rfl, hw9⟩ := hl9; simp only [flStr, flInt, okI] at hw9
      refine idx_rd h0p ?_ ?_ fun b10 o10 hb10 => ?_
      · (simp (disch := omega) only [wrap_of]; omega)
      · (simp (disch := omega) only [wrap_of]; omega)
      refine load_all ByteArray.empty h0p ?_ ?_ hb10 rfl (mem_at 3 rfl) fun l11 hl11 => ?_
      · (simp (disch := omega) only [wrap_of]; omega)
      · (simp (disch := omega) only [wrap_of]; omega)
      obtain ⟨rfl, hw11⟩ := hl11; simp only [flStr, flInt, okI] at hw11
      refine VCnew.intro fun x12 => ?_
      refine VC.intro ?_ ?_
      · exact keep_new
      refine gappend1 (g := gPacket) (T := (89 : TypeId)) G_ok A _ [A4, [(x1, Obj.cells { toList := zeros (0 : Nat) [Value.int IntKind.i64 (0 : Int), Value.int IntKind.i64 (0 : Int), Value.int IntKind.i64 (0 : Int), Value.int IntKind.i64 (0 : Int), Value.int IntKind.i64 (0 : Int), Value.string ByteArray.empty] } (89 : TypeId))], H] ?_ oA (pack_at_own ‹linkOk x = true› he hf ht hsa.1 (by omega)) (List.mem_of_getElem? (i := 0) rfl) rfl rfl rfl rfl rfl rfl rfl rfl ?_ fun b13 c13 A13 o13 => ?_
      · exact .tl
      · (rw [packsK_len]; omega)
      apply loop_stepA (k + 1, _, _, _)
      · exact .refl _
      · repeat' (first | exact trivial | refine ⟨⟨_, rfl, by first | rfl | exact inc_eq _ (by omega) | (refine sl_eq ?_; simp; done) | (refine sl_eq ?_; rw [packsK_next]), by first | exact trivial | simp [SV.ok]⟩, ?_⟩)
      · exact ⟨rfl, trivial⟩
      · try dsimp only
        (rw [packsK_next]; exact ⟨by omega, by assumption⟩)
      · try dsimp only
        omega
    ·
      simp at q5
      obtain rfl : k = (sends x).length := by omega
      have hac := (linkOk_iff.1 ‹linkOk x = true›).2.1
      have hpl := packsK_len x e f t (sends x).length
      refine VCsplit.intro (fun q14 => ?_) (fun q14 => ?_)
      ·
        simp at q14
        refine VCsplit.intro (fun q15 => ?_) (fun q15 => ?_)
        ·
          simp at q15
          have hpk : packsK x e f t (sends x).length ++ [⟨e, f, t, 0, x.took, .empty⟩] = packs x e f t := by (rw [packs_ack hac (by have h8 := congrArg List.length ‹packsK x e f t (sends x).length = []›; rw [List.length_nil] at h8; omega) (by omega), ‹packsK x e f t (sends x).length = []›]; rfl)
          have hql := congrArg List.length hpk
          have hql2 := hql
          rw [List.length_append, List.length_singleton] at hql2
          refine VCnew.intro fun x16 => ?_
          refine gappend1 (g := gPacket) (T := (89 : TypeId)) G_ok A _ [A4, [(x1, Obj.cells { toList := zeros (0 : Nat) [Value.int IntKind.i64 (0 : Int), Value.int IntKind.i64 (0 : Int), Value.int IntKind.i64 (0 : Int), Value.int IntKind.i64 (0 : Int), Value.int IntKind.i64 (0 : Int), Value.string ByteArray.empty] } (89 : TypeId))], H] ?_ oA (pack_ack_own he hf ht w2p) (List.mem_of_getElem? (i := 0) rfl) rfl rfl rfl rfl rfl rfl rfl rfl ?_ fun b17 c17 A17 o17 => ?_
          · exact .tl
          · omega
          apply loop_mod (α := (Nat)) G_ok [65, 66, 67, 68, 71, 72, 73, 74, 75, 76, 77, 8, 69, 70, 12] (fun z => [(12, .v (.int .i64 z))]) (fun z => [{ id := x0, cs := [Value.slice b0p x.sent.length c0p, Value.int IntKind.i64 x.acked, Value.int IntKind.i64 x.took], ty := (45 : Nat) }]) (fun z => [A17, A4, [(x1, Obj.cells { toList := zeros (0 : Nat) [Value.int IntKind.i64 (0 : Int), Value.int IntKind.i64 (0 : Int), Value.int IntKind.i64 (0 : Int), Value.int IntKind.i64 (0 : Int), Value.int IntKind.i64 (0 : Int), Value.string ByteArray.empty] } (89 : TypeId))], H]) (fun z => (packs x e f t).length - z) (fun z => z ≤ (packs x e f t).length ∧ ((packs x e f t).take z).all packOk = true) (0)
          · repeat' (first | exact trivial | refine ⟨⟨_, rfl, by first | rfl | exact inc_eq _ (by omega) | (refine sl_eq ?_; simp; done) | (refine sl_eq ?_; rw [packsK_next]), by first | exact trivial | simp [SV.ok]⟩, ?_⟩)
          · exact ⟨rfl, trivial⟩
          · exact ⟨Nat.zero_le _, rfl⟩
          · exact .refl _
          rintro j hI
          obtain ⟨hj, ha⟩ : j ≤ (packs x e f t).length ∧ ((packs x e f t).take j).all packOk = true := hI
          try dsimp only
          refine VCsplit.intro (fun q18 => ?_) (fun q18 => ?_)
          ·
            simp at q18
            refine idx_rd (Gt.owrd _ o17) ?_ ?_ fun b19 o19 hb19 => ?_
            · omega
            · omega
            refine load_allN default (j) rfl (Gt.owrd _ o17) ?_ ?_ hb19 rfl (mem_at 0 rfl) fun l20 hl20 => ?_
            · omega
            · omega
            obtain ⟨rfl, w0x20, w1x20, w2x20, w3x20, w4x20, w5x20⟩ := gPacket_rd.1 hl20
            refine call_val (specPacketOk_ct _ ((packsK x e f t (sends x).length ++ [{ epoch := e, from' := f, to := t, seq := (0 : Int), ack := x.took, body := ByteArray.empty }])[j]?.getD default)) (Rp.mono _ (mem_at 0 rfl) hl20) ?_
            rintro _ rfl
            refine VCsplit.intro (fun q22 => ?_) (fun q22 => ?_)
            ·
              simp at q22
              (have hq22 : packOk ((packs x e f t)[j]?.getD default) = false := by rw [← hpk]; exact q22)
              refine VCnew.intro fun x23 => ?_
              (rw [linkPacks_bad (k := j) (by omega) ‹packOk ((packs x e f t)[j]?.getD default) = false›]; exact ⟨[], ⟨_, _, rfl, sl_nil _ _ _⟩, (.le fun a => by (try simp only [setR, List.cons_append, List.nil_append]); simp [List.count_cons, Blk.ent, idOf]; try omega)⟩)
            ·
              simp at q22
              (have hq22 : packOk ((packs x e f t)[j]?.getD default) = true := by rw [← hpk]; exact q22)
              apply loop_stepA (j + 1)
              · exact .refl _
              · repeat' (first | exact trivial | refine ⟨⟨_, rfl, by first | rfl | exact inc_eq _ (by omega) | (refine sl_eq ?_; simp; done) | (refine sl_eq ?_; rw [packsK_next]), by first | exact trivial | simp [SV.ok]⟩, ?_⟩)
              · exact ⟨rfl, trivial⟩
              · exact ⟨by omega, allP_step (by omega) ha ‹_›⟩
              · omega
          ·
            simp at q18
            (have hje : j = (packs x e f t).length := (by omega); subst hje; rw [linkPacks_yes ‹linkOk x = true› ha, ← hpk]; exact ⟨_, ⟨_, _, rfl, by assumption⟩, (.le fun a => by (try simp only [setR, List.cons_append, List.nil_append]); simp [List.count_cons, Blk.ent, idOf]; try omega)⟩)
        ·
          simp at q15
          have hpk : packsK x e f t (sends x).length = packs x e f t := by (rw [packs_nil hac (by have h8 := congrArg List.length ‹packsK x e f t (sends x).length = []›; rw [List.length_nil] at h8; omega) (by omega)]; exact ‹packsK x e f t (sends x).length = []›)
          have hql := congrArg List.length hpk
          apply loop_mod (α := (Nat)) G_ok [65, 66, 67, 68, 71, 72, 73, 74, 75, 76, 77, 8, 69, 70, 12] (fun z => [(12, .v (.int .i64 z))]) (fun z => [{ id := x0, cs := [Value.slice b0p x.sent.length c0p, Value.int IntKind.i64 x.acked, Value.int IntKind.i64 x.took], ty := (45 : Nat) }]) (fun z => [A, A4, [(x1, Obj.cells { toList := zeros (0 : Nat) [Value.int IntKind.i64 (0 : Int), Value.int IntKind.i64 (0 : Int), Value.int IntKind.i64 (0 : Int), Value.int IntKind.i64 (0 : Int), Value.int IntKind.i64 (0 : Int), Value.string ByteArray.empty] } (89 : TypeId))], H]) (fun z => (packs x e f t).length - z) (fun z => z ≤ (packs x e f t).length ∧ ((packs x e f t).take z).all packOk = true) (0)
          · repeat' (first | exact trivial | refine ⟨⟨_, rfl, by first | rfl | exact inc_eq _ (by omega) | (refine sl_eq ?_; simp; done) | (refine sl_eq ?_; rw [packsK_next]), by first | exact trivial | simp [SV.ok]⟩, ?_⟩)
          · exact ⟨rfl, trivial⟩
          · exact ⟨Nat.zero_le _, rfl⟩
          · exact .refl _
          rintro j hI
          obtain ⟨hj, ha⟩ : j ≤ (packs x e f t).length ∧ ((packs x e f t).take j).all packOk = true := hI
          try dsimp only
          refine VCsplit.intro (fun q24 => ?_) (fun q24 => ?_)
          ·
            simp at q24
            refine idx_rd (Gt.owrd _ oA) ?_ ?_ fun b25 o25 hb25 => ?_
            · omega
            · omega
            refine load_allN default (j) rfl (Gt.owrd _ oA) ?_ ?_ hb25 rfl (mem_at 0 rfl) fun l26 hl26 => ?_
            · omega
            · omega
            obtain ⟨rfl, w0x26, w1x26, w2x26, w3x26, w4x26, w5x26⟩ := gPacket_rd.1 hl26
            refine call_val (specPacketOk_ct _ ((packsK x e f t (sends x).length)[j]?.getD default)) (Rp.mono _ (mem_at 0 rfl) hl26) ?_
            rintro _ rfl
            refine VCsplit.intro (fun q28 => ?_) (fun q28 => ?_)
            ·
              simp at q28
              (have hq28 : packOk ((packs x e f t)[j]?.getD default) = false := by rw [← hpk]; exact q28)
              refine VCnew.intro fun x29 => ?_
              (rw [linkPacks_bad (k := j) (by omega) ‹packOk ((packs x e f t)[j]?.getD default) = false›]; exact ⟨[], ⟨_, _, rfl, sl_nil _ _ _⟩, (.le fun a => by (try simp only [setR, List.cons_append, List.nil_append]); simp [List.count_cons, Blk.ent, idOf]; try omega)⟩)
            ·
              simp at q28
              (have hq28 : packOk ((packs x e f t)[j]?.getD default) = true := by rw [← hpk]; exact q28)
              apply loop_stepA (j + 1)
              · exact .refl _
              · repeat' (first | exact trivial | refine ⟨⟨_, rfl, by first | rfl | exact inc_eq _ (by omega) | (refine sl_eq ?_; simp; done) | (refine sl_eq ?_; rw [packsK_next]), by first | exact trivial | simp [SV.ok]⟩, ?_⟩)
              · exact ⟨rfl, trivial⟩
              · exact ⟨by omega, allP_step (by omega) ha ‹_›⟩
              · omega
          ·
            simp at q24
            (have hje : j = (packs x e f t).length := (by omega); subst hje; rw [linkPacks_yes ‹linkOk x = true› ha, ← hpk]; exact ⟨_, ⟨_, _, rfl, by assumption⟩, (.le fun a => by (try simp only [setR, List.cons_append, List.nil_append]); simp [List.count_cons, Blk.ent, idOf]; try omega)⟩)
      ·
        simp at q14
        have hpk : packsK x e f t (sends x).length = packs x e f t := (packs_some hac (fun h8 => ‹¬ packsK x e f t (sends x).length = []› (List.length_eq_zero_iff.1 (by omega)))).symm
        have hql := congrArg List.length hpk
        apply loop_mod (α := (Nat)) G_ok [65, 66, 67, 68, 71, 72, 73, 74, 75, 76, 77, 8, 69, 70, 12] (fun z => [(12, .v (.int .i64 z))]) (fun z => [{ id := x0, cs := [Value.slice b0p x.sent.length c0p, Value.int IntKind.i64 x.acked, Value.int IntKind.i64 x.took], ty := (45 : Nat) }]) (fun z => [A, A4, [(x1, Obj.cells { toList := zeros (0 : Nat) [Value.int IntKind.i64 (0 : Int), Value.int IntKind.i64 (0 : Int), Value.int IntKind.i64 (0 : Int), Value.int IntKind.i64 (0 : Int), Value.int IntKind.i64 (0 : Int), Value.string ByteArray.empty] } (89 : TypeId))], H]) (fun z => (packs x e f t).length - z) (fun z => z ≤ (packs x e f t).length ∧ ((packs x e f t).take z).all packOk = true) (0)
        · repeat' (first | exact trivial | refine ⟨⟨_, rfl, by first | rfl | exact inc_eq _ (by omega) | (refine sl_eq ?_; simp; done) | (refine sl_eq ?_; rw [packsK_next]), by first | exact trivial | simp [SV.ok]⟩, ?_⟩)
        · exact ⟨rfl, trivial⟩
        · exact ⟨Nat.zero_le _, rfl⟩
        · exact .refl _
        rintro j hI
        obtain ⟨hj, ha⟩ : j ≤ (packs x e f t).length ∧ ((packs x e f t).take j).all packOk = true := hI
        try dsimp only
        refine VCsplit.intro (fun q30 => ?_) (fun q30 => ?_)
        ·
          simp at q30
          refine idx_rd (Gt.owrd _ oA) ?_ ?_ fun b31 o31 hb31 => ?_
          · omega
          · omega
          refine load_allN default (j) rfl (Gt.owrd _ oA) ?_ ?_ hb31 rfl (mem_at 0 rfl) fun l32 hl32 => ?_
          · omega
          · omega
          obtain ⟨rfl, w0x32, w1x32, w2x32, w3x32, w4x32, w5x32⟩ := gPacket_rd.1 hl32
          refine call_val (specPacketOk_ct _ ((packsK x e f t (sends x).length)[j]?.getD default)) (Rp.mono _ (mem_at 0 rfl) hl32) ?_
          rintro _ rfl
          refine VCsplit.intro (fun q34 => ?_) (fun q34 => ?_)
          ·
            simp at q34
            (have hq34 : packOk ((packs x e f t)[j]?.getD default) = false := by rw [← hpk]; exact q34)
            refine VCnew.intro fun x35 => ?_
            (rw [linkPacks_bad (k := j) (by omega) ‹packOk ((packs x e f t)[j]?.getD default) = false›]; exact ⟨[], ⟨_, _, rfl, sl_nil _ _ _⟩, (.le fun a => by (try simp only [setR, List.cons_append, List.nil_append]); simp [List.count_cons, Blk.ent, idOf]; try omega)⟩)
          ·
            simp at q34
            (have hq34 : packOk ((packs x e f t)[j]?.getD default) = true := by rw [← hpk]; exact q34)
            apply loop_stepA (j + 1)
            · exact .refl _
            · repeat' (first | exact trivial | refine ⟨⟨_, rfl, by first | rfl | exact inc_eq _ (by omega) | (refine sl_eq ?_; simp; done) | (refine sl_eq ?_; rw [packsK_next]), by first | exact trivial | simp [SV.ok]⟩, ?_⟩)
            · exact ⟨rfl, trivial⟩
            · exact ⟨by omega, allP_step (by omega) ha ‹_›⟩
            · omega
        ·
          simp at q30
          (have hje : j = (packs x e f t).length := (by omega); subst hje; rw [linkPacks_yes ‹linkOk x = true› ha, ← hpk]; exact ⟨_, ⟨_, _, rfl, by assumption⟩, (.le fun a => by (try simp only [setR, List.cons_append, List.nil_append]); simp [List.count_cons, Blk.ent, idOf]; try omega)⟩)

end Go.Proofs.Ytmmmjikanmgpfaa
