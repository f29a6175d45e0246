/-
  Mails put into a node, on both sides. Conditions: none.
-/
import Derived.Test.YtflfohphebmemaaGreatRi
namespace Go.Proofs.YtflfohphebmemaaGreat
open Go.SX Go.Proofs
set_option linter.unusedSimpArgs false
set_option linter.unusedVariables false
set_option maxHeartbeats 8000000
attribute [local irreducible] IntKind.wrap

--@ct (*impl.Node).putMails blk5s putMails_ct _ _ _ _ _ _ _ _ _ _ _ _ _ _ _ _ _ _ _ _ _ _ _ _ _ _ _ _ _ _ _ _ _ _ _ _ _ _ _ _ _ _ _ _ _ _ _ $2 !o ?_ ?_ | %2 | rintro _ A# ⟨B#, rfl, rfl, o#⟩ ;; refine ⟨_, _, [B#], rfl, perm1, ?_⟩
--@ct spec.l26Put blk5s l26Put_ct _ _ _ _ _ _ _ _ _ _ _ _ _ _ _ _ _ _ _ _ _ _ _ _ _ _ _ _ _ _ _ _ _ _ _ _ _ _ _ _ _ _ _ _ _ _ _ $2 !o ?_ ?_ | %2 | rintro _ A# ⟨B#, rfl, rfl, o#⟩ ;; refine ⟨_, _, [B#], rfl, perm1, ?_⟩
theorem putMails_ct (q : Nat) (c0 c1 c2 c3 c4 c6 c7 c8 c9 c10 c11 c12 c13 c14 c15 c16 c17 c18 c19 c20 c21 c22 c23 c24 c25 c26 c27 c28 c29 c30 c31 c32 c33 c34 c35 c36 c37 c38 c39 : Value) (b : Option Addr) (c : Nat) (ls : List Link) (A : Hp) (bm : Option Addr) (m cm : Nat) (ms : List Mail) (ho : (gSl 180 gLink).ow [.slice b ls.length c] ls A) (hs : shortL ls) (hm : ∀ i, i < ms.length → (ms[i]?.getD default).letter.text.size ≤ 4194304) :
    CtR Tryz.prog 57 [.pointer (some ⟨q, 0, none⟩), .slice bm m cm] ((q, Obj.cells ⟨[c0, c1, c2, c3, c4, .slice b ls.length c, c6, c7, c8, c9, c10, c11, c12, c13, c14, c15, c16, c17, c18, c19, c20, c21, c22, c23, c24, c25, c26, c27, c28, c29, c30, c31, c32, c33, c34, c35, c36, c37, c38, c39]⟩ 69) :: A) (fun H => (gSl 122 gMail).rd H [.slice bm m cm] ms)
      (fun v D => ∃ B, v = .tuple #[] ∧ D = (q, Obj.cells ⟨[c0, c1, c2, c3, c4, .slice b ls.length c, c6, c7, c8, c9, c10, c11, c12, c13, c14, c15, c16, c17, c18, c19, c20, c21, c22, c23, c24, c25, c26, c27, c28, c29, c30, c31, c32, c33, c34, c35, c36, c37, c38, c39]⟩ 69) :: B ∧ (gSl 180 gLink).ow [.slice b ls.length c] (putMs ls ms) B) := by
  refine CtR.introB G_ok [.p 0 0, .v (.slice bm m cm)] [⟨q, [c0, c1, c2, c3, c4, .slice b ls.length c, c6, c7, c8, c9, c10, c11, c12, c13, c14, c15, c16, c17, c18, c19, c20, c21, c22, c23, c24, c25, c26, c27, c28, c29, c30, c31, c32, c33, c34, c35, c36, c37, c38, c39], 69⟩] [A] Tryz.func57 rfl rfl rfl rfl (by simp [SV.ok]) (by simp [Blk.ent]) fun E H hp => ?_
  obtain ⟨rfl, hcm, hml⟩ := sl_len hp
  have hll := (sl_len (Gt.owrd _ ho)).2.2
  apply loop_mod (α := (Nat) × (Hp)) G_ok [11, 12, 13, 5, 15, 16, 17, 14, 18, 19, 6, 7, 20, 21, 22, 23, 24, 25, 26, 27, 28, 30, 31, 32, 33, 34, 35, 36, 37, 38, 39, 40, 41, 42, 43, 44, 45, 29, 46, 47, 48, 49, 10] (fun z => [(10, .v (.int .i64 z.1))]) (fun z => [{ id := q, cs := [c0, c1, c2, c3, c4, Value.slice b ls.length c, c6, c7, c8, c9, c10, c11, c12, c13, c14, c15, c16, c17, c18, c19, c20, c21, c22, c23, c24, c25, c26, c27, c28, c29, c30, c31, c32, c33, c34, c35, c36, c37, c38, c39], ty := (69 : TypeId) }]) (fun z => [z.2, H]) (fun z => ms.length - z.1) (fun z => z.1 ≤ ms.length ∧ (gSl 180 gLink).ow [.slice b ls.length c] (putMs ls (ms.take z.1)) z.2) ((0, A))
  · repeat' (first | exact trivial | refine ⟨⟨_, rfl, by first | rfl | exact inc_eq _ (by omega) | (refine sl_eq ?_; simp; done), by first | exact trivial | simp [SV.ok]⟩, ?_⟩)
  · exact ⟨rfl, trivial⟩
  · try dsimp only
    exact ⟨Nat.zero_le _, ho⟩
  · exact .refl _
  rintro ⟨k, B⟩ hI
  obtain ⟨hk, oB⟩ : k ≤ ms.length ∧ (gSl 180 gLink).ow [.slice b ls.length c] (putMs ls (ms.take k)) B := hI
  try dsimp only
  refine VCsplit.intro (fun q0 => ?_) (fun q0 => ?_)
  ·
    simp at q0
    have hmk := hm k (by omega)
    have hsk := putMs_short (ms.take k) hs
    have hlk := putMs_len (ms.take k) ls
    have htz := ltR_size (ms[k]?.getD default).letter
    have hsq := hsk (ms[k]?.getD default).peer.toNat
    refine idx_rd hp ?_ ?_ fun b1 o1 hb1 => ?_
    · omega
    · omega
    refine load_allN default (k) rfl hp ?_ ?_ hb1 rfl (mem_at 1 rfl) fun l2 hl2 => ?_
    · omega
    · omega
    obtain ⟨l1x2, rfl, w0x2, h1x2⟩ := gMail_rd.1 hl2 ; obtain ⟨b4_1x2, c4_1x2, rfl, w0_1x2, w1_1x2, w2_1x2, h4_1x2, w5_1x2⟩ := gLetter_rd.1 h1x2
    refine VCnew.intro fun x3 => ?_
    refine call_val (implLetterText_ct _ ((ms[k]?.getD default).letter) ?_) (Rp.mono _ (mem_at 1 rfl) h1x2) ?_
    · trivial
    rintro _ rfl
    refine draw G_ok mixed none (.q 0 (.q 1 (.q 2 (.q 3 (.q 4 (.q 5 (.q 6 (.f 7 (.q 8 (.nil)))))))))) (by decide +kernel) ?_
    refine VCsplit.intro (fun q5 => ?_) (fun q5 => ?_)
    ·
      refine call_val (hasLink_ct _ _ _ _ _ _ _ _ _ _ _ _ _ _ _ _ _ _ _ _ _ _ _ _ _ _ _ _ _ _ _ _ _ _ _ _ _ _ _ _ _ _ _) trivial ?_
      rintro _ rfl
      refine VC.intro ?_ ?_
      · exact fun _ h => h
      refine VCsplit.intro (fun q7 => ?_) (fun q7 => ?_)
      ·
        have iq7 := inR_iff.1 q7
        refine draw G_ok mixed (some 20) (.q 0 (.q 1 (.q 2 (.q 3 (.q 4 (.q 5 (.q 6 (.q 7 (.q 8 (.q 9 (.q 10 (.q 11 (.q 12 (.q 13 (.q 14 (.f 15 (.q 16 (.q 17 (.q 18 (.q 19 (.tl 20 (.nil)))))))))))))))))))))) (by decide +kernel) ?_
        refine idx_rd (Gt.owrd _ oB) ?_ ?_ fun b8 o8 hb8 => ?_
        · omega
        · omega
        refine load_all default (Gt.owrd _ oB) ?_ ?_ hb8 rfl (mem_at 0 rfl) fun l9 hl9 => ?_
        · omega
        · omega
        obtain ⟨b0x9, c0x9, rfl, h0x9, w1x9, w2x9⟩ := gLink_rd.1 hl9
        refine call_new (implLinkPutb_ct _ _ _ ?_ ?_) (Rp.mono _ (mem_at 0 rfl) hl9) ?_
        · omega
        · omega
        rintro v10 A10 o10
        obtain ⟨l10, rfl, o10⟩ := o10
        have r10 := Gt.owrd _ o10
        obtain ⟨b0x10, c0x10, rfl, h0x10, w1x10, w2x10⟩ := gLink_rd.1 r10
        refine VC.intro ?_ ?_
        · exact keep_new
        refine idx_rd (Gt.owrd _ oB) ?_ ?_ fun b11 o11 hb11 => ?_
        · omega
        · omega
        refine gstore1N (Int.toNat ((ms[k]?.getD default).peer)) (B) (A10) [H] (.le fun a => by (try simp only [setR, List.cons_append, List.nil_append]); simp only [List.flatten_append, List.flatten_cons, List.flatten_nil, List.count_append, List.count_nil, List.append_nil, List.nil_append]; omega) (Int.toNat_of_nonneg ?_).symm oB ?_ ?_ hb11 rfl _ o10 fun A12 o12 => ?_
        · omega
        · omega
        · omega
        apply loop_stepA (k + 1, _)
        · exact .refl _
        · repeat' (first | exact trivial | refine ⟨⟨_, rfl, by first | rfl | exact inc_eq _ (by omega) | (refine sl_eq ?_; simp; done), by first | exact trivial | simp [SV.ok]⟩, ?_⟩)
        · exact ⟨rfl, trivial⟩
        · try dsimp only
          exact ⟨by omega, by rw [putMs_step (by omega), putMail_yes (by assumption) (by rw [hlk]; assumption)]; assumption⟩
        · try dsimp only
          omega
      ·
        apply loop_stepA (k + 1, _)
        · exact .refl _
        · repeat' (first | exact trivial | refine ⟨⟨_, rfl, by first | rfl | exact inc_eq _ (by omega) | (refine sl_eq ?_; simp; done), by first | exact trivial | simp [SV.ok]⟩, ?_⟩)
        · exact ⟨rfl, trivial⟩
        · try dsimp only
          exact ⟨by omega, by rw [putMs_step (by omega), putMail_no2 (by rw [hlk]; assumption)]; exact oB⟩
        · try dsimp only
          omega
    ·
      apply loop_stepA (k + 1, _)
      · exact .refl _
      · repeat' (first | exact trivial | refine ⟨⟨_, rfl, by first | rfl | exact inc_eq _ (by omega) | (refine sl_eq ?_; simp; done), by first | exact trivial | simp [SV.ok]⟩, ?_⟩)
      · exact ⟨rfl, trivial⟩
      · try dsimp only
        exact ⟨by omega, by rw [putMs_step (by omega), putMail_no1 (by assumption)]; exact oB⟩
      · try dsimp only
        omega
  ·
    simp at q0
    (have hke : k = ms.length := (by omega); rw [hke, List.take_length] at oB; exact ⟨_, ⟨_, rfl, rfl, oB⟩, (.le fun a => by (try simp only [setR, List.cons_append, List.nil_append]); simp [List.count_cons, Blk.ent, idOf]; try omega)⟩)

theorem l26Put_ct (q : Nat) (c0 c1 c2 c3 c4 c6 c7 c8 c9 c10 c11 c12 c13 c14 c15 c16 c17 c18 c19 c20 c21 c22 c23 c24 c25 c26 c27 c28 c29 c30 c31 c32 c33 c34 c35 c36 c37 c38 c39 : Value) (b : Option Addr) (c : Nat) (ls : List Link) (A : Hp) (bm : Option Addr) (m cm : Nat) (ms : List Mail) (ho : (gSl 180 gLink).ow [.slice b ls.length c] ls A) (hs : shortL ls) (hm : ∀ i, i < ms.length → (ms[i]?.getD default).letter.text.size ≤ 4194304) :
    CtR Tryz.prog 51 [.pointer (some ⟨q, 0, none⟩), .slice bm m cm] ((q, Obj.cells ⟨[c0, c1, c2, c3, c4, .slice b ls.length c, c6, c7, c8, c9, c10, c11, c12, c13, c14, c15, c16, c17, c18, c19, c20, c21, c22, c23, c24, c25, c26, c27, c28, c29, c30, c31, c32, c33, c34, c35, c36, c37, c38, c39]⟩ 69) :: A) (fun H => (gSl 122 gMail).rd H [.slice bm m cm] ms)
      (fun v D => ∃ B, v = .tuple #[] ∧ D = (q, Obj.cells ⟨[c0, c1, c2, c3, c4, .slice b ls.length c, c6, c7, c8, c9, c10, c11, c12, c13, c14, c15, c16, c17, c18, c19, c20, c21, c22, c23, c24, c25, c26, c27, c28, c29, c30, c31, c32, c33, c34, c35, c36, c37, c38, c39]⟩ 69) :: B ∧ (gSl 180 gLink).ow [.slice b ls.length c] (putMs ls ms) B) := by
  refine CtR.introB G_ok [.p 0 0, .v (.slice bm m cm)] [⟨q, [c0, c1, c2, c3, c4, .slice b ls.length c, c6, c7, c8, c9, c10, c11, c12, c13, c14, c15, c16, c17, c18, c19, c20, c21, c22, c23, c24, c25, c26, c27, c28, c29, c30, c31, c32, c33, c34, c35, c36, c37, c38, c39], 69⟩] [A] Tryz.func51 rfl rfl rfl rfl (by simp [SV.ok]) (by simp [Blk.ent]) fun E H hp => ?_
  obtain ⟨rfl, hcm, hml⟩ := sl_len hp
  have hll := (sl_len (Gt.owrd _ ho)).2.2
  apply loop_mod (α := (Nat) × (Hp)) G_ok [8, 9, 10, 11, 15, 16, 17, 18, 19, 20, 14, 21, 22, 5, 6, 23, 24, 25, 26, 27, 7, 28, 29, 30, 31, 32, 33, 34, 35, 36, 37, 38, 40, 41, 42, 43, 44, 45, 46, 47, 48, 49, 50, 51, 52, 53, 39, 54, 55, 56, 12, 13, 4] (fun z => [(4, .v (.int .i64 z.1))]) (fun z => [{ id := q, cs := [c0, c1, c2, c3, c4, Value.slice b ls.length c, c6, c7, c8, c9, c10, c11, c12, c13, c14, c15, c16, c17, c18, c19, c20, c21, c22, c23, c24, c25, c26, c27, c28, c29, c30, c31, c32, c33, c34, c35, c36, c37, c38, c39], ty := (69 : TypeId) }]) (fun z => [z.2, H]) (fun z => ms.length - z.1) (fun z => z.1 ≤ ms.length ∧ (gSl 180 gLink).ow [.slice b ls.length c] (putMs ls (ms.take z.1)) z.2) ((0, A))
  · repeat' (first | exact trivial | refine ⟨⟨_, rfl, by first | rfl | exact inc_eq _ (by omega) | (refine sl_eq ?_; simp; done), by first | exact trivial | simp [SV.ok]⟩, ?_⟩)
  · exact ⟨rfl, trivial⟩
  · try dsimp only
    exact ⟨Nat.zero_le _, ho⟩
  · exact .refl _
  rintro ⟨k, B⟩ hI
  obtain ⟨hk, oB⟩ : k ≤ ms.length ∧ (gSl 180 gLink).ow [.slice b ls.length c] (putMs ls (ms.take k)) B := hI
  try dsimp only
  refine VCsplit.intro (fun q0 => ?_) (fun q0 => ?_)
  ·
    simp at q0
    have hmk := hm k (by omega)
    have hsk := putMs_short (ms.take k) hs
    have hlk := putMs_len (ms.take k) ls
    have htz := ltR_size (ms[k]?.getD default).letter
    have hsq := hsk (ms[k]?.getD default).peer.toNat
    refine idx_rd hp ?_ ?_ fun b1 o1 hb1 => ?_
    · omega
    · omega
    refine load_partN default (k) 1 rfl hp ?_ ?_ hb1 rfl (by decide) (mem_at 1 rfl) fun l2 hl2 => ?_
    · omega
    · omega
    obtain ⟨l1x2, rfl, w0x2, h1x2⟩ := gMail_rd.1 hl2 ; obtain ⟨b4_1x2, c4_1x2, rfl, w0_1x2, w1_1x2, w2_1x2, h4_1x2, w5_1x2⟩ := gLetter_rd.1 h1x2
    refine call_val (specLetterText_ct _ ((ms[k]?.getD default).letter) ?_) (Rp.mono _ (mem_at 1 rfl) h1x2) ?_
    · trivial
    rintro _ rfl
    refine idx_rd hp ?_ ?_ fun b4 o4 hb4 => ?_
    · omega
    · omega
    refine load_partN default (k) 0 rfl hp ?_ ?_ hb4 rfl (by decide) (mem_at 1 rfl) fun l5 hl5 => ?_
    · omega
    · omega
    obtain ⟨l1x5, rfl, w0x5, h1x5⟩ := gMail_rd.1 hl5 ; obtain ⟨b4_1x5, c4_1x5, rfl, w0_1x5, w1_1x5, w2_1x5, h4_1x5, w5_1x5⟩ := gLetter_rd.1 h1x5
    refine VCsplit.intro (fun q6 => ?_) (fun q6 => ?_)
    ·
      refine call_val (l01In_ct _ _ _) trivial ?_
      rintro _ rfl
      refine VCsplit.intro (fun q8 => ?_) (fun q8 => ?_)
      ·
        simp (disch := omega) only [wrap_of] at q8
        have iq8 := inR_iff.1 q8
        refine draw G_ok mixed (some 18) (.q 0 (.q 1 (.q 2 (.q 3 (.q 4 (.q 5 (.q 6 (.q 7 (.q 8 (.q 9 (.q 10 (.q 11 (.q 12 (.f 13 (.q 14 (.q 15 (.q 16 (.q 17 (.tl 18 (.nil)))))))))))))))))))) (by decide +kernel) ?_
        refine idx_rd (Gt.owrd _ oB) ?_ ?_ fun b9 o9 hb9 => ?_
        · omega
        · omega
        refine load_all default (Gt.owrd _ oB) ?_ ?_ hb9 rfl (mem_at 0 rfl) fun l10 hl10 => ?_
        · omega
        · omega
        obtain ⟨b0x10, c0x10, rfl, h0x10, w1x10, w2x10⟩ := gLink_rd.1 hl10
        refine call_new (specLinkPutb_ct _ _ _ ?_ ?_) (Rp.mono _ (mem_at 0 rfl) hl10) ?_
        · omega
        · omega
        rintro v11 A11 o11
        obtain ⟨l11, rfl, o11⟩ := o11
        have r11 := Gt.owrd _ o11
        obtain ⟨b0x11, c0x11, rfl, h0x11, w1x11, w2x11⟩ := gLink_rd.1 r11
        refine VC.intro ?_ ?_
        · exact keep_new
        refine idx_rd (Gt.owrd _ oB) ?_ ?_ fun b12 o12 hb12 => ?_
        · omega
        · omega
        refine gstore1N (Int.toNat ((ms[k]?.getD default).peer)) (B) (A11) [H] (.le fun a => by (try simp only [setR, List.cons_append, List.nil_append]); simp only [List.flatten_append, List.flatten_cons, List.flatten_nil, List.count_append, List.count_nil, List.append_nil, List.nil_append]; omega) (Int.toNat_of_nonneg ?_).symm oB ?_ ?_ hb12 rfl _ o11 fun A13 o13 => ?_
        · omega
        · omega
        · omega
        apply loop_stepA (k + 1, _)
        · exact .refl _
        · repeat' (first | exact trivial | refine ⟨⟨_, rfl, by first | rfl | exact inc_eq _ (by omega) | (refine sl_eq ?_; simp; done), by first | exact trivial | simp [SV.ok]⟩, ?_⟩)
        · exact ⟨rfl, trivial⟩
        · try dsimp only
          exact ⟨by omega, by rw [putMs_step (by omega), putMail_yes (by assumption) (by rw [hlk]; assumption)]; assumption⟩
        · try dsimp only
          omega
      ·
        simp (disch := omega) only [wrap_of] at q8
        apply loop_stepA (k + 1, _)
        · exact .refl _
        · repeat' (first | exact trivial | refine ⟨⟨_, rfl, by first | rfl | exact inc_eq _ (by omega) | (refine sl_eq ?_; simp; done), by first | exact trivial | simp [SV.ok]⟩, ?_⟩)
        · exact ⟨rfl, trivial⟩
        · try dsimp only
          exact ⟨by omega, by rw [putMs_step (by omega), putMail_no2 (by rw [hlk]; assumption)]; exact oB⟩
        · try dsimp only
          omega
    ·
      apply loop_stepA (k + 1, _)
      · exact .refl _
      · repeat' (first | exact trivial | refine ⟨⟨_, rfl, by first | rfl | exact inc_eq _ (by omega) | (refine sl_eq ?_; simp; done), by first | exact trivial | simp [SV.ok]⟩, ?_⟩)
      · exact ⟨rfl, trivial⟩
      · try dsimp only
        exact ⟨by omega, by rw [putMs_step (by omega), putMail_no1 (by assumption)]; exact oB⟩
      · try dsimp only
        omega
  ·
    simp at q0
    (have hke : k = ms.length := (by omega); rw [hke, List.take_length] at oB; exact ⟨_, ⟨_, rfl, rfl, oB⟩, (.le fun a => by (try simp only [setR, List.cons_append, List.nil_append]); simp [List.count_cons, Blk.ent, idOf]; try omega)⟩)

end Go.Proofs.YtflfohphebmemaaGreat
