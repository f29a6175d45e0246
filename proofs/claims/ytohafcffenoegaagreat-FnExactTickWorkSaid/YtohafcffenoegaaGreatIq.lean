/-
  A worker handles the token, on both sides. Conditions: none.
-/
import Derived.Test.YtohafcffenoegaaGreatIk
namespace Go.Proofs.YtohafcffenoegaaGreat
open Go.SX Go.Proofs
set_option linter.unusedSimpArgs false
set_option linter.unusedVariables false
set_option maxHeartbeats 8000000
attribute [local irreducible] IntKind.wrap

--@ct (*impl.desk).send blk27 deskSend_ct _ _ _ _ _ _ _ _ _ _ _ _ _ _ _ _ _ _ _ _ _ _ _ _ _ _ _ _ _ _ _ _ _ _ _ _ _ _ _ ?_ ?_ ?_ ?_ ?_ !o rfl ?_ |  | rintro _ A# ⟨b#, c#, Ax#, rfl, rfl, o#⟩ ;; refine ⟨_, _, [Ax#], rfl, perm1, ?_⟩
theorem deskSend_ct (q : Nat) (v0 v1 v2 v3 v4 v5 v6 v7 v8 v9 v10 v11 v12 v13 v14 v15 v16 v17 v18 v19 v20 v21 v22 v23 v24 v25 v26 : Value) (b : Option Addr) (n c : Nat) (xs : List Mail) (A : Hp) (p lk la ln : Int) (lb : Bool) (lt : ByteArray) (hp : okI p) (h1 : okI lk) (h2 : okI la) (h3 : okI ln) (h4 : lt.size ≤ 9223372036854775807) (hA : (gSl 120 gMail).ow [.slice b n c] xs A) (hn : n = xs.length) (hx : n ≤ 1000000) :
    CtR Tryz.prog 117 [.pointer (some ⟨q, 0, none⟩), .int .i64 p, .agg ⟨[.int .i64 lk, .int .i64 la, .int .i64 ln, .bool lb, .slice none 0 0, .string lt]⟩] ((q, Obj.cells ⟨[v0, v1, v2, v3, v4, v5, v6, v7, v8, v9, v10, v11, v12, v13, v14, v15, v16, v17, v18, v19, v20, v21, v22, v23, v24, v25, v26, .slice b n c]⟩ 128) :: A) (fun _ => True)
      (fun v B => ∃ b c A', v = .tuple #[] ∧ B = (q, Obj.cells ⟨[v0, v1, v2, v3, v4, v5, v6, v7, v8, v9, v10, v11, v12, v13, v14, v15, v16, v17, v18, v19, v20, v21, v22, v23, v24, v25, v26, .slice b (xs ++ [(⟨p, ⟨lk, la, ln, lb, [], lt⟩⟩ : Mail)]).length c]⟩ 128) :: A' ∧ (gSl 120 gMail).ow [.slice b (xs ++ [(⟨p, ⟨lk, la, ln, lb, [], lt⟩⟩ : Mail)]).length c] (xs ++ [(⟨p, ⟨lk, la, ln, lb, [], lt⟩⟩ : Mail)]) A') := by
  subst hn
  have hm := mail_ow hp (gLetter_ow.2 ⟨none, 0, [], rfl, by simp, h1, h2, h3, sl_nil _ _ _, h4⟩ : gLetter.ow [.int .i64 lk, .int .i64 la, .int .i64 ln, .bool lb, .slice none 0 0, .string lt] ⟨lk, la, ln, lb, [], lt⟩ [])
  refine CtR.introB G_ok [.p 0 0, .v (.int .i64 p), .v (.agg ⟨_⟩)] [⟨q, [v0, v1, v2, v3, v4, v5, v6, v7, v8, v9, v10, v11, v12, v13, v14, v15, v16, v17, v18, v19, v20, v21, v22, v23, v24, v25, v26, .slice b xs.length c], 128⟩] [A] Tryz.func117 rfl rfl rfl rfl (by simp [SV.ok]) (by simp [Blk.ent]) fun E H hp => ?_
  refine VCnew.intro fun x0 => ?_
  refine draw G_ok mixed (some 9) (.q 0 (.q 1 (.q 2 (.q 3 (.q 4 (.q 5 (.q 6 (.q 7 (.f 8 (.tl 9 (.f 10 (.f 11 (.f 12 (.nil)))))))))))))) (by decide +kernel) ?_
  refine VCnew.intro fun x1 => ?_
  refine VC.intro ?_ ?_
  · exact keep_new
  refine gappend1 (g := gMail) (T := (120 : TypeId)) G_ok A _ [H] ?_ hA (hm) (List.mem_of_getElem? (i := 0) rfl) rfl rfl rfl rfl rfl rfl rfl rfl ?_ fun b2 c2 A2 o2 => ?_
  · exact .tl
  · omega
  exact ⟨_, ⟨_, _, _, rfl, rfl, by assumption⟩, (.le fun a => by (try simp only [setR, List.cons_append, List.nil_append]); simp [List.count_cons, Blk.ent, idOf]; try omega)⟩

--@ct (*impl.desk).tick blk27 deskTick_ct _ _ _ _ _ _ _ _ _ _ _ _ _ _ _ _ _ _ _ _ _ ?_ |  | rintro _ A# ⟨b#, c#, Ax#, rfl, rfl, o#⟩ ;; refine ⟨_, _, [Ax#], rfl, perm1, ?_⟩
theorem deskTick_ct (q : Nat) (w : Work) (id : Int) (v1 v2 v3 v4 v5 v7 v14 v15 v16 v17 v18 v19 v20 v21 v22 v23 v24 v25 : Value) (ht : tickOk w id = true) :
    CtR Tryz.prog 55 [.pointer (some ⟨q, 0, none⟩)] [(q, Obj.cells ⟨[.bool w.begun, v1, v2, v3, v4, v5, .int .i64 w.count, v7, .int .i64 w.num, .bool w.black, .bool w.holds, .int .i64 w.tokNum, .bool w.tokBlack, .bool w.walked, v14, v15, v16, v17, v18, v19, v20, v21, v22, v23, v24, v25, .int .i64 id, .slice none 0 0]⟩ 128)] (fun _ => True)
      (fun v B => ∃ b c A', v = .bool (tickEnd w id) ∧ B = (q, Obj.cells ⟨[.bool w.begun, v1, v2, v3, v4, v5, .int .i64 w.count, v7, .int .i64 w.num, .bool (tickW w id).black, .bool (tickW w id).holds, .int .i64 (tickW w id).tokNum, .bool (tickW w id).tokBlack, .bool w.walked, v14, v15, v16, v17, v18, v19, v20, v21, v22, v23, v24, v25, .int .i64 id, .slice b (tickM w id).length c]⟩ 128) :: A' ∧ (gSl 120 gMail).ow [.slice b (tickM w id).length c] (tickM w id) A') := by
  have ht' := tickOk_iff.1 ht
  obtain ⟨e1, e2, e3, e4, e5, e6, e7⟩ := ht'
  have lw := lWalked_ow
  refine CtR.introB G_ok [.p 0 0] [⟨q, [.bool w.begun, v1, v2, v3, v4, v5, .int .i64 w.count, v7, .int .i64 w.num, .bool w.black, .bool w.holds, .int .i64 w.tokNum, .bool w.tokBlack, .bool w.walked, v14, v15, v16, v17, v18, v19, v20, v21, v22, v23, v24, v25, .int .i64 id, .slice none 0 0], 128⟩] [] Tryz.func55 rfl rfl rfl rfl (by simp [SV.ok]) (by simp [Blk.ent]) fun E H hp => ?_
  refine draw G_ok mixed none (.q 0 (.q 1 (.q 2 (.q 3 (.q 4 (.q 5 (.q 6 (.q 7 (.q 8 (.q 9 (.q 10 (.q 11 (.q 12 (.q 13 (.q 14 (.q 15 (.q 16 (.q 17 (.q 18 (.q 19 (.q 20 (.q 21 (.q 22 (.q 23 (.q 24 (.q 25 (.q 26 (.q 27 (.q 28 (.q 29 (.q 30 (.nil)))))))))))))))))))))))))))))))) (by decide +kernel) ?_
  refine VCsplit.intro (fun q0 => ?_) (fun q0 => ?_)
  ·
    simp at q0
    refine VCsplit.intro (fun q1 => ?_) (fun q1 => ?_)
    ·
      simp at q1
      refine VCsplit.intro (fun q2 => ?_) (fun q2 => ?_)
      ·
        simp at q2
        refine VCsplit.intro (fun q3 => ?_) (fun q3 => ?_)
        ·
          simp at q3
          simp (disch := omega) only [wrap_of] at q3
          apply loop_mod (α := (Nat) × (Hp) × (Option Addr) × (Nat)) G_ok [43, 44, 45, 46, 47, 48, 51, 52, 53, 54, 49, 50, 4] (fun z => [(4, .v (.int .i64 ((z.1 + 2 : Nat) : Int)))]) (fun z => [⟨q, [Value.bool w.begun, v1, v2, v3, v4, v5, Value.int IntKind.i64 w.count, v7, Value.int IntKind.i64 w.num, Value.bool w.black, Value.bool false, Value.int IntKind.i64 w.tokNum, Value.bool w.tokBlack, Value.bool w.walked, v14, v15, v16, v17, v18, v19, v20, v21, v22, v23, v24, v25, Value.int IntKind.i64 id, .slice z.2.2.1 (walkMails z.1).length z.2.2.2], (128 : TypeId)⟩]) (fun z => [z.2.1, H]) (fun z => 8 - z.1) (fun z => (z.1 : Int) ≤ w.count - 1 ∧ (gSl 120 gMail).ow [.slice z.2.2.1 (walkMails z.1).length z.2.2.2] (walkMails z.1) z.2.1) ((0, [], none, 0))
          · repeat' (first | exact trivial | refine ⟨⟨_, rfl, by first | rfl | exact inc_eq _ (by omega) | (refine sl_eq ?_; simp; done), by first | exact trivial | simp [SV.ok]⟩, ?_⟩)
          · exact ⟨rfl, trivial⟩
          · try dsimp only
            exact ⟨by omega, sl_nil _ _ _⟩
          · exact .refl _
          rintro ⟨k, A, lb, lc⟩ hI
          obtain ⟨hk, oA⟩ : (k : Int) ≤ w.count - 1 ∧ (gSl 120 gMail).ow [.slice lb (walkMails k).length lc] (walkMails k) A := hI
          try dsimp only
          refine VCsplit.intro (fun q4 => ?_) (fun q4 => ?_)
          ·
            simp at q4
            refine callR_blk 0 (A) [H] rfl ?_ (deskSend_ct _ _ _ _ _ _ _ _ _ _ _ _ _ _ _ _ _ _ _ _ _ _ _ _ _ _ _ _ _ _ _ _ _ _ _ _ _ _ _ ?_ ?_ ?_ ?_ ?_ oA rfl ?_) trivial ?_
            · exact .refl _
            · unfold okI; omega
            · trivial
            · trivial
            · trivial
            · trivial
            · (rw [walkMails_len]; omega)
            rintro _ A5 ⟨b5, c5, Ax5, rfl, rfl, o5⟩
            refine ⟨_, _, [Ax5], rfl, perm1, ?_⟩
            apply loop_stepA (k + 1, _, _, _)
            · exact .refl _
            · repeat' (first | exact trivial | refine ⟨⟨_, rfl, by first | rfl | exact inc_eq _ (by omega) | (refine sl_eq ?_; simp; done), by first | exact trivial | simp [SV.ok]⟩, ?_⟩)
            · exact ⟨rfl, trivial⟩
            · try dsimp only
              exact ⟨by omega, by assumption⟩
            · try dsimp only
              omega
          ·
            simp at q4
            have hk0 : (w.count - 1).toNat = k := by omega
            (have te : tickEnd w id = true := (by unfold tickEnd; simp_all); obtain ⟨ew, em⟩ := tick_end ht te; rw [ew, em, te, hk0]; exact ⟨_, ⟨_, _, _, rfl, rfl, by assumption⟩, (.le fun a => by (try simp only [setR, List.cons_append, List.nil_append]); simp [List.count_cons, Blk.ent, idOf]; try omega)⟩)
        ·
          simp at q3
          simp (disch := omega) only [wrap_of] at q3
          refine VCnew.intro fun x6 => ?_
          refine VCsplit.intro (fun q7 => ?_) (fun q7 => ?_)
          ·
            simp at q7
            exfalso; omega
          ·
            simp at q7
            refine VCsplit.intro (fun q8 => ?_) (fun q8 => ?_)
            ·
              simp at q8
              (have te : tickEnd w id = false := (by unfold tickEnd; simp_all); obtain ⟨ew, em⟩ := tick_one ht te ‹_›; rw [ew, em, te]; exact ⟨_, ⟨none, 0, [], rfl, rfl, sl_nil _ _ _⟩, (.le fun a => by (try simp only [setR, List.cons_append, List.nil_append]); simp [List.count_cons, Blk.ent, idOf]; try omega)⟩)
            ·
              simp at q8
              refine draw G_ok mixed (some 12) (.q 0 (.q 1 (.q 2 (.q 3 (.q 4 (.q 5 (.q 6 (.q 7 (.q 8 (.q 9 (.q 10 (.q 11 (.tl 12 (.nil)))))))))))))) (by decide +kernel) ?_
              refine VC.intro ?_ ?_
              · omega
              refine callR_blk 0 ([]) [H] rfl ?_ (deskSend_ct _ _ _ _ _ _ _ _ _ _ _ _ _ _ _ _ _ _ _ _ _ _ _ _ _ _ _ _ _ _ _ _ _ _ _ _ _ _ _ ?_ ?_ ?_ ?_ ?_ (sl_nil _ _ _) rfl ?_) trivial ?_
              · exact .refl _
              · exact okI_wrap _
              · trivial
              · trivial
              · trivial
              · trivial
              · trivial
              rintro _ A9 ⟨b9, c9, Ax9, rfl, rfl, o9⟩
              refine ⟨_, _, [Ax9], rfl, perm1, ?_⟩
              (have te : tickEnd w id = false := (by unfold tickEnd; simp_all); obtain ⟨ew, em⟩ := tick_go1 ht te ‹_› ‹id = 1›; rw [ew, em, te]; exact ⟨_, ⟨_, _, _, rfl, rfl, by assumption⟩, (.le fun a => by (try simp only [setR, List.cons_append, List.nil_append]); simp [List.count_cons, Blk.ent, idOf]; try omega)⟩)
      ·
        simp at q2
        refine VCnew.intro fun x10 => ?_
        refine VCsplit.intro (fun q11 => ?_) (fun q11 => ?_)
        ·
          simp at q11
          exfalso; omega
        ·
          simp at q11
          refine VCsplit.intro (fun q12 => ?_) (fun q12 => ?_)
          ·
            simp at q12
            (have te : tickEnd w id = false := (by unfold tickEnd; simp_all); obtain ⟨ew, em⟩ := tick_one ht te ‹_›; rw [ew, em, te]; exact ⟨_, ⟨none, 0, [], rfl, rfl, sl_nil _ _ _⟩, (.le fun a => by (try simp only [setR, List.cons_append, List.nil_append]); simp [List.count_cons, Blk.ent, idOf]; try omega)⟩)
          ·
            simp at q12
            refine draw G_ok mixed (some 12) (.q 0 (.q 1 (.q 2 (.q 3 (.q 4 (.q 5 (.q 6 (.q 7 (.q 8 (.q 9 (.q 10 (.q 11 (.tl 12 (.nil)))))))))))))) (by decide +kernel) ?_
            refine VC.intro ?_ ?_
            · omega
            refine callR_blk 0 ([]) [H] rfl ?_ (deskSend_ct _ _ _ _ _ _ _ _ _ _ _ _ _ _ _ _ _ _ _ _ _ _ _ _ _ _ _ _ _ _ _ _ _ _ _ _ _ _ _ ?_ ?_ ?_ ?_ ?_ (sl_nil _ _ _) rfl ?_) trivial ?_
            · exact .refl _
            · exact okI_wrap _
            · trivial
            · trivial
            · trivial
            · trivial
            · trivial
            rintro _ A13 ⟨b13, c13, Ax13, rfl, rfl, o13⟩
            refine ⟨_, _, [Ax13], rfl, perm1, ?_⟩
            (have te : tickEnd w id = false := (by unfold tickEnd; simp_all); obtain ⟨ew, em⟩ := tick_go1 ht te ‹_› ‹id = 1›; rw [ew, em, te]; exact ⟨_, ⟨_, _, _, rfl, rfl, by assumption⟩, (.le fun a => by (try simp only [setR, List.cons_append, List.nil_append]); simp [List.count_cons, Blk.ent, idOf]; try omega)⟩)
    ·
      simp at q1
      refine VCnew.intro fun x14 => ?_
      refine VCsplit.intro (fun q15 => ?_) (fun q15 => ?_)
      ·
        simp at q15
        exfalso; omega
      ·
        simp at q15
        refine VCsplit.intro (fun q16 => ?_) (fun q16 => ?_)
        ·
          simp at q16
          (have te : tickEnd w id = false := (by unfold tickEnd; simp_all); obtain ⟨ew, em⟩ := tick_one ht te ‹_›; rw [ew, em, te]; exact ⟨_, ⟨none, 0, [], rfl, rfl, sl_nil _ _ _⟩, (.le fun a => by (try simp only [setR, List.cons_append, List.nil_append]); simp [List.count_cons, Blk.ent, idOf]; try omega)⟩)
        ·
          simp at q16
          refine draw G_ok mixed (some 12) (.q 0 (.q 1 (.q 2 (.q 3 (.q 4 (.q 5 (.q 6 (.q 7 (.q 8 (.q 9 (.q 10 (.q 11 (.tl 12 (.nil)))))))))))))) (by decide +kernel) ?_
          refine VC.intro ?_ ?_
          · omega
          refine callR_blk 0 ([]) [H] rfl ?_ (deskSend_ct _ _ _ _ _ _ _ _ _ _ _ _ _ _ _ _ _ _ _ _ _ _ _ _ _ _ _ _ _ _ _ _ _ _ _ _ _ _ _ ?_ ?_ ?_ ?_ ?_ (sl_nil _ _ _) rfl ?_) trivial ?_
          · exact .refl _
          · exact okI_wrap _
          · trivial
          · trivial
          · trivial
          · trivial
          · trivial
          rintro _ A17 ⟨b17, c17, Ax17, rfl, rfl, o17⟩
          refine ⟨_, _, [Ax17], rfl, perm1, ?_⟩
          (have te : tickEnd w id = false := (by unfold tickEnd; simp_all); obtain ⟨ew, em⟩ := tick_go1 ht te ‹_› ‹id = 1›; rw [ew, em, te]; exact ⟨_, ⟨_, _, _, rfl, rfl, by assumption⟩, (.le fun a => by (try simp only [setR, List.cons_append, List.nil_append]); simp [List.count_cons, Blk.ent, idOf]; try omega)⟩)
  ·
    simp at q0
    refine VCnew.intro fun x18 => ?_
    refine VCsplit.intro (fun q19 => ?_) (fun q19 => ?_)
    ·
      simp at q19
      refine draw G_ok mixed (some 10) (.q 0 (.q 1 (.q 2 (.q 3 (.q 4 (.q 5 (.q 6 (.q 7 (.q 8 (.q 9 (.tl 10 (.nil)))))))))))) (by decide +kernel) ?_
      refine VCsplit.intro (fun q20 => ?_) (fun q20 => ?_)
      ·
        refine VCsplit.intro (fun q21 => ?_) (fun q21 => ?_)
        ·
          simp at q21
          exfalso; omega
        ·
          simp at q21
          refine draw G_ok mixed (some 12) (.q 0 (.q 1 (.q 2 (.q 3 (.q 4 (.q 5 (.q 6 (.q 7 (.q 8 (.q 9 (.q 10 (.q 11 (.tl 12 (.nil)))))))))))))) (by decide +kernel) ?_
          refine VC.intro ?_ ?_
          · omega
          refine callR_blk 0 ([]) [H] rfl ?_ (deskSend_ct _ _ _ _ _ _ _ _ _ _ _ _ _ _ _ _ _ _ _ _ _ _ _ _ _ _ _ _ _ _ _ _ _ _ _ _ _ _ _ ?_ ?_ ?_ ?_ ?_ (sl_nil _ _ _) rfl ?_) trivial ?_
          · exact .refl _
          · exact okI_wrap _
          · trivial
          · trivial
          · exact okI_wrap _
          · trivial
          · trivial
          rintro _ A22 ⟨b22, c22, Ax22, rfl, rfl, o22⟩
          refine ⟨_, _, [Ax22], rfl, perm1, ?_⟩
          (have te : tickEnd w id = false := (by unfold tickEnd; simp_all); obtain ⟨ew, em⟩ := tick_go2 (b := true) ht te ‹_› ‹¬ id = 1› (by rw [‹w.tokBlack = true›, Bool.true_or]); rw [ew, em, te]; exact ⟨_, ⟨_, _, _, rfl, rfl, by assumption⟩, (.le fun a => by (try simp only [setR, List.cons_append, List.nil_append]); simp [List.count_cons, Blk.ent, idOf]; try omega)⟩)
      ·
        refine VCsplit.intro (fun q23 => ?_) (fun q23 => ?_)
        ·
          simp at q23
          exfalso; omega
        ·
          simp at q23
          refine draw G_ok mixed (some 12) (.q 0 (.q 1 (.q 2 (.q 3 (.q 4 (.q 5 (.q 6 (.q 7 (.q 8 (.q 9 (.q 10 (.q 11 (.tl 12 (.nil)))))))))))))) (by decide +kernel) ?_
          refine VC.intro ?_ ?_
          · omega
          refine callR_blk 0 ([]) [H] rfl ?_ (deskSend_ct _ _ _ _ _ _ _ _ _ _ _ _ _ _ _ _ _ _ _ _ _ _ _ _ _ _ _ _ _ _ _ _ _ _ _ _ _ _ _ ?_ ?_ ?_ ?_ ?_ (sl_nil _ _ _) rfl ?_) trivial ?_
          · exact .refl _
          · exact okI_wrap _
          · trivial
          · trivial
          · exact okI_wrap _
          · trivial
          · trivial
          rintro _ A24 ⟨b24, c24, Ax24, rfl, rfl, o24⟩
          refine ⟨_, _, [Ax24], rfl, perm1, ?_⟩
          (have te : tickEnd w id = false := (by unfold tickEnd; simp_all); obtain ⟨ew, em⟩ := tick_go2 (b := w.black) ht te ‹_› ‹¬ id = 1› (by rw [‹w.tokBlack = false›, Bool.false_or]); rw [ew, em, te]; exact ⟨_, ⟨_, _, _, rfl, rfl, by assumption⟩, (.le fun a => by (try simp only [setR, List.cons_append, List.nil_append]); simp [List.count_cons, Blk.ent, idOf]; try omega)⟩)
    ·
      simp at q19
      exfalso; omega

--@ct impl.TickWork newp implTickWork_ct _ $1 _ ?_ ?_ | %1 | obtain ⟨l#, b#, c#, A#y, A#z, rfl, hp#, o#y, o#z⟩ := o# ;; refine ⟨[A#y, A#z], hp#, ?_⟩ ;; have r# := Gt.owrd _ o#y ;; obtain ⟨l1x#, b2x#, c2x#, b4x#, c4x#, l11x#, b13x#, c13x#, rfl, h1x#, h2x#, w3x#, h4x#, w5x#, w8x#, h11x#, h13x#⟩ := gWork_rd.1 r# ;; obtain ⟨b1_1x#, c1_1x#, b2_1x#, c2_1x#, b3_1x#, c3_1x#, rfl, h1_1x#, h2_1x#, h3_1x#⟩ := gQuery_rd.1 h1x# ;; obtain ⟨l0_11x#, b1_11x#, c1_11x#, b4_11x#, c4_11x#, rfl, h0_11x#, h1_11x#, w2_11x#, w3_11x#, h4_11x#⟩ := gCell_rd.1 h11x# ;; obtain ⟨b1_0_11x#, c1_0_11x#, b2_0_11x#, c2_0_11x#, b3_0_11x#, c3_0_11x#, rfl, h1_0_11x#, h2_0_11x#, h3_0_11x#⟩ := gQuery_rd.1 h0_11x#
theorem implTickWork_ct (l : List Value) (w : Work) (id : Int) (hx : gWork.sz w ≤ 1048576) (hid : okI id) :
    Ct Tryz.prog 14 [.agg ⟨l⟩, .int .i64 id] [] (fun H => gWork.rd H l w) (fun v A => ∃ l' b c A1 A2, v = .tuple #[.agg ⟨l'⟩, .slice b (tickM w id).length c] ∧ A.Perm [A1, A2].flatten ∧ gWork.ow l' (tickW w id) A1 ∧ (gSl 120 gMail).ow [.slice b (tickM w id).length c] (tickM w id) A2) := by
  refine Ct.intro0 G_ok Tryz.func14 rfl rfl rfl fun E H hp => ?_
  obtain ⟨l1p, b2p, c2p, b4p, c4p, l11p, b13p, c13p, rfl, h1p, h2p, w3p, h4p, w5p, w8p, h11p, h13p⟩ := gWork_rd.1 hp
  obtain ⟨b1_1p, c1_1p, b2_1p, c2_1p, b3_1p, c3_1p, rfl, h1_1p, h2_1p, h3_1p⟩ := gQuery_rd.1 h1p
  obtain ⟨l0_11p, b1_11p, c1_11p, b4_11p, c4_11p, rfl, h0_11p, h1_11p, w2_11p, w3_11p, h4_11p⟩ := gCell_rd.1 h11p
  obtain ⟨b1_0_11p, c1_0_11p, b2_0_11p, c2_0_11p, b3_0_11p, c3_0_11p, rfl, h1_0_11p, h2_0_11p, h3_0_11p⟩ := gQuery_rd.1 h0_11p
  refine VCnew.intro fun x0 => ?_
  refine VCnew.intro fun x1 => ?_
  refine call_new (copyWork_ct _ (w) ?_) (Rp.mono _ (mem_at 0 rfl) hp) ?_
  · trivial
  rintro v2 A2 o2
  obtain ⟨l2, rfl, o2⟩ := o2
  have r2 := Gt.owrd _ o2
  obtain ⟨l1x2, b2x2, c2x2, b4x2, c4x2, l11x2, b13x2, c13x2, rfl, h1x2, h2x2, w3x2, h4x2, w5x2, w8x2, h11x2, h13x2⟩ := gWork_rd.1 r2
  obtain ⟨b1_1x2, c1_1x2, b2_1x2, c2_1x2, b3_1x2, c3_1x2, rfl, h1_1x2, h2_1x2, h3_1x2⟩ := gQuery_rd.1 h1x2
  obtain ⟨l0_11x2, b1_11x2, c1_11x2, b4_11x2, c4_11x2, rfl, h0_11x2, h1_11x2, w2_11x2, w3_11x2, h4_11x2⟩ := gCell_rd.1 h11x2
  obtain ⟨b1_0_11x2, c1_0_11x2, b2_0_11x2, c2_0_11x2, b3_0_11x2, c3_0_11x2, rfl, h1_0_11x2, h2_0_11x2, h3_0_11x2⟩ := gQuery_rd.1 h0_11x2
  refine VCnew.intro fun x3 => ?_
  refine call_val (canTick_ct _ (w) _) (Rp.mono _ (mem_at 1 rfl) hp) ?_
  rintro _ rfl
  refine VCsplit.intro (fun q5 => ?_) (fun q5 => ?_)
  ·
    refine callR_blk 2 ([]) [A2, H] rfl ?_ (deskTick_ct _ _ _ _ _ _ _ _ _ _ _ _ _ _ _ _ _ _ _ _ _ ?_) trivial ?_
    · exact .refl _
    · trivial
    rintro _ A6 ⟨b6, c6, Ax6, rfl, rfl, o6⟩
    refine ⟨_, _, [Ax6], rfl, perm1, ?_⟩
    refine draw G_ok mixed none (.q 0 (.q 2 (.hd (.alt 1 (.hd (.alt 3 (.f 4 (.q 5 (.nil))) (.alt 4 (.f 3 (.q 5 (.nil))) (.nil)))) (.alt 3 (.f 1 (.f 4 (.q 5 (.nil)))) (.nil)))))) (by decide +kernel) ?_
    refine VC.intro ?_ ?_
    ·
      refine VC.intro ?_ ?_
      ·
        (have oW := work_tick ‹gWork.ow _ w _› id; exact ⟨[_, _].flatten, ⟨_, _, _, _, _, rfl, .refl _, oW, by assumption⟩, (.le fun a => by (try simp only [setR, List.cons_append, List.nil_append]); simp [List.count_cons, Blk.ent, idOf]; try omega)⟩)
      ·
        refine VC.intro ?_ ?_
        ·
          (have oW := work_tick ‹gWork.ow _ w _› id; exact ⟨[_, _].flatten, ⟨_, _, _, _, _, rfl, .refl _, oW, by assumption⟩, (.le fun a => by (try simp only [setR, List.cons_append, List.nil_append]); simp [List.count_cons, Blk.ent, idOf]; try omega)⟩)
        ·
          exact trivial
    ·
      refine VC.intro ?_ ?_
      ·
        (have oW := work_tick ‹gWork.ow _ w _› id; exact ⟨[_, _].flatten, ⟨_, _, _, _, _, rfl, .refl _, oW, by assumption⟩, (.le fun a => by (try simp only [setR, List.cons_append, List.nil_append]); simp [List.count_cons, Blk.ent, idOf]; try omega)⟩)
      ·
        exact trivial
  ·
    refine draw G_ok mixed none (.q 0 (.q 2 (.hd (.alt 1 (.hd (.alt 3 (.f 4 (.q 5 (.nil))) (.alt 4 (.f 3 (.q 5 (.nil))) (.nil)))) (.alt 3 (.f 1 (.f 4 (.q 5 (.nil)))) (.nil)))))) (by decide +kernel) ?_
    refine VC.intro ?_ ?_
    ·
      refine VC.intro ?_ ?_
      ·
        (obtain ⟨ew, em⟩ := tick_no (w := w) (id := id) ‹_›; rw [ew, em]; exact ⟨[_, _].flatten, ⟨_, _, _, _, [], rfl, .refl _, ‹gWork.ow _ w _›, sl_nil _ _ _⟩, (.le fun a => by (try simp only [setR, List.cons_append, List.nil_append]); simp [List.count_cons, Blk.ent, idOf]; try omega)⟩)
      ·
        refine VC.intro ?_ ?_
        ·
          (obtain ⟨ew, em⟩ := tick_no (w := w) (id := id) ‹_›; rw [ew, em]; exact ⟨[_, _].flatten, ⟨_, _, _, _, [], rfl, .refl _, ‹gWork.ow _ w _›, sl_nil _ _ _⟩, (.le fun a => by (try simp only [setR, List.cons_append, List.nil_append]); simp [List.count_cons, Blk.ent, idOf]; try omega)⟩)
        ·
          exact trivial
    ·
      refine VC.intro ?_ ?_
      ·
        (obtain ⟨ew, em⟩ := tick_no (w := w) (id := id) ‹_›; rw [ew, em]; exact ⟨[_, _].flatten, ⟨_, _, _, _, [], rfl, .refl _, ‹gWork.ow _ w _›, sl_nil _ _ _⟩, (.le fun a => by (try simp only [setR, List.cons_append, List.nil_append]); simp [List.count_cons, Blk.ent, idOf]; try omega)⟩)
      ·
        exact trivial

--@ct spec.TickWork newp specTickWork_ct _ $1 _ ?_ ?_ | %1 | obtain ⟨l#, b#, c#, A#y, A#z, rfl, hp#, o#y, o#z⟩ := o# ;; refine ⟨[A#y, A#z], hp#, ?_⟩ ;; have r# := Gt.owrd _ o#y ;; obtain ⟨l1x#, b2x#, c2x#, b4x#, c4x#, l11x#, b13x#, c13x#, rfl, h1x#, h2x#, w3x#, h4x#, w5x#, w8x#, h11x#, h13x#⟩ := gWork_rd.1 r# ;; obtain ⟨b1_1x#, c1_1x#, b2_1x#, c2_1x#, b3_1x#, c3_1x#, rfl, h1_1x#, h2_1x#, h3_1x#⟩ := gQuery_rd.1 h1x# ;; obtain ⟨l0_11x#, b1_11x#, c1_11x#, b4_11x#, c4_11x#, rfl, h0_11x#, h1_11x#, w2_11x#, w3_11x#, h4_11x#⟩ := gCell_rd.1 h11x# ;; obtain ⟨b1_0_11x#, c1_0_11x#, b2_0_11x#, c2_0_11x#, b3_0_11x#, c3_0_11x#, rfl, h1_0_11x#, h2_0_11x#, h3_0_11x#⟩ := gQuery_rd.1 h0_11x#
theorem specTickWork_ct (l : List Value) (w : Work) (id : Int) (hx : gWork.sz w ≤ 1048576) (hid : okI id) :
    Ct Tryz.prog 12 [.agg ⟨l⟩, .int .i64 id] [] (fun H => gWork.rd H l w) (fun v A => ∃ l' b c A1 A2, v = .tuple #[.agg ⟨l'⟩, .slice b (tickM w id).length c] ∧ A.Perm [A1, A2].flatten ∧ gWork.ow l' (tickW w id) A1 ∧ (gSl 120 gMail).ow [.slice b (tickM w id).length c] (tickM w id) A2) := by
  refine Ct.intro0 G_ok Tryz.func12 rfl rfl rfl fun E H hp => ?_
  obtain ⟨l1p, b2p, c2p, b4p, c4p, l11p, b13p, c13p, rfl, h1p, h2p, w3p, h4p, w5p, w8p, h11p, h13p⟩ := gWork_rd.1 hp
  obtain ⟨b1_1p, c1_1p, b2_1p, c2_1p, b3_1p, c3_1p, rfl, h1_1p, h2_1p, h3_1p⟩ := gQuery_rd.1 h1p
  obtain ⟨l0_11p, b1_11p, c1_11p, b4_11p, c4_11p, rfl, h0_11p, h1_11p, w2_11p, w3_11p, h4_11p⟩ := gCell_rd.1 h11p
  obtain ⟨b1_0_11p, c1_0_11p, b2_0_11p, c2_0_11p, b3_0_11p, c3_0_11p, rfl, h1_0_11p, h2_0_11p, h3_0_11p⟩ := gQuery_rd.1 h0_11p
  refine VCnew.intro fun x0 => ?_
  refine VCnew.intro fun x1 => ?_
  refine call_new (s_l24Copy_ct _ (w) ?_) (Rp.mono _ (mem_at 0 rfl) hp) ?_
  · trivial
  rintro v2 A2 o2
  obtain ⟨l2, rfl, o2⟩ := o2
  have r2 := Gt.owrd _ o2
  obtain ⟨l1x2, b2x2, c2x2, b4x2, c4x2, l11x2, b13x2, c13x2, rfl, h1x2, h2x2, w3x2, h4x2, w5x2, w8x2, h11x2, h13x2⟩ := gWork_rd.1 r2
  obtain ⟨b1_1x2, c1_1x2, b2_1x2, c2_1x2, b3_1x2, c3_1x2, rfl, h1_1x2, h2_1x2, h3_1x2⟩ := gQuery_rd.1 h1x2
  obtain ⟨l0_11x2, b1_11x2, c1_11x2, b4_11x2, c4_11x2, rfl, h0_11x2, h1_11x2, w2_11x2, w3_11x2, h4_11x2⟩ := gCell_rd.1 h11x2
  obtain ⟨b1_0_11x2, c1_0_11x2, b2_0_11x2, c2_0_11x2, b3_0_11x2, c3_0_11x2, rfl, h1_0_11x2, h2_0_11x2, h3_0_11x2⟩ := gQuery_rd.1 h0_11x2
  refine VCnew.intro fun x3 => ?_
  refine VCnew.intro fun x4 => ?_
  refine VCsplit.intro (fun q5 => ?_) (fun q5 => ?_)
  ·
    simp at q5
    (obtain ⟨ew, em⟩ := tick_no (w := w) (id := id) (tickOk_no fun e => by (obtain ⟨e1, e2, e3, e4, e5, e6, e7⟩ := tickOk_iff.1 e; first | omega | simp_all)); rw [ew, em]; exact ⟨[_, _].flatten, ⟨_, _, _, _, [], rfl, .refl _, ‹gWork.ow _ w _›, sl_nil _ _ _⟩, (.le fun a => by (try simp only [setR, List.cons_append, List.nil_append]); simp [List.count_cons, Blk.ent, idOf]; try omega)⟩)
  ·
    simp at q5
    refine VCsplit.intro (fun q6 => ?_) (fun q6 => ?_)
    ·
      simp at q6
      (obtain ⟨ew, em⟩ := tick_no (w := w) (id := id) (tickOk_no fun e => by (obtain ⟨e1, e2, e3, e4, e5, e6, e7⟩ := tickOk_iff.1 e; first | omega | simp_all)); rw [ew, em]; exact ⟨[_, _].flatten, ⟨_, _, _, _, [], rfl, .refl _, ‹gWork.ow _ w _›, sl_nil _ _ _⟩, (.le fun a => by (try simp only [setR, List.cons_append, List.nil_append]); simp [List.count_cons, Blk.ent, idOf]; try omega)⟩)
    ·
      simp at q6
      refine VCsplit.intro (fun q7 => ?_) (fun q7 => ?_)
      ·
        (obtain ⟨ew, em⟩ := tick_no (w := w) (id := id) (tickOk_no fun e => by (obtain ⟨e1, e2, e3, e4, e5, e6, e7⟩ := tickOk_iff.1 e; first | omega | simp_all)); rw [ew, em]; exact ⟨[_, _].flatten, ⟨_, _, _, _, [], rfl, .refl _, ‹gWork.ow _ w _›, sl_nil _ _ _⟩, (.le fun a => by (try simp only [setR, List.cons_append, List.nil_append]); simp [List.count_cons, Blk.ent, idOf]; try omega)⟩)
      ·
        refine call_val (l01In_ct _ _ _) trivial ?_
        rintro _ rfl
        refine VCsplit.intro (fun q9 => ?_) (fun q9 => ?_)
        ·
          simp at q9
          have iq9 := mt inR_iff.2 (Bool.eq_false_iff.1 q9)
          (obtain ⟨ew, em⟩ := tick_no (w := w) (id := id) (tickOk_no fun e => by (obtain ⟨e1, e2, e3, e4, e5, e6, e7⟩ := tickOk_iff.1 e; first | omega | simp_all)); rw [ew, em]; exact ⟨[_, _].flatten, ⟨_, _, _, _, [], rfl, .refl _, ‹gWork.ow _ w _›, sl_nil _ _ _⟩, (.le fun a => by (try simp only [setR, List.cons_append, List.nil_append]); simp [List.count_cons, Blk.ent, idOf]; try omega)⟩)
        ·
          simp at q9
          have iq9 := inR_iff.1 q9
          refine call_val (l01In_ct _ _ _) trivial ?_
          rintro _ rfl
          refine VCsplit.intro (fun q11 => ?_) (fun q11 => ?_)
          ·
            simp at q11
            have iq11 := mt inR_iff.2 (Bool.eq_false_iff.1 q11)
            (obtain ⟨ew, em⟩ := tick_no (w := w) (id := id) (tickOk_no fun e => by (obtain ⟨e1, e2, e3, e4, e5, e6, e7⟩ := tickOk_iff.1 e; first | omega | simp_all)); rw [ew, em]; exact ⟨[_, _].flatten, ⟨_, _, _, _, [], rfl, .refl _, ‹gWork.ow _ w _›, sl_nil _ _ _⟩, (.le fun a => by (try simp only [setR, List.cons_append, List.nil_append]); simp [List.count_cons, Blk.ent, idOf]; try omega)⟩)
          ·
            simp at q11
            have iq11 := inR_iff.1 q11
            refine call_val (l01In_ct _ _ _) trivial ?_
            rintro _ rfl
            refine VCsplit.intro (fun q13 => ?_) (fun q13 => ?_)
            ·
              simp at q13
              have iq13 := mt inR_iff.2 (Bool.eq_false_iff.1 q13)
              (obtain ⟨ew, em⟩ := tick_no (w := w) (id := id) (tickOk_no fun e => by (obtain ⟨e1, e2, e3, e4, e5, e6, e7⟩ := tickOk_iff.1 e; first | omega | simp_all)); rw [ew, em]; exact ⟨[_, _].flatten, ⟨_, _, _, _, [], rfl, .refl _, ‹gWork.ow _ w _›, sl_nil _ _ _⟩, (.le fun a => by (try simp only [setR, List.cons_append, List.nil_append]); simp [List.count_cons, Blk.ent, idOf]; try omega)⟩)
            ·
              simp at q13
              have iq13 := inR_iff.1 q13
              refine call_val (l01In_ct _ _ _) trivial ?_
              rintro _ rfl
              refine VCsplit.intro (fun q15 => ?_) (fun q15 => ?_)
              ·
                simp at q15
                have iq15 := mt inR_iff.2 (Bool.eq_false_iff.1 q15)
                (obtain ⟨ew, em⟩ := tick_no (w := w) (id := id) (tickOk_no fun e => by (obtain ⟨e1, e2, e3, e4, e5, e6, e7⟩ := tickOk_iff.1 e; first | omega | simp_all)); rw [ew, em]; exact ⟨[_, _].flatten, ⟨_, _, _, _, [], rfl, .refl _, ‹gWork.ow _ w _›, sl_nil _ _ _⟩, (.le fun a => by (try simp only [setR, List.cons_append, List.nil_append]); simp [List.count_cons, Blk.ent, idOf]; try omega)⟩)
              ·
                simp at q15
                have iq15 := inR_iff.1 q15
                refine VCsplit.intro (fun q16 => ?_) (fun q16 => ?_)
                ·
                  simp at q16
                  refine VCsplit.intro (fun q17 => ?_) (fun q17 => ?_)
                  ·
                    simp at q17
                    refine VCsplit.intro (fun q18 => ?_) (fun q18 => ?_)
                    ·
                      simp at q18
                      refine VCsplit.intro (fun q19 => ?_) (fun q19 => ?_)
                      ·
                        simp at q19
                        simp (disch := omega) only [wrap_of] at q19
                        apply loop_mod (α := (Nat) × (Hp) × (Option Addr) × (Nat)) G_ok [73, 74, 75, 76, 79, 80, 81, 82, 83, 84, 7, 77, 78, 8] (fun z => [(8, .v (.int .i64 ((z.1 + 2 : Nat) : Int))), (7, .v (.slice z.2.2.1 (walkMails z.1).length z.2.2.2))]) (fun z => [{ id := x0, cs := [Value.bool w.begun, Value.bool w.query.each, Value.slice b1_1p w.query.out.length c1_1p, Value.slice b2_1p w.query.atoms.length c2_1p, Value.slice b3_1p w.query.filters.length c3_1p] ++ (Value.slice b2p w.shares.length c2p :: Value.int IntKind.i64 w.count :: Value.slice b4p w.seen.length c4p :: Value.int IntKind.i64 w.num :: Value.bool w.black :: Value.bool w.holds :: Value.int IntKind.i64 w.tokNum :: Value.bool w.tokBlack :: Value.bool w.walked :: ([Value.bool w.cell.query.each, Value.slice b1_0_11p w.cell.query.out.length c1_0_11p, Value.slice b2_0_11p w.cell.query.atoms.length c2_0_11p, Value.slice b3_0_11p w.cell.query.filters.length c3_0_11p] ++ [Value.slice b1_11p w.cell.shares.length c1_11p, Value.int IntKind.i64 w.cell.at', Value.int IntKind.i64 w.cell.n, Value.slice b4_11p w.cell.gots.length c4_11p]) ++ [Value.bool w.told, Value.slice b13p w.waits.length c13p]), ty := (59 : Nat) }, { id := x1, cs := [Value.bool false, Value.bool false, Value.slice none (0 : Nat) (0 : Nat), Value.slice none (0 : Nat) (0 : Nat), Value.slice none (0 : Nat) (0 : Nat), Value.slice none (0 : Nat) (0 : Nat), Value.int IntKind.i64 (0 : Int), Value.slice none (0 : Nat) (0 : Nat), Value.int IntKind.i64 (0 : Int), Value.bool false, Value.bool false, Value.int IntKind.i64 (0 : Int), Value.bool false, Value.bool false, Value.bool false, Value.slice none (0 : Nat) (0 : Nat), Value.slice none (0 : Nat) (0 : Nat), Value.slice none (0 : Nat) (0 : Nat), Value.slice none (0 : Nat) (0 : Nat), Value.int IntKind.i64 (0 : Int), Value.int IntKind.i64 (0 : Int), Value.slice none (0 : Nat) (0 : Nat), Value.bool false, Value.slice none (0 : Nat) (0 : Nat)], ty := (59 : Nat) }, { id := x3, cs := [Value.bool w.begun, Value.bool w.query.each, Value.slice b1_1x2 w.query.out.length c1_1x2, Value.slice b2_1x2 w.query.atoms.length c2_1x2, Value.slice b3_1x2 w.query.filters.length c3_1x2, Value.slice b2x2 w.shares.length c2x2, Value.int IntKind.i64 w.count, Value.slice b4x2 w.seen.length c4x2, Value.int IntKind.i64 w.num, Value.bool w.black, Value.bool false, Value.int IntKind.i64 w.tokNum, Value.bool w.tokBlack, Value.bool w.walked, Value.bool w.cell.query.each, Value.slice b1_0_11x2 w.cell.query.out.length c1_0_11x2, Value.slice b2_0_11x2 w.cell.query.atoms.length c2_0_11x2, Value.slice b3_0_11x2 w.cell.query.filters.length c3_0_11x2, Value.slice b1_11x2 w.cell.shares.length c1_11x2, Value.int IntKind.i64 w.cell.at', Value.int IntKind.i64 w.cell.n, Value.slice b4_11x2 w.cell.gots.length c4_11x2, Value.bool w.told, Value.slice b13x2 w.waits.length c13x2], ty := (59 : Nat) }]) (fun z => [z.2.1, [(x4, Obj.cells { toList := zeros (0 : Nat) [Value.int IntKind.i64 (0 : Int), Value.int IntKind.i64 (0 : Int), Value.int IntKind.i64 (0 : Int), Value.int IntKind.i64 (0 : Int), Value.bool false, Value.slice none (0 : Nat) (0 : Nat), Value.string ByteArray.empty] } (120 : TypeId))], A2, H]) (fun z => 8 - z.1) (fun z => (z.1 : Int) ≤ w.count - 1 ∧ (gSl 120 gMail).ow [.slice z.2.2.1 (walkMails z.1).length z.2.2.2] (walkMails z.1) z.2.1) ((0, [], some ⟨x4, 0, none⟩, 0))
                        · repeat' (first | exact trivial | refine ⟨⟨_, rfl, by first | rfl | exact inc_eq _ (by omega) | (refine sl_eq ?_; simp; done), by first | exact trivial | simp [SV.ok]⟩, ?_⟩)
                        · exact ⟨rfl, rfl, rfl, trivial⟩
                        · try dsimp only
                          exact ⟨by omega, sl_nil _ _ _⟩
                        · exact .refl _
                        rintro ⟨k, A, lb, lc⟩ hI
                        obtain ⟨hk, oA⟩ : (k : Int) ≤ w.count - 1 ∧ (gSl 120 gMail).ow [.slice lb (walkMails k).length lc] (walkMails k) A := hI
                        try dsimp only
                        refine VCsplit.intro (fun q20 => ?_) (fun q20 => ?_)
                        ·
                          simp at q20
                          refine VCnew.intro fun x21 => ?_
                          refine gappend1 (g := gMail) (T := (120 : TypeId)) G_ok A _ [[(x4, Obj.cells { toList := zeros (0 : Nat) [Value.int IntKind.i64 (0 : Int), Value.int IntKind.i64 (0 : Int), Value.int IntKind.i64 (0 : Int), Value.int IntKind.i64 (0 : Int), Value.bool false, Value.slice none (0 : Nat) (0 : Nat), Value.string ByteArray.empty] } (120 : TypeId))], A2, H] ?_ oA (mail_ow (by unfold okI; omega) lWalked_ow) (List.mem_of_getElem? (i := 0) rfl) rfl rfl rfl rfl rfl rfl rfl rfl ?_ fun b22 c22 A22 o22 => ?_
                          · exact .tl
                          · (rw [walkMails_len]; omega)
                          apply loop_stepA (k + 1, _, _, _)
                          · exact .refl _
                          · repeat' (first | exact trivial | refine ⟨⟨_, rfl, by first | rfl | exact inc_eq _ (by omega) | (refine sl_eq ?_; simp; done), by first | exact trivial | simp [SV.ok]⟩, ?_⟩)
                          · exact ⟨rfl, rfl, rfl, trivial⟩
                          · try dsimp only
                            exact ⟨by omega, by assumption⟩
                          · try dsimp only
                            omega
                        ·
                          simp at q20
                          (have ht : tickOk w id = true := tickOk_iff.2 ⟨‹_›, ‹_›, ‹_›, by omega, by omega, by omega, by omega⟩; have te : tickEnd w id = true := (by unfold tickEnd; simp_all); have hk0 : (w.count - 1).toNat = k := (by omega); obtain ⟨ew, em⟩ := tick_end ht te; rw [hk0] at em; have oW := work_tick ‹gWork.ow _ w _› id; rw [em]; rw [ew] at oW ⊢; exact ⟨[_, _].flatten, ⟨_, _, _, _, _, rfl, .refl _, oW, by first | assumption | exact sl_nil _ _ _⟩, (.le fun a => by (try simp only [setR, List.cons_append, List.nil_append]); simp [List.count_cons, Blk.ent, idOf]; try omega)⟩)
                      ·
                        simp at q19
                        simp (disch := omega) only [wrap_of] at q19
                        refine VCsplit.intro (fun q23 => ?_) (fun q23 => ?_)
                        ·
                          simp at q23
                          refine VCsplit.intro (fun q24 => ?_) (fun q24 => ?_)
                          ·
                            simp at q24
                            (have ht : tickOk w id = true := tickOk_iff.2 ⟨‹_›, ‹_›, ‹_›, by omega, by omega, by omega, by omega⟩; have te : tickEnd w id = false := (by unfold tickEnd; simp_all); obtain ⟨ew, em⟩ := tick_one ht te ‹_›; have oW := work_tick ‹gWork.ow _ w _› id; rw [em]; rw [ew] at oW ⊢; exact ⟨[_, _].flatten, ⟨_, _, _, _, _, rfl, .refl _, oW, by first | assumption | exact sl_nil _ _ _⟩, (.le fun a => by (try simp only [setR, List.cons_append, List.nil_append]); simp [List.count_cons, Blk.ent, idOf]; try omega)⟩)
                          ·
                            simp at q24
                            refine VCnew.intro fun x25 => ?_
                            refine VCsplit.intro (fun q26 => ?_) (fun q26 => ?_)
                            ·
                              simp at q26
                              exfalso; omega
                            ·
                              simp at q26
                              refine draw G_ok mixed (some 11) (.q 0 (.q 1 (.q 2 (.q 3 (.q 4 (.q 5 (.q 6 (.q 7 (.q 8 (.f 9 (.f 10 (.tl 11 (.f 12 (.nil)))))))))))))) (by decide +kernel) ?_
                              refine VC.intro ?_ ?_
                              · omega
                              refine VCnew.intro fun x27 => ?_
                              refine VC.intro ?_ ?_
                              · exact keep_new
                              refine gappend1 (g := gMail) (T := (120 : TypeId)) G_ok [] _ [[(x4, Obj.cells { toList := zeros (0 : Nat) [Value.int IntKind.i64 (0 : Int), Value.int IntKind.i64 (0 : Int), Value.int IntKind.i64 (0 : Int), Value.int IntKind.i64 (0 : Int), Value.bool false, Value.slice none (0 : Nat) (0 : Nat), Value.string ByteArray.empty] } (120 : TypeId))], A2, H] ?_ (sl_nil _ _ _) (mail_ow (okI_wrap _) (lToken_ow (by unfold okI; omega))) (List.mem_of_getElem? (i := 0) rfl) rfl rfl rfl rfl rfl rfl rfl rfl ?_ fun b28 c28 A28 o28 => ?_
                              · exact .tl
                              · trivial
                              refine VC.intro ?_ ?_
                              · exact keep_new
                              (have ht : tickOk w id = true := tickOk_iff.2 ⟨‹_›, ‹_›, ‹_›, by omega, by omega, by omega, by omega⟩; have te : tickEnd w id = false := (by unfold tickEnd; simp_all); obtain ⟨ew, em⟩ := tick_go1 ht te ‹_› ‹id = 1›; have oW := work_tick ‹gWork.ow _ w _› id; rw [em]; rw [ew] at oW ⊢; exact ⟨[_, _].flatten, ⟨_, _, _, _, _, rfl, .refl _, oW, by first | assumption | exact sl_nil _ _ _⟩, (.le fun a => by (try simp only [setR, List.cons_append, List.nil_append]); simp [List.count_cons, Blk.ent, idOf]; try omega)⟩)
                        ·
                          simp at q23
                          exfalso; omega
                    ·
                      simp at q18
                      refine VCsplit.intro (fun q29 => ?_) (fun q29 => ?_)
                      ·
                        simp at q29
                        refine VCsplit.intro (fun q30 => ?_) (fun q30 => ?_)
                        ·
                          simp at q30
                          (have ht : tickOk w id = true := tickOk_iff.2 ⟨‹_›, ‹_›, ‹_›, by omega, by omega, by omega, by omega⟩; have te : tickEnd w id = false := (by unfold tickEnd; simp_all); obtain ⟨ew, em⟩ := tick_one ht te ‹_›; have oW := work_tick ‹gWork.ow _ w _› id; rw [em]; rw [ew] at oW ⊢; exact ⟨[_, _].flatten, ⟨_, _, _, _, _, rfl, .refl _, oW, by first | assumption | exact sl_nil _ _ _⟩, (.le fun a => by (try simp only [setR, List.cons_append, List.nil_append]); simp [List.count_cons, Blk.ent, idOf]; try omega)⟩)
                        ·
                          simp at q30
                          refine VCnew.intro fun x31 => ?_
                          refine VCsplit.intro (fun q32 => ?_) (fun q32 => ?_)
                          ·
                            simp at q32
                            exfalso; omega
                          ·
                            simp at q32
                            refine draw G_ok mixed (some 11) (.q 0 (.q 1 (.q 2 (.q 3 (.q 4 (.q 5 (.q 6 (.q 7 (.q 8 (.f 9 (.f 10 (.tl 11 (.f 12 (.nil)))))))))))))) (by decide +kernel) ?_
                            refine VC.intro ?_ ?_
                            · omega
                            refine VCnew.intro fun x33 => ?_
                            refine VC.intro ?_ ?_
                            · exact keep_new
                            refine gappend1 (g := gMail) (T := (120 : TypeId)) G_ok [] _ [[(x4, Obj.cells { toList := zeros (0 : Nat) [Value.int IntKind.i64 (0 : Int), Value.int IntKind.i64 (0 : Int), Value.int IntKind.i64 (0 : Int), Value.int IntKind.i64 (0 : Int), Value.bool false, Value.slice none (0 : Nat) (0 : Nat), Value.string ByteArray.empty] } (120 : TypeId))], A2, H] ?_ (sl_nil _ _ _) (mail_ow (okI_wrap _) (lToken_ow (by unfold okI; omega))) (List.mem_of_getElem? (i := 0) rfl) rfl rfl rfl rfl rfl rfl rfl rfl ?_ fun b34 c34 A34 o34 => ?_
                            · exact .tl
                            · trivial
                            refine VC.intro ?_ ?_
                            · exact keep_new
                            (have ht : tickOk w id = true := tickOk_iff.2 ⟨‹_›, ‹_›, ‹_›, by omega, by omega, by omega, by omega⟩; have te : tickEnd w id = false := (by unfold tickEnd; simp_all); obtain ⟨ew, em⟩ := tick_go1 ht te ‹_› ‹id = 1›; have oW := work_tick ‹gWork.ow _ w _› id; rw [em]; rw [ew] at oW ⊢; exact ⟨[_, _].flatten, ⟨_, _, _, _, _, rfl, .refl _, oW, by first | assumption | exact sl_nil _ _ _⟩, (.le fun a => by (try simp only [setR, List.cons_append, List.nil_append]); simp [List.count_cons, Blk.ent, idOf]; try omega)⟩)
                      ·
                        simp at q29
                        exfalso; omega
                  ·
                    simp at q17
                    refine VCsplit.intro (fun q35 => ?_) (fun q35 => ?_)
                    ·
                      simp at q35
                      refine VCsplit.intro (fun q36 => ?_) (fun q36 => ?_)
                      ·
                        simp at q36
                        (have ht : tickOk w id = true := tickOk_iff.2 ⟨‹_›, ‹_›, ‹_›, by omega, by omega, by omega, by omega⟩; have te : tickEnd w id = false := (by unfold tickEnd; simp_all); obtain ⟨ew, em⟩ := tick_one ht te ‹_›; have oW := work_tick ‹gWork.ow _ w _› id; rw [em]; rw [ew] at oW ⊢; exact ⟨[_, _].flatten, ⟨_, _, _, _, _, rfl, .refl _, oW, by first | assumption | exact sl_nil _ _ _⟩, (.le fun a => by (try simp only [setR, List.cons_append, List.nil_append]); simp [List.count_cons, Blk.ent, idOf]; try omega)⟩)
                      ·
                        simp at q36
                        refine VCnew.intro fun x37 => ?_
                        refine VCsplit.intro (fun q38 => ?_) (fun q38 => ?_)
                        ·
                          simp at q38
                          exfalso; omega
                        ·
                          simp at q38
                          refine draw G_ok mixed (some 11) (.q 0 (.q 1 (.q 2 (.q 3 (.q 4 (.q 5 (.q 6 (.q 7 (.q 8 (.f 9 (.f 10 (.tl 11 (.f 12 (.nil)))))))))))))) (by decide +kernel) ?_
                          refine VC.intro ?_ ?_
                          · omega
                          refine VCnew.intro fun x39 => ?_
                          refine VC.intro ?_ ?_
                          · exact keep_new
                          refine gappend1 (g := gMail) (T := (120 : TypeId)) G_ok [] _ [[(x4, Obj.cells { toList := zeros (0 : Nat) [Value.int IntKind.i64 (0 : Int), Value.int IntKind.i64 (0 : Int), Value.int IntKind.i64 (0 : Int), Value.int IntKind.i64 (0 : Int), Value.bool false, Value.slice none (0 : Nat) (0 : Nat), Value.string ByteArray.empty] } (120 : TypeId))], A2, H] ?_ (sl_nil _ _ _) (mail_ow (okI_wrap _) (lToken_ow (by unfold okI; omega))) (List.mem_of_getElem? (i := 0) rfl) rfl rfl rfl rfl rfl rfl rfl rfl ?_ fun b40 c40 A40 o40 => ?_
                          · exact .tl
                          · trivial
                          refine VC.intro ?_ ?_
                          · exact keep_new
                          (have ht : tickOk w id = true := tickOk_iff.2 ⟨‹_›, ‹_›, ‹_›, by omega, by omega, by omega, by omega⟩; have te : tickEnd w id = false := (by unfold tickEnd; simp_all); obtain ⟨ew, em⟩ := tick_go1 ht te ‹_› ‹id = 1›; have oW := work_tick ‹gWork.ow _ w _› id; rw [em]; rw [ew] at oW ⊢; exact ⟨[_, _].flatten, ⟨_, _, _, _, _, rfl, .refl _, oW, by first | assumption | exact sl_nil _ _ _⟩, (.le fun a => by (try simp only [setR, List.cons_append, List.nil_append]); simp [List.count_cons, Blk.ent, idOf]; try omega)⟩)
                    ·
                      simp at q35
                      exfalso; omega
                ·
                  simp at q16
                  refine VCsplit.intro (fun q41 => ?_) (fun q41 => ?_)
                  ·
                    simp at q41
                    exfalso; omega
                  ·
                    simp at q41
                    refine VCnew.intro fun x42 => ?_
                    refine VCsplit.intro (fun q43 => ?_) (fun q43 => ?_)
                    ·
                      simp at q43
                      refine VCsplit.intro (fun q44 => ?_) (fun q44 => ?_)
                      ·
                        refine draw G_ok mixed (some 11) (.q 0 (.q 1 (.q 2 (.q 3 (.q 4 (.q 5 (.q 6 (.q 7 (.q 8 (.f 9 (.f 10 (.tl 11 (.f 12 (.nil)))))))))))))) (by decide +kernel) ?_
                        refine VC.intro ?_ ?_
                        · omega
                        refine VCnew.intro fun x45 => ?_
                        refine VC.intro ?_ ?_
                        · exact keep_new
                        refine gappend1 (g := gMail) (T := (120 : TypeId)) G_ok [] _ [[(x4, Obj.cells { toList := zeros (0 : Nat) [Value.int IntKind.i64 (0 : Int), Value.int IntKind.i64 (0 : Int), Value.int IntKind.i64 (0 : Int), Value.int IntKind.i64 (0 : Int), Value.bool false, Value.slice none (0 : Nat) (0 : Nat), Value.string ByteArray.empty] } (120 : TypeId))], A2, H] ?_ (sl_nil _ _ _) (mail_ow (okI_wrap _) (lToken_ow (okI_wrap _))) (List.mem_of_getElem? (i := 0) rfl) rfl rfl rfl rfl rfl rfl rfl rfl ?_ fun b46 c46 A46 o46 => ?_
                        · exact .tl
                        · trivial
                        refine VC.intro ?_ ?_
                        · exact keep_new
                        (have ht : tickOk w id = true := tickOk_iff.2 ⟨‹_›, ‹_›, ‹_›, by omega, by omega, by omega, by omega⟩; have te : tickEnd w id = false := (by unfold tickEnd; simp_all); obtain ⟨ew, em⟩ := tick_go2 (b := true) ht te (by omega) ‹¬ id = 1› (by simp_all); have oW := work_tick ‹gWork.ow _ w _› id; rw [em]; rw [ew] at oW ⊢; exact ⟨[_, _].flatten, ⟨_, _, _, _, _, rfl, .refl _, oW, by first | assumption | exact sl_nil _ _ _⟩, (.le fun a => by (try simp only [setR, List.cons_append, List.nil_append]); simp [List.count_cons, Blk.ent, idOf]; try omega)⟩)
                      ·
                        refine draw G_ok mixed (some 11) (.q 0 (.q 1 (.q 2 (.q 3 (.q 4 (.q 5 (.q 6 (.q 7 (.q 8 (.f 9 (.f 10 (.tl 11 (.f 12 (.nil)))))))))))))) (by decide +kernel) ?_
                        refine VC.intro ?_ ?_
                        · omega
                        refine VCnew.intro fun x47 => ?_
                        refine VC.intro ?_ ?_
                        · exact keep_new
                        refine gappend1 (g := gMail) (T := (120 : TypeId)) G_ok [] _ [[(x4, Obj.cells { toList := zeros (0 : Nat) [Value.int IntKind.i64 (0 : Int), Value.int IntKind.i64 (0 : Int), Value.int IntKind.i64 (0 : Int), Value.int IntKind.i64 (0 : Int), Value.bool false, Value.slice none (0 : Nat) (0 : Nat), Value.string ByteArray.empty] } (120 : TypeId))], A2, H] ?_ (sl_nil _ _ _) (mail_ow (okI_wrap _) (lToken_ow (okI_wrap _))) (List.mem_of_getElem? (i := 0) rfl) rfl rfl rfl rfl rfl rfl rfl rfl ?_ fun b48 c48 A48 o48 => ?_
                        · exact .tl
                        · trivial
                        refine VC.intro ?_ ?_
                        · exact keep_new
                        (have ht : tickOk w id = true := tickOk_iff.2 ⟨‹_›, ‹_›, ‹_›, by omega, by omega, by omega, by omega⟩; have te : tickEnd w id = false := (by unfold tickEnd; simp_all); obtain ⟨ew, em⟩ := tick_go2 (b := w.black) ht te (by omega) ‹¬ id = 1› (by simp_all); have oW := work_tick ‹gWork.ow _ w _› id; rw [em]; rw [ew] at oW ⊢; exact ⟨[_, _].flatten, ⟨_, _, _, _, _, rfl, .refl _, oW, by first | assumption | exact sl_nil _ _ _⟩, (.le fun a => by (try simp only [setR, List.cons_append, List.nil_append]); simp [List.count_cons, Blk.ent, idOf]; try omega)⟩)
                    ·
                      simp at q43
                      exfalso; omega

end Go.Proofs.YtohafcffenoegaaGreat
