/-
  Automata: the reference's look walked. slices.SortFunc over slices of plain elements, by the library's contract. Automata: the program's positions and the reference's look tell the same. Plain. Automata: the arcs in order, the ends; one automaton on both sides. Plain. The library's sort laid at arcs. Automata: arcs compared and sorted by the program. Automata of path expressions: how many steps a path has. Automata: the program makes one of a path. Automata: the program's NfaOf. Automata: the reference's NfaOf. Atoms that are right, the names of a query, on both sides. Queries that are right: the parts, on both sides. Queries that are right, on both sides. Conditions: none.
-/
import Derived.Test.YtcnclhjhnjpeiaaGreatDoorZs4

namespace Go.Proofs.YtcnclhjhnjpeiaaGreatDoor
open Go.SX Go.Proofs
set_option linter.unusedSimpArgs false
set_option linter.unusedVariables false
set_option maxHeartbeats 8000000
attribute [local irreducible] IntKind.wrap look lkK cntF sumK joinA
theorem one_lit {k : Int} {x : Nat} (h : okI k) : (gSl 3 gI).ow [.slice (some ⟨x, 0, none⟩) 1 1] [k] [(x, Obj.cells ⟨[.int .i64 k]⟩ 3)] :=
  ow_fl (Ow.lit (f := flInt) (T := 3) (b := x) (xs := [k]) (by simpa [flInt] using h) (by simp))
theorem look_step2 {ps : List Piece} {n i : Nat} {lb : List UInt8} {xs : List Arc} (h : (ps[i]?.getD default).op = 1) : look ps (n + 1) i (lb, xs) = ((lb ++ [(ps[i]?.getD default).label], xs), ⟨[(((lb ++ [(ps[i]?.getD default).label]).length : Nat) : Int)], [(((lb ++ [(ps[i]?.getD default).label]).length : Nat) : Int)], false⟩) := by
  rw [look_step h, List.length_append, List.length_singleton]
theorem bad_app {lb : List UInt8} {b : UInt8} {xs : List Arc} : badM (lb ++ [b], xs) = decide (24 ≤ lb.length + 1) := by unfold badM; rw [show (lb ++ [b], xs).1.length = lb.length + 1 from List.length_append]
theorem badM_mk (r : MkS) (x : List Arc) : badM (r.1, x) = badM r := rfl
theorem lkS_row {op : Int} {r st : MkS × Look} (hb : ¬ badM st.1 = true) (h : op = 2) : lkStep op (fun _ _ => r) st 0 = lkRow st r := by unfold lkStep; rw [if_neg hb, if_pos h]
theorem lkS_alt {op : Int} {r st : MkS × Look} (hb : ¬ badM st.1 = true) (h2 : ¬ op = 2) (h : op = 3) : lkStep op (fun _ _ => r) st 0 = lkAlt st r := by unfold lkStep; rw [if_neg hb, if_neg h2, if_pos h]
theorem lkS_one {op : Int} {r st : MkS × Look} (hb : ¬ badM st.1 = true) (h2 : ¬ op = 2) (h : ¬ op = 3) : lkStep op (fun _ _ => r) st 0 = lkOne op r := by unfold lkStep; rw [if_neg hb, if_neg h2, if_neg h]
theorem lk_next2 {ps : List Piece} {n : Nat} {op : Int} {s : MkS} {l : List Int} {j : Nat} {st r : MkS × Look} (hj : j < l.length) (hst : st = lkK ps n op s (l.take j)) (hr : look ps n (l[j]?.getD 0).toNat (st.1.1, st.1.2) = r) : lkStep op (fun _ _ => r) st 0 = lkK ps n op s (l.take (j + 1)) := by
  have hr2 : look ps n (l[j]?.getD 0).toNat st.1 = r := hr
  rw [lkK_next hj, ← hst]
  unfold lkStep
  rw [hr2]
theorem look_ct (ps : List Piece) (n : Nat) (hps : PsOk ps) (hlen : ps.length ≤ 60) (hI : LookCt ps n) : LookCt ps (n + 1) := by
  intro q ki i lb xs bp bl ba cp cl ca AL AX bd hki hi hin hbd hg hlb hL hX
  subst hki hbd
  refine CtR.introB G_ok [.p 0 0, .v (.int .i64 (i : Int))] [⟨q, [.slice bp ps.length cp, .slice bl lb.length cl, .slice ba xs.length ca, .bool false], 249⟩] [AL, AX] Tryz.func175 rfl rfl rfl rfl (by simp [SV.ok]) (by simp [Blk.ent]) fun E H hp => ?_
  have hpk := piece_iff.1 (hps i hi)
  have hbf : badM (lb, xs) = false := decide_eq_false (by show ¬ 24 ≤ lb.length; omega)
  refine VCnew.intro fun x0 => ?_
  refine idx_rd hp ?_ ?_ fun b1 o1 hb1 => ?_
  · omega
  · omega
  refine load_allN default (i) rfl hp ?_ ?_ hb1 rfl (mem_at 2 rfl) fun l2 hl2 => ?_
  · omega
  · omega
  obtain ⟨b2x2, c2x2, rfl, w0x2, h2x2⟩ := gPiece_rd.1 hl2
  refine VCnew.intro fun x3 => ?_
  refine VCnew.intro fun x4 => ?_
  refine VCsplit.intro (fun q5 => ?_) (fun q5 => ?_)
  ·
    simp at q5
    refine draw G_ok mixed (some 8) (.q 0 (.q 1 (.q 2 (.q 3 (.q 4 (.q 5 (.q 6 (.f 7 (.tl 8 (.f 9 (.f 10 (.f 11 (.nil))))))))))))) (by decide +kernel) ?_
    refine VCnew.intro fun x6 => ?_
    refine VC.intro ?_ ?_
    · exact keep_new
    refine gappend1 (g := gY) (T := (5 : TypeId)) G_ok AL [] [AX, H] ?_ hL ( gY_ow trivial) (List.mem_of_getElem? (i := 0) rfl) rfl rfl rfl rfl rfl rfl rfl rfl ?_ fun b7 c7 A7 o7 => ?_
    · exact .tl
    · omega
    refine VCsplit.intro (fun q8 => ?_) (fun q8 => ?_)
    ·
      simp at q8
      refine VCnew.intro fun x9 => ?_
      refine VCnew.intro fun x10 => ?_
      try dsimp only
      (have hll := @List.length_append _ lb [(ps[i]?.getD default).label]; rw [List.length_singleton] at hll; have hz : List.append ([] : List Value) (zeros 0 [Value.int .i64 0]) = [] := rfl; simp only [look_step2 ‹(ps[i]?.getD default).op = 1›, bad_app, hz]; exact ⟨_, ⟨_, _, _, _, _, _, _, _, _, _, _, _, rfl, by rw [decide_eq_true (by omega : 24 ≤ lb.length + 1)], by assumption, by assumption, one_lit (by unfold okI; omega), one_lit (by unfold okI; omega)⟩, (.le fun a => by (try simp only [setR, List.cons_append, List.nil_append]); simp [List.count_cons, Blk.ent, idOf]; try omega)⟩)
    ·
      simp at q8
      refine VCnew.intro fun x11 => ?_
      refine VCnew.intro fun x12 => ?_
      try dsimp only
      (have hll := @List.length_append _ lb [(ps[i]?.getD default).label]; rw [List.length_singleton] at hll; have hz : List.append ([] : List Value) (zeros 0 [Value.int .i64 0]) = [] := rfl; simp only [look_step2 ‹(ps[i]?.getD default).op = 1›, bad_app, hz]; exact ⟨_, ⟨_, _, _, _, _, _, _, _, _, _, _, _, rfl, by rw [decide_eq_false (by omega : ¬ 24 ≤ lb.length + 1)], by assumption, by assumption, one_lit (by unfold okI; omega), one_lit (by unfold okI; omega)⟩, (.le fun a => by (try simp only [setR, List.cons_append, List.nil_append]); simp [List.count_cons, Blk.ent, idOf]; try omega)⟩)
  ·
    simp at q5
    refine VCsplit.intro (fun q13 => ?_) (fun q13 => ?_)
    ·
      simp at q13
      apply loop_mod (α := (Nat) × (MkS × Look) × (Hp) × (Option Addr) × (Nat) × (Hp) × (Option Addr) × (Nat) × (Hp) × (Option Addr) × (Nat) × (Hp) × (Option Addr) × (Nat)) G_ok [52, 53, 54, 55, 56, 57, 58, 59, 60, 61, 62, 63, 66, 67, 68, 69, 70, 71, 72, 9, 73, 74, 94, 93, 95, 96, 97, 98, 99, 100, 101, 102, 103, 104, 105, 106, 107, 108, 109, 110, 111, 112, 113, 114, 115, 116, 117, 118, 119, 120, 121, 122, 123, 124, 125, 126, 127, 128, 130, 129, 131, 132, 133, 134, 135, 136, 137, 138, 139, 140, 141, 142, 143, 144, 145, 146, 147, 148, 149, 75, 76, 77, 78, 79, 80, 81, 82, 83, 84, 85, 86, 87, 88, 89, 90, 91, 92, 64, 65, 8] (fun z => [(8, .v (.int .i64 z.1))]) (fun z => [⟨q, [Value.slice bp ps.length cp, .slice z.2.2.2.1 z.2.1.1.1.length z.2.2.2.2.1, .slice z.2.2.2.2.2.2.1 z.2.1.1.2.length z.2.2.2.2.2.2.2.1, .bool (badM z.2.1.1)], (249 : TypeId)⟩, ⟨x0, [Value.slice none (0 : Nat) (0 : Nat), Value.slice none (0 : Nat) (0 : Nat), Value.bool false], (251 : Nat)⟩, ⟨x3, [Value.int IntKind.i64 (ps[i]?.getD default).op, Value.int IntKind.u8 (↑(ps[i]?.getD default).label.toNat : Int), Value.slice b2x2 (ps[i]?.getD default).kids.length c2x2], (279 : Nat)⟩, ⟨x4, [.slice z.2.2.2.2.2.2.2.2.2.1 z.2.1.2.first.length z.2.2.2.2.2.2.2.2.2.2.1, .slice z.2.2.2.2.2.2.2.2.2.2.2.2.1 z.2.1.2.last.length z.2.2.2.2.2.2.2.2.2.2.2.2.2, .bool z.2.1.2.null], (251 : Nat)⟩]) (fun z => [z.2.2.1, z.2.2.2.2.2.1, z.2.2.2.2.2.2.2.2.1, z.2.2.2.2.2.2.2.2.2.2.2.1, H]) (fun z => (ps[i]?.getD default).kids.length - z.1) (fun z => z.1 ≤ (ps[i]?.getD default).kids.length ∧ z.2.1 = (lkK ps n (ps[i]?.getD default).op (lb, xs) ((ps[i]?.getD default).kids.take z.1)) ∧ (gSl 5 gY).ow [.slice z.2.2.2.1 z.2.1.1.1.length z.2.2.2.2.1] z.2.1.1.1 z.2.2.1 ∧ (gSl 282 gArc).ow [.slice z.2.2.2.2.2.2.1 z.2.1.1.2.length z.2.2.2.2.2.2.2.1] z.2.1.1.2 z.2.2.2.2.2.1 ∧ (gSl 3 gI).ow [.slice z.2.2.2.2.2.2.2.2.2.1 z.2.1.2.first.length z.2.2.2.2.2.2.2.2.2.2.1] z.2.1.2.first z.2.2.2.2.2.2.2.2.1 ∧ (gSl 3 gI).ow [.slice z.2.2.2.2.2.2.2.2.2.2.2.2.1 z.2.1.2.last.length z.2.2.2.2.2.2.2.2.2.2.2.2.2] z.2.1.2.last z.2.2.2.2.2.2.2.2.2.2.2.1) ((0, ((lb, xs), ⟨[], [], decide ((ps[i]?.getD default).op = 2)⟩), AL, bl, cl, AX, ba, ca, [], none, 0, [], none, 0))
      · repeat' (first | exact trivial | refine ⟨⟨_, rfl, by first | rfl | exact inc_eq _ (by omega) | (refine sl_eq ?_; simp; done), by first | exact trivial | simp [SV.ok]⟩, ?_⟩)
      · (simp only [hbf, ‹(ps[i]?.getD default).op = 2›, decide_true, List.length_nil]; repeat' (first | exact trivial | refine ⟨by first | rfl | simp [Blk.ent], ?_⟩))
      · try dsimp only
        exact ⟨Nat.zero_le _, lkK_nil.symm, hL, hX, sl_nil _ _ _, sl_nil _ _ _⟩
      · exact .refl _
      rintro ⟨j, st, L, bl2, cl2, X, ba2, ca2, F, b1, c1, T, b2, c2⟩ hI
      obtain ⟨hj, hst, oL, oX, oF, oT⟩ : j ≤ (ps[i]?.getD default).kids.length ∧ st = (lkK ps n (ps[i]?.getD default).op (lb, xs) ((ps[i]?.getD default).kids.take j)) ∧ (gSl 5 gY).ow [.slice bl2 st.1.1.length cl2] st.1.1 L ∧ (gSl 282 gArc).ow [.slice ba2 st.1.2.length ca2] st.1.2 X ∧ (gSl 3 gI).ow [.slice b1 st.2.first.length c1] st.2.first F ∧ (gSl 3 gI).ow [.slice b2 st.2.last.length c2] st.2.last T := hI
      try dsimp only
      refine VCsplit.intro (fun q14 => ?_) (fun q14 => ?_)
      ·
        simp at q14
        refine VCsplit.intro (fun q15 => ?_) (fun q15 => ?_)
        ·
          simp at q15
          have hkl := (rd_len (xs := (ps[i]?.getD default).kids) (by assumption)).2
          have hkd := kid_rng hps hi ‹¬ (ps[i]?.getD default).op = 1› (by omega : j < (ps[i]?.getD default).kids.length)
          have hfine : LFine (lb, xs) (sumK (cntF ps n) ((ps[i]?.getD default).kids.take j)) st := (by rw [hst]; exact lkK_fine hps hi hin hg hlb ‹¬ (ps[i]?.getD default).op = 1› j (by omega))
          have hbd9 : ¬ badM st.1 = true := (by rw [‹badM st.1 = false›]; decide)
          have hnb := bad_not (s := st.1) hbd9
          have hV := look_fine ps n ((ps[i]?.getD default).kids[j]?.getD 0).toNat (st.1.1, st.1.2) hfine.1 hnb hps (by omega) (by omega)
          obtain ⟨hf1, hf2, hf3, hf4, hf5, hf6⟩ := hfine
          have rF := Gt.owrd _ oF
          have rT := Gt.owrd _ oT
          refine idx_rd h2x2 ?_ ?_ fun b16 o16 hb16 => ?_
          · omega
          · omega
          refine load_allN 0 (j) rfl h2x2 ?_ ?_ hb16 rfl (mem_at 4 rfl) fun l17 hl17 => ?_
          · omega
          · omega
          obtain ⟨rfl, hw17⟩ := hl17; simp only [flStr, flInt, okI] at hw17
          refine callR_blk 0 (L ++ X) [F, T, H] rfl ?_ (hI _ _ _ _ _ _ _ _ _ _ _ _ _ _ (Int.toNat_of_nonneg ?_).symm ?_ ?_ ?_ ?_ ?_ oL oX) (Rp.mono _ (mem_at 2 rfl) hp) ?_
          · exact .le fun a => by (try simp only [setR, List.cons_append, List.nil_append]); simp only [List.flatten_append, List.flatten_cons, List.flatten_nil, List.count_append, List.count_nil, List.append_nil, List.nil_append]; omega
          · omega
          · omega
          · omega
          · trivial
          · trivial
          · trivial
          rintro _ A18 ⟨bl1, cl1, ba1, ca1, AL1, AX1, b11, c11, A11, b21, c21, A21, rfl, rfl, oL1, oX1, oF1, oT1⟩
          generalize hr : look ps n ((ps[i]?.getD default).kids[j]?.getD 0).toNat (st.1.1, st.1.2) = r at *
          obtain ⟨hv1, hv2, hv3, hv4, hv5, hv6⟩ := hV
          have hnxR := lkS_row (op := (ps[i]?.getD default).op) (r := r) hbd9
          have hnxA := lkS_alt (op := (ps[i]?.getD default).op) (r := r) hbd9
          have hnxO := lkS_one (op := (ps[i]?.getD default).op) (r := r) hbd9
          have rL1 := Gt.owrd _ oL1
          have rF1 := Gt.owrd _ oF1
          have rT1 := Gt.owrd _ oT1
          refine ⟨_, _, [AL1, AX1, A11, A21], rfl, perm4, ?_⟩
          refine VCnew.intro fun x19 => ?_
          refine VCsplit.intro (fun q20 => ?_) (fun q20 => ?_)
          ·
            simp at q20
            refine callR_blk 0 (AX1) [AL1, A11, A21, F, T, H] rfl ?_ (mJoin_ct _ _ _ _ _ _ _ _ _ (r.fst.fst) (st.snd.last) (r.snd.first) _ _ _ _ oX1 ?_ ?_ ?_ ?_) ⟨(Rp.mono _ (mem_at 0 rfl) rL1), (Rp.mono _ (mem_at 4 rfl) rT), (Rp.mono _ (mem_at 1 rfl) rF1)⟩ ?_
            · exact .le fun a => by (try simp only [setR, List.cons_append, List.nil_append]); simp only [List.flatten_append, List.flatten_cons, List.flatten_nil, List.count_append, List.count_nil, List.append_nil, List.nil_append]; omega
            · exact hv1.1
            · exact (fun x hx => by have := hf4 x hx; have h9 : st.1.1.length = _ := hf2; have h8 : st.1.1.length ≤ 23 := hnb; omega)
            · trivial
            · omega
            rintro _ A21 ⟨bj21, cj21, Aj21, rfl, rfl, oj21⟩
            refine ⟨_, _, [Aj21], rfl, perm1, ?_⟩
            refine VCsplit.intro (fun q22 => ?_) (fun q22 => ?_)
            ·
              (have hRt : st.2.null = true := q22)
              refine append_allN (g := gI) (T := (3 : TypeId)) G_ok (by repeat (first | exact fl_plain | apply plain_iso | apply plain_pair)) F [Aj21, AL1, A11, A21, T, H] 2 ?_ oF rfl rF1 rfl rfl rfl rfl rfl rfl rfl rfl ?_ fun b23 c23 A23 o23 => ?_
              · exact .le fun a => by (try simp only [setR, List.cons_append, List.nil_append]); simp only [List.flatten_append, List.flatten_cons, List.flatten_nil, List.count_append, List.count_nil, List.append_nil, List.nil_append]; omega
              · omega
              refine VCsplit.intro (fun q24 => ?_) (fun q24 => ?_)
              ·
                (have hVt : r.2.null = true := q24)
                refine draw G_ok mixed (some 6) (.q 1 (.q 2 (.q 4 (.q 5 (.f 0 (.f 3 (.tl 6 (.f 7 (.f 8 (.nil)))))))))) (by decide +kernel) ?_
                refine VCnew.intro fun x25 => ?_
                refine VC.intro ?_ ?_
                · exact keep_new
                refine append_allN (g := gI) (T := (3 : TypeId)) G_ok (by repeat (first | exact fl_plain | apply plain_iso | apply plain_pair)) [] [[(x25, Obj.cells { toList := zeros (0 : Nat) [Value.int IntKind.i64 (0 : Int)] } (3 : TypeId))], A23, Aj21, AL1, A11, A21, T, H] 6 ?_ (sl_nil _ _ _) rfl rT rfl rfl rfl rfl rfl rfl rfl rfl ?_ fun b26 c26 A26 o26 => ?_
                · exact .refl _
                · simp; omega
                refine VC.intro ?_ ?_
                · exact keep_sub (by simp) (by simp)
                refine append_allN (g := gI) (T := (3 : TypeId)) G_ok (by repeat (first | exact fl_plain | apply plain_iso | apply plain_pair)) A26 [[(x25, Obj.cells { toList := zeros (0 : Nat) [Value.int IntKind.i64 (0 : Int)] } (3 : TypeId))], A23, Aj21, AL1, A11, A21, T, H] 5 ?_ o26 rfl rT1 rfl rfl rfl rfl rfl rfl rfl rfl ?_ fun b27 c27 A27 o27 => ?_
                · exact .refl _
                · simp; omega
                refine VCsplit.intro (fun q28 => ?_) (fun q28 => ?_)
                ·
                  (have hRt : st.2.null = true := q28)
                  apply loop_stepI (j + 1, lkStep (ps[i]?.getD default).op (fun _ _ => r) st 0, _, _, _, _, _, _, _, _, _, _, _, _)
                  · repeat' (first | exact trivial | refine ⟨⟨_, rfl, by first | rfl | exact inc_eq _ (by omega) | (refine sl_eq ?_; simp; done), by first | exact trivial | simp [SV.ok]⟩, ?_⟩)
                  · (simp only [hnxR ‹(ps[i]?.getD default).op = 2›, lkRow, hRt, hVt, badM_mk, Bool.false_eq_true, Bool.true_and, Bool.and_true, Bool.false_and, Bool.and_false, Bool.true_or, Bool.false_or, Bool.or_true, Bool.or_false, if_true, if_false, reduceIte, decide_true, decide_false, List.nil_append]; repeat' (first | exact trivial | refine ⟨by first | rfl | simp [Blk.ent], ?_⟩))
                  · try dsimp only
                    (refine ⟨by omega, lk_next2 (by omega) hst hr, ?_⟩; simp only [hnxR ‹(ps[i]?.getD default).op = 2›, lkRow, hRt, hVt, Bool.false_eq_true, Bool.true_and, Bool.and_true, Bool.false_and, Bool.and_false, Bool.true_or, Bool.false_or, Bool.or_true, Bool.or_false, if_true, if_false, reduceIte, decide_true, decide_false, List.nil_append]; exact ⟨oL1, by assumption, by assumption, by assumption⟩)
                  · exact .le fun a => by (try simp only [setR, List.cons_append, List.nil_append]); simp only [List.flatten_append, List.flatten_cons, List.flatten_nil, List.count_append, List.count_nil, List.append_nil, List.nil_append]; omega
                  try dsimp only
                  omega
                ·
                  exact absurd (‹st.2.null = true›.symm.trans q28) (by decide)
              ·
                (have hVf : r.2.null = false := q24)
                refine VCsplit.intro (fun q29 => ?_) (fun q29 => ?_)
                ·
                  (have hRt : st.2.null = true := q29)
                  apply loop_stepI (j + 1, lkStep (ps[i]?.getD default).op (fun _ _ => r) st 0, _, _, _, _, _, _, _, _, _, _, _, _)
                  · repeat' (first | exact trivial | refine ⟨⟨_, rfl, by first | rfl | exact inc_eq _ (by omega) | (refine sl_eq ?_; simp; done), by first | exact trivial | simp [SV.ok]⟩, ?_⟩)
                  · (simp only [hnxR ‹(ps[i]?.getD default).op = 2›, lkRow, hRt, hVf, badM_mk, Bool.false_eq_true, Bool.true_and, Bool.and_true, Bool.false_and, Bool.and_false, Bool.true_or, Bool.false_or, Bool.or_true, Bool.or_false, if_true, if_false, reduceIte, decide_true, decide_false, List.nil_append]; repeat' (first | exact trivial | refine ⟨by first | rfl | simp [Blk.ent], ?_⟩))
                  · try dsimp only
                    (refine ⟨by omega, lk_next2 (by omega) hst hr, ?_⟩; simp only [hnxR ‹(ps[i]?.getD default).op = 2›, lkRow, hRt, hVf, Bool.false_eq_true, Bool.true_and, Bool.and_true, Bool.false_and, Bool.and_false, Bool.true_or, Bool.false_or, Bool.or_true, Bool.or_false, if_true, if_false, reduceIte, decide_true, decide_false, List.nil_append]; exact ⟨oL1, by assumption, by assumption, oT1⟩)
                  · exact .le fun a => by (try simp only [setR, List.cons_append, List.nil_append]); simp only [List.flatten_append, List.flatten_cons, List.flatten_nil, List.count_append, List.count_nil, List.append_nil, List.nil_append]; omega
                  try dsimp only
                  omega
                ·
                  exact absurd (‹st.2.null = true›.symm.trans q29) (by decide)
            ·
              (have hRf : st.2.null = false := q22)
              refine VCsplit.intro (fun q30 => ?_) (fun q30 => ?_)
              ·
                (have hVt : r.2.null = true := q30)
                refine draw G_ok mixed (some 6) (.q 1 (.q 2 (.q 4 (.q 5 (.f 0 (.f 3 (.tl 6 (.f 7 (.f 8 (.nil)))))))))) (by decide +kernel) ?_
                refine VCnew.intro fun x31 => ?_
                refine VC.intro ?_ ?_
                · exact keep_new
                refine append_allN (g := gI) (T := (3 : TypeId)) G_ok (by repeat (first | exact fl_plain | apply plain_iso | apply plain_pair)) [] [[(x31, Obj.cells { toList := zeros (0 : Nat) [Value.int IntKind.i64 (0 : Int)] } (3 : TypeId))], Aj21, AL1, A11, A21, F, T, H] 6 ?_ (sl_nil _ _ _) rfl rT rfl rfl rfl rfl rfl rfl rfl rfl ?_ fun b32 c32 A32 o32 => ?_
                · exact .refl _
                · simp; omega
                refine VC.intro ?_ ?_
                · exact keep_sub (by simp) (by simp)
                refine append_allN (g := gI) (T := (3 : TypeId)) G_ok (by repeat (first | exact fl_plain | apply plain_iso | apply plain_pair)) A32 [[(x31, Obj.cells { toList := zeros (0 : Nat) [Value.int IntKind.i64 (0 : Int)] } (3 : TypeId))], Aj21, AL1, A11, A21, F, T, H] 4 ?_ o32 rfl rT1 rfl rfl rfl rfl rfl rfl rfl rfl ?_ fun b33 c33 A33 o33 => ?_
                · exact .refl _
                · simp; omega
                refine VCsplit.intro (fun q34 => ?_) (fun q34 => ?_)
                ·
                  exact absurd (‹st.2.null = false›.symm.trans q34) (by decide)
                ·
                  (have hRf : st.2.null = false := q34)
                  apply loop_stepI (j + 1, lkStep (ps[i]?.getD default).op (fun _ _ => r) st 0, _, _, _, _, _, _, _, _, _, _, _, _)
                  · repeat' (first | exact trivial | refine ⟨⟨_, rfl, by first | rfl | exact inc_eq _ (by omega) | (refine sl_eq ?_; simp; done), by first | exact trivial | simp [SV.ok]⟩, ?_⟩)
                  · (simp only [hnxR ‹(ps[i]?.getD default).op = 2›, lkRow, hRf, hVt, badM_mk, Bool.false_eq_true, Bool.true_and, Bool.and_true, Bool.false_and, Bool.and_false, Bool.true_or, Bool.false_or, Bool.or_true, Bool.or_false, if_true, if_false, reduceIte, decide_true, decide_false, List.nil_append]; repeat' (first | exact trivial | refine ⟨by first | rfl | simp [Blk.ent], ?_⟩))
                  · try dsimp only
                    (refine ⟨by omega, lk_next2 (by omega) hst hr, ?_⟩; simp only [hnxR ‹(ps[i]?.getD default).op = 2›, lkRow, hRf, hVt, Bool.false_eq_true, Bool.true_and, Bool.and_true, Bool.false_and, Bool.and_false, Bool.true_or, Bool.false_or, Bool.or_true, Bool.or_false, if_true, if_false, reduceIte, decide_true, decide_false, List.nil_append]; exact ⟨oL1, by assumption, oF, by assumption⟩)
                  · exact .le fun a => by (try simp only [setR, List.cons_append, List.nil_append]); simp only [List.flatten_append, List.flatten_cons, List.flatten_nil, List.count_append, List.count_nil, List.append_nil, List.nil_append]; omega
                  try dsimp only
                  omega
              ·
                (have hVf : r.2.null = false := q30)
                refine VCsplit.intro (fun q35 => ?_) (fun q35 => ?_)
                ·
                  exact absurd (‹st.2.null = false›.symm.trans q35) (by decide)
                ·
                  (have hRf : st.2.null = false := q35)
                  apply loop_stepI (j + 1, lkStep (ps[i]?.getD default).op (fun _ _ => r) st 0, _, _, _, _, _, _, _, _, _, _, _, _)
                  · repeat' (first | exact trivial | refine ⟨⟨_, rfl, by first | rfl | exact inc_eq _ (by omega) | (refine sl_eq ?_; simp; done), by first | exact trivial | simp [SV.ok]⟩, ?_⟩)
                  · (simp only [hnxR ‹(ps[i]?.getD default).op = 2›, lkRow, hRf, hVf, badM_mk, Bool.false_eq_true, Bool.true_and, Bool.and_true, Bool.false_and, Bool.and_false, Bool.true_or, Bool.false_or, Bool.or_true, Bool.or_false, if_true, if_false, reduceIte, decide_true, decide_false, List.nil_append]; repeat' (first | exact trivial | refine ⟨by first | rfl | simp [Blk.ent], ?_⟩))
                  · try dsimp only
                    (refine ⟨by omega, lk_next2 (by omega) hst hr, ?_⟩; simp only [hnxR ‹(ps[i]?.getD default).op = 2›, lkRow, hRf, hVf, Bool.false_eq_true, Bool.true_and, Bool.and_true, Bool.false_and, Bool.and_false, Bool.true_or, Bool.false_or, Bool.or_true, Bool.or_false, if_true, if_false, reduceIte, decide_true, decide_false, List.nil_append]; exact ⟨oL1, by assumption, oF, oT1⟩)
                  · exact .le fun a => by (try simp only [setR, List.cons_append, List.nil_append]); simp only [List.flatten_append, List.flatten_cons, List.flatten_nil, List.count_append, List.count_nil, List.append_nil, List.nil_append]; omega
                  try dsimp only
                  omega
          ·
            simp at q20
            exfalso; omega
        ·
          simp at q15
          (rw [look_kids ‹¬ (ps[i]?.getD default).op = 1›, lkK_bad (j := j) (by rw [← hst]; exact ‹badM st.1 = true›), ← hst]; exact ⟨_, ⟨_, _, _, _, _, _, _, _, _, _, _, _, rfl, rfl, oL, oX, oF, oT⟩, (.le fun a => by (try simp only [setR, List.cons_append, List.nil_append]); simp [List.count_cons, Blk.ent, idOf]; try omega)⟩)
      ·
        simp at q14
        (have hke : j = (ps[i]?.getD default).kids.length := (by omega); subst hke; rw [List.take_length] at hst; rw [look_kids ‹¬ (ps[i]?.getD default).op = 1›, ← hst]; exact ⟨_, ⟨_, _, _, _, _, _, _, _, _, _, _, _, rfl, rfl, oL, oX, oF, oT⟩, (.le fun a => by (try simp only [setR, List.cons_append, List.nil_append]); simp [List.count_cons, Blk.ent, idOf]; try omega)⟩)
    ·
      simp at q13
      apply loop_mod (α := (Nat) × (MkS × Look) × (Hp) × (Option Addr) × (Nat) × (Hp) × (Option Addr) × (Nat) × (Hp) × (Option Addr) × (Nat) × (Hp) × (Option Addr) × (Nat)) G_ok [52, 53, 54, 55, 56, 57, 58, 59, 60, 61, 62, 63, 66, 67, 68, 69, 70, 71, 72, 9, 73, 74, 94, 93, 95, 96, 97, 98, 99, 100, 101, 102, 103, 104, 105, 106, 107, 108, 109, 110, 111, 112, 113, 114, 115, 116, 117, 118, 119, 120, 121, 122, 123, 124, 125, 126, 127, 128, 130, 129, 131, 132, 133, 134, 135, 136, 137, 138, 139, 140, 141, 142, 143, 144, 145, 146, 147, 148, 149, 75, 76, 77, 78, 79, 80, 81, 82, 83, 84, 85, 86, 87, 88, 89, 90, 91, 92, 64, 65, 8] (fun z => [(8, .v (.int .i64 z.1))]) (fun z => [⟨q, [Value.slice bp ps.length cp, .slice z.2.2.2.1 z.2.1.1.1.length z.2.2.2.2.1, .slice z.2.2.2.2.2.2.1 z.2.1.1.2.length z.2.2.2.2.2.2.2.1, .bool (badM z.2.1.1)], (249 : TypeId)⟩, ⟨x0, [Value.slice none (0 : Nat) (0 : Nat), Value.slice none (0 : Nat) (0 : Nat), Value.bool false], (251 : Nat)⟩, ⟨x3, [Value.int IntKind.i64 (ps[i]?.getD default).op, Value.int IntKind.u8 (↑(ps[i]?.getD default).label.toNat : Int), Value.slice b2x2 (ps[i]?.getD default).kids.length c2x2], (279 : Nat)⟩, ⟨x4, [.slice z.2.2.2.2.2.2.2.2.2.1 z.2.1.2.first.length z.2.2.2.2.2.2.2.2.2.2.1, .slice z.2.2.2.2.2.2.2.2.2.2.2.2.1 z.2.1.2.last.length z.2.2.2.2.2.2.2.2.2.2.2.2.2, .bool z.2.1.2.null], (251 : Nat)⟩]) (fun z => [z.2.2.1, z.2.2.2.2.2.1, z.2.2.2.2.2.2.2.2.1, z.2.2.2.2.2.2.2.2.2.2.2.1, H]) (fun z => (ps[i]?.getD default).kids.length - z.1) (fun z => z.1 ≤ (ps[i]?.getD default).kids.length ∧ z.2.1 = (lkK ps n (ps[i]?.getD default).op (lb, xs) ((ps[i]?.getD default).kids.take z.1)) ∧ (gSl 5 gY).ow [.slice z.2.2.2.1 z.2.1.1.1.length z.2.2.2.2.1] z.2.1.1.1 z.2.2.1 ∧ (gSl 282 gArc).ow [.slice z.2.2.2.2.2.2.1 z.2.1.1.2.length z.2.2.2.2.2.2.2.1] z.2.1.1.2 z.2.2.2.2.2.1 ∧ (gSl 3 gI).ow [.slice z.2.2.2.2.2.2.2.2.2.1 z.2.1.2.first.length z.2.2.2.2.2.2.2.2.2.2.1] z.2.1.2.first z.2.2.2.2.2.2.2.2.1 ∧ (gSl 3 gI).ow [.slice z.2.2.2.2.2.2.2.2.2.2.2.2.1 z.2.1.2.last.length z.2.2.2.2.2.2.2.2.2.2.2.2.2] z.2.1.2.last z.2.2.2.2.2.2.2.2.2.2.2.1) ((0, ((lb, xs), ⟨[], [], decide ((ps[i]?.getD default).op = 2)⟩), AL, bl, cl, AX, ba, ca, [], none, 0, [], none, 0))
      · repeat' (first | exact trivial | refine ⟨⟨_, rfl, by first | rfl | exact inc_eq _ (by omega) | (refine sl_eq ?_; simp; done), by first | exact trivial | simp [SV.ok]⟩, ?_⟩)
      · (simp only [hbf, ‹¬ (ps[i]?.getD default).op = 2›, decide_false, List.length_nil]; repeat' (first | exact trivial | refine ⟨by first | rfl | simp [Blk.ent], ?_⟩))
      · try dsimp only
        exact ⟨Nat.zero_le _, lkK_nil.symm, hL, hX, sl_nil _ _ _, sl_nil _ _ _⟩
      · exact .refl _
      rintro ⟨j, st, L, bl2, cl2, X, ba2, ca2, F, b1, c1, T, b2, c2⟩ hI
      obtain ⟨hj, hst, oL, oX, oF, oT⟩ : j ≤ (ps[i]?.getD default).kids.length ∧ st = (lkK ps n (ps[i]?.getD default).op (lb, xs) ((ps[i]?.getD default).kids.take j)) ∧ (gSl 5 gY).ow [.slice bl2 st.1.1.length cl2] st.1.1 L ∧ (gSl 282 gArc).ow [.slice ba2 st.1.2.length ca2] st.1.2 X ∧ (gSl 3 gI).ow [.slice b1 st.2.first.length c1] st.2.first F ∧ (gSl 3 gI).ow [.slice b2 st.2.last.length c2] st.2.last T := hI
      try dsimp only
      refine VCsplit.intro (fun q36 => ?_) (fun q36 => ?_)
      ·
        simp at q36
        refine VCsplit.intro (fun q37 => ?_) (fun q37 => ?_)
        ·
          simp at q37
          have hkl := (rd_len (xs := (ps[i]?.getD default).kids) (by assumption)).2
          have hkd := kid_rng hps hi ‹¬ (ps[i]?.getD default).op = 1› (by omega : j < (ps[i]?.getD default).kids.length)
          have hfine : LFine (lb, xs) (sumK (cntF ps n) ((ps[i]?.getD default).kids.take j)) st := (by rw [hst]; exact lkK_fine hps hi hin hg hlb ‹¬ (ps[i]?.getD default).op = 1› j (by omega))
          have hbd9 : ¬ badM st.1 = true := (by rw [‹badM st.1 = false›]; decide)
          have hnb := bad_not (s := st.1) hbd9
          have hV := look_fine ps n ((ps[i]?.getD default).kids[j]?.getD 0).toNat (st.1.1, st.1.2) hfine.1 hnb hps (by omega) (by omega)
          obtain ⟨hf1, hf2, hf3, hf4, hf5, hf6⟩ := hfine
          have rF := Gt.owrd _ oF
          have rT := Gt.owrd _ oT
          refine idx_rd h2x2 ?_ ?_ fun b38 o38 hb38 => ?_
          · omega
          · omega
          refine load_allN 0 (j) rfl h2x2 ?_ ?_ hb38 rfl (mem_at 4 rfl) fun l39 hl39 => ?_
          · omega
          · omega
          obtain ⟨rfl, hw39⟩ := hl39; simp only [flStr, flInt, okI] at hw39
          refine callR_blk 0 (L ++ X) [F, T, H] rfl ?_ (hI _ _ _ _ _ _ _ _ _ _ _ _ _ _ (Int.toNat_of_nonneg ?_).symm ?_ ?_ ?_ ?_ ?_ oL oX) (Rp.mono _ (mem_at 2 rfl) hp) ?_
          · exact .le fun a => by (try simp only [setR, List.cons_append, List.nil_append]); simp only [List.flatten_append, List.flatten_cons, List.flatten_nil, List.count_append, List.count_nil, List.append_nil, List.nil_append]; omega
          · omega
          · omega
          · omega
          · trivial
          · trivial
          · trivial
          rintro _ A40 ⟨bl1, cl1, ba1, ca1, AL1, AX1, b11, c11, A11, b21, c21, A21, rfl, rfl, oL1, oX1, oF1, oT1⟩
          generalize hr : look ps n ((ps[i]?.getD default).kids[j]?.getD 0).toNat (st.1.1, st.1.2) = r at *
          obtain ⟨hv1, hv2, hv3, hv4, hv5, hv6⟩ := hV
          have hnxR := lkS_row (op := (ps[i]?.getD default).op) (r := r) hbd9
          have hnxA := lkS_alt (op := (ps[i]?.getD default).op) (r := r) hbd9
          have hnxO := lkS_one (op := (ps[i]?.getD default).op) (r := r) hbd9
          have rL1 := Gt.owrd _ oL1
          have rF1 := Gt.owrd _ oF1
          have rT1 := Gt.owrd _ oT1
          refine ⟨_, _, [AL1, AX1, A11, A21], rfl, perm4, ?_⟩
          refine VCnew.intro fun x41 => ?_
          refine VCsplit.intro (fun q42 => ?_) (fun q42 => ?_)
          ·
            simp at q42
            exfalso; omega
          ·
            simp at q42
            refine VCsplit.intro (fun q43 => ?_) (fun q43 => ?_)
            ·
              simp at q43
              refine append_allN (g := gI) (T := (3 : TypeId)) G_ok (by repeat (first | exact fl_plain | apply plain_iso | apply plain_pair)) F [AL1, AX1, A11, A21, T, H] 2 ?_ oF rfl rF1 rfl rfl rfl rfl rfl rfl rfl rfl ?_ fun b44 c44 A44 o44 => ?_
              · exact .le fun a => by (try simp only [setR, List.cons_append, List.nil_append]); simp only [List.flatten_append, List.flatten_cons, List.flatten_nil, List.count_append, List.count_nil, List.append_nil, List.nil_append]; omega
              · omega
              refine append_allN (g := gI) (T := (3 : TypeId)) G_ok (by repeat (first | exact fl_plain | apply plain_iso | apply plain_pair)) T [A44, AL1, AX1, A11, A21, H] 4 ?_ oT rfl rT1 rfl rfl rfl rfl rfl rfl rfl rfl ?_ fun b45 c45 A45 o45 => ?_
              · exact .le fun a => by (try simp only [setR, List.cons_append, List.nil_append]); simp only [List.flatten_append, List.flatten_cons, List.flatten_nil, List.count_append, List.count_nil, List.append_nil, List.nil_append]; omega
              · omega
              refine VCsplit.intro (fun q46 => ?_) (fun q46 => ?_)
              ·
                (have hRt : st.2.null = true := q46)
                apply loop_stepI (j + 1, lkStep (ps[i]?.getD default).op (fun _ _ => r) st 0, _, _, _, _, _, _, _, _, _, _, _, _)
                · repeat' (first | exact trivial | refine ⟨⟨_, rfl, by first | rfl | exact inc_eq _ (by omega) | (refine sl_eq ?_; simp; done), by first | exact trivial | simp [SV.ok]⟩, ?_⟩)
                · (simp only [hnxA ‹¬ (ps[i]?.getD default).op = 2› ‹(ps[i]?.getD default).op = 3›, lkAlt, hRt, Bool.false_eq_true, Bool.true_and, Bool.and_true, Bool.false_and, Bool.and_false, Bool.true_or, Bool.false_or, Bool.or_true, Bool.or_false, if_true, if_false, reduceIte, decide_true, decide_false, List.nil_append]; repeat' (first | exact trivial | refine ⟨by first | rfl | simp [Blk.ent], ?_⟩))
                · try dsimp only
                  (refine ⟨by omega, lk_next2 (by omega) hst hr, ?_⟩; simp only [hnxA ‹¬ (ps[i]?.getD default).op = 2› ‹(ps[i]?.getD default).op = 3›, lkAlt]; exact ⟨oL1, oX1, by assumption, by assumption⟩)
                · exact .le fun a => by (try simp only [setR, List.cons_append, List.nil_append]); simp only [List.flatten_append, List.flatten_cons, List.flatten_nil, List.count_append, List.count_nil, List.append_nil, List.nil_append]; omega
                try dsimp only
                omega
              ·
                (have hRf : st.2.null = false := q46)
                apply loop_stepI (j + 1, lkStep (ps[i]?.getD default).op (fun _ _ => r) st 0, _, _, _, _, _, _, _, _, _, _, _, _)
                · repeat' (first | exact trivial | refine ⟨⟨_, rfl, by first | rfl | exact inc_eq _ (by omega) | (refine sl_eq ?_; simp; done), by first | exact trivial | simp [SV.ok]⟩, ?_⟩)
                · (simp only [hnxA ‹¬ (ps[i]?.getD default).op = 2› ‹(ps[i]?.getD default).op = 3›, lkAlt, hRf, Bool.false_eq_true, Bool.true_and, Bool.and_true, Bool.false_and, Bool.and_false, Bool.true_or, Bool.false_or, Bool.or_true, Bool.or_false, if_true, if_false, reduceIte, decide_true, decide_false, List.nil_append]; repeat' (first | exact trivial | refine ⟨by first | rfl | simp [Blk.ent], ?_⟩))
                · try dsimp only
                  (refine ⟨by omega, lk_next2 (by omega) hst hr, ?_⟩; simp only [hnxA ‹¬ (ps[i]?.getD default).op = 2› ‹(ps[i]?.getD default).op = 3›, lkAlt]; exact ⟨oL1, oX1, by assumption, by assumption⟩)
                · exact .le fun a => by (try simp only [setR, List.cons_append, List.nil_append]); simp only [List.flatten_append, List.flatten_cons, List.flatten_nil, List.count_append, List.count_nil, List.append_nil, List.nil_append]; omega
                try dsimp only
                omega
            ·
              simp at q43
              refine VCsplit.intro (fun q47 => ?_) (fun q47 => ?_)
              ·
                simp at q47
                refine callR_blk 0 (AX1) [AL1, A11, A21, F, T, H] rfl ?_ (mJoin_ct _ _ _ _ _ _ _ _ _ (r.fst.fst) (r.snd.last) (r.snd.first) _ _ _ _ oX1 ?_ ?_ ?_ ?_) ⟨(Rp.mono _ (mem_at 0 rfl) rL1), (Rp.mono _ (mem_at 2 rfl) rT1), (Rp.mono _ (mem_at 1 rfl) rF1)⟩ ?_
                · exact .le fun a => by (try simp only [setR, List.cons_append, List.nil_append]); simp only [List.flatten_append, List.flatten_cons, List.flatten_nil, List.count_append, List.count_nil, List.append_nil, List.nil_append]; omega
                · exact hv1.1
                · exact (fun x hx => by have := hv4 x hx; have h9 : r.1.1.length = _ := hv2; omega)
                · trivial
                · omega
                rintro _ A48 ⟨bj48, cj48, Aj48, rfl, rfl, oj48⟩
                refine ⟨_, _, [Aj48], rfl, perm1, ?_⟩
                refine VCsplit.intro (fun q49 => ?_) (fun q49 => ?_)
                ·
                  (have hVt : r.2.null = true := q49)
                  apply loop_stepI (j + 1, lkStep (ps[i]?.getD default).op (fun _ _ => r) st 0, _, _, _, _, _, _, _, _, _, _, _, _)
                  · repeat' (first | exact trivial | refine ⟨⟨_, rfl, by first | rfl | exact inc_eq _ (by omega) | (refine sl_eq ?_; simp; done), by first | exact trivial | simp [SV.ok]⟩, ?_⟩)
                  · (simp only [hnxO ‹¬ (ps[i]?.getD default).op = 2› ‹¬ (ps[i]?.getD default).op = 3›, lkOne, if_neg ‹¬ (ps[i]?.getD default).op = 6›, hVt, badM_mk, Bool.false_eq_true, Bool.true_and, Bool.and_true, Bool.false_and, Bool.and_false, Bool.true_or, Bool.false_or, Bool.or_true, Bool.or_false, if_true, if_false, reduceIte, decide_true, decide_false, List.nil_append]; repeat' (first | exact trivial | refine ⟨by first | rfl | simp [Blk.ent], ?_⟩))
                  · try dsimp only
                    (refine ⟨by omega, lk_next2 (by omega) hst hr, ?_⟩; simp only [hnxO ‹¬ (ps[i]?.getD default).op = 2› ‹¬ (ps[i]?.getD default).op = 3›, lkOne, if_neg ‹¬ (ps[i]?.getD default).op = 6›]; exact ⟨oL1, by assumption, oF1, oT1⟩)
                  · exact .le fun a => by (try simp only [setR, List.cons_append, List.nil_append]); simp only [List.flatten_append, List.flatten_cons, List.flatten_nil, List.count_append, List.count_nil, List.append_nil, List.nil_append]; omega
                  try dsimp only
                  omega
                ·
                  (have hVf : r.2.null = false := q49)
                  apply loop_stepI (j + 1, lkStep (ps[i]?.getD default).op (fun _ _ => r) st 0, _, _, _, _, _, _, _, _, _, _, _, _)
                  · repeat' (first | exact trivial | refine ⟨⟨_, rfl, by first | rfl | exact inc_eq _ (by omega) | (refine sl_eq ?_; simp; done), by first | exact trivial | simp [SV.ok]⟩, ?_⟩)
                  · (simp only [hnxO ‹¬ (ps[i]?.getD default).op = 2› ‹¬ (ps[i]?.getD default).op = 3›, lkOne, if_neg ‹¬ (ps[i]?.getD default).op = 6›, hVf, badM_mk, Bool.false_eq_true, Bool.true_and, Bool.and_true, Bool.false_and, Bool.and_false, Bool.true_or, Bool.false_or, Bool.or_true, Bool.or_false, if_true, if_false, reduceIte, decide_true, decide_false, List.nil_append, ne_dec]; repeat' (first | exact trivial | refine ⟨by first | rfl | simp [Blk.ent], ?_⟩))
                  · try dsimp only
                    (refine ⟨by omega, lk_next2 (by omega) hst hr, ?_⟩; simp only [hnxO ‹¬ (ps[i]?.getD default).op = 2› ‹¬ (ps[i]?.getD default).op = 3›, lkOne, if_neg ‹¬ (ps[i]?.getD default).op = 6›]; exact ⟨oL1, by assumption, oF1, oT1⟩)
                  · exact .le fun a => by (try simp only [setR, List.cons_append, List.nil_append]); simp only [List.flatten_append, List.flatten_cons, List.flatten_nil, List.count_append, List.count_nil, List.append_nil, List.nil_append]; omega
                  try dsimp only
                  omega
              ·
                simp at q47
                refine VCsplit.intro (fun q50 => ?_) (fun q50 => ?_)
                ·
                  (have hVt : r.2.null = true := q50)
                  apply loop_stepI (j + 1, lkStep (ps[i]?.getD default).op (fun _ _ => r) st 0, _, _, _, _, _, _, _, _, _, _, _, _)
                  · repeat' (first | exact trivial | refine ⟨⟨_, rfl, by first | rfl | exact inc_eq _ (by omega) | (refine sl_eq ?_; simp; done), by first | exact trivial | simp [SV.ok]⟩, ?_⟩)
                  · (simp only [hnxO ‹¬ (ps[i]?.getD default).op = 2› ‹¬ (ps[i]?.getD default).op = 3›, lkOne, if_pos ‹(ps[i]?.getD default).op = 6›, hVt, badM_mk, Bool.false_eq_true, Bool.true_and, Bool.and_true, Bool.false_and, Bool.and_false, Bool.true_or, Bool.false_or, Bool.or_true, Bool.or_false, if_true, if_false, reduceIte, decide_true, decide_false, List.nil_append]; repeat' (first | exact trivial | refine ⟨by first | rfl | simp [Blk.ent], ?_⟩))
                  · try dsimp only
                    (refine ⟨by omega, lk_next2 (by omega) hst hr, ?_⟩; simp only [hnxO ‹¬ (ps[i]?.getD default).op = 2› ‹¬ (ps[i]?.getD default).op = 3›, lkOne, if_pos ‹(ps[i]?.getD default).op = 6›]; exact ⟨oL1, oX1, oF1, oT1⟩)
                  · exact .le fun a => by (try simp only [setR, List.cons_append, List.nil_append]); simp only [List.flatten_append, List.flatten_cons, List.flatten_nil, List.count_append, List.count_nil, List.append_nil, List.nil_append]; omega
                  try dsimp only
                  omega
                ·
                  (have hVf : r.2.null = false := q50)
                  apply loop_stepI (j + 1, lkStep (ps[i]?.getD default).op (fun _ _ => r) st 0, _, _, _, _, _, _, _, _, _, _, _, _)
                  · repeat' (first | exact trivial | refine ⟨⟨_, rfl, by first | rfl | exact inc_eq _ (by omega) | (refine sl_eq ?_; simp; done), by first | exact trivial | simp [SV.ok]⟩, ?_⟩)
                  · (simp only [hnxO ‹¬ (ps[i]?.getD default).op = 2› ‹¬ (ps[i]?.getD default).op = 3›, lkOne, if_pos ‹(ps[i]?.getD default).op = 6›, hVf, badM_mk, Bool.false_eq_true, Bool.true_and, Bool.and_true, Bool.false_and, Bool.and_false, Bool.true_or, Bool.false_or, Bool.or_true, Bool.or_false, if_true, if_false, reduceIte, decide_true, decide_false, List.nil_append, ne_dec]; repeat' (first | exact trivial | refine ⟨by first | rfl | simp [Blk.ent], ?_⟩))
                  · try dsimp only
                    (refine ⟨by omega, lk_next2 (by omega) hst hr, ?_⟩; simp only [hnxO ‹¬ (ps[i]?.getD default).op = 2› ‹¬ (ps[i]?.getD default).op = 3›, lkOne, if_pos ‹(ps[i]?.getD default).op = 6›]; exact ⟨oL1, oX1, oF1, oT1⟩)
                  · exact .le fun a => by (try simp only [setR, List.cons_append, List.nil_append]); simp only [List.flatten_append, List.flatten_cons, List.flatten_nil, List.count_append, List.count_nil, List.append_nil, List.nil_append]; omega
                  try dsimp only
                  omega
        ·
          simp at q37
          (rw [look_kids ‹¬ (ps[i]?.getD default).op = 1›, lkK_bad (j := j) (by rw [← hst]; exact ‹badM st.1 = true›), ← hst]; exact ⟨_, ⟨_, _, _, _, _, _, _, _, _, _, _, _, rfl, rfl, oL, oX, oF, oT⟩, (.le fun a => by (try simp only [setR, List.cons_append, List.nil_append]); simp [List.count_cons, Blk.ent, idOf]; try omega)⟩)
      ·
        simp at q36
        (have hke : j = (ps[i]?.getD default).kids.length := (by omega); subst hke; rw [List.take_length] at hst; rw [look_kids ‹¬ (ps[i]?.getD default).op = 1›, ← hst]; exact ⟨_, ⟨_, _, _, _, _, _, _, _, _, _, _, _, rfl, rfl, oL, oX, oF, oT⟩, (.le fun a => by (try simp only [setR, List.cons_append, List.nil_append]); simp [List.count_cons, Blk.ent, idOf]; try omega)⟩)
end Go.Proofs.YtcnclhjhnjpeiaaGreatDoor

namespace Go.SX
open Go.Proofs Go.Sort Go.Shelf
theorem world_eq {a b : World} (h1 : a.heap = b.heap) (h2 : a.tape = b.tape) (h3 : a.drawn = b.drawn) (h4 : a.os = b.os) (h5 : a.output = b.output) : a = b := by
  cases a; cases b; simp only at h1 h2 h3 h4 h5; subst h1 h2 h3 h4 h5; rfl
theorem grown_of_sat {W w' : World} {A : Hp} (h : Sat W (A ++ allOf W) w') : ∃ q os', w' = Sort.grow (W.drewN q) os' := by
  have hb := below_of_sat h
  refine ⟨w'.drawn - W.drawn, w'.heap.extract W.heap.size w'.heap.size, world_eq ?_ hb.tape ?_ hb.os hb.output⟩
  · show w'.heap = W.heap ++ w'.heap.extract W.heap.size w'.heap.size
    apply Array.ext_getElem?
    intro i
    rw [Array.getElem?_append]
    split
    · rename_i hi; rw [hb.block i hi]
    rename_i hi
    have h2 := hb.size
    rw [Array.getElem?_extract]
    split
    · congr 1; omega
    rename_i h3
    rw [Array.getElem?_eq_none (by omega)]
  show w'.drawn = W.drawn + (w'.drawn - W.drawn)
  have := h.dr; omega
theorem Sat.grow {E : World} {H : Hp} {w : World} (h : Sat E H w) (os : Array Obj) : Sat E H (Sort.grow w os) :=
  ⟨h.os, h.out, h.tape, fun b o hm => by
    show (w.heap ++ os)[b]? = some o
    rw [Array.getElem?_append_left (h.lt hm)]; exact h.mem b o hm, h.nodup, h.dr⟩
theorem Sat.ahead {E : World} {H : Hp} {w : World} (h : Sat E H w) (n : Nat) : Sat E H (Sort.ahead w n) :=
  ⟨h.os, h.out, h.tape, h.mem, h.nodup, Nat.le_trans h.dr (Nat.le_add_right _ _)⟩
theorem putCells_all (F0 sp : List Value) (F : Array Value) (hl : F0.length = F.size) : putCells id 0 F (⟨F0 ++ sp⟩ : Array Value) = ⟨F.toList ++ sp⟩ := by
  apply Array.ext_getElem?
  intro i
  unfold putCells
  rw [Array.getElem?_mapIdx]
  simp only [List.getElem?_toArray, Nat.zero_add, Nat.zero_le, true_and, Nat.sub_zero, id]
  by_cases hi : i < F.size
  · rw [List.getElem?_append_left (by omega), List.getElem?_append_left (by simpa using hi), List.getElem?_eq_getElem (by omega : i < F0.length)]
    simp [hi]
  rw [List.getElem?_append_right (by omega), List.getElem?_append_right (by simpa using hi)]
  simp [hi, hl]
theorem Sat.putRow {E : World} {B : Hp} {w : World} {b : Nat} {T : TypeId} {F0 sp : List Value} (F : Array Value) (h : Sat E ((b, Obj.cells ⟨F0 ++ sp⟩ T) :: B) w) (hl : F0.length = F.size) : Sat E ((b, Obj.cells ⟨F.toList ++ sp⟩ T) :: B) (Sort.putRow id w b 0 F) := by
  refine Sat.upd (A := []) (o' := Obj.cells ⟨F.toList ++ sp⟩ T) h rfl rfl rfl ?_ ?_
  · have h2 := h.mem b _ (List.mem_cons_self ..)
    show (w.heap.modify b (onCells (putCells id 0 F)))[b]? = _
    rw [Array.getElem?_modify, if_pos rfl, h2]
    simp only [Option.map_some, onCells, putCells_all F0 sp F hl]
  intro i hi
  show (w.heap.modify b _)[i]? = _
  rw [Array.getElem?_modify, if_neg (Ne.symm hi)]
theorem holds_row {E : World} {B : Hp} {w : World} {b : Nat} {T : TypeId} {sp : List Value} {F : Array Value} (h : Sat E ((b, Obj.cells ⟨F.toList ++ sp⟩ T) :: B) w) : Sort.Holds id w b 0 F := by
  intro j hj
  have h2 := h.mem b _ (List.mem_cons_self ..)
  refine ⟨?_, ?_⟩
  · rw [Nat.zero_add, h.cell (List.mem_cons_self ..)]
    simp only [List.getElem?_toArray, id]
    rw [List.getElem?_append_left (by simpa using hj)]
    simp [hj]
  simp [World.frozen?, h2]
theorem flatK_list {α : Type} [Inhabited α] (f : Fl α) (d : Array α) : (flatK f.enc f.size d).toList = d.toList.flatMap f.enc := by
  apply List.ext_getElem?
  intro t
  have hl := flat_length f d.toList
  by_cases ht : t < d.size * f.size
  · have hp := f.pos
    have hq : t / f.size < d.size := (Nat.div_lt_iff_lt_mul hp).2 ht
    have hm : t % f.size < f.size := Nat.mod_lt _ hp
    have h1 := flat_get f d.toList (t / f.size) (t % f.size) (by simpa using hq) hm
    rw [Nat.mul_comm (t / f.size), Nat.div_add_mod] at h1
    rw [h1]
    have h2 := get_flatK f.enc f.size d t ht
    have h3 : t < (flatK f.enc f.size d).size := by rw [size_flatK]; exact ht
    rw [getElem!_pos _ t h3] at h2
    rw [Array.getElem?_toList, Array.getElem?_eq_getElem h3, h2, getElem!_pos d _ hq]
    rw [List.getElem?_eq_getElem (by rw [f.len]; exact hm), getElem!_pos _ _ (by rw [f.len]; exact hm)]
    rfl
  rw [List.getElem?_eq_none (by simpa using (by omega : d.size * f.size ≤ t)), List.getElem?_eq_none (by rw [hl]; simpa using (by omega : d.size * f.size ≤ t))]
theorem one_all : ∀ {l : List Value}, allOne l = true → ∀ v ∈ l, v.oneCell' = true
  | [], _, _, h => by cases h
  | x :: r, h, v, hv => by
    have h1 : x.oneCell' = true ∧ allOne r = true := by
      cases x <;> simp_all [allOne, Value.oneCell']
    rcases List.mem_cons.1 hv with rfl | hv
    · exact h1.1
    exact one_all h1.2 v hv
section
variable {P : Program} {ρ : Ren} {α : Type}
def flSub (f : Fl α) : Fl { x : α // f.wf x } := ⟨f.size, fun x => f.enc x.1, fun _ => True, fun x => f.len x.1, fun x => f.one x.1, f.pos⟩
theorem sub_flat (f : Fl α) : ∀ l : List { x : α // f.wf x }, l.flatMap (flSub f).enc = (l.map (·.1)).flatMap f.enc
  | [] => rfl
  | x :: r => by simp only [List.flatMap_cons, List.map_cons, sub_flat f r]; rfl
theorem bears_fn {g : FuncId} {B : Func} (h : Bears P g B) (hb : B.body.isSome = true) : ∃ fn, P.funcs[g]? = some fn ∧ fn.name ≠ "runtime.NumGoroutine" ∧ fn.body.isSome = true := by
  obtain ⟨nm, h1, h2⟩ := h
  exact ⟨_, h2, by simpa using h1, hb⟩
/-- slices.SortFunc at elements of several cells -/
theorem sortK_ct [Inhabited α] (L : SlLaysF0.n6 P ρ) (f : Fl α) (hwd : f.wf default) (aE : ∀ w, (isAgg (ρ.t 24)).run P w = .ok true w) (zE : ∀ w, (Go.sizeOf (ρ.t 24)).run P w = .ok f.size w)
    (cf : α → α → Int) (hO : SWO (ltOf cf)) (g : Nat) (eg : ∀ args w, (callFunc g args).run P w = .ok (.enter g args) w) (T : TypeId)
    (hc : ∀ x y, f.wf x → f.wf y → Ct P g [.agg ⟨f.enc x⟩, .agg ⟨f.enc y⟩] [] (fun _ => True) (fun v A => v = .int .i64 (cf x y) ∧ A = []))
    {base : Option Addr} {n cap : Nat} {xs : List α} {A0 : Hp} (ho : Ow f T (.slice base n cap) xs A0) (hn : xs.length < 4611686018427387904) :
    CtR P (ρ.f 6) [.slice base n cap, .func (.func g) #[] #[]] A0 (fun _ => True) (fun v A => v = .tuple #[] ∧ ∃ xs', xs'.Perm xs ∧ xs'.Pairwise (fun a b => ltOf cf b a = false) ∧ Ow f T (.slice base xs'.length cap) xs' A) := by
  refine ⟨bears_fn L.f6 rfl, fun E H w hs _ => ?_⟩
  obtain ⟨hw, hl, base0, cap0, e, h3⟩ := ho
  cases e
  rcases h3 with ⟨rfl, rfl, rfl⟩ | ⟨b, sp, rfl, rfl, h4, h5⟩
  · refine (AnyF.slices_SortFunc_none L base 0 _ w).mono ?_
    rintro e w' ⟨rfl, rfl⟩
    exact ⟨_, [], rfl, ⟨rfl, [], .refl _, .nil, Ow.nil T base⟩, hs⟩
  letI : Inhabited { x : α // f.wf x } := ⟨⟨default, hwd⟩⟩
  let ys : List { x : α // f.wf x } := xs.pmap Subtype.mk hw
  have hys : ys.map (·.1) = xs := by simp [ys, List.map_pmap]
  have hfl : (flatK (flSub f).enc (flSub f).size ys.toArray).toList = xs.flatMap f.enc := by
    rw [flatK_list (flSub f) ys.toArray, sub_flat, hys]
  have hsz : ys.toArray.size = xs.length := by simp [ys]
  have hs1 : Sat E ((b, Obj.cells ⟨(flatK (flSub f).enc (flSub f).size ys.toArray).toList ++ sp⟩ T) :: H) w := by rw [hfl]; exact hs
  have hHolds : HoldsK (flSub f).enc (flSub f).size w b 0 ys.toArray := holds_row hs1
  have hcmp : CmpLays P g #[] (flSub f).enc (flSub f).size (fun x y => cf x.1 y.1) b 0 ys.toArray.size w := by
    intro m os dk _ x y
    have h6 := (hc x.1 y.1 x.2 y.2).2 _ (allOf (sortWorldK (flSub f).enc (flSub f).size w b 0 m dk os)) _ (sat_allOf _) trivial
    refine Calls.mono h6 ?_
    rintro e w' ⟨v, A, rfl, ⟨rfl, rfl⟩, h7⟩
    exact ⟨rfl, grown_of_sat h7⟩
  have hmain := AnyQ.slices_SortFunc L (flSub f).size aE zE (flSub f).enc (fun x => f.len x.1) (fun x => one_all (f.one x.1)) (fun x y => cf x.1 y.1)
    ⟨fun x => hO.irrefl x.1, fun x y z => hO.trans x.1 y.1 z.1, fun x y z => hO.ntrans x.1 y.1 z.1⟩ g #[] b 0 cap ys.toArray w eg hcmp hHolds (hs.lt (List.mem_cons_self ..)) (by rw [hsz]; exact hn)
  rw [hsz] at hmain
  refine Calls.mono hmain ?_
  rintro e w' ⟨rfl, d', m, os, hp, hso, rfl⟩
  have hds : d'.size = xs.length := by rw [hp.1, hsz]
  have hperm : d'.toList.Perm ys := by
    have h8 := hp.2.2
    have e1 : d'.extract 0 xs.length = d' := by rw [← hds]; simp
    have e2 : ys.toArray.extract 0 xs.length = ys.toArray := by rw [← hsz]; simp
    rw [e1, e2] at h8; exact h8
  have hperm2 : (d'.toList.map (·.1)).Perm xs := by rw [← hys]; exact hperm.map _
  have hlen : (d'.toList.map (·.1)).length = xs.length := hperm2.length_eq
  refine ⟨_, [(b, Obj.cells ⟨(d'.toList.map (·.1)).flatMap f.enc ++ sp⟩ T)], rfl, ⟨rfl, d'.toList.map (·.1), hperm2, ?_, fun x hx => hw x (hperm2.mem_iff.1 hx), by omega, _, _, rfl, .inr ⟨b, sp, rfl, rfl, by omega, by rw [hlen]; exact h5⟩⟩, ?_⟩
  · rw [List.pairwise_map, List.pairwise_iff_getElem]
    intro i j hi hj hij
    have h9 := hso i j (Nat.zero_le _) hij (by simpa [hds] using hj)
    rw [getElem!_pos d' j (by simpa using hj), getElem!_pos d' i (by simpa using hi)] at h9
    exact h9
  have h10 : Sat E ((b, Obj.cells ⟨(flatK (flSub f).enc (flSub f).size d').toList ++ sp⟩ T) :: H) (sortWorldK (flSub f).enc (flSub f).size w b 0 m d' os) :=
    (Sat.putRow (F0 := xs.flatMap f.enc) _ (hs.ahead m) (by rw [flat_length, size_flatK, hds]; rfl)).grow os
  rw [flatK_list (flSub f) d', sub_flat] at h10
  exact h10
end
end Go.SX

namespace Go.Proofs.YtcnclhjhnjpeiaaGreatDoor
open Go.SX Go.Proofs
set_option maxHeartbeats 1000000
theorem arc_ext {a b : Arc} (h1 : a.from' = b.from') (h2 : a.label = b.label) (h3 : a.to = b.to) : a = b := by
  cases a; cases b; simp only at h1 h2 h3; subst h1 h2 h3; rfl
theorem less_total {a b : Arc} (h : a ≠ b) : arcLess a b = true ∨ arcLess b a = true := by
  by_cases h1 : a.from' = b.from'
  · by_cases h2 : a.label = b.label
    · rw [arcLess_to h1 h2, arcLess_to h1.symm h2.symm, decide_eq_true_iff, decide_eq_true_iff]
      have h3 : a.to ≠ b.to := fun h3 => h (arc_ext h1 h2 h3)
      omega
    rw [arcLess_label h1 h2, arcLess_label h1.symm (fun e => h2 e.symm), decide_eq_true_iff, decide_eq_true_iff]
    have h3 : a.label.toNat ≠ b.label.toNat := fun e => h2 (UInt8.toNat_inj.1 e)
    omega
  rw [arcLess_from h1, arcLess_from (fun e => h1 e.symm), decide_eq_true_iff, decide_eq_true_iff]; omega
theorem mem_putA {xs : List Arc} {x y : Arc} : y ∈ putA xs x ↔ y = x ∨ y ∈ xs := by
  unfold putA
  simp only [List.mem_append, List.mem_filter, List.mem_singleton]
  constructor
  · rintro (h | h | h)
    · exact .inr h.1
    · exact .inl h
    exact .inr h.1
  intro h
  by_cases e : y = x
  · exact .inr (.inl e)
  rcases h with h | h
  · exact absurd h e
  rcases less_total e with h2 | h2
  · exact .inl ⟨h, h2⟩
  exact .inr (.inr ⟨h, h2⟩)
theorem mem_joinT {lb : List UInt8} {f : Int} {y : Arc} : ∀ {to : List Int} {xs : List Arc}, y ∈ joinT lb f to xs ↔ y ∈ xs ∨ ∃ t ∈ to, y = arcOf lb f t
  | [], xs => by show y ∈ xs ↔ _; simp
  | t :: to, xs => by
    show y ∈ joinT lb f to (putA xs (arcOf lb f t)) ↔ _
    rw [mem_joinT, mem_putA]
    constructor
    · rintro ((h | h) | ⟨t', h1, h2⟩)
      · exact .inr ⟨t, List.mem_cons_self .., h⟩
      · exact .inl h
      exact .inr ⟨t', List.mem_cons_of_mem _ h1, h2⟩
    rintro (h | ⟨t', h1, h2⟩)
    · exact .inl (.inr h)
    rcases List.mem_cons.1 h1 with rfl | h1
    · exact .inl (.inl h2)
    exact .inr ⟨t', h1, h2⟩
theorem mem_joinA {lb : List UInt8} {to : List Int} {y : Arc} : ∀ {fr : List Int} {xs : List Arc}, y ∈ joinA lb fr to xs ↔ y ∈ xs ∨ ∃ f ∈ fr, ∃ t ∈ to, y = arcOf lb f t
  | [], xs => by show y ∈ xs ↔ _; simp
  | f :: fr, xs => by
    show y ∈ joinA lb fr to (joinT lb f to xs) ↔ _
    rw [mem_joinA, mem_joinT]
    constructor
    · rintro ((h | ⟨t, h1, h2⟩) | ⟨f', h1, h2⟩)
      · exact .inl h
      · exact .inr ⟨f, List.mem_cons_self .., t, h1, h2⟩
      exact .inr ⟨f', List.mem_cons_of_mem _ h1, h2⟩
    rintro (h | ⟨f', h1, h2⟩)
    · exact .inl (.inl h)
    rcases List.mem_cons.1 h1 with rfl | h1
    · exact .inl (.inr h2)
    exact .inr ⟨f', h1, h2⟩
theorem orL_bit {next i j : Nat} : ∀ (l : List Int) (fo : List Nat), i < fo.length → (∀ x ∈ l, 0 ≤ x) → ((orL fo l next)[i]?.getD 0).testBit j = ((fo[i]?.getD 0).testBit j || (decide ((i : Int) ∈ l) && next.testBit j))
  | [], fo, _, _ => by show (fo[i]?.getD 0).testBit j = _; simp
  | k :: l, fo, hi, hp => by
    show ((orL (orStep next fo k) l next)[i]?.getD 0).testBit j = _
    have hk := hp k (List.mem_cons_self ..)
    rw [orL_bit l _ (by unfold orStep; rw [List.length_set]; exact hi) (fun x hx => hp x (List.mem_cons_of_mem _ hx))]
    unfold orStep
    by_cases e : k.toNat = i
    · have e2 : (i : Int) = k := by omega
      rw [e, List.getElem?_set_self hi]
      simp only [Option.getD_some, Nat.testBit_or, e2, List.mem_cons, true_or, decide_true, Bool.true_and]
      cases (fo[i]?.getD 0).testBit j <;> cases next.testBit j <;> simp
    have e2 : ¬ (i : Int) = k := by omega
    rw [List.getElem?_set_ne e]
    simp [e2]
theorem mem_bitsL {s n i : Nat} : ((i : Int) ∈ bitsL s n) ↔ i < n ∧ s.testBit i = true := by
  constructor
  · intro h; have := bitsL_at h; exact ⟨by omega, by simpa using this.2.2⟩
  rintro ⟨h1, h2⟩
  unfold bitsL
  exact List.mem_map.2 ⟨i, List.mem_filter.2 ⟨List.mem_range.2 h1, h2⟩, rfl⟩
theorem orAt_bit {fo : List Nat} {last next i j : Nat} (hi : i < fo.length) (h32 : i < 32) : ((orAt fo last next)[i]?.getD 0).testBit j = ((fo[i]?.getD 0).testBit j || (last.testBit i && next.testBit j)) := by
  unfold orAt
  rw [orL_bit _ _ hi (fun x hx => (bitsL_at hx).1)]
  congr 2
  rw [Bool.eq_iff_iff, decide_eq_true_iff, mem_bitsL]
  exact ⟨fun h => h.2, fun h => ⟨h32, h⟩⟩
/-- the bits of m, counted from one, are what stands in l -/
def memS (m : Nat) (l : List Int) : Prop := (∀ x ∈ l, 1 ≤ x) ∧ ∀ k : Nat, m.testBit k = true ↔ ((k : Int) + 1) ∈ l
theorem memS_at {m : Nat} {l : List Int} (h : memS m l) {x : Int} (hx : x ∈ l) : ∃ k : Nat, x = (k : Int) + 1 ∧ m.testBit k = true := by
  have h1 := h.1 x hx
  refine ⟨(x - 1).toNat, by omega, (h.2 _).2 ?_⟩
  rwa [show (((x - 1).toNat : Nat) : Int) + 1 = x by omega]
theorem memS_zero : memS 0 [] := ⟨fun _ h => (by cases h), fun k => by simp⟩
theorem memS_or {a b : Nat} {l r : List Int} (h : memS a l) (h2 : memS b r) : memS (a ||| b) (l ++ r) := by
  refine ⟨fun x hx => (List.mem_append.1 hx).elim (h.1 x) (h2.1 x), fun k => ?_⟩
  rw [Nat.testBit_or, Bool.or_eq_true, List.mem_append, h.2, h2.2]
theorem memS_one (n : Nat) : memS (2 ^ n) [((n + 1 : Nat) : Int)] := by
  refine ⟨fun x hx => by rw [List.mem_singleton.1 hx]; omega, fun k => ?_⟩
  rw [Nat.testBit_two_pow, decide_eq_true_iff, List.mem_singleton]; omega
def relS (p : Pos) (s : MkS) : Prop := p.1 = s.1 ∧ ∀ x : Arc, x ∈ s.2 ↔ ∃ i j : Nat, i < p.2.length ∧ (p.2[i]?.getD 0).testBit j = true ∧ x = ⟨(i : Int) + 1, p.1[j]?.getD default, (j : Int) + 1⟩
def relR (r : Pos × Span) (q : MkS × Look) : Prop := relS r.1 q.1 ∧ memS r.2.first q.2.first ∧ memS r.2.last q.2.last ∧ r.2.empty = q.2.null
theorem arcOf_nat (lb : List UInt8) (f : Int) (j : Nat) : arcOf lb f ((j : Int) + 1) = ⟨f, lb[j]?.getD default, (j : Int) + 1⟩ := by
  unfold arcOf
  rw [show ((j : Int) + 1 - 1).toNat = j by omega]
theorem rel_join {lb : List UInt8} {fo : List Nat} {xs : List Arc} {last first : Nat} {L F : List Int} (h : relS (lb, fo) (lb, xs)) (hl : memS last L) (hf : memS first F) (hb : last < 2 ^ fo.length) (h32 : fo.length ≤ 32) :
    relS (lb, orAt fo last first) (lb, joinA lb L F xs) := by
  refine ⟨rfl, fun x => ?_⟩
  show x ∈ joinA lb L F xs ↔ _
  rw [mem_joinA, h.2 x]
  have hlen : (orAt fo last first).length = fo.length := orL_len _ _ _
  constructor
  · rintro (⟨i, j, h1, h2, h3⟩ | ⟨f, h1, t, h2, h3⟩)
    · refine ⟨i, j, by show i < (orAt fo last first).length; rw [hlen]; exact h1, ?_, h3⟩
      rw [orAt_bit h1 (Nat.lt_of_lt_of_le h1 h32), show (fo[i]?.getD 0).testBit j = true from h2]; rfl
    obtain ⟨i, rfl, h4⟩ := memS_at hl h1
    obtain ⟨j, rfl, h5⟩ := memS_at hf h2
    have hi := bit_lt hb h4
    refine ⟨i, j, by show i < (orAt fo last first).length; rw [hlen]; exact hi, ?_, by rw [h3, arcOf_nat]⟩
    rw [orAt_bit hi (Nat.lt_of_lt_of_le hi h32), h4, h5]; simp
  rintro ⟨i, j, h1, h2, h3⟩
  have h1 : i < fo.length := by rw [← hlen]; exact h1
  rw [orAt_bit h1 (Nat.lt_of_lt_of_le h1 h32), Bool.or_eq_true, Bool.and_eq_true] at h2
  rcases h2 with h2 | ⟨h4, h5⟩
  · exact .inl ⟨i, j, h1, h2, h3⟩
  exact .inr ⟨_, (hl.2 i).1 h4, _, (hf.2 j).1 h5, by rw [h3, arcOf_nat]⟩
theorem rel_row {st v : Pos × Span} {q r : MkS × Look} (h : relR st q) (hv : relR v r) (h1 : st.2.last < 2 ^ v.1.2.length) (h32 : v.1.2.length ≤ 32) : relR (rowOf st v) (lkRow q r) := by
  obtain ⟨⟨a1, a2⟩, a3, a4, a5⟩ := h
  obtain ⟨⟨vl, vf⟩, vs⟩ := v
  obtain ⟨⟨rl, ra⟩, rs⟩ := r
  obtain ⟨b1, b3, b4, b5⟩ := hv
  have e : vl = rl := b1.1
  subst e
  have hj := rel_join b1 a4 b3 h1 h32
  unfold rowOf lkRow
  refine ⟨hj, ?_, ?_, ?_⟩
  · dsimp only
    rw [← a5]
    split
    · exact memS_or a3 b3
    exact a3
  · dsimp only at b5 ⊢
    rw [← b5]
    split
    · exact memS_or a4 b4
    rw [Nat.zero_or]; exact b4
  dsimp only at b5 ⊢
  rw [a5, b5]
theorem rel_alt {st v : Pos × Span} {q r : MkS × Look} (h : relR st q) (hv : relR v r) : relR (altOf st v) (lkAlt q r) := by
  obtain ⟨-, a3, a4, a5⟩ := h
  obtain ⟨b1, b3, b4, b5⟩ := hv
  exact ⟨b1, memS_or a3 b3, memS_or a4 b4, by show (st.2.empty || v.2.empty) = (q.2.null || r.2.null); rw [a5, b5]⟩
theorem rel_one {op : Int} {v : Pos × Span} {r : MkS × Look} (hv : relR v r) (h1 : v.2.last < 2 ^ v.1.2.length) (h32 : v.1.2.length ≤ 32) : relR (oneStep op v) (lkOne op r) := by
  obtain ⟨⟨vl, vf⟩, vs⟩ := v
  obtain ⟨⟨rl, ra⟩, rs⟩ := r
  obtain ⟨b1, b3, b4, b5⟩ := hv
  have e : vl = rl := b1.1
  subst e
  unfold oneStep lkOne
  refine ⟨?_, b3, b4, ?_⟩
  · dsimp only
    split
    · exact b1
    exact rel_join b1 b4 b3 h1 h32
  dsimp only at b5 ⊢
  rw [b5]
theorem rel_step {p : Pos} {s : MkS} {b : UInt8} (h : relS p s) (hg : Good p) : relS (p.1 ++ [b], p.2 ++ [0]) (s.1 ++ [b], s.2) := by
  obtain ⟨lb, fo⟩ := p
  obtain ⟨lb', xs⟩ := s
  obtain ⟨rfl, h2⟩ := h
  refine ⟨rfl, fun x => ?_⟩
  have hz : ∀ i : Nat, (fo ++ [0])[i]?.getD 0 = fo[i]?.getD 0 := by
    intro i
    rcases Nat.lt_or_ge i fo.length with h | h
    · rw [List.getElem?_append_left h]
    rw [List.getElem?_append_right h, List.getElem?_eq_none h]
    rcases Nat.eq_zero_or_pos (i - fo.length) with e | e
    · rw [e]; rfl
    rw [List.getElem?_eq_none (by rw [List.length_singleton]; omega)]
  have hb : ∀ i j : Nat, (fo[i]?.getD 0).testBit j = true → j < lb.length ∧ i < fo.length := by
    intro i j hj
    rcases Nat.lt_or_ge i fo.length with h | h
    · rw [List.getElem?_eq_getElem h] at hj
      exact ⟨bit_lt (hg.2 _ (List.getElem_mem h)) hj, h⟩
    rw [List.getElem?_eq_none h] at hj; simp at hj
  have hlb : ∀ j, j < lb.length → (lb ++ [b])[j]?.getD default = lb[j]?.getD default := fun j hj => by rw [List.getElem?_append_left hj]
  refine (h2 x).trans ?_
  constructor
  · rintro ⟨i, j, h3, h4, h5⟩
    refine ⟨i, j, ?_, ?_, ?_⟩
    · show i < (fo ++ [0]).length
      rw [List.length_append]; exact Nat.lt_of_lt_of_le h3 (Nat.le_add_right _ _)
    · show ((fo ++ [0])[i]?.getD 0).testBit j = true
      rw [hz]; exact h4
    rw [h5]
    show (⟨_, lb[j]?.getD default, _⟩ : Arc) = ⟨_, (lb ++ [b])[j]?.getD default, _⟩
    rw [hlb j (hb i j h4).1]
  rintro ⟨i, j, h3, h4, h5⟩
  have h4 : ((fo ++ [0])[i]?.getD 0).testBit j = true := h4
  rw [hz] at h4
  obtain ⟨h6, h7⟩ := hb i j h4
  refine ⟨i, j, h7, h4, ?_⟩
  rw [h5]
  show (⟨_, (lb ++ [b])[j]?.getD default, _⟩ : Arc) = ⟨_, lb[j]?.getD default, _⟩
  rw [hlb j h6]
theorem fine_last {s : Pos} {c : Nat} {r : Pos × Span} (h : Fine s c r) : r.2.last < 2 ^ r.1.2.length := by
  rw [← h.1.1]; exact h.2.2.2
theorem rel_bad {p : Pos} {s : MkS} (h : relS p s) (hl : p.1.length ≤ 23) : badM s = false := by
  unfold badM; rw [← h.1]; exact decide_eq_false (by omega)
theorem fold_row {ps : List Piece} {n i : Nat} (hps : PsOk ps) (hi : i < ps.length) (hin : i ≤ n) (ih : ∀ j p s, j < i → relS p s → Good p → p.1.length + cntF ps n j ≤ 23 → relR (visit ps n j p) (look ps n j s)) :
    ∀ (l : List Int), (∀ k ∈ l, k.toNat < i) → ∀ (st : Pos × Span) (q : MkS × Look) (s0 : Pos) (c : Nat), Fine s0 c st → relR st q → st.1.1.length + sumK (cntF ps n) l ≤ 23 → relR (l.foldl (rowStep (visit ps n)) st) (l.foldl (lkStep 2 (look ps n)) q)
  | [], _, _, _, _, _, _, h, _ => h
  | k :: l, hk, st, q, s0, c, hf, h, hc => by
    have hk0 := hk k (List.mem_cons_self ..)
    simp only [sumK] at hc
    have hv := ih k.toNat st.1 q.1 hk0 h.1 hf.1 (by omega)
    have hvf := visit_fine ps n k.toNat st.1 hf.1 hps (by omega) (by omega)
    have e1 : rowStep (visit ps n) st k = rowOf st (visit ps n k.toNat st.1) := rfl
    have e2 : lkStep 2 (look ps n) q k = lkRow q (look ps n k.toNat q.1) := by
      unfold lkStep; rw [rel_bad h.1 (by omega)]; rfl
    have hlen : (visit ps n k.toNat st.1).1.1.length = st.1.1.length + cntF ps n k.toNat := hvf.2.1
    have hl2 := hvf.1.1
    rw [List.foldl_cons, List.foldl_cons, e1, e2]
    refine fold_row hps hi hin ih l (fun k hk' => hk k (List.mem_cons_of_mem _ hk')) _ _ s0 _ (row_fine hf hvf) (rel_row h hv ?_ (by omega)) ?_
    · rw [← hl2]; exact Nat.lt_of_lt_of_le hf.2.2.2 (pow_mono (by omega))
    show (visit ps n k.toNat st.1).1.1.length + _ ≤ 23
    omega
theorem fold_alt {ps : List Piece} {n i : Nat} (hps : PsOk ps) (hi : i < ps.length) (hin : i ≤ n) (ih : ∀ j p s, j < i → relS p s → Good p → p.1.length + cntF ps n j ≤ 23 → relR (visit ps n j p) (look ps n j s)) :
    ∀ (l : List Int), (∀ k ∈ l, k.toNat < i) → ∀ (st : Pos × Span) (q : MkS × Look) (s0 : Pos) (c : Nat), Fine s0 c st → relR st q → st.1.1.length + sumK (cntF ps n) l ≤ 23 → relR (l.foldl (altStep (visit ps n)) st) (l.foldl (lkStep 3 (look ps n)) q)
  | [], _, _, _, _, _, _, h, _ => h
  | k :: l, hk, st, q, s0, c, hf, h, hc => by
    have hk0 := hk k (List.mem_cons_self ..)
    simp only [sumK] at hc
    have hv := ih k.toNat st.1 q.1 hk0 h.1 hf.1 (by omega)
    have hvf := visit_fine ps n k.toNat st.1 hf.1 hps (by omega) (by omega)
    have e1 : altStep (visit ps n) st k = altOf st (visit ps n k.toNat st.1) := rfl
    have e2 : lkStep 3 (look ps n) q k = lkAlt q (look ps n k.toNat q.1) := by
      unfold lkStep; rw [rel_bad h.1 (by omega)]; rfl
    have hlen : (visit ps n k.toNat st.1).1.1.length = st.1.1.length + cntF ps n k.toNat := hvf.2.1
    rw [List.foldl_cons, List.foldl_cons, e1, e2]
    refine fold_alt hps hi hin ih l (fun k hk' => hk k (List.mem_cons_of_mem _ hk')) _ _ s0 _ (alt_fine hf hvf) (rel_alt h hv) ?_
    show (visit ps n k.toNat st.1).1.1.length + _ ≤ 23
    omega
theorem visit_look {ps : List Piece} (hps : PsOk ps) : ∀ (n i : Nat) (p : Pos) (s : MkS), i < ps.length → i < n → relS p s → Good p → p.1.length + cntF ps n i ≤ 23 → relR (visit ps n i p) (look ps n i s)
  | 0, _, _, _, _, h, _, _, _ => by omega
  | n + 1, i, p, s, hi, hin, hr, hg, hc => by
    have ih : ∀ j p s, j < i → relS p s → Good p → p.1.length + cntF ps n j ≤ 23 → relR (visit ps n j p) (look ps n j s) :=
      fun j p s hj h1 h2 h3 => visit_look hps n j p s (by omega) (by omega) h1 h2 h3
    by_cases h1 : (ps[i]?.getD default).op = 1
    · rw [visit_step h1, look_step h1]
      have e := hr.1
      refine ⟨rel_step hr hg, ?_, ?_, rfl⟩
      · rw [← e]; exact memS_one _
      rw [← e]; exact memS_one _
    have hk : ∀ k ∈ (ps[i]?.getD default).kids, k.toNat < i := by
      intro k hk
      obtain ⟨j, hj, rfl⟩ := List.mem_iff_getElem.1 hk
      have h3 := kid_rng hps hi h1 hj
      rw [List.getElem?_eq_getElem hj] at h3
      simp only [Option.getD_some] at h3
      omega
    rw [cnt_kids h1] at hc
    rw [look_kids h1]
    by_cases h2 : (ps[i]?.getD default).op = 2
    · rw [visit_row h2]
      unfold rowK lkK
      rw [h2]
      exact fold_row hps hi (by omega) ih _ hk _ _ p 0 (fine_zero hg) ⟨hr, memS_zero, memS_zero, rfl⟩ hc
    by_cases h3 : (ps[i]?.getD default).op = 3
    · rw [visit_alt h3]
      unfold altK lkK
      rw [h3]
      exact fold_alt hps hi (by omega) ih _ hk _ _ p 0 (fine_zero hg) ⟨hr, memS_zero, memS_zero, rfl⟩ hc
    rw [visit_one h1 h2 h3]
    have hkl := kids_one hps hi h1 h2 h3
    obtain ⟨k, hk1⟩ := List.length_eq_one_iff.1 hkl
    rw [hk1] at hc hk ⊢
    have hk0 := hk k (List.mem_singleton.2 rfl)
    simp only [sumK] at hc
    have hv := ih k.toNat p s hk0 hr hg (by omega)
    have hvf := visit_fine ps n k.toNat p hg hps (by omega) (by omega)
    have hlen : (visit ps n k.toNat p).1.1.length = p.1.length + cntF ps n k.toNat := hvf.2.1
    have hl2 := hvf.1.1
    have e2 : lkK ps n (ps[i]?.getD default).op s [k] = lkOne (ps[i]?.getD default).op (look ps n k.toNat s) := by
      show lkStep _ _ _ _ = _
      unfold lkStep
      rw [rel_bad hr (by omega), if_neg (by decide), if_neg h2, if_neg h3]
    rw [e2]
    show relR (oneStep _ (visit ps n k.toNat p)) _
    exact rel_one hv (fine_last hvf) (by omega)
end Go.Proofs.YtcnclhjhnjpeiaaGreatDoor

namespace Go.Proofs.YtcnclhjhnjpeiaaGreatDoor
open Go.SX Go.Proofs
set_option maxHeartbeats 1000000
theorem arcLess_iff {a b : Arc} : arcLess a b = true ↔ a.from' < b.from' ∨ (a.from' = b.from' ∧ (a.label.toNat < b.label.toNat ∨ (a.label.toNat = b.label.toNat ∧ a.to < b.to))) := by
  by_cases h1 : a.from' = b.from'
  · by_cases h2 : a.label = b.label
    · rw [arcLess_to h1 h2, decide_eq_true_iff, h1, h2]; omega
    rw [arcLess_label h1 h2, decide_eq_true_iff]
    have h3 : a.label.toNat ≠ b.label.toNat := fun e => h2 (UInt8.toNat_inj.1 e)
    omega
  rw [arcLess_from h1, decide_eq_true_iff]; omega
def cmpA (a b : Arc) : Int := cmpL [a.from', (a.label.toNat : Int), a.to] [b.from', (b.label.toNat : Int), b.to]
theorem cmpA_lt (a b : Arc) : decide (cmpA a b < 0) = arcLess a b := by
  rw [Bool.eq_iff_iff, decide_eq_true_iff, arcLess_iff]
  unfold cmpA
  simp only [cmpL]
  split
  · omega
  split
  · omega
  split
  · omega
  split
  · omega
  split
  · omega
  split <;> omega
theorem ltOf_cmpA : ltOf cmpA = arcLess := by
  funext a b
  rw [← cmpA_lt a b]; rfl
theorem arcLess_no {a b : Arc} : arcLess a b = false ↔ ¬ (a.from' < b.from' ∨ (a.from' = b.from' ∧ (a.label.toNat < b.label.toNat ∨ (a.label.toNat = b.label.toNat ∧ a.to < b.to)))) := by
  rw [← arcLess_iff, Bool.not_eq_true]
theorem swo_cmpA : Sort.SWO (ltOf cmpA) where
  irrefl x := by rw [ltOf_cmpA, arcLess_no]; omega
  trans x y z h1 h2 := by rw [ltOf_cmpA, arcLess_iff] at *; omega
  ntrans x y z h1 h2 := by rw [ltOf_cmpA, arcLess_no] at *; omega
theorem sort_unique : ∀ {xs ys : List Arc}, xs.Pairwise (fun a b => codeA a < codeA b) → ys.Pairwise (fun a b => codeA a < codeA b) → (∀ x, x ∈ xs ↔ x ∈ ys) → xs = ys
  | [], [], _, _, _ => rfl
  | [], y :: ys, _, _, h => by have := (h y).2 (List.mem_cons_self ..); cases this
  | x :: xs, [], _, _, h => by have := (h x).1 (List.mem_cons_self ..); cases this
  | x :: xs, y :: ys, h1, h2, h => by
    obtain ⟨p1, q1⟩ := List.pairwise_cons.1 h1
    obtain ⟨p2, q2⟩ := List.pairwise_cons.1 h2
    have e : x = y := by
      rcases List.mem_cons.1 ((h x).1 (List.mem_cons_self ..)) with e | e
      · exact e
      rcases List.mem_cons.1 ((h y).2 (List.mem_cons_self ..)) with e2 | e2
      · exact e2.symm
      have a1 := p2 x e
      have a2 := p1 y e2
      omega
    subst e
    refine congrArg _ (sort_unique q1 q2 fun z => ?_)
    have hz := h z
    rw [List.mem_cons, List.mem_cons] at hz
    constructor
    · intro h3
      rcases hz.1 (.inr h3) with e | e
      · have := p1 z h3; rw [e] at this; omega
      exact e
    intro h3
    rcases hz.2 (.inr h3) with e | e
    · have := p2 z h3; rw [e] at this; omega
    exact e
/-- the arcs out of a state, to the places of m -/
def arcsFrom (lb : List UInt8) (f : Int) (m : Nat) : List Arc := (bitsL m 32).map fun j => ⟨f, lb[j.toNat]?.getD default, j + 1⟩
def arcsK (lb : List UInt8) (fo : List Nat) (first : Nat) : Nat → List Arc
  | 0 => arcsFrom lb 0 first
  | k + 1 => arcsK lb fo first k ++ arcsFrom lb ((k : Int) + 1) (fo[k]?.getD 0)
theorem mem_arcsFrom {lb : List UInt8} {f : Int} {m : Nat} {x : Arc} : x ∈ arcsFrom lb f m ↔ ∃ j : Nat, j < 32 ∧ m.testBit j = true ∧ x = ⟨f, lb[j]?.getD default, (j : Int) + 1⟩ := by
  unfold arcsFrom
  rw [List.mem_map]
  constructor
  · rintro ⟨i, h1, rfl⟩
    have h2 := bitsL_at h1
    exact ⟨i.toNat, by omega, h2.2.2, by rw [Int.toNat_of_nonneg h2.1]⟩
  rintro ⟨j, h1, h2, rfl⟩
  exact ⟨j, mem_bitsL.2 ⟨h1, h2⟩, by simp⟩
theorem mem_arcsK {lb : List UInt8} {fo : List Nat} {first : Nat} {x : Arc} : ∀ {k : Nat}, x ∈ arcsK lb fo first k ↔ x ∈ arcsFrom lb 0 first ∨ ∃ i : Nat, i < k ∧ x ∈ arcsFrom lb ((i : Int) + 1) (fo[i]?.getD 0)
  | 0 => by show x ∈ arcsFrom lb 0 first ↔ _; simp
  | k + 1 => by
    show x ∈ arcsK lb fo first k ++ _ ↔ _
    rw [List.mem_append, mem_arcsK]
    constructor
    · rintro ((h | ⟨i, h1, h2⟩) | h)
      · exact .inl h
      · exact .inr ⟨i, by omega, h2⟩
      exact .inr ⟨k, by omega, h⟩
    rintro (h | ⟨i, h1, h2⟩)
    · exact .inl (.inl h)
    rcases (by omega : i < k ∨ i = k) with h3 | rfl
    · exact .inl (.inr ⟨i, h3, h2⟩)
    exact .inr h2
theorem from_arcs {lb : List UInt8} {f : Int} {m : Nat} {x : Arc} (h : x ∈ arcsFrom lb f m) : x.from' = f := by
  obtain ⟨j, _, _, rfl⟩ := mem_arcsFrom.1 h; rfl
theorem bitsL_nodup (m n : Nat) : (bitsL m n).Nodup := by
  unfold bitsL
  have h : ((List.range n).filter fun i => m.testBit i).Nodup := List.nodup_range.filter _
  rw [List.nodup_iff_pairwise_ne] at h ⊢
  rw [List.pairwise_map]
  exact h.imp fun h e => h (by omega)
theorem arcsFrom_nodup (lb : List UInt8) (f : Int) (m : Nat) : (arcsFrom lb f m).Nodup := by
  have h := bitsL_nodup m 32
  unfold arcsFrom
  rw [List.nodup_iff_pairwise_ne] at h ⊢
  rw [List.pairwise_map]
  exact h.imp fun h e => h (by have := congrArg Arc.to e; dsimp only at this; omega)
theorem arcsK_nodup (lb : List UInt8) (fo : List Nat) (first : Nat) : ∀ k, (arcsK lb fo first k).Nodup
  | 0 => arcsFrom_nodup _ _ _
  | k + 1 => by
    show (arcsK lb fo first k ++ _).Nodup
    rw [List.nodup_append]
    refine ⟨arcsK_nodup lb fo first k, arcsFrom_nodup _ _ _, ?_⟩
    intro a ha b hb e
    subst e
    have h1 := from_arcs hb
    rcases mem_arcsK.1 ha with h2 | ⟨i, h2, h3⟩
    · have := from_arcs h2; omega
    have := from_arcs h3; omega
theorem arcsFrom_len (lb : List UInt8) (f : Int) (m : Nat) : (arcsFrom lb f m).length ≤ 32 := by
  unfold arcsFrom; rw [List.length_map]; exact bitsL_len m 32
theorem arcsK_len (lb : List UInt8) (fo : List Nat) (first : Nat) : ∀ k, (arcsK lb fo first k).length ≤ 32 * (k + 1)
  | 0 => arcsFrom_len _ _ _
  | k + 1 => by
    show (arcsK lb fo first k ++ _).length ≤ _
    rw [List.length_append]
    have h1 := arcsK_len lb fo first k
    have h2 := arcsFrom_len lb ((k : Int) + 1) (fo[k]?.getD 0)
    omega
/-- arcs sorted, none twice, in range: in the order of the codes -/
theorem sorted_code {xs : List Arc} (hn : xs.Nodup) (hs : xs.Pairwise fun a b => ltOf cmpA b a = false) (hr : ∀ x ∈ xs, rngA x) : xs.Pairwise fun a b => codeA a < codeA b := by
  rw [List.nodup_iff_pairwise_ne] at hn
  refine List.Pairwise.imp_of_mem (fun {a b} ha hb h => ?_) (hn.and hs)
  obtain ⟨h1, h2⟩ := h
  rw [ltOf_cmpA] at h2
  rcases less_total h1 with h3 | h3
  · exact (less_code (hr a ha) (hr b hb)).1 h3
  rw [h2] at h3; cases h3
def endsS (null : Bool) (last : List Int) (n : Nat) : List Bool := null :: (List.range n).map fun (i : Nat) => decide (((i : Int) + 1) ∈ last)
def endsI (e : Bool) (last : Nat) (n : Nat) : List Bool := e :: (List.range n).map fun i => last.testBit i
theorem ends_same {e : Bool} {last : Nat} {L : List Int} (h : memS last L) (n : Nat) : endsI e last n = endsS e L n := by
  unfold endsI endsS
  congr 1
  refine List.map_congr_left fun i _ => ?_
  rw [Bool.eq_iff_iff, h.2, decide_eq_true_iff]
/-- the automaton of pieces -/
def topL (ps : List Piece) : MkS × Look := look ps ps.length (ps.length - 1) ([], [])
def topV (ps : List Piece) : Pos × Span := visit ps ps.length (ps.length - 1) ([], [])
def nfaOf (ps : List Piece) : Nfa := ⟨((topL ps).1.1.length + 1 : Nat), joinA (topL ps).1.1 [0] (topL ps).2.first (topL ps).1.2, endsS (topL ps).2.null (topL ps).2.last (topL ps).1.1.length⟩
def nfaGo (ps : List Piece) : Bool := decide (cntF ps ps.length (ps.length - 1) ≤ 23)
theorem goodM_nil : GoodM ([], []) := ⟨⟨.nil, fun _ h => by cases h⟩, fun _ h => (by cases h), fun _ h => (by cases h)⟩
theorem good_nil : Good ([], []) := ⟨rfl, fun _ h => by cases h⟩
theorem rel_nil : relS ([], []) ([], []) := ⟨rfl, fun x => ⟨fun h => (by cases h), fun ⟨i, j, h, _⟩ => (by cases h)⟩⟩
theorem topL_fine {ps : List Piece} (hps : PsOk ps) (h : 1 ≤ ps.length) : LFine ([], []) (cntF ps ps.length (ps.length - 1)) (topL ps) := look_fine ps _ _ _ goodM_nil (Nat.zero_le _) hps (by omega) (by omega)
theorem topV_fine {ps : List Piece} (hps : PsOk ps) (h : 1 ≤ ps.length) : Fine ([], []) (cntF ps ps.length (ps.length - 1)) (topV ps) := visit_fine ps _ _ _ good_nil hps (by omega) (by omega)
theorem top_rel {ps : List Piece} (hps : PsOk ps) (h : 1 ≤ ps.length) (hg : nfaGo ps = true) : relR (topV ps) (topL ps) := by
  have := of_decide_eq_true hg
  exact visit_look hps _ _ _ _ (by omega) (by omega) rel_nil good_nil (by show 0 + _ ≤ 23; omega)
/-- the program's arcs are the reference's -/
theorem top_arcs {ps : List Piece} (hps : PsOk ps) (h : 1 ≤ ps.length) (hg : nfaGo ps = true) {xs : List Arc} (hp : xs.Perm (arcsK (topV ps).1.1 (topV ps).1.2 (topV ps).2.first (topV ps).1.2.length)) (hs : xs.Pairwise fun a b => ltOf cmpA b a = false) :
    xs = (nfaOf ps).arcs := by
  have hr := top_rel hps h hg
  have hf := topL_fine hps h
  have hv := topV_fine hps h
  have hgo := of_decide_eq_true hg
  obtain ⟨hf1, hf2, hf3, hf4, hf5, hf6⟩ := hf
  have hlen : (topL ps).1.1.length ≤ 23 := by rw [hf2]; show min 24 (0 + _) ≤ 23; omega
  obtain ⟨⟨r1, r2⟩, r3, r4, r5⟩ := hr
  have hsort : SortA (joinA (topL ps).1.1 [0] (topL ps).2.first (topL ps).1.2) := joinA_sort (n := (topL ps).1.1.length) (by omega) hf3 (fun f hf => by rw [List.mem_singleton.1 hf]; omega) hf1.1
  have hmem : ∀ x, x ∈ xs ↔ x ∈ joinA (topL ps).1.1 [0] (topL ps).2.first (topL ps).1.2 := by
    intro x
    rw [hp.mem_iff, mem_arcsK, mem_joinA, r2 x]
    have hfl : (topV ps).1.1.length = (topV ps).1.2.length := hv.1.1
    have hl2 : (topV ps).1.1.length ≤ 23 := by rw [r1]; exact hlen
    have b32 : ∀ {m j : Nat}, m < 2 ^ (topV ps).1.1.length → m.testBit j = true → j < 32 := fun hm hj => by have := bit_lt hm hj; omega
    constructor
    · rintro (h1 | ⟨i, h1, h2⟩)
      · obtain ⟨j, h3, h4, rfl⟩ := mem_arcsFrom.1 h1
        refine .inr ⟨0, List.mem_singleton.2 rfl, (j : Int) + 1, (r3.2 j).1 h4, ?_⟩
        rw [arcOf_nat, r1]
      obtain ⟨j, h3, h4, rfl⟩ := mem_arcsFrom.1 h2
      exact .inl ⟨i, j, h1, h4, rfl⟩
    rintro (⟨i, j, h1, h2, h3⟩ | ⟨f, h1, t, h2, h3⟩)
    · refine .inr ⟨i, h1, mem_arcsFrom.2 ⟨j, ?_, h2, h3⟩⟩
      rw [List.getElem?_eq_getElem h1] at h2
      exact b32 (hv.1.2 _ (List.getElem_mem h1)) h2
    rw [List.mem_singleton] at h1
    subst h1
    obtain ⟨j, rfl, h5⟩ := memS_at r3 h2
    exact .inl (mem_arcsFrom.2 ⟨j, b32 hv.2.2.1 h5, h5, by rw [h3, arcOf_nat, r1]⟩)
  refine sort_unique (sorted_code (hp.nodup_iff.2 (arcsK_nodup _ _ _ _)) hs (fun x hx => hsort.2 x ((hmem x).1 hx))) hsort.1 hmem
theorem top_ends {ps : List Piece} (hps : PsOk ps) (h : 1 ≤ ps.length) (hg : nfaGo ps = true) : endsI (topV ps).2.empty (topV ps).2.last (topV ps).1.2.length = (nfaOf ps).ends := by
  have hr := top_rel hps h hg
  have hv := topV_fine hps h
  show _ = endsS (topL ps).2.null (topL ps).2.last (topL ps).1.1.length
  rw [← hr.2.2.2, ← hr.1.1, show (topV ps).1.1.length = (topV ps).1.2.length from hv.1.1]
  exact ends_same hr.2.2.1 _
end Go.Proofs.YtcnclhjhnjpeiaaGreatDoor

namespace Go.Proofs.YtcnclhjhnjpeiaaGreatDoor
open Go.Proofs Go.Shelf
def laysSort_ren : Go.Shelf.Ren := ⟨fun | 6 => 214 | 15 => 229 | 14 => 228 | 28 => 243 | 29 => 218 | 20 => 235 | 21 => 236 | 22 => 237 | 23 => 238 | 24 => 239 | 25 => 240 | 26 => 241 | 27 => 242 | 46 => 244 | 47 => 245 | 48 => 246 | 49 => 247 | 50 => 248 | 57 => 249 | n => n, fun | 22 => 209 | 24 => 282 | 25 => 309 | 3 => 3 | 39 => 307 | 0 => 0 | 53 => 301 | 55 => 287 | 4 => 4 | 46 => 327 | 45 => 326 | 50 => 295 | 5 => 5 | 9 => 9 | 66 => 334 | 70 => 338 | 76 => 340 | 77 => 341 | n => n, fun | n => n⟩
theorem laysSort : Go.Proofs.SlLaysF0.n6 Tryz.prog laysSort_ren where
  mixed := by kernel_rfl
  f6 := ⟨ "slices.SortFunc[[]loop.example/g00250/impl.Arc,loop.example/g00250/impl.Arc]", by decide, Tryz.func214.trans (congrArg some (by kernel_rfl))⟩
  f14 := ⟨ "slices.pdqsortCmpFunc[loop.example/g00250/impl.Arc]", by decide, Tryz.func228.trans (congrArg some (by kernel_rfl))⟩
  f15 := Tryz.func229.trans (congrArg some (by kernel_rfl))
  f20 := ⟨ "slices.insertionSortCmpFunc[loop.example/g00250/impl.Arc]", by decide, Tryz.func235.trans (congrArg some (by kernel_rfl))⟩
  f21 := ⟨ "slices.heapSortCmpFunc[loop.example/g00250/impl.Arc]", by decide, Tryz.func236.trans (congrArg some (by kernel_rfl))⟩
  f22 := ⟨ "slices.breakPatternsCmpFunc[loop.example/g00250/impl.Arc]", by decide, Tryz.func237.trans (congrArg some (by kernel_rfl))⟩
  f23 := ⟨ "slices.choosePivotCmpFunc[loop.example/g00250/impl.Arc]", by decide, Tryz.func238.trans (congrArg some (by kernel_rfl))⟩
  f24 := ⟨ "slices.reverseRangeCmpFunc[loop.example/g00250/impl.Arc]", by decide, Tryz.func239.trans (congrArg some (by kernel_rfl))⟩
  f25 := ⟨ "slices.partialInsertionSortCmpFunc[loop.example/g00250/impl.Arc]", by decide, Tryz.func240.trans (congrArg some (by kernel_rfl))⟩
  f26 := ⟨ "slices.partitionEqualCmpFunc[loop.example/g00250/impl.Arc]", by decide, Tryz.func241.trans (congrArg some (by kernel_rfl))⟩
  f27 := ⟨ "slices.partitionCmpFunc[loop.example/g00250/impl.Arc]", by decide, Tryz.func242.trans (congrArg some (by kernel_rfl))⟩
  f28 := Tryz.func243.trans (congrArg some (by kernel_rfl))
  f29 := Tryz.func218.trans (congrArg some (by kernel_rfl))
  f46 := ⟨ "slices.siftDownCmpFunc[loop.example/g00250/impl.Arc]", by decide, Tryz.func244.trans (congrArg some (by kernel_rfl))⟩
  f47 := Tryz.func245.trans (congrArg some (by kernel_rfl))
  f48 := Tryz.func246.trans (congrArg some (by kernel_rfl))
  f49 := ⟨ "slices.medianAdjacentCmpFunc[loop.example/g00250/impl.Arc]", by decide, Tryz.func247.trans (congrArg some (by kernel_rfl))⟩
  f50 := ⟨ "slices.medianCmpFunc[loop.example/g00250/impl.Arc]", by decide, Tryz.func248.trans (congrArg some (by kernel_rfl))⟩
  f57 := ⟨ "slices.order2CmpFunc[loop.example/g00250/impl.Arc]", by decide, Tryz.func249.trans (congrArg some (by kernel_rfl))⟩
  t0 := Tryz.underlying0
  a0 := Tryz.isAgg0
  z0 := Tryz.sizeOf0
  v0 := Tryz.zeroValue0
  t3 := Tryz.underlying3
  a3 := Tryz.isAgg3
  z3 := Tryz.sizeOf3
  v3 := Tryz.zeroValue3
  t4 := Tryz.underlying4
  a4 := Tryz.isAgg4
  z4 := Tryz.sizeOf4
  v4 := Tryz.zeroValue4
  t5 := Tryz.underlying5
  a5 := Tryz.isAgg5
  z5 := Tryz.sizeOf5
  v5 := Tryz.zeroValue5
  t9 := Tryz.underlying9
  a9 := Tryz.isAgg9
  z9 := Tryz.sizeOf9
  v9 := Tryz.zeroValue9
  t22 := Tryz.underlying209
  a22 := Tryz.isAgg209
  z22 := Tryz.sizeOf209
  v22 := Tryz.zeroValue209
  t25 := Tryz.underlying309
  a25 := Tryz.isAgg309
  z25 := Tryz.sizeOf309
  v25 := Tryz.zeroValue309
  t39 := Tryz.underlying307
  a39 := Tryz.isAgg307
  z39 := Tryz.sizeOf307
  v39 := Tryz.zeroValue307
  t45 := Tryz.underlying326
  a45 := Tryz.isAgg326
  z45 := Tryz.sizeOf326
  v45 := Tryz.zeroValue326
  t46 := Tryz.underlying327
  a46 := Tryz.isAgg327
  z46 := Tryz.sizeOf327
  v46 := Tryz.zeroValue327
  t50 := Tryz.underlying295
  a50 := Tryz.isAgg295
  z50 := Tryz.sizeOf295
  v50 := Tryz.zeroValue295
  t53 := Tryz.underlying301
  a53 := Tryz.isAgg301
  z53 := Tryz.sizeOf301
  v53 := Tryz.zeroValue301
  t55 := Tryz.underlying287
  a55 := Tryz.isAgg287
  z55 := Tryz.sizeOf287
  v55 := Tryz.zeroValue287
  t66 := Tryz.underlying334
  a66 := Tryz.isAgg334
  z66 := Tryz.sizeOf334
  v66 := Tryz.zeroValue334
  t70 := Tryz.underlying338
  a70 := Tryz.isAgg338
  z70 := Tryz.sizeOf338
  v70 := Tryz.zeroValue338
  t76 := Tryz.underlying340
  a76 := Tryz.isAgg340
  z76 := Tryz.sizeOf340
  v76 := Tryz.zeroValue340
  t77 := Tryz.underlying341
  a77 := Tryz.isAgg341
  z77 := Tryz.sizeOf341
  v77 := Tryz.zeroValue341
end Go.Proofs.YtcnclhjhnjpeiaaGreatDoor

namespace Go.Proofs.YtcnclhjhnjpeiaaGreatDoor
open Go.SX Go.Proofs
set_option linter.unusedSimpArgs false
set_option linter.unusedVariables false
set_option maxHeartbeats 4000000
attribute [local irreducible] IntKind.wrap
def flArc : Fl Arc := ⟨3, fun x => [.int .i64 x.from', .int .u8 x.label.toNat, .int .i64 x.to], fun x => okI x.from' ∧ okI x.to, fun _ => rfl, fun _ => rfl, by omega⟩
theorem arc_fl {T : TypeId} {v : Value} {xs : List Arc} {A : Hp} (h : (gSl T gArc).ow [v] xs A) : Ow flArc T v xs A := by
  obtain ⟨v', ls, A0, As, e, ho, hp, hl⟩ := h
  cases e
  have hA : ∀ {ls : List (RawC gArc.size)} {xs : List Arc} {As : List Hp}, OwL gArc ls xs As → As.flatten = [] ∧ (∀ x ∈ xs, flArc.wf x) ∧ ls.flatMap (flRaw gArc.size gArc.pos).enc = xs.flatMap flArc.enc := by
    intro ls xs As h
    induction h with
    | nil => exact ⟨rfl, (fun _ h => by cases h), rfl⟩
    | cons h hr ih =>
      obtain ⟨h1, h2, h3, h4⟩ := gArc_ow.1 h
      refine ⟨by rw [List.flatten_cons, h2.eq_nil, ih.1]; rfl, ?_, ?_⟩
      · intro y hy
        rcases List.mem_cons.1 hy with rfl | hy
        · exact ⟨h3, h4⟩
        exact ih.2.1 y hy
      rw [List.flatMap_cons, List.flatMap_cons, ih.2.2]; congr 1
  obtain ⟨h1, h2, h3⟩ := hA hl
  rw [h1, List.append_nil] at hp
  obtain ⟨e1, _⟩ := hl.len
  obtain ⟨_, g1, base, cap, e, g2⟩ := ho
  rw [e1] at g1 e
  refine ⟨h2, g1, base, cap, e, ?_⟩
  rcases g2 with ⟨rfl, rfl, rfl⟩ | ⟨b, sp, g3, rfl, g4, g5⟩
  · have : xs = [] := by cases hl; rfl
    exact .inl ⟨rfl, this, hp.eq_nil⟩
  refine .inr ⟨b, sp, g3, ?_, by rw [← e1]; exact g4, by rw [← e1]; exact g5⟩
  rw [← h3]
  exact List.perm_singleton.1 hp
theorem fl_arc {T : TypeId} {v : Value} {xs : List Arc} {A : Hp} (h : Ow flArc T v xs A) : (gSl T gArc).ow [v] xs A := by
  obtain ⟨h1, h2, base, cap, rfl, h3⟩ := h
  have key : ∀ (xs : List Arc), (∀ x ∈ xs, flArc.wf x) → ∃ ls As, OwL gArc ls xs As ∧ As.flatten = [] ∧ ls.flatMap (flRaw gArc.size gArc.pos).enc = xs.flatMap flArc.enc := by
    intro xs
    induction xs with
    | nil => intro _; exact ⟨[], [], .nil, rfl, rfl⟩
    | cons x r ih =>
      intro hw
      obtain ⟨ls, As, g1, g2, g3⟩ := ih (fun y hy => hw y (List.mem_cons_of_mem _ hy))
      have hx := hw x (List.mem_cons_self ..)
      refine ⟨⟨flArc.enc x, rfl, rfl⟩ :: ls, [] :: As, .cons (gArc_ow.2 ⟨rfl, .refl _, hx.1, hx.2⟩) g1, by rw [List.flatten_cons, g2]; rfl, ?_⟩
      exact congrArg (fun q => flArc.enc x ++ q) g3
  obtain ⟨ls, As, g1, g2, g3⟩ := key xs h1
  obtain ⟨e1, _⟩ := g1.len
  refine ⟨_, ls, A, As, rfl, ⟨fun _ _ => trivial, by rw [e1]; exact h2, base, cap, by rw [e1], ?_⟩, by rw [g2, List.append_nil], g1⟩
  rcases h3 with ⟨rfl, rfl, rfl⟩ | ⟨b, sp, h4, rfl, h5, h6⟩
  · have : ls = [] := by cases g1; rfl
    exact .inl ⟨rfl, this, rfl⟩
  exact .inr ⟨b, sp, h4, by rw [g3], by rw [e1]; exact h5, by rw [e1]; exact h6⟩
theorem lblw (x : UInt8) : IntKind.i64.wrap ((x.toNat : Nat) : Int) = (x.toNat : Nat) := by
  have := x.toNat_lt
  exact wrap_of (by omega) (by omega)
theorem wrap_i64_ok (x : Int) : okI (IntKind.i64.wrap x) := by
  unfold IntKind.wrap okI
  simp [IntKind.bits, IntKind.signed]
  split <;> omega
theorem compareArcs_ct (a b : Arc) (ha : flArc.wf a) (hb : flArc.wf b) :
    Ct Tryz.prog 215 [.agg ⟨flArc.enc a⟩, .agg ⟨flArc.enc b⟩] [] (fun _ => True) (fun v A => v = .int .i64 (cmpA a b) ∧ A = []) := by
  show Ct Tryz.prog 215 [.agg ⟨[.int .i64 a.from', .int .u8 a.label.toNat, .int .i64 a.to]⟩, .agg ⟨[.int .i64 b.from', .int .u8 b.label.toNat, .int .i64 b.to]⟩] [] (fun _ => True) (fun v A => v = .int .i64 (cmpA a b) ∧ A = [])
  refine Ct.intro0 G_ok Tryz.func215 rfl rfl rfl fun E H hp => ?_
  obtain ⟨ha1, ha2⟩ := ha
  obtain ⟨hb1, hb2⟩ := hb
  have k1 : okI (IntKind.i64.wrap ((a.label.toNat : Nat) : Int)) := wrap_i64_ok _
  have k2 : okI (IntKind.i64.wrap ((b.label.toNat : Nat) : Int)) := wrap_i64_ok _
  refine VCnew.intro fun x0 => ?_
  refine VCnew.intro fun x1 => ?_
  refine VCnew.intro fun x2 => ?_
  refine VCnew.intro fun x3 => ?_
  refine call_val (sCompare_ct _ _ _ _ _ _ ([a.from', IntKind.i64.wrap (↑a.label.toNat : Int), a.to]) ([b.from', IntKind.i64.wrap (↑b.label.toNat : Int), b.to])) ⟨(Rp.mono _ (mem_at 1 rfl) (Ow.rd (Ow.lit (f := flInt) (T := (3 : TypeId)) (b := x2) (xs := [a.from', IntKind.i64.wrap (↑a.label.toNat : Int), a.to]) (by first | (simp [flInt, okI]; done) | (simp only [List.forall_mem_cons]; simp_all [flInt, okI])) (by simp)))), (Rp.mono _ (mem_at 0 rfl) (Ow.rd (Ow.lit (f := flInt) (T := (3 : TypeId)) (b := x3) (xs := [b.from', IntKind.i64.wrap (↑b.label.toNat : Int), b.to]) (by first | (simp [flInt, okI]; done) | (simp only [List.forall_mem_cons]; simp_all [flInt, okI])) (by simp))))⟩ ?_
  rintro _ rfl
  try dsimp only
  exact ⟨[], ⟨by unfold cmpA; rw [lblw, lblw], rfl⟩, (.le fun a => by (try simp only [setR, List.cons_append, List.nil_append]); simp only [List.flatten_append, List.flatten_cons, List.flatten_nil, List.count_append, List.count_nil, List.append_nil, List.nil_append]; omega)⟩
/-- the program's sort of arcs -/
--@ct slices.SortFunc[[]impl.Arc,impl.Arc] own+1 sortArcs_ct _ _ _ _ _ !1o ?_ | trivial | rintro _ A# ⟨rfl, xs#, hp#, hs#, o#⟩
theorem sortArcs_ct (T : TypeId) (base : Option Addr) (n cap : Nat) (xs : List Arc) {A0 : Hp} (ho : (gSl T gArc).ow [.slice base n cap] xs A0) (hn : xs.length < 4611686018427387904) :
    CtR Tryz.prog 214 [.slice base n cap, .func (.func 215) #[] #[]] A0 (fun _ => True) (fun v A => v = .tuple #[] ∧ ∃ xs', xs'.Perm xs ∧ xs'.Pairwise (fun a b => ltOf cmpA b a = false) ∧ (gSl T gArc).ow [.slice base xs'.length cap] xs' A) := by
  have h := sortK_ct (laysSort) flArc ⟨by unfold okI; decide, by unfold okI; decide⟩ Tryz.isAgg282 Tryz.sizeOf282 cmpA swo_cmpA 215 (enters_of Tryz.func215 (by kernel_rfl) rfl) T (fun x y hx hy => compareArcs_ct x y hx hy) (arc_fl ho) hn
  refine ⟨h.1, fun E H w hs hp => (h.2 E H w hs hp).mono ?_⟩
  rintro e w' ⟨v, A, h1, ⟨h2, xs', h3, h4, h5⟩, h6⟩
  exact ⟨v, A, h1, ⟨h2, xs', h3, h4, fl_arc h5⟩, h6⟩
end Go.Proofs.YtcnclhjhnjpeiaaGreatDoor

namespace Go.Proofs.YtcnclhjhnjpeiaaGreatDoor
open Go.SX Go.Proofs
set_option linter.unusedSimpArgs false
set_option linter.unusedVariables false
set_option maxHeartbeats 4000000
attribute [local irreducible] IntKind.wrap
/-- the counts of the first k pieces, cut at 24 -/
def occS (cs : List Int) (a : Int) (kid : Int) : Int := min (a + (cs[kid.toNat]?.getD 0)) 24
def occP (cs : List Int) (x : Piece) : Int := x.kids.foldl (occS cs) (if x.op = 1 then 1 else 0)
def occL (ps : List Piece) : Nat → List Int
  | 0 => []
  | k + 1 => occL ps k ++ [occP (occL ps k) (ps[k]?.getD default)]
theorem occL_len (ps : List Piece) : ∀ k, (occL ps k).length = k
  | 0 => rfl
  | k + 1 => by simp [occL, occL_len ps k]
def occ (ps : List Piece) : Int := (occL ps ps.length)[ps.length - 1]?.getD 0
/-- the list as it stands: k pieces done, a at the next one -/
def occN (ps : List Piece) (k : Nat) (a : Int) : List Int := occL ps k ++ (a :: List.replicate (ps.length - k - 1) 0)
theorem occN_len {ps : List Piece} {k : Nat} {a : Int} (hk : k < ps.length) : (occN ps k a).length = ps.length := by
  unfold occN; simp [occL_len]; omega
theorem occN_set {ps : List Piece} {k : Nat} {a b : Int} : (occN ps k a).set k b = occN ps k b := by
  unfold occN
  rw [List.set_append_right _ _ (by rw [occL_len]; omega), occL_len, Nat.sub_self]; rfl
theorem occN_get {ps : List Piece} {k : Nat} {a : Int} : (occN ps k a)[k]?.getD 0 = a := by
  unfold occN
  rw [List.getElem?_append_right (by rw [occL_len]; omega), occL_len, Nat.sub_self]; rfl
theorem occN_at {ps : List Piece} {k i : Nat} {a : Int} (h : i < k) : (occN ps k a)[i]?.getD 0 = (occL ps k)[i]?.getD 0 := by
  unfold occN
  rw [List.getElem?_append_left (by rw [occL_len]; exact h)]
theorem occN_next {ps : List Piece} {k : Nat} (hk : k + 1 < ps.length) : occN ps k (occP (occL ps k) (ps[k]?.getD default)) = occN ps (k + 1) 0 := by
  unfold occN
  show _ = (occL ps k ++ [occP (occL ps k) (ps[k]?.getD default)]) ++ _
  rw [List.append_assoc]
  congr 1
  rw [show ps.length - k - 1 = (ps.length - (k + 1) - 1) + 1 by omega, List.replicate_succ]; rfl
theorem occN_end {ps : List Piece} {k : Nat} (hk : k + 1 = ps.length) : occN ps k (occP (occL ps k) (ps[k]?.getD default)) = occL ps ps.length := by
  unfold occN
  rw [show ps.length - k - 1 = 0 by omega, ← hk]; rfl
theorem occN_zero {ps : List Piece} (h : 0 < ps.length) : occN ps 0 0 = List.replicate ps.length 0 := by
  unfold occN
  rw [show ps.length = (ps.length - 0 - 1) + 1 by omega, List.replicate_succ]; rfl
theorem occS_rng {cs : List Int} {a kid : Int} (ha : 0 ≤ a ∧ a ≤ 24) (hc : ∀ c ∈ cs, 0 ≤ c ∧ c ≤ 24) : 0 ≤ occS cs a kid ∧ occS cs a kid ≤ 24 := by
  unfold occS
  have h : 0 ≤ (cs[kid.toNat]?.getD 0) := by
    rcases Nat.lt_or_ge kid.toNat cs.length with h2 | h2
    · rw [List.getElem?_eq_getElem h2]; exact (hc _ (List.getElem_mem h2)).1
    rw [List.getElem?_eq_none h2]; exact Int.le_refl _
  omega
theorem occ_fold {cs : List Int} (hc : ∀ c ∈ cs, 0 ≤ c ∧ c ≤ 24) : ∀ (l : List Int) (a : Int), 0 ≤ a ∧ a ≤ 24 → 0 ≤ l.foldl (occS cs) a ∧ l.foldl (occS cs) a ≤ 24
  | [], _, h => h
  | _ :: l, _, h => occ_fold hc l _ (occS_rng h hc)
theorem occP_rng {cs : List Int} {x : Piece} (hc : ∀ c ∈ cs, 0 ≤ c ∧ c ≤ 24) : 0 ≤ occP cs x ∧ occP cs x ≤ 24 := by
  unfold occP; exact occ_fold hc _ _ (by split <;> omega)
theorem occL_rng (ps : List Piece) : ∀ k, ∀ c ∈ occL ps k, 0 ≤ c ∧ c ≤ 24
  | 0, c, h => by simp [occL] at h
  | k + 1, c, h => by
    unfold occL at h
    rcases List.mem_append.1 h with h1 | h1
    · exact occL_rng ps k c h1
    rw [List.mem_singleton.1 h1]; exact occP_rng (occL_rng ps k)
/-- the counts are the steps, cut at 24 -/
theorem occL_cnt {ps : List Piece} (hps : PsOk ps) : ∀ (n k : Nat), k ≤ ps.length → ∀ i, i < k → i < n → (occL ps k)[i]?.getD 0 = min (cntF ps n i : Int) 24
  | n, 0, _, i, h, _ => by omega
  | n, k + 1, hk, i, hi, hn => by
    rcases Nat.lt_or_ge i k with h1 | h1
    · unfold occL
      rw [List.getElem?_append_left (by rw [occL_len]; exact h1)]
      exact occL_cnt hps n k (by omega) i h1 hn
    have hik : i = k := by omega
    subst hik
    unfold occL
    rw [List.getElem?_append_right (by rw [occL_len]; omega), occL_len, Nat.sub_self]
    show occP (occL ps i) (ps[i]?.getD default) = _
    obtain ⟨n, rfl⟩ : ∃ m, n = m + 1 := ⟨n - 1, by omega⟩
    have hp := piece_iff.1 (hps i (by omega))
    unfold occP
    rw [show cntF ps (n + 1) i = if (ps[i]?.getD default).op = 1 then 1 else sumK (cntF ps n) (ps[i]?.getD default).kids from by conv => lhs; unfold cntF]
    by_cases h1 : (ps[i]?.getD default).op = 1
    · rw [if_pos h1, if_pos h1]
      have h2 : (ps[i]?.getD default).kids = [] := by
        rcases hp with h | h | h
        · exact List.length_eq_zero_iff.1 h.2.2.2
        · omega
        omega
      rw [h2]; rfl
    rw [if_neg h1, if_neg h1]
    have hkid : ∀ k ∈ (ps[i]?.getD default).kids, k.toNat < i := by
      intro k hk2
      have h3 : kidsOk (ps[i]?.getD default).kids i = true := by
        rcases hp with h | h | h
        · exact absurd h.1 h1
        · exact h.2.2.2
        exact h.2.2.2
      unfold kidsOk at h3
      have := inR_iff.1 (List.all_eq_true.1 h3 k hk2)
      omega
    have hgen : ∀ (l : List Int), (∀ k ∈ l, k.toNat < i) → ∀ (a : Int) (b : Nat), a = min (b : Int) 24 → l.foldl (occS (occL ps i)) a = min ((b + sumK (cntF ps n) l : Nat) : Int) 24 := by
      intro l
      induction l with
      | nil => intro _ a b h; exact h
      | cons k l ih =>
        intro hl a b h
        rw [List.foldl_cons]
        have h4 := occL_cnt hps n i (by omega) k.toNat (hl k (List.mem_cons_self ..)) (by have := hl k (List.mem_cons_self ..); omega)
        rw [ih (fun k hk => hl k (List.mem_cons_of_mem _ hk)) _ (b + cntF ps n k.toNat) (by unfold occS; rw [h4, h]; push_cast; omega)]
        simp only [sumK]; congr 2; push_cast; omega
    have := hgen _ hkid 0 0 (by decide)
    rw [this]; simp
theorem occ_cnt {ps : List Piece} (hps : PsOk ps) (h : 0 < ps.length) : occ ps = min (cntF ps ps.length (ps.length - 1) : Int) 24 :=
  occL_cnt hps ps.length ps.length (Nat.le_refl _) (ps.length - 1) (by omega) (by omega)
def occQ (ps : List Piece) (k j : Nat) : Int := ((ps[k]?.getD default).kids.take j).foldl (occS (occL ps k)) (if (ps[k]?.getD default).op = 1 then 1 else 0)
theorem occQ_zero (ps : List Piece) (k : Nat) : occQ ps k 0 = if (ps[k]?.getD default).op = 1 then 1 else 0 := rfl
theorem occQ_end (ps : List Piece) (k : Nat) : occQ ps k (ps[k]?.getD default).kids.length = occP (occL ps k) (ps[k]?.getD default) := by unfold occQ occP; rw [List.take_length]
theorem occQ_next {ps : List Piece} {k j : Nat} (hj : j < (ps[k]?.getD default).kids.length) : occQ ps k (j + 1) = occS (occL ps k) (occQ ps k j) ((ps[k]?.getD default).kids[j]?.getD 0) := by
  unfold occQ; rw [← List.take_append_getElem hj, List.foldl_append, List.getElem?_eq_getElem hj]; rfl
theorem occQ_rng (ps : List Piece) (k j : Nat) : 0 ≤ occQ ps k j ∧ occQ ps k j ≤ 24 := by
  unfold occQ; exact occ_fold (occL_rng ps k) _ _ (by split <;> omega)
def occA (ps : List Piece) (k : Nat) : List Int := if k < ps.length then occN ps k 0 else occL ps ps.length
theorem occA_lt {ps : List Piece} {k : Nat} (h : k < ps.length) : occA ps k = occN ps k 0 := if_pos h
theorem occA_end {ps : List Piece} : occA ps ps.length = occL ps ps.length := if_neg (by omega)
theorem occA_next {ps : List Piece} {k : Nat} (h : k < ps.length) : occN ps k (occQ ps k (ps[k]?.getD default).kids.length) = occA ps (k + 1) := by
  rw [occQ_end]
  unfold occA
  split
  · rename_i h1; exact occN_next h1
  rename_i h1; exact occN_end (by omega)
theorem occA_zero {ps : List Piece} (h : 1 ≤ ps.length) : occA ps 0 = List.replicate ps.length 0 := by rw [occA_lt h, occN_zero h]
theorem occA_len {ps : List Piece} {k : Nat} : (occA ps k).length = ps.length := by
  unfold occA; split
  · rename_i h; exact occN_len h
  exact occL_len _ _
theorem kid_rng' {ps : List Piece} (hps : PsOk ps) {i j : Nat} (hi : i < ps.length) (hj : j < (ps[i]?.getD default).kids.length) : 0 ≤ ((ps[i]?.getD default).kids[j]?.getD 0) ∧ ((ps[i]?.getD default).kids[j]?.getD 0) < i := by
  have h3 : kidsOk (ps[i]?.getD default).kids i = true := by
    rcases piece_iff.1 (hps i hi) with h1 | h1 | h1
    · omega
    · exact h1.2.2.2
    exact h1.2.2.2
  unfold kidsOk at h3
  rw [List.getElem?_eq_getElem hj]
  have := inR_iff.1 (List.all_eq_true.1 h3 _ (List.getElem_mem hj))
  simp only [Option.getD_some]; omega
theorem occ_go {ps : List Piece} {k j : Nat} (hj : j < (ps[k]?.getD default).kids.length) (hk : ((ps[k]?.getD default).kids[j]?.getD 0).toNat < k) :
    (if 24 < IntKind.i64.wrap ((occN ps k (occQ ps k j))[k]?.getD 0 + (occN ps k (occQ ps k j))[((ps[k]?.getD default).kids[j]?.getD 0).toNat]?.getD 0) then 24 else IntKind.i64.wrap ((occN ps k (occQ ps k j))[k]?.getD 0 + (occN ps k (occQ ps k j))[((ps[k]?.getD default).kids[j]?.getD 0).toNat]?.getD 0)) = occQ ps k (j + 1) := by
  rw [occN_get, occN_at hk, occQ_next hj]
  have h1 := occQ_rng ps k j
  have h2 : 0 ≤ ((occL ps k)[((ps[k]?.getD default).kids[j]?.getD 0).toNat]?.getD 0) ∧ ((occL ps k)[((ps[k]?.getD default).kids[j]?.getD 0).toNat]?.getD 0) ≤ 24 := by
    rw [List.getElem?_eq_getElem (by rw [occL_len]; exact hk)]
    exact occL_rng ps k _ (List.getElem_mem _)
  unfold occS
  rw [wrap_of (by omega) (by omega)]
  split <;> omega
attribute [local irreducible] occN occQ occA occL occ
--@ct impl.occurrences val occurrences_ct _ $1 ?_ ?_ ?_ | %1
theorem occurrences_ct (l : List Value) (p : Path) (h1 : 1 ≤ p.pieces.length) (h60 : p.pieces.length ≤ 60) (hps : PsOk p.pieces) : Ct Tryz.prog 210 [.agg ⟨l⟩] [] (fun H => gPath.rd H l p) (fun v A => v = .int .i64 (occ p.pieces) ∧ A = []) := by
  refine Ct.intro0 G_ok Tryz.func210 rfl rfl rfl fun E H hp => ?_
  obtain ⟨b0p, c0p, rfl, h0p⟩ := gPath_rd.1 hp
  have hwl : IntKind.i64.wrap ((((p.pieces.length : Int).toNat : Nat) : Int) - 1) = ((p.pieces.length - 1 : Nat) : Int) := by
    rw [Int.toNat_natCast, wrap_of (by omega) (by omega)]; omega
  refine VCnew.intro fun x0 => ?_
  refine VCmake.intro ?_ ?_ ?_ ?_ fun x1 => ?_
  · omega
  · omega
  · omega
  · omega
  apply loop_mod (α := (Nat) × (Hp)) G_ok [16, 17, 18, 19, 5, 4, 20, 21, 22, 23, 24, 25, 26, 27, 28, 29, 30, 31, 32, 7, 33, 34, 35, 36, 37, 38, 39, 40, 41, 42, 43, 44, 45, 46, 47, 15] (fun z => [(15, .v (.int .i64 z.1))]) (fun z => [{ id := x0, cs := [Value.slice b0p p.pieces.length c0p], ty := (205 : Nat) }]) (fun z => [z.2, H]) (fun z => p.pieces.length - z.1) (fun z => z.1 ≤ p.pieces.length ∧ (gSl 3 gI).ow [.slice (some ⟨x1, 0, none⟩) p.pieces.length p.pieces.length] (occA p.pieces z.1) z.2) ((0, _))
  · repeat' (first | exact trivial | refine ⟨⟨_, rfl, by first | rfl | exact inc_eq _ (by omega) | (refine sl_eq ?_; simp; done), by first | exact trivial | simp [SV.ok]⟩, ?_⟩)
  · exact ⟨rfl, trivial⟩
  · try dsimp only
    (rw [occA_zero h1]; exact ⟨Nat.zero_le _, gmake (gI_ow (x := 0) (by unfold okI; omega)) (Nat.le_refl _) (by omega)⟩)
  · exact .refl _
  rintro ⟨k, A⟩ hI
  obtain ⟨hk, oA⟩ : k ≤ p.pieces.length ∧ (gSl 3 gI).ow [.slice (some ⟨x1, 0, none⟩) p.pieces.length p.pieces.length] (occA p.pieces k) A := hI
  try dsimp only
  refine VCsplit.intro (fun q2 => ?_) (fun q2 => ?_)
  ·
    simp at q2
    rw [occA_lt (by omega)] at oA
    refine idx_rd h0p ?_ ?_ fun b3 o3 hb3 => ?_
    · omega
    · omega
    refine load_allN default (k) rfl h0p ?_ ?_ hb3 rfl (mem_at 1 rfl) fun l4 hl4 => ?_
    · omega
    · omega
    obtain ⟨b2x4, c2x4, rfl, w0x4, h2x4⟩ := gPiece_rd.1 hl4
    refine VCnew.intro fun x5 => ?_
    refine VCsplit.intro (fun q6 => ?_) (fun q6 => ?_)
    ·
      simp at q6
      refine idx_rd (Gt.owrd _ oA) ?_ ?_ fun b7 o7 hb7 => ?_
      · omega
      · (rw [occN_len (by omega)]; omega)
      refine gstoreN (Fld.id _) 0 (k) 0 rfl rfl oA ?_ ?_ hb7 rfl gI_pl _ (gI_ow ?_) fun A8 o8 => ?_
      · omega
      · (rw [occN_len (by omega)]; omega)
      · trivial
      apply loop_mod (α := (Nat) × (Hp)) G_ok [30, 31, 32, 7, 33, 34, 35, 36, 37, 38, 39, 40, 41, 42, 43, 44, 45, 46, 29] (fun z => [(29, .v (.int .i64 z.1))]) (fun z => [{ id := x0, cs := [Value.slice b0p p.pieces.length c0p], ty := (205 : Nat) }, { id := x5, cs := [Value.int IntKind.i64 (p.pieces[k]?.getD default).op, Value.int IntKind.u8 (↑(p.pieces[k]?.getD default).label.toNat : Int), Value.slice b2x4 (p.pieces[k]?.getD default).kids.length c2x4], ty := (279 : Nat) }]) (fun z => [z.2, H]) (fun z => (p.pieces[k]?.getD default).kids.length - z.1) (fun z => z.1 ≤ (p.pieces[k]?.getD default).kids.length ∧ (gSl 3 gI).ow [.slice (some ⟨x1, 0, none⟩) p.pieces.length p.pieces.length] (occN p.pieces k (occQ p.pieces k z.1)) z.2) ((0, _))
      · repeat' (first | exact trivial | refine ⟨⟨_, rfl, by first | rfl | exact inc_eq _ (by omega) | (refine sl_eq ?_; simp; done), by first | exact trivial | simp [SV.ok]⟩, ?_⟩)
      · exact ⟨rfl, rfl, trivial⟩
      · try dsimp only
        (rw [occQ_zero, if_pos ‹(p.pieces[k]?.getD default).op = 1›, ← occN_set (a := 0)]; exact ⟨Nat.zero_le _, by assumption⟩)
      · exact .refl _
      rintro ⟨j, B⟩ hI
      obtain ⟨hj, oB⟩ : j ≤ (p.pieces[k]?.getD default).kids.length ∧ (gSl 3 gI).ow [.slice (some ⟨x1, 0, none⟩) p.pieces.length p.pieces.length] (occN p.pieces k (occQ p.pieces k j)) B := hI
      try dsimp only
      refine VCsplit.intro (fun q9 => ?_) (fun q9 => ?_)
      ·
        simp at q9
        have hkd := kid_rng' hps (by omega : k < p.pieces.length) (by omega : j < (p.pieces[k]?.getD default).kids.length)
        have hkl := (rd_len (xs := (p.pieces[k]?.getD default).kids) (by assumption)).2
        have hq := occQ_rng p.pieces k j
        refine idx_rd h2x4 ?_ ?_ fun b10 o10 hb10 => ?_
        · omega
        · omega
        refine load_allN 0 (j) rfl h2x4 ?_ ?_ hb10 rfl (mem_at 1 rfl) fun l11 hl11 => ?_
        · omega
        · omega
        obtain ⟨rfl, hw11⟩ := hl11; simp only [flStr, flInt, okI] at hw11
        refine draw G_ok mixed (some 13) (.q 0 (.q 1 (.q 2 (.q 3 (.q 4 (.q 5 (.q 6 (.q 7 (.q 8 (.q 9 (.q 10 (.f 11 (.q 12 (.tl 13 (.nil))))))))))))))) (by decide +kernel) ?_
        refine idx_rd (Gt.owrd _ oB) ?_ ?_ fun b12 o12 hb12 => ?_
        · omega
        · (rw [occN_len (by omega)]; omega)
        refine load_allN 0 (k) rfl (Gt.owrd _ oB) ?_ ?_ hb12 rfl (mem_at 0 rfl) fun l13 hl13 => ?_
        · omega
        · (rw [occN_len (by omega)]; omega)
        obtain ⟨rfl, hw13⟩ := hl13; simp only [flStr, flInt, okI] at hw13
        refine idx_rd (Gt.owrd _ oB) ?_ ?_ fun b14 o14 hb14 => ?_
        · omega
        · (rw [occN_len (by omega)]; omega)
        refine load_all 0 (Gt.owrd _ oB) ?_ ?_ hb14 rfl (mem_at 0 rfl) fun l15 hl15 => ?_
        · omega
        · (rw [occN_len (by omega)]; omega)
        obtain ⟨rfl, hw15⟩ := hl15; simp only [flStr, flInt, okI] at hw15
        refine VC.intro ?_ ?_
        · exact fun _ h => h
        refine idx_rd (Gt.owrd _ oB) ?_ ?_ fun b16 o16 hb16 => ?_
        · omega
        · (rw [occN_len (by omega)]; omega)
        refine gstoreN (Fld.id _) 0 (k) 0 rfl rfl oB ?_ ?_ hb16 rfl gI_pl _ (gI_ow ?_) fun A17 o17 => ?_
        · omega
        · (rw [occN_len (by omega)]; omega)
        · (rw [occ_go (by omega) (by omega)]; have h9 := occQ_rng p.pieces k (j + 1); unfold okI; omega)
        apply loop_stepA (j + 1, _)
        · exact .refl _
        · repeat' (first | exact trivial | refine ⟨⟨_, rfl, by first | rfl | exact inc_eq _ (by omega) | (refine sl_eq ?_; simp; done), by first | exact trivial | simp [SV.ok]⟩, ?_⟩)
        · exact ⟨rfl, rfl, trivial⟩
        · try dsimp only
          (rw [← occ_go (by omega) (by omega), ← occN_set (a := occQ p.pieces k j)]; exact ⟨by omega, by assumption⟩)
        try dsimp only
        omega
      ·
        simp at q9
        obtain rfl : j = (p.pieces[k]?.getD default).kids.length := by omega
        rw [occA_next (by omega)] at oB
        apply loop_stepA (k + 1, _)
        · exact .refl _
        · repeat' (first | exact trivial | refine ⟨⟨_, rfl, by first | rfl | exact inc_eq _ (by omega) | (refine sl_eq ?_; simp; done), by first | exact trivial | simp [SV.ok]⟩, ?_⟩)
        · exact ⟨rfl, trivial⟩
        · try dsimp only
          exact ⟨by omega, oB⟩
        try dsimp only
        omega
    ·
      simp at q6
      apply loop_mod (α := (Nat) × (Hp)) G_ok [30, 31, 32, 7, 33, 34, 35, 36, 37, 38, 39, 40, 41, 42, 43, 44, 45, 46, 29] (fun z => [(29, .v (.int .i64 z.1))]) (fun z => [{ id := x0, cs := [Value.slice b0p p.pieces.length c0p], ty := (205 : Nat) }, { id := x5, cs := [Value.int IntKind.i64 (p.pieces[k]?.getD default).op, Value.int IntKind.u8 (↑(p.pieces[k]?.getD default).label.toNat : Int), Value.slice b2x4 (p.pieces[k]?.getD default).kids.length c2x4], ty := (279 : Nat) }]) (fun z => [z.2, H]) (fun z => (p.pieces[k]?.getD default).kids.length - z.1) (fun z => z.1 ≤ (p.pieces[k]?.getD default).kids.length ∧ (gSl 3 gI).ow [.slice (some ⟨x1, 0, none⟩) p.pieces.length p.pieces.length] (occN p.pieces k (occQ p.pieces k z.1)) z.2) ((0, _))
      · repeat' (first | exact trivial | refine ⟨⟨_, rfl, by first | rfl | exact inc_eq _ (by omega) | (refine sl_eq ?_; simp; done), by first | exact trivial | simp [SV.ok]⟩, ?_⟩)
      · exact ⟨rfl, rfl, trivial⟩
      · try dsimp only
        (rw [occQ_zero, if_neg ‹¬ (p.pieces[k]?.getD default).op = 1›]; exact ⟨Nat.zero_le _, oA⟩)
      · exact .refl _
      rintro ⟨j, B⟩ hI
      obtain ⟨hj, oB⟩ : j ≤ (p.pieces[k]?.getD default).kids.length ∧ (gSl 3 gI).ow [.slice (some ⟨x1, 0, none⟩) p.pieces.length p.pieces.length] (occN p.pieces k (occQ p.pieces k j)) B := hI
      try dsimp only
      refine VCsplit.intro (fun q18 => ?_) (fun q18 => ?_)
      ·
        simp at q18
        have hkd := kid_rng' hps (by omega : k < p.pieces.length) (by omega : j < (p.pieces[k]?.getD default).kids.length)
        have hkl := (rd_len (xs := (p.pieces[k]?.getD default).kids) (by assumption)).2
        have hq := occQ_rng p.pieces k j
        refine idx_rd h2x4 ?_ ?_ fun b19 o19 hb19 => ?_
        · omega
        · omega
        refine load_allN 0 (j) rfl h2x4 ?_ ?_ hb19 rfl (mem_at 1 rfl) fun l20 hl20 => ?_
        · omega
        · omega
        obtain ⟨rfl, hw20⟩ := hl20; simp only [flStr, flInt, okI] at hw20
        refine draw G_ok mixed (some 13) (.q 0 (.q 1 (.q 2 (.q 3 (.q 4 (.q 5 (.q 6 (.q 7 (.q 8 (.q 9 (.q 10 (.f 11 (.q 12 (.tl 13 (.nil))))))))))))))) (by decide +kernel) ?_
        refine idx_rd (Gt.owrd _ oB) ?_ ?_ fun b21 o21 hb21 => ?_
        · omega
        · (rw [occN_len (by omega)]; omega)
        refine load_allN 0 (k) rfl (Gt.owrd _ oB) ?_ ?_ hb21 rfl (mem_at 0 rfl) fun l22 hl22 => ?_
        · omega
        · (rw [occN_len (by omega)]; omega)
        obtain ⟨rfl, hw22⟩ := hl22; simp only [flStr, flInt, okI] at hw22
        refine idx_rd (Gt.owrd _ oB) ?_ ?_ fun b23 o23 hb23 => ?_
        · omega
        · (rw [occN_len (by omega)]; omega)
        refine load_all 0 (Gt.owrd _ oB) ?_ ?_ hb23 rfl (mem_at 0 rfl) fun l24 hl24 => ?_
        · omega
        · (rw [occN_len (by omega)]; omega)
        obtain ⟨rfl, hw24⟩ := hl24; simp only [flStr, flInt, okI] at hw24
        refine VC.intro ?_ ?_
        · exact fun _ h => h
        refine idx_rd (Gt.owrd _ oB) ?_ ?_ fun b25 o25 hb25 => ?_
        · omega
        · (rw [occN_len (by omega)]; omega)
        refine gstoreN (Fld.id _) 0 (k) 0 rfl rfl oB ?_ ?_ hb25 rfl gI_pl _ (gI_ow ?_) fun A26 o26 => ?_
        · omega
        · (rw [occN_len (by omega)]; omega)
        · (rw [occ_go (by omega) (by omega)]; have h9 := occQ_rng p.pieces k (j + 1); unfold okI; omega)
        apply loop_stepA (j + 1, _)
        · exact .refl _
        · repeat' (first | exact trivial | refine ⟨⟨_, rfl, by first | rfl | exact inc_eq _ (by omega) | (refine sl_eq ?_; simp; done), by first | exact trivial | simp [SV.ok]⟩, ?_⟩)
        · exact ⟨rfl, rfl, trivial⟩
        · try dsimp only
          (rw [← occ_go (by omega) (by omega), ← occN_set (a := occQ p.pieces k j)]; exact ⟨by omega, by assumption⟩)
        try dsimp only
        omega
      ·
        simp at q18
        obtain rfl : j = (p.pieces[k]?.getD default).kids.length := by omega
        rw [occA_next (by omega)] at oB
        apply loop_stepA (k + 1, _)
        · exact .refl _
        · repeat' (first | exact trivial | refine ⟨⟨_, rfl, by first | rfl | exact inc_eq _ (by omega) | (refine sl_eq ?_; simp; done), by first | exact trivial | simp [SV.ok]⟩, ?_⟩)
        · exact ⟨rfl, trivial⟩
        · try dsimp only
          exact ⟨by omega, oB⟩
        try dsimp only
        omega
  ·
    simp at q2
    refine idx_rd (Gt.owrd _ oA) ?_ ?_ fun b27 o27 hb27 => ?_
    · (simp (disch := omega) only [wrap_of]; omega)
    · (rw [occA_len]; omega)
    refine load_all 0 (Gt.owrd _ oA) ?_ ?_ hb27 rfl (mem_at 0 rfl) fun l28 hl28 => ?_
    · (simp (disch := omega) only [wrap_of]; omega)
    · (rw [occA_len]; omega)
    obtain ⟨rfl, hw28⟩ := hl28; simp only [flStr, flInt, okI] at hw28
    (have hke : k = p.pieces.length := (by omega); subst hke; rw [hwl, Int.toNat_natCast, occA_end]; exact ⟨[], ⟨by unfold occ; rfl, rfl⟩, (.le fun a => by (try simp only [setR, List.cons_append, List.nil_append]); simp [List.count_cons, Blk.ent, idOf]; try omega)⟩)
end Go.Proofs.YtcnclhjhnjpeiaaGreatDoor

namespace Go.Proofs.YtcnclhjhnjpeiaaGreatDoor
open Go.SX Go.Proofs
set_option linter.unusedSimpArgs false
set_option linter.unusedVariables false
set_option maxHeartbeats 8000000
attribute [local irreducible] IntKind.wrap
/-- cells of a block that lies in the rest of the memory -/
theorem load_ent {H : Hp} {b off s : Nat} {cs l : List Value} {T : TypeId} {F : List Value → Prop} (hm : (b, Obj.cells ⟨cs⟩ T) ∈ H) (hl : off + s ≤ cs.length) (e : (cs.drop off).take s = l) (c : F l) : VCload H b off s F := by
  subst e
  refine .intro _ ⟨by rw [List.length_take, List.length_drop]; omega, _, _, _, hm, fun j hj => ?_⟩ c
  rw [List.getElem?_take_of_lt hj, List.getElem?_drop]
  simp
def arcT (lb : List UInt8) (f : Int) (l : List Int) : List Arc := l.map fun j => ⟨f, lb[j.toNat]?.getD default, j + 1⟩
theorem arcT_next {lb : List UInt8} {f : Int} {l : List Int} {k : Nat} (h : k < l.length) : arcT lb f (l.take (k + 1)) = arcT lb f (l.take k) ++ [⟨f, lb[(l[k]?.getD 0).toNat]?.getD default, (l[k]?.getD 0) + 1⟩] := by
  unfold arcT
  rw [← List.take_append_getElem h, List.map_append, List.getElem?_eq_getElem h]; rfl
theorem arcT_from (lb : List UInt8) (f : Int) (m : Nat) : arcT lb f (bitsL m 32) = arcsFrom lb f m := rfl
theorem arcT_step {lb : List UInt8} {f : Int} {l : List Int} {xs : List Arc} {k : Nat} (h : k < l.length) (hw : IntKind.i64.wrap ((l[k]?.getD 0) + 1) = (l[k]?.getD 0) + 1) : (xs ++ arcT lb f (l.take k)) ++ [⟨f, lb[(l[k]?.getD 0).toNat]?.getD default, IntKind.i64.wrap ((l[k]?.getD 0) + 1)⟩] = xs ++ arcT lb f (l.take (k + 1)) := by
  rw [hw, arcT_next h, List.append_assoc]
--@ct impl.NfaOf$1 blk1s arcsFn_ct _ _ _ _ _ _ _ _ _ _ _ _ _ _ _ !o ?_ ?_ ?_ ?_ | ?_ | rintro _ A# ⟨ba#, ca#, AA#, rfl, rfl, oa#⟩ ;; refine ⟨_, _, [AA#], rfl, perm1, ?_⟩
theorem arcsFn_ct (q sb : Nat) (st ve v0 v2 : Value) (b bl : Option Addr) (c cl : Nat) (xs : List Arc) (A : Hp) (f : Int) (m : Nat) (lb : List UInt8) (ho : (gSl 282 gArc).ow [.slice b xs.length c] xs A) (hf : okI f) (hm : m < 2 ^ lb.length) (hl : lb.length ≤ 23) (hx : xs.length ≤ 1000000) :
    CtR Tryz.prog 212 [.int .i64 f, .int .u32 (m : Int), .pointer (some ⟨q, 0, none⟩), .pointer (some ⟨sb, 0, none⟩)] ((q, Obj.cells ⟨[st, .slice b xs.length c, ve]⟩ 212) :: A)
      (fun H => (sb, Obj.cells ⟨[v0, .slice bl lb.length cl, v2]⟩ 300) ∈ H ∧ (gSl 5 gY).rd H [.slice bl lb.length cl] lb)
      (fun v D => ∃ b' c' A', v = .tuple #[] ∧ D = (q, Obj.cells ⟨[st, .slice b' (xs ++ arcsFrom lb f m).length c', ve]⟩ 212) :: A' ∧ (gSl 282 gArc).ow [.slice b' (xs ++ arcsFrom lb f m).length c'] (xs ++ arcsFrom lb f m) A') := by
  refine CtR.introB G_ok [.v (.int .i64 f), .v (.int .u32 (m : Int)), .p 0 0, .v (.pointer (some ⟨sb, 0, none⟩))] [⟨q, [st, .slice b xs.length c, ve], 212⟩] [A] Tryz.func212 rfl rfl rfl rfl (by simp [SV.ok]) (by simp [Blk.ent]) fun E H hp => ?_
  obtain ⟨hms, hlb⟩ := hp
  have hm2 : m < 4294967296 := u32_of hm (by omega)
  have hbl := bitsL_len m 32
  refine call_new (bitsIn_ct _ ?_) trivial ?_
  · trivial
  rintro v0 A0 o0
  obtain ⟨b0, c0, rfl, o0⟩ := o0
  apply loop_mod (α := (Nat) × (Hp) × (Option Addr) × (Nat)) G_ok [12, 13, 14, 7, 15, 16, 17, 18, 19, 20, 21, 22, 23, 24, 25, 26, 27, 28, 29, 11] (fun z => [(11, .v (.int .i64 z.1))]) (fun z => [⟨q, [st, .slice z.2.2.1 (xs ++ arcT lb f ((bitsL m 32).take z.1)).length z.2.2.2, ve], (212 : TypeId)⟩]) (fun z => [z.2.1, A0, H]) (fun z => (bitsL m 32).length - z.1) (fun z => z.1 ≤ (bitsL m 32).length ∧ (gSl 282 gArc).ow [.slice z.2.2.1 (xs ++ arcT lb f ((bitsL m 32).take z.1)).length z.2.2.2] (xs ++ arcT lb f ((bitsL m 32).take z.1)) z.2.1) ((0, A, b, c))
  · repeat' (first | exact trivial | refine ⟨⟨_, rfl, by first | rfl | exact inc_eq _ (by omega) | (refine sl_eq ?_; simp; done), by first | exact trivial | simp [SV.ok]⟩, ?_⟩)
  · (simp only [List.take_zero, arcT, List.map_nil, List.append_nil]; repeat' (first | exact trivial | refine ⟨by first | rfl | simp [Blk.ent], ?_⟩))
  · try dsimp only
    (simp only [List.take_zero, arcT, List.map_nil, List.append_nil]; exact ⟨Nat.zero_le _, ho⟩)
  · exact .le fun a => by (try simp only [setR, List.cons_append, List.nil_append]); simp only [List.flatten_append, List.flatten_cons, List.flatten_nil, List.count_append, List.count_nil, List.append_nil, List.nil_append]; omega
  rintro ⟨k, X, by2, cy2⟩ hI
  obtain ⟨hk, oX⟩ : k ≤ (bitsL m 32).length ∧ (gSl 282 gArc).ow [.slice by2 (xs ++ arcT lb f ((bitsL m 32).take k)).length cy2] (xs ++ arcT lb f ((bitsL m 32).take k)) X := hI
  try dsimp only
  refine VCsplit.intro (fun q1 => ?_) (fun q1 => ?_)
  ·
    simp at q1
    have hb := bitsL_get hm (by omega : k < (bitsL m 32).length)
    have hst := arcT_step (lb := lb) (f := f) (xs := xs) (by omega : k < (bitsL m 32).length) (wrap_of (by omega) (by omega))
    have hxl : (xs ++ arcT lb f ((bitsL m 32).take k)).length ≤ 1000040 := (by rw [List.length_append]; unfold arcT; rw [List.length_map, List.length_take]; omega)
    refine idx_rd (Gt.owrd _ o0) ?_ ?_ fun b2 o2 hb2 => ?_
    · omega
    · omega
    refine load_allN 0 (k) rfl (Gt.owrd _ o0) ?_ ?_ hb2 rfl (mem_at 1 rfl) fun l3 hl3 => ?_
    · omega
    · omega
    obtain ⟨rfl, hw3⟩ := hl3; simp only [flStr, flInt, okI] at hw3
    refine draw G_ok mixed (some 12) (.q 0 (.q 1 (.q 2 (.q 3 (.q 4 (.q 5 (.q 6 (.q 7 (.q 8 (.q 9 (.q 10 (.f 11 (.tl 12 (.f 13 (.f 14 (.nil)))))))))))))))) (by decide +kernel) ?_
    refine load_ent (l := [.slice bl lb.length cl]) (mem_at 2 rfl _ hms) (by simp) rfl ?_
    refine idx_rd hlb ?_ ?_ fun b4 o4 hb4 => ?_
    · omega
    · omega
    refine load_all 0 hlb ?_ ?_ hb4 rfl (mem_at 2 rfl) fun l5 hl5 => ?_
    · omega
    · omega
    obtain ⟨rfl, hw5⟩ := hl5
    refine VCnew.intro fun x6 => ?_
    refine VC.intro ?_ ?_
    · exact keep_new
    refine gappend1 (g := gArc) (T := (282 : TypeId)) G_ok X _ [A0, H] ?_ oX ((gArc_ow (x := ⟨f, lb[((bitsL m 32)[k]?.getD 0).toNat]?.getD default, IntKind.i64.wrap ((bitsL m 32)[k]?.getD 0 + 1)⟩)).2 ⟨rfl, .refl _, hf, wrap_i64_ok _⟩) (List.mem_of_getElem? (i := 0) rfl) rfl rfl rfl rfl rfl rfl rfl rfl ?_ fun b7 c7 A7 o7 => ?_
    · exact .tl
    · omega
    apply loop_stepA (k + 1, _, _, _)
    · exact .refl _
    · repeat' (first | exact trivial | refine ⟨⟨_, rfl, by first | rfl | exact inc_eq _ (by omega) | (refine sl_eq ?_; simp; done), by first | exact trivial | simp [SV.ok]⟩, ?_⟩)
    · (rw [← hst]; repeat' (first | exact trivial | refine ⟨by first | rfl | simp [Blk.ent], ?_⟩))
    · try dsimp only
      exact ⟨by omega, by rw [← hst]; assumption⟩
    try dsimp only
    omega
  ·
    simp at q1
    (have hke : k = (bitsL m 32).length := (by omega); rw [hke, List.take_length, arcT_from] at oX ⊢; exact ⟨_, ⟨_, _, _, rfl, rfl, oX⟩, (.le fun a => by (try simp only [setR, List.cons_append, List.nil_append]); simp [List.count_cons, Blk.ent, idOf]; try omega)⟩)
end Go.Proofs.YtcnclhjhnjpeiaaGreatDoor

namespace Go.Proofs.YtcnclhjhnjpeiaaGreatDoor
open Go.SX Go.Proofs
set_option linter.unusedSimpArgs false
set_option linter.unusedVariables false
set_option maxHeartbeats 8000000
attribute [local irreducible] IntKind.wrap topV topL nfaOf cntF arcsK
def nfaR (x : Path) : Nfa × Bool := if pathOk x = true ∧ nfaGo x.pieces = true then (nfaOf x.pieces, true) else (zNfa, false)
theorem nfaR_no1 {x : Path} (h : pathOk x = false) : nfaR x = (zNfa, false) := if_neg fun h2 => by rw [h] at h2; cases h2.1
theorem nfaR_no2 {x : Path} (h : nfaGo x.pieces = false) : nfaR x = (zNfa, false) := if_neg fun h2 => by rw [h] at h2; cases h2.2
theorem nfaR_yes {x : Path} (h : pathOk x = true) (h2 : nfaGo x.pieces = true) : nfaR x = (nfaOf x.pieces, true) := if_pos ⟨h, h2⟩
theorem path_all {x : Path} (h : pathOk x = true) : 1 ≤ x.pieces.length ∧ x.pieces.length ≤ 60 ∧ PsOk x.pieces := by
  have h1 := h
  unfold pathOk at h1
  simp only [Bool.and_eq_true, decide_eq_true_iff] at h1
  exact ⟨h1.1, h1.2.1, psOk_of h⟩
theorem occ_go1 {ps : List Piece} (hps : PsOk ps) (h : 1 ≤ ps.length) (ho : 24 ≤ occ ps) : nfaGo ps = false := by
  rw [occ_cnt hps h] at ho
  exact decide_eq_false (by omega)
theorem occ_go2 {ps : List Piece} (hps : PsOk ps) (h : 1 ≤ ps.length) (ho : occ ps < 24) : nfaGo ps = true := by
  rw [occ_cnt hps h] at ho
  exact decide_eq_true (by omega)
theorem topVis_ct (ps : List Piece) (hps : PsOk ps) (hlen : ps.length ≤ 60) (h1 : 1 ≤ ps.length) (hg : nfaGo ps = true) (q : Nat) (ki : Int) (bp bl bf : Option Addr) (cp cl cf : Nat) (hk : ki = ((ps.length - 1 : Nat) : Int)) (hL : (gSl 5 gY).ow [.slice bl 0 cl] [] []) (hF : (gSl 301 gU).ow [.slice bf 0 cf] [] []) :
    CtR Tryz.prog 211 [.pointer (some ⟨q, 0, none⟩), .int .i64 ki] [(q, Obj.cells ⟨[.slice bp ps.length cp, .slice bl 0 cl, .slice bf 0 cf]⟩ 300)] (fun H => (gSl 279 gPiece).rd H [.slice bp ps.length cp] ps)
      (fun v D => ∃ bl' cl' bf' cf' AL' AF', v = .agg ⟨[.int .u32 ((topV ps).2.first : Nat), .int .u32 ((topV ps).2.last : Nat), .bool (topV ps).2.empty]⟩ ∧
        D = (q, Obj.cells ⟨[.slice bp ps.length cp, .slice bl' (topV ps).1.1.length cl', .slice bf' (topV ps).1.2.length cf']⟩ 300) :: (AL' ++ AF') ∧
        (gSl 5 gY).ow [.slice bl' (topV ps).1.1.length cl'] (topV ps).1.1 AL' ∧ (gSl 301 gU).ow [.slice bf' (topV ps).1.2.length cf'] (topV ps).1.2 AF') := by
  unfold topV
  exact vis_all ps hps hlen ps.length q ki (ps.length - 1) [] [] bp bl bf cp cl cf [] [] hk (by omega) (by omega) good_nil (by have := of_decide_eq_true hg; show 0 + _ ≤ 23; omega) hL hF
theorem endsI_next {e : Bool} {m n : Nat} : endsI e m (n + 1) = endsI e m n ++ [m.testBit n] := by
  unfold endsI; rw [List.range_succ, List.map_append]; rfl
theorem endsI_len {e : Bool} {m n : Nat} : (endsI e m n).length = n + 1 := by unfold endsI; simp
theorem arcsK_next {lb : List UInt8} {fo : List Nat} {first k : Nat} : arcsK lb fo first (k + 1) = arcsK lb fo first k ++ arcsFrom lb ((k : Int) + 1) (fo[k]?.getD 0) := by
  conv => lhs; unfold arcsK
theorem arcsK_zero {lb : List UInt8} {fo : List Nat} {first : Nat} : arcsK lb fo first 0 = arcsFrom lb 0 first := by unfold arcsK; rfl
theorem arcsFn2_ct (q sb : Nat) (st ve v0 v2 : Value) (b bl : Option Addr) (c cl n : Nat) (xs : List Arc) (A : Hp) (f : Int) (m : Nat) (lb : List UInt8) (ho : (gSl 282 gArc).ow [.slice b n c] xs A) (hf : okI f) (hm : m < 2 ^ lb.length) (hl : lb.length ≤ 23) (hx : xs.length ≤ 1000000) :
    CtR Tryz.prog 212 [.int .i64 f, .int .u32 (m : Int), .pointer (some ⟨q, 0, none⟩), .pointer (some ⟨sb, 0, none⟩)] ((q, Obj.cells ⟨[st, .slice b n c, ve]⟩ 212) :: A)
      (fun H => (sb, Obj.cells ⟨[v0, .slice bl lb.length cl, v2]⟩ 300) ∈ H ∧ (gSl 5 gY).rd H [.slice bl lb.length cl] lb)
      (fun v D => ∃ b' c' A', v = .tuple #[] ∧ D = (q, Obj.cells ⟨[st, .slice b' (xs ++ arcsFrom lb f m).length c', ve]⟩ 212) :: A' ∧ (gSl 282 gArc).ow [.slice b' (xs ++ arcsFrom lb f m).length c'] (xs ++ arcsFrom lb f m) A') := by
  obtain ⟨rfl, -, -⟩ := sl_len (Gt.owrd _ ho)
  exact arcsFn_ct q sb st ve v0 v2 b bl c cl xs A f m lb ho hf hm hl hx
theorem sub_hall {A : Hp} {R : List Hp} {bl : List Blk} {fr : Fr} (h : A ∈ R) : ∀ p ∈ A, p ∈ St.hall ⟨fr, bl, R⟩ := fun p hp => List.mem_append_right _ (List.mem_flatten.2 ⟨A, h, hp⟩)
theorem top_le {ps : List Piece} (hps : PsOk ps) (h : 1 ≤ ps.length) (hg : nfaGo ps = true) : (topV ps).1.1.length ≤ 23 ∧ (topV ps).1.2.length = (topV ps).1.1.length ∧ (topV ps).2.first < 2 ^ (topV ps).1.1.length ∧ (topV ps).2.last < 4294967296 ∧ ∀ k, k < (topV ps).1.2.length → ((topV ps).1.2[k]?.getD 0) < 2 ^ (topV ps).1.1.length := by
  have h1 := topV_fine hps h
  have h2 := of_decide_eq_true hg
  obtain ⟨⟨a1, a2⟩, a3, a4, a5⟩ := h1
  have h3 : (topV ps).1.1.length ≤ 23 := by rw [a3]; show 0 + _ ≤ 23; omega
  refine ⟨h3, a1.symm, a4, u32_of a5 (by omega), fun k hk => ?_⟩
  rw [List.getElem?_eq_getElem hk]
  exact a2 _ (List.getElem_mem hk)
theorem nfa_done {ps : List Piece} (hps : PsOk ps) (h : 1 ≤ ps.length) (hg : nfaGo ps = true) {xs : List Arc} (hp : xs.Perm (arcsK (topV ps).1.1 (topV ps).1.2 (topV ps).2.first (topV ps).1.2.length)) (hs : xs.Pairwise fun a b => ltOf cmpA b a = false) :
    nfaOf ps = ⟨((topV ps).1.1.length + 1 : Nat), xs, endsI (topV ps).2.empty (topV ps).2.last (topV ps).1.2.length⟩ := by
  have e1 := top_arcs hps h hg hp hs
  have e2 := top_ends hps h hg
  have e3 := (top_rel hps h hg).1.1
  rw [e1, e2, e3]
  unfold nfaOf; rfl
theorem ends_lit {x : Nat} {e : Bool} : (gSl 4 gB).ow [.slice (some ⟨x, 0, none⟩) 1 1] [e] [(x, Obj.cells ⟨[.bool e]⟩ 4)] :=
  ow_fl (Ow.lit (f := flBool) (T := 4) (b := x) (xs := [e]) (by simp [flBool]) (by simp))
theorem endsI_zero {e : Bool} {m : Nat} : endsI e m 0 = [e] := rfl
theorem bit_eq {s k : Nat} (hs : s < 4294967296) (hk : k < 32) : (IntKind.u32.wrap (((BitVec.ofInt IntKind.u32.bits (((s : Nat) : Int).fdiv (2 ^ min (IntKind.u64.wrap (k : Int)).toNat IntKind.u32.bits)) &&& BitVec.ofInt IntKind.u32.bits 1).toNat : Nat) : Int) == 1) = s.testBit k := by
  rw [bit_at hs hk]
  cases s.testBit k <;> rfl
theorem step_arcs {lb : List UInt8} {fo : List Nat} {first k : Nat} (h : k < 100) : arcsK lb fo first k ++ arcsFrom lb (IntKind.i64.wrap ((k : Int) + 1)) (fo[k]?.getD default) = arcsK lb fo first (k + 1) := by
  rw [arcsK_next, wrap_of (by omega) (by omega)]; rfl
theorem step_ends {e : Bool} {s k : Nat} (hs : s < 4294967296) (hk : k < 32) : endsI e s k ++ [IntKind.u32.wrap (((BitVec.ofInt IntKind.u32.bits (((s : Nat) : Int).fdiv (2 ^ min (IntKind.u64.wrap (k : Int)).toNat IntKind.u32.bits)) &&& BitVec.ofInt IntKind.u32.bits 1).toNat : Nat) : Int) == 1] = endsI e s (k + 1) := by
  rw [endsI_next, bit_eq hs hk]
--@ct impl.NfaOf new implNfaOf_ct _ $1 | %1 | obtain ⟨b#, c#, bb#, cc#, rfl, o#⟩ := o#
theorem implNfaOf_ct (l : List Value) (x : Path) :
    Ct Tryz.prog 198 [.agg ⟨l⟩] [] (fun H => gPath.rd H l x) (fun v A => ∃ b c b2 c2, v = .tuple #[.agg ⟨[.int .i64 (nfaR x).1.states, .slice b (nfaR x).1.arcs.length c, .slice b2 (nfaR x).1.ends.length c2]⟩, .bool (nfaR x).2] ∧ gNfa.ow [.int .i64 (nfaR x).1.states, .slice b (nfaR x).1.arcs.length c, .slice b2 (nfaR x).1.ends.length c2] (nfaR x).1 A) := by
  refine Ct.intro0 G_ok Tryz.func198 rfl rfl rfl fun E H hp => ?_
  obtain ⟨b0p, c0p, rfl, h0p⟩ := gPath_rd.1 hp
  refine VCnew.intro fun x0 => ?_
  refine VCnew.intro fun x1 => ?_
  refine call_val (implPathOk_ct _ (x)) (Rp.mono _ (mem_at 0 rfl) hp) ?_
  rintro _ rfl
  refine VCsplit.intro (fun q3 => ?_) (fun q3 => ?_)
  ·
    simp at q3
    (rw [nfaR_no1 (by assumption)]; exact ⟨[], ⟨none, 0, none, 0, rfl, zNfa_ow⟩, (.le fun a => by (try simp only [setR, List.cons_append, List.nil_append]); simp [List.count_cons, Blk.ent, idOf]; try omega)⟩)
  ·
    simp at q3
    have hpo3 := path_all q3
    refine call_val (occurrences_ct _ (x) (path_all ‹pathOk x = true›).1 (path_all ‹pathOk x = true›).2.1 (path_all ‹pathOk x = true›).2.2) (Rp.mono _ (mem_at 0 rfl) hp) ?_
    rintro _ rfl
    refine VCsplit.intro (fun q5 => ?_) (fun q5 => ?_)
    ·
      simp at q5
      (rw [nfaR_no2 (occ_go1 (path_all ‹pathOk x = true›).2.2 (path_all ‹pathOk x = true›).1 (by omega))]; exact ⟨[], ⟨none, 0, none, 0, rfl, zNfa_ow⟩, (.le fun a => by (try simp only [setR, List.cons_append, List.nil_append]); simp [List.count_cons, Blk.ent, idOf]; try omega)⟩)
    ·
      simp at q5
      have hgo := occ_go2 (path_all ‹pathOk x = true›).2.2 (path_all ‹pathOk x = true›).1 (by omega)
      obtain ⟨ht1, ht2, ht3, ht4, ht5⟩ := top_le (path_all ‹pathOk x = true›).2.2 (path_all ‹pathOk x = true›).1 hgo
      have hst : IntKind.i64.wrap (((topV x.pieces).1.1.length : Int) + 1) = (((topV x.pieces).1.1.length + 1 : Nat) : Int) := (by rw [wrap_of (by omega) (by omega)]; omega)
      refine VCnew.intro fun x6 => ?_
      refine callR_blk 2 ([]) [H] rfl ?_ (topVis_ct x.pieces (path_all ‹pathOk x = true›).2.2 (path_all ‹pathOk x = true›).2.1 (path_all ‹pathOk x = true›).1 (occ_go2 (path_all ‹pathOk x = true›).2.2 (path_all ‹pathOk x = true›).1 (by omega)) _ _ _ _ _ _ _ _ ?_ (sl_nil _ _ _) (sl_nil _ _ _)) (Rp.mono _ (mem_at 0 rfl) h0p) ?_
      · exact .refl _
      · (simp (disch := omega) only [wrap_of]; omega)
      rintro _ A7 ⟨bl1, cl1, bf1, cf1, AL1, AF1, rfl, rfl, oL1, oF1⟩
      refine ⟨_, _, [AL1, AF1], rfl, perm2, ?_⟩
      refine VCnew.intro fun x8 => ?_
      refine VCnew.intro fun x9 => ?_
      refine VCnew.intro fun x10 => ?_
      refine callR_blk 4 ([]) [[(x9, Obj.cells { toList := Value.bool (topV x.pieces).snd.empty :: [].append (zeros (nat_lit 0) [Value.bool false]) } (4 : TypeId))], AL1, AF1, H] rfl ?_ (arcsFn2_ct _ _ _ _ (.slice b0p x.pieces.length c0p) (.slice bf1 (topV x.pieces).1.2.length cf1) _ bl1 _ cl1 _ _ _ _ _ (topV x.pieces).1.1 (sl_nil _ _ _) ?_ ?_ ?_ ?_) ⟨(by simp [St.hall, delBlk, Blk.ent, idOf]), (Rp.mono _ (sub_hall (by simp)) (Gt.owrd _ oL1))⟩ ?_
      · exact .refl _
      · trivial
      · trivial
      · trivial
      · trivial
      rintro _ A11 ⟨ba11, ca11, AA11, rfl, rfl, oa11⟩
      refine ⟨_, _, [AA11], rfl, perm1, ?_⟩
      apply loop_mod (α := (Nat) × (Hp) × (Option Addr) × (Nat) × (Hp) × (Option Addr) × (Nat)) G_ok [43, 44, 45, 46, 8, 9, 47, 48, 49, 50, 51, 52, 53, 54, 55, 56, 57, 58, 59, 60, 61, 62, 63, 64, 42] (fun z => [(42, .v (.int .i64 z.1))]) (fun z => [⟨x0, [Value.slice b0p x.pieces.length c0p], (205 : Nat)⟩, ⟨x1, [Value.int IntKind.i64 (0 : Int), Value.slice none (0 : Nat) (0 : Nat), Value.slice none (0 : Nat) (0 : Nat)], (212 : Nat)⟩, ⟨x6, [Value.slice b0p x.pieces.length c0p, Value.slice bl1 (topV x.pieces).fst.fst.length cl1, Value.slice bf1 (topV x.pieces).fst.snd.length cf1], (300 : Nat)⟩, ⟨x8, [Value.int IntKind.u32 (↑(topV x.pieces).snd.first : Int), Value.int IntKind.u32 (↑(topV x.pieces).snd.last : Int), Value.bool (topV x.pieces).snd.empty], (303 : Nat)⟩, ⟨x10, [Value.int IntKind.i64 (IntKind.i64.wrap ((↑(topV x.pieces).fst.fst.length : Int) + (1 : Int))), .slice z.2.2.1 (arcsK (topV x.pieces).1.1 (topV x.pieces).1.2 (topV x.pieces).2.first z.1).length z.2.2.2.1, .slice z.2.2.2.2.2.1 (endsI (topV x.pieces).2.empty (topV x.pieces).2.last z.1).length z.2.2.2.2.2.2], (212 : Nat)⟩]) (fun z => [z.2.1, z.2.2.2.2.1, AL1, AF1, H]) (fun z => (topV x.pieces).1.2.length - z.1) (fun z => z.1 ≤ (topV x.pieces).1.2.length ∧ (gSl 282 gArc).ow [.slice z.2.2.1 (arcsK (topV x.pieces).1.1 (topV x.pieces).1.2 (topV x.pieces).2.first z.1).length z.2.2.2.1] (arcsK (topV x.pieces).1.1 (topV x.pieces).1.2 (topV x.pieces).2.first z.1) z.2.1 ∧ (gSl 4 gB).ow [.slice z.2.2.2.2.2.1 (endsI (topV x.pieces).2.empty (topV x.pieces).2.last z.1).length z.2.2.2.2.2.2] (endsI (topV x.pieces).2.empty (topV x.pieces).2.last z.1) z.2.2.2.2.1) ((0, _, _, _, _, _, _))
      · repeat' (first | exact trivial | refine ⟨⟨_, rfl, by first | rfl | exact inc_eq _ (by omega) | (refine sl_eq ?_; simp; done), by first | exact trivial | simp [SV.ok]⟩, ?_⟩)
      · (simp only [endsI_zero, arcsK_zero, List.nil_append, List.length_singleton]; repeat' (first | exact trivial | refine ⟨by first | rfl | simp [Blk.ent], ?_⟩))
      · try dsimp only
        (simp only [endsI_zero, arcsK_zero, List.nil_append] at *; exact ⟨Nat.zero_le _, by assumption, ends_lit⟩)
      · exact .refl _
      rintro ⟨k, X, by2, cy2, W, bw, cw⟩ hI
      obtain ⟨hk, oX, oW⟩ : k ≤ (topV x.pieces).1.2.length ∧ (gSl 282 gArc).ow [.slice by2 (arcsK (topV x.pieces).1.1 (topV x.pieces).1.2 (topV x.pieces).2.first k).length cy2] (arcsK (topV x.pieces).1.1 (topV x.pieces).1.2 (topV x.pieces).2.first k) X ∧ (gSl 4 gB).ow [.slice bw (endsI (topV x.pieces).2.empty (topV x.pieces).2.last k).length cw] (endsI (topV x.pieces).2.empty (topV x.pieces).2.last k) W := hI
      try dsimp only
      refine VCsplit.intro (fun q12 => ?_) (fun q12 => ?_)
      ·
        simp at q12
        have hal := arcsK_len (topV x.pieces).1.1 (topV x.pieces).1.2 (topV x.pieces).2.first k
        have hel : (endsI (topV x.pieces).2.empty (topV x.pieces).2.last k).length = k + 1 := endsI_len
        have hX9 := step_arcs (lb := (topV x.pieces).1.1) (fo := (topV x.pieces).1.2) (first := (topV x.pieces).2.first) (k := k) (by omega)
        have hW9 := step_ends (e := (topV x.pieces).2.empty) (s := (topV x.pieces).2.last) (k := k) ht4 (by omega)
        refine idx_rd (Gt.owrd _ oF1) ?_ ?_ fun b13 o13 hb13 => ?_
        · omega
        · omega
        refine load_allN default (k) rfl (Gt.owrd _ oF1) ?_ ?_ hb13 rfl (mem_at 3 rfl) fun l14 hl14 => ?_
        · omega
        · omega
        obtain ⟨rfl, hw14⟩ := hl14; simp only [flU] at hw14
        refine VC.intro ?_ ?_
        · (rw [w64u]; omega)
        refine VCnew.intro fun x15 => ?_
        refine gappend1 (g := gB) (T := (4 : TypeId)) G_ok W [] [X, AL1, AF1, H] ?_ oW (gB_ow ?_) (List.mem_of_getElem? (i := 0) rfl) rfl rfl rfl rfl rfl rfl rfl rfl ?_ fun b16 c16 A16 o16 => ?_
        · exact .le fun a => by (try simp only [setR, List.cons_append, List.nil_append]); simp only [List.flatten_append, List.flatten_cons, List.flatten_nil, List.count_append, List.count_nil, List.append_nil, List.nil_append]; omega
        · trivial
        · omega
        refine callR_blk 4 (X) [A16, AL1, AF1, H] rfl ?_ (arcsFn2_ct _ _ _ _ (.slice b0p x.pieces.length c0p) (.slice bf1 (topV x.pieces).1.2.length cf1) _ bl1 _ cl1 _ _ _ _ _ (topV x.pieces).1.1 oX ?_ ?_ ?_ ?_) ⟨(by simp [St.hall, delBlk, Blk.ent, idOf]), (Rp.mono _ (sub_hall (by simp)) (Gt.owrd _ oL1))⟩ ?_
        · exact .le fun a => by (try simp only [setR, List.cons_append, List.nil_append]); simp only [List.flatten_append, List.flatten_cons, List.flatten_nil, List.count_append, List.count_nil, List.append_nil, List.nil_append]; omega
        · exact okI_wrap _
        · simp_all
        · trivial
        · omega
        rintro _ A17 ⟨ba17, ca17, AA17, rfl, rfl, oa17⟩
        refine ⟨_, _, [AA17], rfl, perm1, ?_⟩
        apply loop_stepA (k + 1, _, _, _, _, _, _)
        · exact .refl _
        · repeat' (first | exact trivial | refine ⟨⟨_, rfl, by first | rfl | exact inc_eq _ (by omega) | (refine sl_eq ?_; simp; done), by first | exact trivial | simp [SV.ok]⟩, ?_⟩)
        · (rw [← hX9, ← hW9]; repeat' (first | exact trivial | refine ⟨by first | rfl | simp [Blk.ent], ?_⟩))
        · try dsimp only
          exact ⟨by omega, by rw [← hX9]; assumption, by rw [← hW9]; assumption⟩
        try dsimp only
        omega
      ·
        simp at q12
        have hal := arcsK_len (topV x.pieces).1.1 (topV x.pieces).1.2 (topV x.pieces).2.first k
        have hke : k = (topV x.pieces).1.2.length := (by omega)
        refine callR_part (X) [W, AL1, AF1, H] (sortArcs_ct _ _ _ _ _ oX ?_) ?_ trivial ?_
        · omega
        · exact .refl _
        rintro _ A18 ⟨rfl, xs9, hp9, hs9, o9⟩
        have hxl9 := hp9.length_eq
        refine ⟨[A18], by simp, ?_⟩
        (subst hke; rw [nfaR_yes ‹pathOk x = true› hgo, nfa_done (path_all ‹pathOk x = true›).2.2 (path_all ‹pathOk x = true›).1 hgo hp9 hs9, hst, ← hxl9]; exact ⟨_, ⟨_, _, _, _, rfl, gNfa_ow.2 ⟨_, _, _, _, _, _, rfl, .refl _, (by unfold okI; dsimp only; omega), by assumption, oW⟩⟩, (.le fun a => by (try simp only [setR, List.cons_append, List.nil_append]); simp [List.count_cons, Blk.ent, idOf]; try omega)⟩)
end Go.Proofs.YtcnclhjhnjpeiaaGreatDoor

namespace Go.Proofs.YtcnclhjhnjpeiaaGreatDoor
open Go.SX Go.Proofs
set_option linter.unusedSimpArgs false
set_option linter.unusedVariables false
set_option maxHeartbeats 8000000
theorem allK_all {p : Nat → Bool} : ∀ {n : Nat}, (∀ i, i < n → p i = true) → allK p n = true
  | 0, _ => rfl
  | n + 1, h => allK_step (allK_all fun i hi => h i (by omega)) (h n (by omega))
theorem nfaOk_of {n : Nat} {lb : List UInt8} {xs : List Arc} {ends : List Bool} (hg : GoodM (lb, xs)) (hl : lb.length = n) (hn : n ≤ 23) (he : ends.length = n + 1) : nfaOk ⟨((n + 1 : Nat) : Int), xs, ends⟩ = true := by
  obtain ⟨⟨g1, g2⟩, g3, g4⟩ := hg
  refine nfaOk_yes (by show (1 : Int) ≤ ((n + 1 : Nat) : Int) ∧ ((n + 1 : Nat) : Int) ≤ 24; omega) (by show ((ends.length : Nat) : Int) = ((n + 1 : Nat) : Int); rw [he]) (allK_all fun i hi => ?_)
  have hi : i < xs.length := hi
  have e1 : (xs[i]?.getD default) = xs[i] := by rw [List.getElem?_eq_getElem hi]; rfl
  have hm := List.getElem_mem hi
  have r := g2 _ hm
  have q := g4 _ hm
  unfold rngA at r
  have q2 : xs[i].from' ≤ (n : Int) ∧ xs[i].to ≤ (n : Int) := by
    have := q.2; rw [show (lb, xs).1.length = n from hl] at this; exact this
  unfold arcOk
  show (inR 0 (((n + 1 : Nat) : Int) - 1) (xs[i]?.getD default).from' && (inR 0 (((n + 1 : Nat) : Int) - 1) (xs[i]?.getD default).to && (labelOk (xs[i]?.getD default).label && (decide (i = 0) || arcLess (xs[i - 1]?.getD default) (xs[i]?.getD default))))) = true
  rw [e1, inR_iff.2 (by omega), inR_iff.2 (by omega), q.1, Bool.true_and, Bool.true_and, Bool.true_and]
  rcases Nat.eq_zero_or_pos i with h0 | h0
  · rw [decide_eq_true h0]; rfl
  have hi1 : i - 1 < xs.length := by omega
  have e2 : (xs[i - 1]?.getD default) = xs[i - 1] := by rw [List.getElem?_eq_getElem hi1]; rfl
  rw [e2, Bool.or_eq_true]
  exact .inr ((less_code (g2 _ (List.getElem_mem hi1)) (g2 _ hm)).2 (List.pairwise_iff_getElem.1 g1 (i - 1) i hi1 hi (by omega)))
def endF (l : List Int) (e : List Bool) : List Bool := l.foldl (fun e i => e.set i.toNat true) e
theorem endF_len : ∀ (l : List Int) (e : List Bool), (endF l e).length = e.length
  | [], _ => rfl
  | i :: l, e => (endF_len l (e.set i.toNat true)).trans List.length_set
theorem endF_step {l : List Int} {e : List Bool} {k : Nat} (h : k < l.length) : endF (l.take (k + 1)) e = (endF (l.take k) e).set (l[k]?.getD 0).toNat true := by
  unfold endF
  rw [← List.take_append_getElem h, List.foldl_append, List.getElem?_eq_getElem h]; rfl
theorem endF_get : ∀ (l : List Int) (e : List Bool) (k : Nat), k < e.length → (endF l e)[k]? = if (∃ i ∈ l, i.toNat = k) then some true else e[k]?
  | [], e, k, _ => by rw [if_neg (by rintro ⟨i, h, _⟩; cases h)]; rfl
  | i :: l, e, k, hk => by
    show (endF l (e.set i.toNat true))[k]? = _
    rw [endF_get l _ k (by rw [List.length_set]; exact hk)]
    by_cases h1 : ∃ j ∈ l, j.toNat = k
    · rw [if_pos h1, if_pos]
      obtain ⟨j, h2, h3⟩ := h1
      exact ⟨j, List.mem_cons_of_mem _ h2, h3⟩
    rw [if_neg h1]
    by_cases h2 : i.toNat = k
    · rw [if_pos ⟨i, List.mem_cons_self .., h2⟩, h2, List.getElem?_set, if_pos rfl, if_pos hk]
    rw [if_neg, List.getElem?_set, if_neg h2]
    rintro ⟨j, h3, h4⟩
    rcases List.mem_cons.1 h3 with rfl | h3
    · exact h2 h4
    exact h1 ⟨j, h3, h4⟩
theorem ends_done {n : Nat} {l : List Int} {e : Bool} (h : ToOk n l) : endF l (e :: List.replicate n false) = endsS e l n := by
  apply List.ext_getElem?
  intro k
  unfold endsS
  rcases Nat.lt_or_ge k (n + 1) with hk | hk
  · rw [endF_get _ _ _ (by simpa using hk)]
    cases k with
    | zero =>
      rw [if_neg]
      · rfl
      rintro ⟨i, h1, h2⟩
      have := h i h1
      omega
    | succ k =>
      have e1 : (List.replicate n false)[k]? = some false := by rw [List.getElem?_replicate, if_pos (by omega)]
      rw [List.getElem?_cons_succ, List.getElem?_cons_succ, e1, List.getElem?_map, List.getElem?_range (by omega)]
      show _ = some (decide (((k : Int) + 1) ∈ l))
      by_cases h1 : ((k : Int) + 1) ∈ l
      · rw [decide_eq_true h1]; exact if_pos ⟨_, h1, by omega⟩
      rw [decide_eq_false h1]
      refine if_neg ?_
      rintro ⟨i, h2, h3⟩
      have := h i h2
      exact h1 (by rw [show (k : Int) + 1 = i by omega]; exact h2)
  rw [List.getElem?_eq_none (by rw [endF_len]; simpa using hk), List.getElem?_eq_none (by simpa using hk)]
theorem look_all (ps : List Piece) (hps : PsOk ps) (hlen : ps.length ≤ 60) : ∀ n, LookCt ps n
  | 0 => by intro q ki i lb xs bp bl ba cp cl ca AL AX bd _ _ h; omega
  | n + 1 => look_ct ps n hps hlen (look_all ps hps hlen n)
attribute [local irreducible] IntKind.wrap topV topL nfaOf cntF arcsK joinA endF
theorem topLook_ct (ps : List Piece) (hps : PsOk ps) (hlen : ps.length ≤ 60) (h1 : 1 ≤ ps.length) (q : Nat) (ki : Int) (bp bl ba : Option Addr) (cp cl ca : Nat) (hk : ki = ((ps.length - 1 : Nat) : Int)) (hL : (gSl 5 gY).ow [.slice bl 0 cl] [] []) (hX : (gSl 282 gArc).ow [.slice ba 0 ca] [] []) :
    CtR Tryz.prog 175 [.pointer (some ⟨q, 0, none⟩), .int .i64 ki] [(q, Obj.cells ⟨[.slice bp ps.length cp, .slice bl 0 cl, .slice ba 0 ca, .bool false]⟩ 249)] (fun H => (gSl 279 gPiece).rd H [.slice bp ps.length cp] ps)
      (fun v D => ∃ bl' cl' ba' ca' AL' AX' b1 c1 A1 b2 c2 A2, v = .agg ⟨[.slice b1 (topL ps).2.first.length c1, .slice b2 (topL ps).2.last.length c2, .bool (topL ps).2.null]⟩ ∧
        D = (q, Obj.cells ⟨[.slice bp ps.length cp, .slice bl' (topL ps).1.1.length cl', .slice ba' (topL ps).1.2.length ca', .bool (badM (topL ps).1)]⟩ 249) :: (AL' ++ (AX' ++ (A1 ++ A2))) ∧
        (gSl 5 gY).ow [.slice bl' (topL ps).1.1.length cl'] (topL ps).1.1 AL' ∧ (gSl 282 gArc).ow [.slice ba' (topL ps).1.2.length ca'] (topL ps).1.2 AX' ∧
        (gSl 3 gI).ow [.slice b1 (topL ps).2.first.length c1] (topL ps).2.first A1 ∧ (gSl 3 gI).ow [.slice b2 (topL ps).2.last.length c2] (topL ps).2.last A2) := by
  unfold topL
  exact look_all ps hps hlen ps.length q ki (ps.length - 1) [] [] bp bl ba cp cl ca [] [] false hk (by omega) (by omega) rfl goodM_nil (by show 0 ≤ 23; omega) hL hX
theorem top_bad {ps : List Piece} (hps : PsOk ps) (h : 1 ≤ ps.length) (hb : badM (topL ps).1 = true) : nfaGo ps = false := by
  have hf := (topL_fine hps h).2.1
  have h1 := of_decide_eq_true hb
  have hf : (topL ps).1.1.length = min 24 (0 + cntF ps ps.length (ps.length - 1)) := hf
  exact decide_eq_false (by omega)
theorem top_good {ps : List Piece} (hps : PsOk ps) (h : 1 ≤ ps.length) (hb : badM (topL ps).1 = false) : nfaGo ps = true ∧ (topL ps).1.1.length ≤ 23 ∧ GoodM (topL ps).1 ∧ ToOk (topL ps).1.1.length (topL ps).2.first ∧ ToOk (topL ps).1.1.length (topL ps).2.last ∧ (topL ps).2.first.length ≤ 23 ∧ (topL ps).2.last.length ≤ 23 := by
  obtain ⟨f1, f2, f3, f4, f5, f6⟩ := topL_fine hps h
  have h1 := of_decide_eq_false hb
  have f2 : (topL ps).1.1.length = min 24 (0 + cntF ps ps.length (ps.length - 1)) := f2
  have f5 : (topL ps).2.first.length + 0 ≤ (topL ps).1.1.length := f5
  have f6 : (topL ps).2.last.length + 0 ≤ (topL ps).1.1.length := f6
  exact ⟨decide_eq_true (by omega), by omega, f1, f3, f4, by omega, by omega⟩
theorem nfa_spec {ps : List Piece} (h : ToOk (topL ps).1.1.length (topL ps).2.last) : nfaOf ps = ⟨((topL ps).1.1.length + 1 : Nat), joinA (topL ps).1.1 [0] (topL ps).2.first (topL ps).1.2, endF (topL ps).2.last ((topL ps).2.null :: List.replicate (topL ps).1.1.length false)⟩ := by
  rw [ends_done h]; unfold nfaOf; rfl
theorem nfa_spec_ok {ps : List Piece} (hl : (topL ps).1.1.length ≤ 23) (hg : GoodM (topL ps).1) (hf : ToOk (topL ps).1.1.length (topL ps).2.first) : nfaOk ⟨((topL ps).1.1.length + 1 : Nat), joinA (topL ps).1.1 [0] (topL ps).2.first (topL ps).1.2, endF (topL ps).2.last ((topL ps).2.null :: List.replicate (topL ps).1.1.length false)⟩ = true :=
  nfaOk_of (lb := (topL ps).1.1) (join_good (xs := (topL ps).1.2) hg (by omega) (fun f h => by rw [List.mem_singleton.1 h]; omega) hf) rfl hl (by rw [endF_len]; simp)
theorem rep_set {n m : Nat} {e : Bool} (h : n = m + 1) : (List.replicate n false).set 0 e = endF [] (e :: List.replicate m false) := by
  subst h; unfold endF; rfl
theorem spec_nn {ps : List Piece} (hl : (topL ps).1.1.length ≤ 23) : (IntKind.i64.wrap (((topL ps).1.1.length : Int) + 1)).toNat = (topL ps).1.1.length + 1 := by rw [wrap_of (by omega) (by omega)]; omega
theorem spec_el {ps : List Piece} {l : List Int} : (endF l ((topL ps).2.null :: List.replicate (topL ps).1.1.length false)).length = (topL ps).1.1.length + 1 := by rw [endF_len]; simp
theorem spec_cells {ps : List Piece} {bj bz : Option Addr} {cj : Nat} (hl : (topL ps).1.1.length ≤ 23) : [Value.int .i64 (IntKind.i64.wrap (((topL ps).1.1.length : Int) + 1)), .slice bj (joinA (topL ps).1.1 [0] (topL ps).2.first (topL ps).1.2).length cj, .slice bz (IntKind.i64.wrap (((topL ps).1.1.length : Int) + 1)).toNat (IntKind.i64.wrap (((topL ps).1.1.length : Int) + 1)).toNat] = [Value.int .i64 (((topL ps).1.1.length + 1 : Nat) : Int), .slice bj (joinA (topL ps).1.1 [0] (topL ps).2.first (topL ps).1.2).length cj, .slice bz (endF (topL ps).2.last ((topL ps).2.null :: List.replicate (topL ps).1.1.length false)).length (IntKind.i64.wrap (((topL ps).1.1.length : Int) + 1)).toNat] := by
  have e1 : IntKind.i64.wrap (((topL ps).1.1.length : Int) + 1) = (((topL ps).1.1.length + 1 : Nat) : Int) := by rw [wrap_of (by omega) (by omega)]; omega
  rw [spec_el, spec_nn hl, e1]
theorem spec_nfa {ps : List Piece} {bj bz : Option Addr} {cj : Nat} {AX V : Hp} (hl : (topL ps).1.1.length ≤ 23) (oX : (gSl 282 gArc).ow [.slice bj (joinA (topL ps).1.1 [0] (topL ps).2.first (topL ps).1.2).length cj] (joinA (topL ps).1.1 [0] (topL ps).2.first (topL ps).1.2) AX) (oV : (gSl 4 gB).ow [.slice bz (IntKind.i64.wrap (((topL ps).1.1.length : Int) + 1)).toNat (IntKind.i64.wrap (((topL ps).1.1.length : Int) + 1)).toNat] (endF (topL ps).2.last ((topL ps).2.null :: List.replicate (topL ps).1.1.length false)) V) :
    gNfa.ow [Value.int .i64 (IntKind.i64.wrap (((topL ps).1.1.length : Int) + 1)), .slice bj (joinA (topL ps).1.1 [0] (topL ps).2.first (topL ps).1.2).length cj, .slice bz (IntKind.i64.wrap (((topL ps).1.1.length : Int) + 1)).toNat (IntKind.i64.wrap (((topL ps).1.1.length : Int) + 1)).toNat] ⟨(((topL ps).1.1.length + 1 : Nat) : Int), (joinA (topL ps).1.1 [0] (topL ps).2.first (topL ps).1.2), (endF (topL ps).2.last ((topL ps).2.null :: List.replicate (topL ps).1.1.length false))⟩ (AX ++ V) :=
  gNfa_ow.2 ⟨bj, cj, AX, bz, (IntKind.i64.wrap (((topL ps).1.1.length : Int) + 1)).toNat, V, spec_cells hl, .refl _, by unfold okI; dsimp only; omega, oX, by
    show (gSl 4 gB).ow [.slice bz (endF (topL ps).2.last ((topL ps).2.null :: List.replicate (topL ps).1.1.length false)).length (IntKind.i64.wrap (((topL ps).1.1.length : Int) + 1)).toNat] (endF (topL ps).2.last ((topL ps).2.null :: List.replicate (topL ps).1.1.length false)) V
    rw [spec_el, ← spec_nn hl]; exact oV⟩
theorem sub_hall2 {A B : Hp} {R : List Hp} {bl : List Blk} {fr : Fr} (h1 : A ∈ R) (h2 : B ∈ R) : ∀ p ∈ A ++ B, p ∈ St.hall ⟨fr, bl, R⟩ := fun p hp => (List.mem_append.1 hp).elim (sub_hall h1 p) (sub_hall h2 p)
--@ct spec.NfaOf new specNfaOf_ct _ $1 | %1 | obtain ⟨b#, c#, bb#, cc#, rfl, o#⟩ := o#
theorem specNfaOf_ct (l : List Value) (x : Path) :
    Ct Tryz.prog 142 [.agg ⟨l⟩] [] (fun H => gPath.rd H l x) (fun v A => ∃ b c b2 c2, v = .tuple #[.agg ⟨[.int .i64 (nfaR x).1.states, .slice b (nfaR x).1.arcs.length c, .slice b2 (nfaR x).1.ends.length c2]⟩, .bool (nfaR x).2] ∧ gNfa.ow [.int .i64 (nfaR x).1.states, .slice b (nfaR x).1.arcs.length c, .slice b2 (nfaR x).1.ends.length c2] (nfaR x).1 A) := by
  refine Ct.intro0 G_ok Tryz.func142 rfl rfl rfl fun E H hp => ?_
  obtain ⟨b0p, c0p, rfl, h0p⟩ := gPath_rd.1 hp
  refine VCnew.intro fun x0 => ?_
  refine VCnew.intro fun x1 => ?_
  refine call_val (specPathOk_ct _ (x)) (Rp.mono _ (mem_at 0 rfl) hp) ?_
  rintro _ rfl
  refine VCsplit.intro (fun q3 => ?_) (fun q3 => ?_)
  ·
    simp at q3
    (rw [nfaR_no1 (by assumption)]; exact ⟨[], ⟨none, 0, none, 0, rfl, zNfa_ow⟩, (.le fun a => by (try simp only [setR, List.cons_append, List.nil_append]); simp [List.count_cons, Blk.ent, idOf]; try omega)⟩)
  ·
    simp at q3
    have hpo3 := path_all q3
    refine VCnew.intro fun x4 => ?_
    refine callR_blk 2 ([]) [H] rfl ?_ (topLook_ct x.pieces (path_all ‹pathOk x = true›).2.2 (path_all ‹pathOk x = true›).2.1 (path_all ‹pathOk x = true›).1 _ _ _ _ _ _ _ _ ?_ (sl_nil _ _ _) (sl_nil _ _ _)) (Rp.mono _ (mem_at 0 rfl) h0p) ?_
    · exact .refl _
    · (simp (disch := omega) only [wrap_of]; omega)
    rintro _ A5 ⟨bl1, cl1, ba1, ca1, AL1, AX1, b11, c11, A11, b21, c21, A21, rfl, rfl, oL1, oX1, oF1, oT1⟩
    have rF1 := Gt.owrd _ oF1
    have rT1 := Gt.owrd _ oT1
    refine ⟨_, _, [AL1, AX1, A11, A21], rfl, perm4, ?_⟩
    refine VCnew.intro fun x6 => ?_
    refine VCsplit.intro (fun q7 => ?_) (fun q7 => ?_)
    ·
      (rw [nfaR_no2 (top_bad (path_all ‹pathOk x = true›).2.2 (path_all ‹pathOk x = true›).1 (by assumption))]; exact ⟨[], ⟨none, 0, none, 0, rfl, zNfa_ow⟩, (.le fun a => by (try simp only [setR, List.cons_append, List.nil_append]); simp [List.count_cons, Blk.ent, idOf]; try omega)⟩)
    ·
      obtain ⟨hgo, ht1, hG, hF9, hL9, ht6, ht7⟩ := top_good (path_all ‹pathOk x = true›).2.2 (path_all ‹pathOk x = true›).1 ‹badM (topL x.pieces).1 = false›
      refine VCnew.intro fun x8 => ?_
      refine callR_blk 2 (AX1) [[(x8, Obj.cells { toList := Value.int IntKind.i64 (0 : Int) :: [].append (zeros (nat_lit 0) [Value.int IntKind.i64 (0 : Int)]) } (3 : TypeId))], AL1, A11, A21, H] rfl ?_ (mJoin_ct _ _ _ _ _ _ _ _ _ ((topL x.pieces).fst.fst) ([(0 : Int)]) ((topL x.pieces).snd.first) _ _ _ _ oX1 ?_ ?_ ?_ ?_) ⟨(Rp.mono _ (mem_at 1 rfl) (Gt.owrd _ oL1)), (Rp.mono _ (mem_at 0 rfl) (Ow.rd (Ow.lit (f := flInt) (T := (3 : TypeId)) (b := x8) (xs := [(0 : Int)]) (by first | (simp [flInt, okI]; done) | (simp only [List.forall_mem_cons]; simp_all [flInt, okI])) (by simp)))), (Rp.mono _ (mem_at 2 rfl) rF1)⟩ ?_
      · exact .le fun a => by (try simp only [setR, List.cons_append, List.nil_append]); simp only [List.flatten_append, List.flatten_cons, List.flatten_nil, List.count_append, List.count_nil, List.append_nil, List.nil_append]; omega
      · exact hG.1
      · exact (fun x hx => by rw [List.mem_singleton.1 hx]; omega)
      · trivial
      · omega
      rintro _ A9 ⟨bj9, cj9, Aj9, rfl, rfl, oj9⟩
      refine ⟨_, _, [Aj9], rfl, perm1, ?_⟩
      refine draw_joinK (α := (Nat) × (Nat) × (Hp)) [31, 32, 33, 34, 35, 36, 37, 38, 39, 40, 41, 42, 43, 44, 45, 46, 47, 48, 6] (fun z => [(6, .p 4 0)]) (fun z => [⟨x0, [.slice b0p x.pieces.length c0p], 205⟩, ⟨x1, [.int .i64 0, .slice none 0 0, .slice none 0 0], 212⟩, ⟨x4, [.slice b0p x.pieces.length c0p, .slice bl1 (topL x.pieces).1.1.length cl1, .slice bj9 (joinA (topL x.pieces).1.1 [0] (topL x.pieces).2.first (topL x.pieces).1.2).length cj9, .bool (badM (topL x.pieces).1)], 249⟩, ⟨x6, [.slice b11 (topL x.pieces).2.first.length c11, .slice b21 (topL x.pieces).2.last.length c21, .bool (topL x.pieces).2.null], 251⟩, ⟨z.1, [.int .i64 (IntKind.i64.wrap (((topL x.pieces).1.1.length : Int) + 1)), .slice bj9 (joinA (topL x.pieces).1.1 [0] (topL x.pieces).2.first (topL x.pieces).1.2).length cj9, .slice (some ⟨z.2.1, 0, none⟩) (IntKind.i64.wrap (((topL x.pieces).1.1.length : Int) + 1)).toNat (IntKind.i64.wrap (((topL x.pieces).1.1.length : Int) + 1)).toNat], 212⟩]) (fun z => [z.2.2, Aj9, AL1, A11, A21, H]) (fun z => (gSl 4 gB).ow [.slice (some ⟨z.2.1, 0, none⟩) (IntKind.i64.wrap (((topL x.pieces).1.1.length : Int) + 1)).toNat (IntKind.i64.wrap (((topL x.pieces).1.1.length : Int) + 1)).toNat] (List.replicate (IntKind.i64.wrap (((topL x.pieces).1.1.length : Int) + 1)).toNat false) z.2.2) ?_ ?_
      ·
        refine draw G_ok mixed (some 19) (.q 0 (.q 1 (.q 2 (.q 3 (.q 4 (.q 5 (.q 6 (.q 7 (.q 8 (.q 9 (.q 10 (.q 11 (.q 12 (.q 13 (.q 14 (.q 15 (.hd (.alt 16 (.q 17 (.f 18 (.tl 19 (.nil)))) (.alt 18 (.f 16 (.q 17 (.tl 19 (.nil)))) (.nil)))))))))))))))))))) (by decide +kernel) ?_
        refine VC.intro ?_ ?_
        ·
          refine VCmake.intro ?_ ?_ ?_ ?_ fun x10 => ?_
          · (simp (disch := omega) only [wrap_of]; omega)
          · (simp (disch := omega) only [wrap_of]; omega)
          · (simp (disch := omega) only [wrap_of]; omega)
          · (simp (disch := omega) only [wrap_of]; omega)
          refine VC.intro ?_ ?_
          · exact keep_new
          refine VCnew.intro fun x11 => ?_
          refine VC.intro ?_ ?_
          · exact keep_sub (by simp) (by simp)
          apply join_stepA (_, _, _)
          · exact .sub (by repeat (first | exact .slnil | apply List.Sublist.cons_cons | apply List.Sublist.cons))
          · repeat' (first | exact trivial | refine ⟨⟨_, rfl, by first | rfl | exact inc_eq _ (by omega) | (refine sl_eq ?_; simp; done), by first | exact trivial | simp [SV.ok]⟩, ?_⟩)
          · repeat' (first | exact trivial | refine ⟨by first | rfl | simp [Blk.ent], ?_⟩)
          try dsimp only
          exact gmake (gB_ow (x := false) trivial) (Nat.le_refl _) (by rw [wrap_of (by omega) (by omega)]; omega)
        ·
          refine VC.intro ?_ ?_
          ·
            refine VCnew.intro fun x12 => ?_
            refine VC.intro ?_ ?_
            · exact keep_sub (by simp) (by simp)
            refine VCmake.intro ?_ ?_ ?_ ?_ fun x13 => ?_
            · (simp (disch := omega) only [wrap_of]; omega)
            · (simp (disch := omega) only [wrap_of]; omega)
            · (simp (disch := omega) only [wrap_of]; omega)
            · (simp (disch := omega) only [wrap_of]; omega)
            refine VC.intro ?_ ?_
            · exact keep_sub (by simp) (by simp)
            apply join_stepA (_, _, _)
            · exact .sub (by repeat (first | exact .slnil | apply List.Sublist.cons_cons | apply List.Sublist.cons))
            · repeat' (first | exact trivial | refine ⟨⟨_, rfl, by first | rfl | exact inc_eq _ (by omega) | (refine sl_eq ?_; simp; done), by first | exact trivial | simp [SV.ok]⟩, ?_⟩)
            · repeat' (first | exact trivial | refine ⟨by first | rfl | simp [Blk.ent], ?_⟩)
            try dsimp only
            exact gmake (gB_ow (x := false) trivial) (Nat.le_refl _) (by rw [wrap_of (by omega) (by omega)]; omega)
          ·
            exact trivial
      rintro ⟨y, zb, W⟩ hI
      obtain oW : (gSl 4 gB).ow [.slice (some ⟨zb, 0, none⟩) (IntKind.i64.wrap (((topL x.pieces).1.1.length : Int) + 1)).toNat (IntKind.i64.wrap (((topL x.pieces).1.1.length : Int) + 1)).toNat] (List.replicate (IntKind.i64.wrap (((topL x.pieces).1.1.length : Int) + 1)).toNat false) W := hI
      try dsimp only
      have hn9 := spec_nn ht1
      refine idx_rd (Gt.owrd _ hI) ?_ ?_ fun b14 o14 hb14 => ?_
      · trivial
      · simp; omega
      refine gstoreN (Fld.id _) false (0) 0 rfl rfl hI ?_ ?_ hb14 rfl gB_pl _ (gB_ow trivial) fun A15 o15 => ?_
      · trivial
      · simp; omega
      apply loop_mod (α := (Nat) × (Hp)) G_ok [54, 55, 56, 57, 58, 61, 62, 63, 64, 65, 66, 67, 68, 59, 60, 7] (fun z => [(7, .v (.int .i64 z.1))]) (fun z => [{ id := x0, cs := [Value.slice b0p x.pieces.length c0p], ty := (205 : TypeId) }, { id := x1, cs := [Value.int IntKind.i64 (0 : Int), Value.slice none (0 : Nat) (0 : Nat), Value.slice none (0 : Nat) (0 : Nat)], ty := (212 : TypeId) }, { id := x4, cs := [Value.slice b0p x.pieces.length c0p, Value.slice bl1 (topL x.pieces).fst.fst.length cl1, Value.slice bj9 (joinA (topL x.pieces).fst.fst [(0 : Int)] (topL x.pieces).snd.first (topL x.pieces).fst.snd).length cj9, Value.bool (badM (topL x.pieces).fst)], ty := (249 : TypeId) }, { id := x6, cs := [Value.slice b11 (topL x.pieces).snd.first.length c11, Value.slice b21 (topL x.pieces).snd.last.length c21, Value.bool (topL x.pieces).snd.null], ty := (251 : TypeId) }, { id := y, cs := [Value.int IntKind.i64 (IntKind.i64.wrap ((↑(topL x.pieces).fst.fst.length : Int) + (1 : Int))), Value.slice bj9 (joinA (topL x.pieces).fst.fst [(0 : Int)] (topL x.pieces).snd.first (topL x.pieces).fst.snd).length cj9, Value.slice (some { block := zb, off := (0 : Nat) }) (IntKind.i64.wrap ((↑(topL x.pieces).fst.fst.length : Int) + (1 : Int))).toNat (IntKind.i64.wrap ((↑(topL x.pieces).fst.fst.length : Int) + (1 : Int))).toNat], ty := (212 : TypeId) }]) (fun z => [z.2, Aj9, AL1, A11, A21, H]) (fun z => (topL x.pieces).2.last.length - z.1) (fun z => z.1 ≤ (topL x.pieces).2.last.length ∧ (gSl 4 gB).ow [.slice (some ⟨zb, 0, none⟩) (IntKind.i64.wrap (((topL x.pieces).1.1.length : Int) + 1)).toNat (IntKind.i64.wrap (((topL x.pieces).1.1.length : Int) + 1)).toNat] (endF ((topL x.pieces).2.last.take z.1) ((topL x.pieces).2.null :: List.replicate (topL x.pieces).1.1.length false)) z.2) ((0, _))
      · repeat' (first | exact trivial | refine ⟨⟨_, rfl, by first | rfl | exact inc_eq _ (by omega) | (refine sl_eq ?_; simp; done), by first | exact trivial | simp [SV.ok]⟩, ?_⟩)
      · repeat' (first | exact trivial | refine ⟨by first | rfl | simp [Blk.ent], ?_⟩)
      · try dsimp only
        exact ⟨Nat.zero_le _, by rw [List.take_zero, ← rep_set hn9]; assumption⟩
      · exact .refl _
      rintro ⟨k, V⟩ hI
      obtain ⟨hk, oV⟩ : k ≤ (topL x.pieces).2.last.length ∧ (gSl 4 gB).ow [.slice (some ⟨zb, 0, none⟩) (IntKind.i64.wrap (((topL x.pieces).1.1.length : Int) + 1)).toNat (IntKind.i64.wrap (((topL x.pieces).1.1.length : Int) + 1)).toNat] (endF ((topL x.pieces).2.last.take k) ((topL x.pieces).2.null :: List.replicate (topL x.pieces).1.1.length false)) V := hI
      try dsimp only
      refine VCsplit.intro (fun q16 => ?_) (fun q16 => ?_)
      ·
        simp at q16
        have hlk := get_all hL9 (by omega : k < (topL x.pieces).2.last.length)
        have hel := spec_el (ps := x.pieces) (l := (topL x.pieces).2.last.take k)
        refine draw G_ok mixed (some 8) (.q 0 (.q 1 (.q 2 (.q 3 (.q 4 (.q 5 (.q 6 (.q 7 (.tl 8 (.nil)))))))))) (by decide +kernel) ?_
        refine idx_rd rT1 ?_ ?_ fun b17 o17 hb17 => ?_
        · omega
        · omega
        refine load_allN 0 (k) rfl rT1 ?_ ?_ hb17 rfl (mem_at 4 rfl) fun l18 hl18 => ?_
        · omega
        · omega
        obtain ⟨rfl, hw18⟩ := hl18; simp only [flStr, flInt, okI] at hw18
        refine idx_rd (Gt.owrd _ oV) ?_ ?_ fun b19 o19 hb19 => ?_
        · omega
        · omega
        refine gstoreN (Fld.id _) false (Int.toNat ((topL x.pieces).snd.last[k]?.getD (0 : Int))) 0 rfl (Int.toNat_of_nonneg ?_).symm oV ?_ ?_ hb19 rfl gB_pl _ (gB_ow trivial) fun A20 o20 => ?_
        · omega
        · omega
        · omega
        apply loop_stepA (k + 1, _)
        · exact .refl _
        · repeat' (first | exact trivial | refine ⟨⟨_, rfl, by first | rfl | exact inc_eq _ (by omega) | (refine sl_eq ?_; simp; done), by first | exact trivial | simp [SV.ok]⟩, ?_⟩)
        · repeat' (first | exact trivial | refine ⟨by first | rfl | simp [Blk.ent], ?_⟩)
        · try dsimp only
          exact ⟨by omega, by rw [endF_step (by omega)]; assumption⟩
        try dsimp only
        omega
      ·
        simp at q16
        have hke : k = (topL x.pieces).2.last.length := (by omega)
        subst hke
        rw [List.take_length] at oV
        refine call_val (specNfaOk_ct _ _) (gNfa.mono (sub_hall2 (by simp) (by simp)) (gNfa.owrd (spec_nfa ht1 oj9 oV))) ?_
        rintro _ rfl
        refine VCsplit.intro (fun q22 => ?_) (fun q22 => ?_)
        ·
          simp at q22
          exact absurd (q22.symm.trans (nfa_spec_ok ht1 hG hF9)) (by decide)
        ·
          simp at q22
          (rw [nfaR_yes ‹pathOk x = true› hgo, nfa_spec hL9]; exact ⟨_, ⟨bj9, cj9, some ⟨zb, 0, none⟩, (IntKind.i64.wrap (((topL x.pieces).1.1.length : Int) + 1)).toNat, congrArg (fun l => Value.tuple #[.agg ⟨l⟩, .bool true]) (spec_cells ht1), by rw [← spec_cells ht1]; exact spec_nfa ht1 oj9 oV⟩, (.le fun a => by (try simp only [setR, List.cons_append, List.nil_append]); simp [List.count_cons, Blk.ent, idOf]; try omega)⟩)
end Go.Proofs.YtcnclhjhnjpeiaaGreatDoor

namespace Go.Proofs.YtcnclhjhnjpeiaaGreatDoor
open Go.SX Go.Proofs
set_option linter.unusedSimpArgs false
set_option linter.unusedVariables false
set_option maxHeartbeats 4000000
attribute [local irreducible] IntKind.wrap nfaR readPath rpPath
def tnR (t : ByteArray) : Nfa × Bool := if (readPath t).isSome = true then nfaR (rpPath t) else (zNfa, false)
theorem tnR_no {t : ByteArray} (h : (readPath t).isSome = false) : tnR t = (zNfa, false) := if_neg (by rw [h]; decide)
theorem tnR_yes {t : ByteArray} (h : (readPath t).isSome = true) : tnR t = nfaR (rpPath t) := if_pos h
--@ct impl.nfaOfText new nfaOfText_ct _ ?_ | trivial | obtain ⟨b#, c#, bb#, cc#, rfl, o#⟩ := o#
theorem nfaOfText_ct (t : ByteArray) (ht : t.size ≤ 1152921504606846976) :
    Ct Tryz.prog 179 [.string t] [] (fun _ => True) (fun v A => ∃ b c b2 c2, v = .tuple #[.agg ⟨[.int .i64 (tnR t).1.states, .slice b (tnR t).1.arcs.length c, .slice b2 (tnR t).1.ends.length c2]⟩, .bool (tnR t).2] ∧ gNfa.ow [.int .i64 (tnR t).1.states, .slice b (tnR t).1.arcs.length c, .slice b2 (tnR t).1.ends.length c2] (tnR t).1 A) := by
  refine Ct.intro0 G_ok Tryz.func179 rfl rfl rfl fun E H hp => ?_
  refine VCnew.intro fun x0 => ?_
  refine call_new (implReadPath_ct _ ?_) trivial ?_
  · trivial
  rintro v1 A1 o1
  obtain ⟨bP, cP, rfl, oP⟩ := o1
  refine VCnew.intro fun x2 => ?_
  refine VCsplit.intro (fun q3 => ?_) (fun q3 => ?_)
  ·
    simp at q3
    (rw [tnR_no (by rw [‹readPath _ = none›]; rfl)]; exact ⟨[], ⟨none, 0, none, 0, rfl, zNfa_ow⟩, (.le fun a => by (try simp only [setR, List.cons_append, List.nil_append]); simp [List.count_cons, Blk.ent, idOf]; try omega)⟩)
  ·
    simp at q3
    refine call_new (implNfaOf_ct _ (rpPath t)) (gPath_rd.2 ⟨_, _, rfl, Rp.mono _ (sub_hall (by simp)) (Gt.owrd _ oP)⟩) ?_
    rintro v4 A4 o4
    obtain ⟨bN, cN, bbN, ccN, rfl, oN⟩ := o4
    (rw [tnR_yes (by assumption)]; exact ⟨_, ⟨_, _, _, _, rfl, oN⟩, (.le fun a => by (try simp only [setR, List.cons_append, List.nil_append]); simp [List.count_cons, Blk.ent, idOf]; try omega)⟩)
def atomM (a : Atom) : Bool := nameOk a.from' && (nameOk a.to && (tnR a.path).2)
theorem atom_no1 {a : Atom} (h : nameOk a.from' = false) : atomM a = false := by unfold atomM; rw [h]; rfl
theorem atom_no2 {a : Atom} (h : nameOk a.to = false) : atomM a = false := by unfold atomM; rw [h]; simp
theorem atom_no3 {a : Atom} (h : (tnR a.path).2 = false) : atomM a = false := by unfold atomM; rw [h]; simp
theorem atom_yes {a : Atom} (h : nameOk a.from' = true) (h1 : nameOk a.to = true) : atomM a = (tnR a.path).2 := by unfold atomM; rw [h, h1]; rfl
--@ct impl.atomOk val atomOk_ct _ $1 ?_ | %1
theorem atomOk_ct (l : List Value) (a : Atom) (ht : a.path.size ≤ 1152921504606846976) : Ct Tryz.prog 145 [.agg ⟨l⟩] [] (fun H => gAtom.rd H l a) (fun v A => v = .bool (atomM a) ∧ A = []) := by
  refine Ct.intro0 G_ok Tryz.func145 rfl rfl rfl fun E H hp => ?_
  obtain ⟨rfl, w0p, w1p, w2p⟩ := gAtom_rd.1 hp
  refine VCnew.intro fun x0 => ?_
  refine call_val (implQueryName_ct _ ?_) trivial ?_
  · trivial
  rintro _ rfl
  refine VCsplit.intro (fun q2 => ?_) (fun q2 => ?_)
  ·
    simp at q2
    exact ⟨[], ⟨by rw [atom_no1 (by assumption)], rfl⟩, (.le fun a => by (try simp only [setR, List.cons_append, List.nil_append]); simp [List.count_cons, Blk.ent, idOf]; try omega)⟩
  ·
    simp at q2
    refine call_val (implQueryName_ct _ ?_) trivial ?_
    · trivial
    rintro _ rfl
    refine VCsplit.intro (fun q4 => ?_) (fun q4 => ?_)
    ·
      simp at q4
      exact ⟨[], ⟨by rw [atom_no2 (by assumption)], rfl⟩, (.le fun a => by (try simp only [setR, List.cons_append, List.nil_append]); simp [List.count_cons, Blk.ent, idOf]; try omega)⟩
    ·
      simp at q4
      refine call_new (nfaOfText_ct _ ?_) trivial ?_
      · trivial
      rintro v5 A5 o5
      obtain ⟨b5, c5, bb5, cc5, rfl, o5⟩ := o5
      refine VCnew.intro fun x6 => ?_
      exact ⟨[], ⟨by rw [atom_yes (by assumption) (by assumption)], rfl⟩, (.le fun a => by (try simp only [setR, List.cons_append, List.nil_append]); simp [List.count_cons, Blk.ent, idOf]; try omega)⟩
--@ct spec.l08Atom val l08Atom_ct _ $1 ?_ | %1
theorem l08Atom_ct (l : List Value) (a : Atom) (ht : a.path.size ≤ 1152921504606846976) : Ct Tryz.prog 88 [.agg ⟨l⟩] [] (fun H => gAtom.rd H l a) (fun v A => v = .bool (atomM a) ∧ A = []) := by
  refine Ct.intro0 G_ok Tryz.func88 rfl rfl rfl fun E H hp => ?_
  obtain ⟨rfl, w0p, w1p, w2p⟩ := gAtom_rd.1 hp
  refine VCnew.intro fun x0 => ?_
  refine call_new (specReadPath_ct _ ?_) trivial ?_
  · trivial
  rintro v1 A1 o1
  obtain ⟨bP, cP, rfl, oP⟩ := o1
  refine VCnew.intro fun x2 => ?_
  refine VCsplit.intro (fun q3 => ?_) (fun q3 => ?_)
  ·
    simp at q3
    exact ⟨[], ⟨by rw [atom_no3 (by rw [tnR_no (by rw [‹readPath _ = none›]; rfl)])], rfl⟩, (.le fun a => by (try simp only [setR, List.cons_append, List.nil_append]); simp [List.count_cons, Blk.ent, idOf]; try omega)⟩
  ·
    simp at q3
    refine call_val (specQueryName_ct _ ?_) trivial ?_
    · trivial
    rintro _ rfl
    refine VCsplit.intro (fun q5 => ?_) (fun q5 => ?_)
    ·
      simp at q5
      exact ⟨[], ⟨by rw [atom_no1 (by assumption)], rfl⟩, (.le fun a => by (try simp only [setR, List.cons_append, List.nil_append]); simp [List.count_cons, Blk.ent, idOf]; try omega)⟩
    ·
      simp at q5
      refine call_val (specQueryName_ct _ ?_) trivial ?_
      · trivial
      rintro _ rfl
      refine VCsplit.intro (fun q7 => ?_) (fun q7 => ?_)
      ·
        simp at q7
        exact ⟨[], ⟨by rw [atom_no2 (by assumption)], rfl⟩, (.le fun a => by (try simp only [setR, List.cons_append, List.nil_append]); simp [List.count_cons, Blk.ent, idOf]; try omega)⟩
      ·
        simp at q7
        refine call_new (specNfaOf_ct _ (rpPath a.path)) (gPath_rd.2 ⟨_, _, rfl, Rp.mono _ (sub_hall (by simp)) (Gt.owrd _ oP)⟩) ?_
        rintro v8 A8 o8
        obtain ⟨bN, cN, bbN, ccN, rfl, oN⟩ := o8
        refine VCnew.intro fun x9 => ?_
        exact ⟨[], ⟨by rw [atom_yes (by assumption) (by assumption), tnR_yes (by assumption)], rfl⟩, (.le fun a => by (try simp only [setR, List.cons_append, List.nil_append]); simp [List.count_cons, Blk.ent, idOf]; try omega)⟩
/-! the names -/
def addN (l : List ByteArray) (s : ByteArray) : List ByteArray := if hasS l s = true then l else l ++ [s]
theorem addN_yes {l : List ByteArray} {s : ByteArray} (h : hasS l s = true) : addN l s = l := if_pos h
theorem addN_no {l : List ByteArray} {s : ByteArray} (h : hasS l s = false) : addN l s = l ++ [s] := if_neg (by rw [h]; decide)
def namesM (ats : List Atom) : List ByteArray := ats.foldl (fun l a => addN (addN l a.from') a.to) []
theorem namesM_step {ats : List Atom} {k : Nat} (h : k < ats.length) : namesM (ats.take (k + 1)) = addN (addN (namesM (ats.take k)) (ats[k]?.getD default).from') (ats[k]?.getD default).to := by
  unfold namesM
  rw [← List.take_append_getElem h, List.foldl_append, List.getElem?_eq_getElem h]; rfl
theorem addN_len (l : List ByteArray) (s : ByteArray) : (addN l s).length ≤ l.length + 1 := by
  unfold addN; split
  · omega
  rw [List.length_append]; exact Nat.le_refl _
theorem namesM_len : ∀ (ats : List Atom) (k : Nat), k ≤ ats.length → (namesM (ats.take k)).length ≤ 2 * k
  | ats, 0, _ => Nat.le_refl _
  | ats, k + 1, h => by
    have h1 := namesM_len ats k (by omega)
    rw [namesM_step (by omega)]
    have h2 := addN_len (namesM (ats.take k)) (ats[k]?.getD default).from'
    have h3 := addN_len (addN (namesM (ats.take k)) (ats[k]?.getD default).from') (ats[k]?.getD default).to
    omega
--@ct spec.NamesOf new specNamesOf_ct _ $1 ?_ | %1 | obtain ⟨b#, c#, rfl, o#⟩ := o#
theorem specNamesOf_ct (l : List Value) (x : Query) (hx : x.atoms.length ≤ 1048576) : Ct Tryz.prog 89 [.agg ⟨l⟩] [] (fun H => gQuery.rd H l x) (fun v A => ∃ b c, v = .slice b (namesM x.atoms).length c ∧ (gSl 9 gS).ow [.slice b (namesM x.atoms).length c] (namesM x.atoms) A) := by
  refine Ct.intro0 G_ok Tryz.func89 rfl rfl rfl fun E H hp => ?_
  obtain ⟨b1p, c1p, b2p, c2p, b3p, c3p, rfl, h1p, h2p, h3p⟩ := gQuery_rd.1 hp
  refine VCnew.intro fun x0 => ?_
  refine VCnew.intro fun x1 => ?_
  apply loop_mod (α := (Nat) × (List ByteArray) × (Hp) × (Option Addr) × (Nat)) G_ok [6, 7, 8, 9, 10, 13, 14, 15, 16, 17, 18, 19, 20, 21, 22, 23, 24, 25, 26, 27, 28, 29, 30, 3, 31, 32, 33, 34, 35, 36, 37, 38, 39, 40, 41, 42, 43, 44, 45, 46, 47, 48, 11, 12, 4] (fun z => [(4, .v (.int .i64 z.1)), (3, .v (.slice z.2.2.2.1 z.2.1.length z.2.2.2.2))]) (fun z => [{ id := x0, cs := [Value.bool x.each, Value.slice b1p x.out.length c1p, Value.slice b2p x.atoms.length c2p, Value.slice b3p x.filters.length c3p], ty := (37 : Nat) }]) (fun z => [z.2.2.1, H]) (fun z => x.atoms.length - z.1) (fun z => z.1 ≤ x.atoms.length ∧ z.2.1 = namesM (x.atoms.take z.1) ∧ (gSl 9 gS).ow [.slice z.2.2.2.1 z.2.1.length z.2.2.2.2] z.2.1 z.2.2.1) ((0, [], [], _, 0))
  · repeat' (first | exact trivial | refine ⟨⟨_, rfl, by first | rfl | exact inc_eq _ (by omega) | (refine sl_eq ?_; simp; done), by first | exact trivial | simp [SV.ok]⟩, ?_⟩)
  · exact ⟨rfl, trivial⟩
  · try dsimp only
    exact ⟨Nat.zero_le _, rfl, sl_nil _ _ _⟩
  · exact .tl
  rintro ⟨k, o, A, lb, lc⟩ hI
  obtain ⟨hk, ho, oA⟩ : k ≤ x.atoms.length ∧ o = namesM (x.atoms.take k) ∧ (gSl 9 gS).ow [.slice lb o.length lc] o A := hI
  try dsimp only
  refine VCsplit.intro (fun q2 => ?_) (fun q2 => ?_)
  ·
    simp at q2
    have hlen := namesM_len x.atoms k (by omega)
    have hol : o.length ≤ 2 * k := (by rw [ho]; exact hlen)
    refine idx_rd h2p ?_ ?_ fun b3 o3 hb3 => ?_
    · omega
    · omega
    refine load_partN default (k) 0 rfl h2p ?_ ?_ hb3 rfl (by decide) (mem_at 1 rfl) fun l4 hl4 => ?_
    · omega
    · omega
    obtain ⟨rfl, w0x4, w1x4, w2x4⟩ := gAtom_rd.1 hl4
    refine call_val (l08In_ct _ _ _ (o) _) (Rp.mono _ (mem_at 0 rfl) (Gt.owrd _ oA)) ?_
    rintro _ rfl
    refine VCsplit.intro (fun q6 => ?_) (fun q6 => ?_)
    ·
      simp at q6
      refine idx_rd h2p ?_ ?_ fun b7 o7 hb7 => ?_
      · omega
      · omega
      refine load_partN default (k) 0 rfl h2p ?_ ?_ hb7 rfl (by decide) (mem_at 1 rfl) fun l8 hl8 => ?_
      · omega
      · omega
      obtain ⟨rfl, w0x8, w1x8, w2x8⟩ := gAtom_rd.1 hl8
      refine VCnew.intro fun x9 => ?_
      refine gappend1 (g := gS) (T := (9 : TypeId)) G_ok A [] [H] ?_ oA (gS_ow ?_) (List.mem_of_getElem? (i := 0) rfl) rfl rfl rfl rfl rfl rfl rfl rfl ?_ fun b10 c10 A10 o10 => ?_
      · exact .tl
      · trivial
      · omega
      refine idx_rd h2p ?_ ?_ fun b11 o11 hb11 => ?_
      · omega
      · omega
      refine load_partN default (k) 2 rfl h2p ?_ ?_ hb11 rfl (by decide) (mem_at 1 rfl) fun l12 hl12 => ?_
      · omega
      · omega
      obtain ⟨rfl, w0x12, w1x12, w2x12⟩ := gAtom_rd.1 hl12
      refine call_val (l08In_ct _ _ _ (o ++ [(x.atoms[k]?.getD default).from']) _) (Rp.mono _ (mem_at 0 rfl) (Gt.owrd _ o10)) ?_
      rintro _ rfl
      refine VCsplit.intro (fun q14 => ?_) (fun q14 => ?_)
      ·
        simp at q14
        refine idx_rd h2p ?_ ?_ fun b15 o15 hb15 => ?_
        · omega
        · omega
        refine load_partN default (k) 2 rfl h2p ?_ ?_ hb15 rfl (by decide) (mem_at 1 rfl) fun l16 hl16 => ?_
        · omega
        · omega
        obtain ⟨rfl, w0x16, w1x16, w2x16⟩ := gAtom_rd.1 hl16
        refine VCnew.intro fun x17 => ?_
        refine gappend1 (g := gS) (T := (9 : TypeId)) G_ok A10 [] [H] ?_ o10 (gS_ow ?_) (List.mem_of_getElem? (i := 0) rfl) rfl rfl rfl rfl rfl rfl rfl rfl ?_ fun b18 c18 A18 o18 => ?_
        · exact .tl
        · trivial
        · simp; omega
        apply loop_stepA (k + 1, _, _, _, _)
        · exact .refl _
        · repeat' (first | exact trivial | refine ⟨⟨_, rfl, by first | rfl | exact inc_eq _ (by omega) | (refine sl_eq ?_; simp; done), by first | exact trivial | simp [SV.ok]⟩, ?_⟩)
        · exact ⟨rfl, trivial⟩
        · try dsimp only
          exact ⟨by omega, by rw [namesM_step (by omega), ← ho, addN_no (l := o) (s := (x.atoms[k]?.getD default).from') (by assumption), addN_no (by assumption)], by assumption⟩
        try dsimp only
        omega
      ·
        simp at q14
        apply loop_stepA (k + 1, _, _, _, _)
        · exact .refl _
        · repeat' (first | exact trivial | refine ⟨⟨_, rfl, by first | rfl | exact inc_eq _ (by omega) | (refine sl_eq ?_; simp; done), by first | exact trivial | simp [SV.ok]⟩, ?_⟩)
        · exact ⟨rfl, trivial⟩
        · try dsimp only
          exact ⟨by omega, by rw [namesM_step (by omega), ← ho, addN_no (l := o) (s := (x.atoms[k]?.getD default).from') (by assumption), addN_yes (by assumption)], by assumption⟩
        try dsimp only
        omega
    ·
      simp at q6
      refine idx_rd h2p ?_ ?_ fun b19 o19 hb19 => ?_
      · omega
      · omega
      refine load_partN default (k) 2 rfl h2p ?_ ?_ hb19 rfl (by decide) (mem_at 1 rfl) fun l20 hl20 => ?_
      · omega
      · omega
      obtain ⟨rfl, w0x20, w1x20, w2x20⟩ := gAtom_rd.1 hl20
      refine call_val (l08In_ct _ _ _ (o) _) (Rp.mono _ (mem_at 0 rfl) (Gt.owrd _ oA)) ?_
      rintro _ rfl
      refine VCsplit.intro (fun q22 => ?_) (fun q22 => ?_)
      ·
        simp at q22
        refine idx_rd h2p ?_ ?_ fun b23 o23 hb23 => ?_
        · omega
        · omega
        refine load_partN default (k) 2 rfl h2p ?_ ?_ hb23 rfl (by decide) (mem_at 1 rfl) fun l24 hl24 => ?_
        · omega
        · omega
        obtain ⟨rfl, w0x24, w1x24, w2x24⟩ := gAtom_rd.1 hl24
        refine VCnew.intro fun x25 => ?_
        refine gappend1 (g := gS) (T := (9 : TypeId)) G_ok A [] [H] ?_ oA (gS_ow ?_) (List.mem_of_getElem? (i := 0) rfl) rfl rfl rfl rfl rfl rfl rfl rfl ?_ fun b26 c26 A26 o26 => ?_
        · exact .tl
        · trivial
        · omega
        apply loop_stepA (k + 1, _, _, _, _)
        · exact .refl _
        · repeat' (first | exact trivial | refine ⟨⟨_, rfl, by first | rfl | exact inc_eq _ (by omega) | (refine sl_eq ?_; simp; done), by first | exact trivial | simp [SV.ok]⟩, ?_⟩)
        · exact ⟨rfl, trivial⟩
        · try dsimp only
          exact ⟨by omega, by rw [namesM_step (by omega), ← ho, addN_yes (l := o) (s := (x.atoms[k]?.getD default).from') (by assumption), addN_no (by assumption)], by assumption⟩
        try dsimp only
        omega
      ·
        simp at q22
        apply loop_stepA (k + 1, _, _, _, _)
        · exact .refl _
        · repeat' (first | exact trivial | refine ⟨⟨_, rfl, by first | rfl | exact inc_eq _ (by omega) | (refine sl_eq ?_; simp; done), by first | exact trivial | simp [SV.ok]⟩, ?_⟩)
        · exact ⟨rfl, trivial⟩
        · try dsimp only
          exact ⟨by omega, by rw [namesM_step (by omega), ← ho, addN_yes (l := o) (s := (x.atoms[k]?.getD default).from') (by assumption), addN_yes (by assumption)], by assumption⟩
        try dsimp only
        omega
  ·
    simp at q2
    (have hke : k = x.atoms.length := (by omega); subst hke; rw [List.take_length] at ho; subst ho; exact ⟨_, ⟨_, _, rfl, by assumption⟩, (.le fun a => by (try simp only [setR, List.cons_append, List.nil_append]); simp [List.count_cons, Blk.ent, idOf]; try omega)⟩)
end Go.Proofs.YtcnclhjhnjpeiaaGreatDoor

namespace Go.Proofs.YtcnclhjhnjpeiaaGreatDoor
open Go.SX Go.Proofs
set_option linter.unusedSimpArgs false
set_option linter.unusedVariables false
set_option maxHeartbeats 4000000
attribute [local irreducible] IntKind.wrap atomM
theorem toL_nil8 {s : ByteArray} : s.toList = [] ↔ s.size = 0 := by
  have e : (ByteArray.empty).toList = [] := by simp
  constructor
  · intro h
    have h2 : s = ByteArray.empty := str_inj.1 (h.trans e.symm)
    rw [h2]; rfl
  intro h
  have h2 := by_size s
  rw [h] at h2
  have h3 : s = ByteArray.empty := by_inj.1 (by rw [List.length_eq_zero_iff.1 h2]; rfl)
  rw [h3, e]
--@ct impl.NamesOf new implNamesOf_ct _ $1 ?_ | %1 | obtain ⟨b#, c#, rfl, o#⟩ := o#
theorem lit2_ow {x : Nat} {a b : ByteArray} (h1 : a.size ≤ 9223372036854775807) (h2 : b.size ≤ 9223372036854775807) : (gSl 9 gS).ow [.slice (some ⟨x, 0, none⟩) 2 2] [a, b] [(x, Obj.cells ⟨[.string a, .string b]⟩ 9)] :=
  ow_fl (Ow.lit (f := flStr) (T := 9) (b := x) (xs := [a, b]) (fun y hy => (List.mem_cons.1 hy).elim (fun e => by rw [e]; exact h1) (fun hy => by rw [List.mem_singleton.1 hy]; exact h2)) (by simp))
def twoN (o : List ByteArray) (a b : ByteArray) : Nat → List ByteArray
  | 0 => o
  | 1 => addN o a
  | _ + 2 => addN (addN o a) b
theorem twoN_step {o : List ByteArray} {a b : ByteArray} {j : Nat} (h : j < 2) : twoN o a b (j + 1) = addN (twoN o a b j) ([a, b][j]?.getD ByteArray.empty) := by
  rcases (by omega : j = 0 ∨ j = 1) with rfl | rfl <;> rfl
theorem twoN_len (o : List ByteArray) (a b : ByteArray) {j : Nat} (h : j ≤ 2) : (twoN o a b j).length ≤ o.length + j := by
  rcases (by omega : j = 0 ∨ j = 1 ∨ j = 2) with rfl | rfl | rfl
  · exact Nat.le_refl _
  · exact addN_len o a
  have h1 := addN_len o a
  have h2 := addN_len (addN o a) b
  show (addN (addN o a) b).length ≤ _; omega
theorem implNamesOf_ct (l : List Value) (x : Query) (hx : x.atoms.length ≤ 1048576) : Ct Tryz.prog 100 [.agg ⟨l⟩] [] (fun H => gQuery.rd H l x) (fun v A => ∃ b c, v = .slice b (namesM x.atoms).length c ∧ (gSl 9 gS).ow [.slice b (namesM x.atoms).length c] (namesM x.atoms) A) := by
  refine Ct.intro0 G_ok Tryz.func100 rfl rfl rfl fun E H hp => ?_
  obtain ⟨b1p, c1p, b2p, c2p, b3p, c3p, rfl, h1p, h2p, h3p⟩ := gQuery_rd.1 hp
  refine VCnew.intro fun x0 => ?_
  apply loop_mod (α := (Nat) × (List ByteArray) × (Hp) × (Option Addr) × (Nat)) G_ok [12, 13, 14, 5, 15, 16, 17, 18, 19, 20, 21, 22, 23, 24, 7, 25, 26, 27, 28, 29, 30, 31, 32, 3, 33, 34, 11] (fun z => [(11, .v (.int .i64 z.1)), (3, .v (.slice z.2.2.2.1 z.2.1.length z.2.2.2.2))]) (fun z => [{ id := x0, cs := [Value.bool x.each, Value.slice b1p x.out.length c1p, Value.slice b2p x.atoms.length c2p, Value.slice b3p x.filters.length c3p], ty := (37 : Nat) }]) (fun z => [z.2.2.1, H]) (fun z => x.atoms.length - z.1) (fun z => z.1 ≤ x.atoms.length ∧ z.2.1 = namesM (x.atoms.take z.1) ∧ (gSl 9 gS).ow [.slice z.2.2.2.1 z.2.1.length z.2.2.2.2] z.2.1 z.2.2.1) ((0, [], [], _, 0))
  · repeat' (first | exact trivial | refine ⟨⟨_, rfl, by first | rfl | exact inc_eq _ (by omega) | (refine sl_eq ?_; simp; done), by first | exact trivial | simp [SV.ok]⟩, ?_⟩)
  · exact ⟨rfl, trivial⟩
  · try dsimp only
    exact ⟨Nat.zero_le _, rfl, sl_nil _ _ _⟩
  · exact .refl _
  rintro ⟨k, o, A, lb, lc⟩ hI
  obtain ⟨hk, ho, oA⟩ : k ≤ x.atoms.length ∧ o = namesM (x.atoms.take k) ∧ (gSl 9 gS).ow [.slice lb o.length lc] o A := hI
  try dsimp only
  refine VCsplit.intro (fun q1 => ?_) (fun q1 => ?_)
  ·
    simp at q1
    have hlen := namesM_len x.atoms k (by omega)
    have hol : o.length ≤ 2 * k := (by rw [ho]; exact hlen)
    refine idx_rd h2p ?_ ?_ fun b2 o2 hb2 => ?_
    · omega
    · omega
    refine load_allN default (k) rfl h2p ?_ ?_ hb2 rfl (mem_at 1 rfl) fun l3 hl3 => ?_
    · omega
    · omega
    obtain ⟨rfl, w0x3, w1x3, w2x3⟩ := gAtom_rd.1 hl3
    refine VCnew.intro fun x4 => ?_
    refine VCnew.intro fun x5 => ?_
    apply loop_mod (α := (Nat) × (List ByteArray) × (Hp) × (Option Addr) × (Nat)) G_ok [22, 23, 24, 7, 25, 26, 27, 28, 29, 30, 31, 32, 3, 33, 21] (fun z => [(21, .v (.int .i64 z.1)), (3, .v (.slice z.2.2.2.1 z.2.1.length z.2.2.2.2))]) (fun z => [{ id := x0, cs := [Value.bool x.each, Value.slice b1p x.out.length c1p, Value.slice b2p x.atoms.length c2p, Value.slice b3p x.filters.length c3p], ty := (37 : Nat) }, { id := x4, cs := [Value.string (x.atoms[k]?.getD default).from', Value.string (x.atoms[k]?.getD default).path, Value.string (x.atoms[k]?.getD default).to], ty := (154 : Nat) }]) (fun z => [z.2.2.1, [(x5, Obj.cells ⟨[.string (x.atoms[k]?.getD default).from', .string (x.atoms[k]?.getD default).to]⟩ 9)], H]) (fun z => 2 - z.1) (fun z => z.1 ≤ 2 ∧ z.2.1 = twoN o (x.atoms[k]?.getD default).from' (x.atoms[k]?.getD default).to z.1 ∧ (gSl 9 gS).ow [.slice z.2.2.2.1 z.2.1.length z.2.2.2.2] z.2.1 z.2.2.1) ((0, o, A, lb, lc))
    · repeat' (first | exact trivial | refine ⟨⟨_, rfl, by first | rfl | exact inc_eq _ (by omega) | (refine sl_eq ?_; simp; done), by first | exact trivial | simp [SV.ok]⟩, ?_⟩)
    · exact ⟨rfl, rfl, trivial⟩
    · try dsimp only
      exact ⟨Nat.zero_le _, rfl, oA⟩
    · exact .le fun a => by simp [List.count_cons, List.count_append, Blk.ent, St.hall, setR, zeros, List.append]; omega
    rintro ⟨j, o2, A2, lb2, lc2⟩ hI
    obtain ⟨hj, ho2, oA2⟩ : j ≤ 2 ∧ o2 = twoN o (x.atoms[k]?.getD default).from' (x.atoms[k]?.getD default).to j ∧ (gSl 9 gS).ow [.slice lb2 o2.length lc2] o2 A2 := hI
    try dsimp only
    refine VCsplit.intro (fun q6 => ?_) (fun q6 => ?_)
    ·
      simp at q6
      have hlit := lit2_ow (x := x5) (a := (x.atoms[k]?.getD default).from') (b := (x.atoms[k]?.getD default).to) (by assumption) (by assumption)
      have hlen2 : o2.length ≤ 2 * k + 2 := (by have := twoN_len o (x.atoms[k]?.getD default).from' (x.atoms[k]?.getD default).to (j := j) (by omega); rw [ho2]; omega)
      refine idx_rd (Gt.owrd _ hlit) ?_ ?_ fun b7 o7 hb7 => ?_
      · omega
      · trivial
      refine load_allN ByteArray.empty (j) rfl (Gt.owrd _ hlit) ?_ ?_ hb7 rfl (mem_at 1 rfl) fun l8 hl8 => ?_
      · omega
      · trivial
      obtain ⟨rfl, hw8⟩ := hl8; simp only [flStr, flInt, okI] at hw8
      refine call_val (sContainsS_ct _ _ _ (o2) _) (Rp.mono _ (mem_at 0 rfl) (Gt.owrd _ oA2)) ?_
      rintro _ rfl
      refine VCsplit.intro (fun q10 => ?_) (fun q10 => ?_)
      ·
        simp at q10
        refine VCnew.intro fun x11 => ?_
        refine gappend1 (g := gS) (T := (9 : TypeId)) G_ok A2 [] [[(x5, Obj.cells { toList := [Value.string (x.atoms[k]?.getD default).from', Value.string (x.atoms[k]?.getD default).to] } (9 : TypeId))], H] ?_ oA2 (gS_ow ?_) (List.mem_of_getElem? (i := 0) rfl) rfl rfl rfl rfl rfl rfl rfl rfl ?_ fun b12 c12 A12 o12 => ?_
        · exact .tl
        · trivial
        · omega
        apply loop_stepA (j + 1, _, _, _, _)
        · exact .refl _
        · repeat' (first | exact trivial | refine ⟨⟨_, rfl, by first | rfl | exact inc_eq _ (by omega) | (refine sl_eq ?_; simp; done), by first | exact trivial | simp [SV.ok]⟩, ?_⟩)
        · exact ⟨rfl, rfl, trivial⟩
        · try dsimp only
          exact ⟨by omega, by rw [twoN_step (by omega), ← ho2, addN_no (by assumption)], by assumption⟩
        try dsimp only
        omega
      ·
        simp at q10
        apply loop_stepA (j + 1, _, _, _, _)
        · exact .refl _
        · repeat' (first | exact trivial | refine ⟨⟨_, rfl, by first | rfl | exact inc_eq _ (by omega) | (refine sl_eq ?_; simp; done), by first | exact trivial | simp [SV.ok]⟩, ?_⟩)
        · exact ⟨rfl, rfl, trivial⟩
        · try dsimp only
          exact ⟨by omega, by rw [twoN_step (by omega), ← ho2, addN_yes (by assumption)], by assumption⟩
        try dsimp only
        omega
    ·
      simp at q6
      apply loop_stepA (k + 1, _, _, _, _)
      · exact .sub (by repeat (first | exact .slnil | apply List.Sublist.cons_cons | apply List.Sublist.cons))
      · repeat' (first | exact trivial | refine ⟨⟨_, rfl, by first | rfl | exact inc_eq _ (by omega) | (refine sl_eq ?_; simp; done), by first | exact trivial | simp [SV.ok]⟩, ?_⟩)
      · exact ⟨rfl, trivial⟩
      · try dsimp only
        (have hje : j = 2 := (by omega); subst hje; exact ⟨by omega, by rw [ho2, ho, namesM_step (by omega)]; rfl, by assumption⟩)
      try dsimp only
      omega
  ·
    simp at q1
    (have hke : k = x.atoms.length := (by omega); subst hke; rw [List.take_length] at ho; subst ho; exact ⟨_, ⟨_, _, rfl, by assumption⟩, (.le fun a => by (try simp only [setR, List.cons_append, List.nil_append]); simp [List.count_cons, Blk.ent, idOf]; try omega)⟩)
--@ct impl.areDistinct val areDistinct_ct _ _ _ $1 | %1
def distM (l : List ByteArray) : Bool := allK (fun i => !hasS (l.take i) (l[i]?.getD ByteArray.empty)) l.length
theorem dist_no {l : List ByteArray} {k : Nat} (hk : k < l.length) (h : hasS (l.take k) (l[k]?.getD ByteArray.empty) = true) : distM l = false := by
  unfold distM; rw [allK_no (p := fun i => !hasS (l.take i) (l[i]?.getD ByteArray.empty)) (k := k) (by simp [h]) _ hk]
theorem dist_no2 {l : List ByteArray} {k : Nat} (hk : k < l.length) (h : hasS ((l.take ((k : Nat) : Int).toNat).drop 0) (l[k]?.getD ByteArray.empty) = true) : distM l = false := dist_no hk h
theorem dist_step {l : List ByteArray} {k : Nat} (h : hasS ((l.take ((k : Nat) : Int).toNat).drop 0) (l[k]?.getD ByteArray.empty) = false) : (!hasS (l.take k) (l[k]?.getD ByteArray.empty)) = true := by
  have h : hasS (l.take k) (l[k]?.getD ByteArray.empty) = false := h
  rw [h]; rfl
theorem areDistinct_ct (b : Option Addr) (m c : Nat) (xs : List ByteArray) : Ct Tryz.prog 146 [.slice b m c] [] (fun H => (gSl 9 gS).rd H [.slice b m c] xs) (fun v A => v = .bool (distM xs) ∧ A = []) := by
  refine Ct.intro0 G_ok Tryz.func146 rfl rfl rfl fun E H hp => ?_
  obtain ⟨rfl, hcl, hl⟩ := sl_len hp
  apply loop_mod (α := (Nat)) G_ok [8, 9, 10, 11, 3, 4, 12, 13, 14, 15, 16, 2, 17, 7] (fun z => [(7, .v (.int .i64 z))]) (fun z => []) (fun z => [H]) (fun z => xs.length - z) (fun z => z ≤ xs.length ∧ allK (fun i => !hasS (xs.take i) (xs[i]?.getD ByteArray.empty)) z = true) ((0))
  · repeat' (first | exact trivial | refine ⟨⟨_, rfl, by first | rfl | exact inc_eq _ (by omega) | (refine sl_eq ?_; simp; done), by first | exact trivial | simp [SV.ok]⟩, ?_⟩)
  · exact trivial
  · exact ⟨Nat.zero_le _, rfl⟩
  · exact .refl _
  rintro k hI
  obtain ⟨hk, ha⟩ : k ≤ xs.length ∧ allK (fun i => !hasS (xs.take i) (xs[i]?.getD ByteArray.empty)) k = true := hI
  try dsimp only
  refine VCsplit.intro (fun q0 => ?_) (fun q0 => ?_)
  ·
    simp at q0
    refine idx_rd hp ?_ ?_ fun b1 o1 hb1 => ?_
    · omega
    · omega
    refine load_allN ByteArray.empty (k) rfl hp ?_ ?_ hb1 rfl (mem_at 0 rfl) fun l2 hl2 => ?_
    · omega
    · omega
    obtain ⟨rfl, hw2⟩ := hl2; simp only [flStr, flInt, okI] at hw2
    refine VC.intro ?_ ?_
    · omega
    refine call_val (sContainsS_ct _ _ _ ((xs.take ((k : Nat) : Int).toNat).drop 0) _) (Rp.mono _ (mem_at 0 rfl) (rd_sub (r := gS.toRp) (l := 0) (h := ((k : Nat) : Int).toNat) hp (by omega) (by omega))) ?_
    rintro _ rfl
    refine VCsplit.intro (fun q4 => ?_) (fun q4 => ?_)
    ·
      simp at q4
      exact ⟨[], ⟨by rw [dist_no2 (k := k) (by omega) (by assumption)], rfl⟩, (.le fun a => by (try simp only [setR, List.cons_append, List.nil_append]); simp [List.count_cons, Blk.ent, idOf]; try omega)⟩
    ·
      simp at q4
      apply loop_stepA (k + 1)
      · exact .refl _
      · repeat' (first | exact trivial | refine ⟨⟨_, rfl, by first | rfl | exact inc_eq _ (by omega) | (refine sl_eq ?_; simp; done), by first | exact trivial | simp [SV.ok]⟩, ?_⟩)
      · exact trivial
      · exact ⟨by omega, allK_step ha (dist_step (by assumption))⟩
      omega
  ·
    simp at q0
    (have hke : k = xs.length := (by omega); subst hke; exact ⟨[], ⟨congrArg Value.bool ha.symm, rfl⟩, (.le fun a => by (try simp only [setR, List.cons_append, List.nil_append]); simp [List.count_cons, Blk.ent, idOf]; try omega)⟩)
--@ct impl.containsAll val containsAll_ct _ _ _ _ _ _ $1 $2 | ⟨%1, %2⟩
def inAll (l s : List ByteArray) : Bool := allK (fun i => hasS l (s[i]?.getD ByteArray.empty)) s.length
theorem inAll_no {l s : List ByteArray} {k : Nat} (hk : k < s.length) (h : hasS l (s[k]?.getD ByteArray.empty) = false) : inAll l s = false := by
  unfold inAll; rw [allK_no (p := fun i => hasS l (s[i]?.getD ByteArray.empty)) (k := k) h _ hk]
theorem containsAll_ct (b : Option Addr) (m c : Nat) (b2 : Option Addr) (m2 c2 : Nat) (xs ys : List ByteArray) : Ct Tryz.prog 147 [.slice b m c, .slice b2 m2 c2] [] (fun H => (gSl 9 gS).rd H [.slice b m c] xs ∧ (gSl 9 gS).rd H [.slice b2 m2 c2] ys) (fun v A => v = .bool (inAll xs ys) ∧ A = []) := by
  refine Ct.intro0 G_ok Tryz.func147 rfl rfl rfl fun E H hp => ?_
  obtain ⟨hp, hq⟩ := hp
  obtain ⟨rfl, hcl, hl⟩ := sl_len hp
  obtain ⟨rfl, hcl2, hl2⟩ := sl_len hq
  apply loop_mod (α := (Nat)) G_ok [10, 11, 12, 6, 13, 14, 15, 16, 4, 17, 9] (fun z => [(9, .v (.int .i64 z))]) (fun z => []) (fun z => [H]) (fun z => ys.length - z) (fun z => z ≤ ys.length ∧ allK (fun i => hasS xs (ys[i]?.getD ByteArray.empty)) z = true) ((0))
  · repeat' (first | exact trivial | refine ⟨⟨_, rfl, by first | rfl | exact inc_eq _ (by omega) | (refine sl_eq ?_; simp; done), by first | exact trivial | simp [SV.ok]⟩, ?_⟩)
  · exact trivial
  · exact ⟨Nat.zero_le _, rfl⟩
  · exact .refl _
  rintro k hI
  obtain ⟨hk, ha⟩ : k ≤ ys.length ∧ allK (fun i => hasS xs (ys[i]?.getD ByteArray.empty)) k = true := hI
  try dsimp only
  refine VCsplit.intro (fun q0 => ?_) (fun q0 => ?_)
  ·
    simp at q0
    refine idx_rd hq ?_ ?_ fun b1 o1 hb1 => ?_
    · omega
    · omega
    refine load_allN ByteArray.empty (k) rfl hq ?_ ?_ hb1 rfl (mem_at 0 rfl) fun l2 hl2 => ?_
    · omega
    · omega
    obtain ⟨rfl, hw2⟩ := hl2; simp only [flStr, flInt, okI] at hw2
    refine call_val (sContainsS_ct _ _ _ (xs) _) (Rp.mono _ (mem_at 0 rfl) hp) ?_
    rintro _ rfl
    refine VCsplit.intro (fun q4 => ?_) (fun q4 => ?_)
    ·
      simp at q4
      exact ⟨[], ⟨by rw [inAll_no (k := k) (by omega) (by assumption)], rfl⟩, (.le fun a => by (try simp only [setR, List.cons_append, List.nil_append]); simp [List.count_cons, Blk.ent, idOf]; try omega)⟩
    ·
      simp at q4
      apply loop_stepA (k + 1)
      · exact .refl _
      · repeat' (first | exact trivial | refine ⟨⟨_, rfl, by first | rfl | exact inc_eq _ (by omega) | (refine sl_eq ?_; simp; done), by first | exact trivial | simp [SV.ok]⟩, ?_⟩)
      · exact trivial
      · exact ⟨by omega, allK_step ha (by assumption)⟩
      omega
  ·
    simp at q0
    (have hke : k = ys.length := (by omega); subst hke; exact ⟨[], ⟨congrArg Value.bool ha.symm, rfl⟩, (.le fun a => by (try simp only [setR, List.cons_append, List.nil_append]); simp [List.count_cons, Blk.ent, idOf]; try omega)⟩)
--@ct impl.isOp val isOp_ct _
theorem isOp_ct (n : Int) : Ct Tryz.prog 180 [.int .i64 n] [] (fun _ => True) (fun v A => v = .bool (inR 1 2 n) ∧ A = []) := by
  refine Ct.intro0 G_ok Tryz.func180 rfl rfl rfl fun E H hp => ?_
  refine VCsplit.intro (fun q0 => ?_) (fun q0 => ?_)
  ·
    simp at q0
    exact ⟨[], ⟨congrArg Value.bool (by unfold inR; rw [Bool.eq_iff_iff]; simp; omega), rfl⟩, (.le fun a => by (try simp only [setR, List.cons_append, List.nil_append]); simp only [List.flatten_append, List.flatten_cons, List.flatten_nil, List.count_append, List.count_nil, List.append_nil, List.nil_append]; omega)⟩
  ·
    simp at q0
    exact ⟨[], ⟨congrArg Value.bool (by unfold inR; rw [Bool.eq_iff_iff]; simp; omega), rfl⟩, (.le fun a => by (try simp only [setR, List.cons_append, List.nil_append]); simp only [List.flatten_append, List.flatten_cons, List.flatten_nil, List.count_append, List.count_nil, List.append_nil, List.nil_append]; omega)⟩
def filterM (ns : List ByteArray) (f : Filter) : Bool := hasS ns f.left && (inR 1 2 f.op && (if f.right.size = 0 then inR 0 99 f.num else decide (f.num = 0) && hasS ns f.right))
--@ct impl.filterOk val filterOk_ct _ _ _ _ $1 $2 | ⟨%1, %2⟩
theorem filterOk_ct (l : List Value) (b : Option Addr) (m c : Nat) (f : Filter) (ns : List ByteArray) : Ct Tryz.prog 148 [.agg ⟨l⟩, .slice b m c] [] (fun H => gFilter.rd H l f ∧ (gSl 9 gS).rd H [.slice b m c] ns) (fun v A => v = .bool (filterM ns f) ∧ A = []) := by
  refine Ct.intro0 G_ok Tryz.func148 rfl rfl rfl fun E H hp => ?_
  obtain ⟨hp, hq⟩ := hp
  obtain ⟨rfl, w0p, w1p, w2p, w3p⟩ := gFilter_rd.1 hp
  refine VCnew.intro fun x0 => ?_
  refine call_val (sContainsS_ct _ _ _ (ns) _) (Rp.mono _ (mem_at 0 rfl) hq) ?_
  rintro _ rfl
  refine VCsplit.intro (fun q2 => ?_) (fun q2 => ?_)
  ·
    simp at q2
    exact ⟨[], ⟨congrArg Value.bool (by unfold filterM; rw [‹hasS ns f.left = false›]; rfl), rfl⟩, (.le fun a => by (try simp only [setR, List.cons_append, List.nil_append]); simp [List.count_cons, Blk.ent, idOf]; try omega)⟩
  ·
    simp at q2
    refine call_val (isOp_ct _) trivial ?_
    rintro _ rfl
    refine VCsplit.intro (fun q4 => ?_) (fun q4 => ?_)
    ·
      simp at q4
      exact ⟨[], ⟨congrArg Value.bool (by unfold filterM; rw [‹inR 1 2 f.op = false›]; simp), rfl⟩, (.le fun a => by (try simp only [setR, List.cons_append, List.nil_append]); simp [List.count_cons, Blk.ent, idOf]; try omega)⟩
    ·
      simp at q4
      refine VCsplit.intro (fun q5 => ?_) (fun q5 => ?_)
      ·
        simp at q5
        have iq5 := toL_nil8.1 q5
        refine VCsplit.intro (fun q6 => ?_) (fun q6 => ?_)
        ·
          simp at q6
          exact ⟨[], ⟨congrArg Value.bool (by unfold filterM; rw [‹hasS ns f.left = true›, ‹inR 1 2 f.op = true›, if_pos (by assumption)]; unfold inR; rw [Bool.eq_iff_iff]; simp; omega), rfl⟩, (.le fun a => by (try simp only [setR, List.cons_append, List.nil_append]); simp [List.count_cons, Blk.ent, idOf]; try omega)⟩
        ·
          simp at q6
          exact ⟨[], ⟨congrArg Value.bool (by unfold filterM; rw [‹hasS ns f.left = true›, ‹inR 1 2 f.op = true›, if_pos (by assumption)]; unfold inR; rw [Bool.eq_iff_iff]; simp; omega), rfl⟩, (.le fun a => by (try simp only [setR, List.cons_append, List.nil_append]); simp [List.count_cons, Blk.ent, idOf]; try omega)⟩
      ·
        simp at q5
        have iq5 := mt toL_nil8.2 q5
        refine VCsplit.intro (fun q7 => ?_) (fun q7 => ?_)
        ·
          simp at q7
          refine call_val (sContainsS_ct _ _ _ (ns) _) (Rp.mono _ (mem_at 0 rfl) hq) ?_
          rintro _ rfl
          exact ⟨[], ⟨congrArg Value.bool (by unfold filterM; rw [‹hasS ns f.left = true›, ‹inR 1 2 f.op = true›, if_neg (by assumption), decide_eq_true (by assumption)]; rfl), rfl⟩, (.le fun a => by (try simp only [setR, List.cons_append, List.nil_append]); simp [List.count_cons, Blk.ent, idOf]; try omega)⟩
        ·
          simp at q7
          exact ⟨[], ⟨congrArg Value.bool (by unfold filterM; rw [‹hasS ns f.left = true›, ‹inR 1 2 f.op = true›, if_neg (by assumption), decide_eq_false (by assumption)]; rfl), rfl⟩, (.le fun a => by (try simp only [setR, List.cons_append, List.nil_append]); simp [List.count_cons, Blk.ent, idOf]; try omega)⟩
end Go.Proofs.YtcnclhjhnjpeiaaGreatDoor

namespace Go.Proofs.YtcnclhjhnjpeiaaGreatDoor
open Go.SX Go.Proofs
set_option linter.unusedSimpArgs false
set_option linter.unusedVariables false
set_option maxHeartbeats 8000000
attribute [local irreducible] IntKind.wrap atomM namesM
def queryP (x : Query) : Prop := (1 ≤ x.atoms.length ∧ x.atoms.length ≤ 4 ∧ x.filters.length ≤ 3 ∧ 1 ≤ x.out.length ∧ x.out.length ≤ 4 ∧ (namesM x.atoms).length ≤ 4) ∧
  (∀ k, k < x.atoms.length → atomM (x.atoms[k]?.getD default) = true) ∧ distM x.out = true ∧ inAll (namesM x.atoms) x.out = true ∧ ∀ k, k < x.filters.length → filterM (namesM x.atoms) (x.filters[k]?.getD default) = true
open Classical in
noncomputable def queryM (x : Query) : Bool := decide (queryP x)
open Classical in
theorem q_no {x : Query} (h : ¬ queryP x) : queryM x = false := by unfold queryM; exact decide_eq_false h
open Classical in
theorem q_yes {x : Query} (h : queryP x) : queryM x = true := by unfold queryM; exact decide_eq_true h
theorem sz_at8 {α : Type} (g : Gt α) (z : α) : ∀ (xs : List α) (k : Nat), k < xs.length → g.sz (xs[k]?.getD z) + 1 ≤ szL g xs
  | [], k, h => absurd h (by simp)
  | x :: r, 0, _ => by rw [show szL g (x :: r) = 1 + g.sz x + szL g r from rfl]; show g.sz x + 1 ≤ _; omega
  | x :: r, k + 1, h => by
    have := sz_at8 g z r k (by simpa using h)
    rw [show szL g (x :: r) = 1 + g.sz x + szL g r from rfl]
    show g.sz (r[k]?.getD z) + 1 ≤ _; omega
theorem atoms_path {x : Query} (h : gQuery.sz x ≤ 1048576) {k : Nat} (hk : k < x.atoms.length) : (x.atoms[k]?.getD default).path.size ≤ 1048576 := by
  have h1 := gQuery_sz x
  have h2 := sz_at8 gAtom default x.atoms k hk
  have h3 := gAtom_sz (x.atoms[k]?.getD default)
  omega
theorem ff {b : Bool} (h1 : b = true) (h2 : b = false) : False := by rw [h1] at h2; cases h2
--@ct impl.QueryOk val implQueryOk_ct _ $1 ?_ | %1
theorem implQueryOk_ct (l : List Value) (x : Query) (hx : gQuery.sz x ≤ 1048576) : Ct Tryz.prog 99 [.agg ⟨l⟩] [] (fun H => gQuery.rd H l x) (fun v A => v = .bool (queryM x) ∧ A = []) := by
  refine Ct.intro0 G_ok Tryz.func99 rfl rfl rfl fun E H hp => ?_
  obtain ⟨b1p, c1p, b2p, c2p, b3p, c3p, rfl, h1p, h2p, h3p⟩ := gQuery_rd.1 hp
  have ez := gQuery_sz x
  have en1 := len_szL gS x.out
  have en2 := len_szL gAtom x.atoms
  have en3 := len_szL gFilter x.filters
  refine VCnew.intro fun x0 => ?_
  refine VCsplit.intro (fun q1 => ?_) (fun q1 => ?_)
  ·
    simp at q1
    exact ⟨[], ⟨by rw [q_no fun h => by (have := h.1; omega)], rfl⟩, (.le fun a => by (try simp only [setR, List.cons_append, List.nil_append]); simp [List.count_cons, Blk.ent, idOf]; try omega)⟩
  ·
    simp at q1
    refine VCsplit.intro (fun q2 => ?_) (fun q2 => ?_)
    ·
      simp at q2
      exact ⟨[], ⟨by rw [q_no fun h => by (have := h.1; omega)], rfl⟩, (.le fun a => by (try simp only [setR, List.cons_append, List.nil_append]); simp [List.count_cons, Blk.ent, idOf]; try omega)⟩
    ·
      simp at q2
      refine VCsplit.intro (fun q3 => ?_) (fun q3 => ?_)
      ·
        simp at q3
        exact ⟨[], ⟨by rw [q_no fun h => by (have := h.1; omega)], rfl⟩, (.le fun a => by (try simp only [setR, List.cons_append, List.nil_append]); simp [List.count_cons, Blk.ent, idOf]; try omega)⟩
      ·
        simp at q3
        apply loop_mod (α := (Nat)) G_ok [28, 29, 30, 4, 31, 32, 33, 2, 34, 27] (fun z => [(27, .v (.int .i64 z))]) (fun z => [{ id := x0, cs := [Value.bool x.each, Value.slice b1p x.out.length c1p, Value.slice b2p x.atoms.length c2p, Value.slice b3p x.filters.length c3p], ty := (37 : Nat) }]) (fun z => [H]) (fun z => x.atoms.length - z) (fun z => z ≤ x.atoms.length ∧ allK (fun i => atomM (x.atoms[i]?.getD default)) z = true) ((0))
        · repeat' (first | exact trivial | refine ⟨⟨_, rfl, by first | rfl | exact inc_eq _ (by omega) | (refine sl_eq ?_; simp; done), by first | exact trivial | simp [SV.ok]⟩, ?_⟩)
        · exact ⟨rfl, trivial⟩
        · exact ⟨Nat.zero_le _, rfl⟩
        · exact .refl _
        rintro k hI
        obtain ⟨hk, ha⟩ : k ≤ x.atoms.length ∧ allK (fun i => atomM (x.atoms[i]?.getD default)) k = true := hI
        try dsimp only
        refine VCsplit.intro (fun q4 => ?_) (fun q4 => ?_)
        ·
          simp at q4
          refine idx_rd h2p ?_ ?_ fun b5 o5 hb5 => ?_
          · omega
          · omega
          refine load_allN default (k) rfl h2p ?_ ?_ hb5 rfl (mem_at 0 rfl) fun l6 hl6 => ?_
          · omega
          · omega
          obtain ⟨rfl, w0x6, w1x6, w2x6⟩ := gAtom_rd.1 hl6
          refine VCnew.intro fun x7 => ?_
          refine call_val (atomOk_ct _ (x.atoms[k]?.getD default) ?_) (Rp.mono _ (mem_at 0 rfl) hl6) ?_
          · exact Nat.le_trans (atoms_path hx (by omega)) (by decide)
          rintro _ rfl
          refine VCsplit.intro (fun q9 => ?_) (fun q9 => ?_)
          ·
            simp at q9
            exact ⟨[], ⟨by rw [q_no fun h => ff (h.2.1 k (by omega)) (by assumption)], rfl⟩, (.le fun a => by (try simp only [setR, List.cons_append, List.nil_append]); simp [List.count_cons, Blk.ent, idOf]; try omega)⟩
          ·
            simp at q9
            apply loop_stepA (k + 1)
            · exact .refl _
            · repeat' (first | exact trivial | refine ⟨⟨_, rfl, by first | rfl | exact inc_eq _ (by omega) | (refine sl_eq ?_; simp; done), by first | exact trivial | simp [SV.ok]⟩, ?_⟩)
            · exact ⟨rfl, trivial⟩
            · exact ⟨by omega, allK_step ha (by assumption)⟩
            omega
        ·
          simp at q4
          refine call_new (implNamesOf_ct _ x ?_) (Rp.mono _ (mem_at 0 rfl) hp) ?_
          · omega
          rintro v10 A10 o10
          obtain ⟨bN, cN, rfl, oN⟩ := o10
          have rN := Gt.owrd _ oN
          refine VCsplit.intro (fun q11 => ?_) (fun q11 => ?_)
          ·
            simp at q11
            exact ⟨[], ⟨by rw [q_no fun h => by (have := h.1; omega)], rfl⟩, (.le fun a => by (try simp only [setR, List.cons_append, List.nil_append]); simp [List.count_cons, Blk.ent, idOf]; try omega)⟩
          ·
            simp at q11
            refine VCsplit.intro (fun q12 => ?_) (fun q12 => ?_)
            ·
              simp at q12
              exact ⟨[], ⟨by rw [q_no fun h => by (have := h.1; omega)], rfl⟩, (.le fun a => by (try simp only [setR, List.cons_append, List.nil_append]); simp [List.count_cons, Blk.ent, idOf]; try omega)⟩
            ·
              simp at q12
              refine VCsplit.intro (fun q13 => ?_) (fun q13 => ?_)
              ·
                simp at q13
                exact ⟨[], ⟨by rw [q_no fun h => by (have := h.1; omega)], rfl⟩, (.le fun a => by (try simp only [setR, List.cons_append, List.nil_append]); simp [List.count_cons, Blk.ent, idOf]; try omega)⟩
              ·
                simp at q13
                refine call_val (areDistinct_ct _ _ _ (x.out)) (Rp.mono _ (mem_at 1 rfl) h1p) ?_
                rintro _ rfl
                refine VCsplit.intro (fun q15 => ?_) (fun q15 => ?_)
                ·
                  simp at q15
                  exact ⟨[], ⟨by rw [q_no fun h => ff h.2.2.1 (by assumption)], rfl⟩, (.le fun a => by (try simp only [setR, List.cons_append, List.nil_append]); simp [List.count_cons, Blk.ent, idOf]; try omega)⟩
                ·
                  simp at q15
                  refine call_val (containsAll_ct _ _ _ _ _ _ (namesM x.atoms) (x.out)) ⟨(Rp.mono _ (mem_at 0 rfl) rN), (Rp.mono _ (mem_at 1 rfl) h1p)⟩ ?_
                  rintro _ rfl
                  refine VCsplit.intro (fun q17 => ?_) (fun q17 => ?_)
                  ·
                    simp at q17
                    exact ⟨[], ⟨by rw [q_no fun h => ff h.2.2.2.1 (by assumption)], rfl⟩, (.le fun a => by (try simp only [setR, List.cons_append, List.nil_append]); simp [List.count_cons, Blk.ent, idOf]; try omega)⟩
                  ·
                    simp at q17
                    apply loop_mod (α := (Nat)) G_ok [67, 68, 69, 7, 70, 71, 72, 73, 2, 74, 66] (fun z => [(66, .v (.int .i64 z))]) (fun z => [{ id := x0, cs := [Value.bool x.each, Value.slice b1p x.out.length c1p, Value.slice b2p x.atoms.length c2p, Value.slice b3p x.filters.length c3p], ty := (37 : Nat) }]) (fun z => [A10, H]) (fun z => x.filters.length - z) (fun z => z ≤ x.filters.length ∧ allK (fun i => filterM (namesM x.atoms) (x.filters[i]?.getD default)) z = true) ((0))
                    · repeat' (first | exact trivial | refine ⟨⟨_, rfl, by first | rfl | exact inc_eq _ (by omega) | (refine sl_eq ?_; simp; done), by first | exact trivial | simp [SV.ok]⟩, ?_⟩)
                    · exact ⟨rfl, trivial⟩
                    · exact ⟨Nat.zero_le _, rfl⟩
                    · exact .refl _
                    rintro j hI
                    obtain ⟨hj, hf⟩ : j ≤ x.filters.length ∧ allK (fun i => filterM (namesM x.atoms) (x.filters[i]?.getD default)) j = true := hI
                    try dsimp only
                    refine VCsplit.intro (fun q18 => ?_) (fun q18 => ?_)
                    ·
                      simp at q18
                      refine idx_rd h3p ?_ ?_ fun b19 o19 hb19 => ?_
                      · omega
                      · omega
                      refine load_allN default (j) rfl h3p ?_ ?_ hb19 rfl (mem_at 1 rfl) fun l20 hl20 => ?_
                      · omega
                      · omega
                      obtain ⟨rfl, w0x20, w1x20, w2x20, w3x20⟩ := gFilter_rd.1 hl20
                      refine VCnew.intro fun x21 => ?_
                      refine call_val (filterOk_ct _ _ _ _ (x.filters[j]?.getD default) (namesM x.atoms)) ⟨(Rp.mono _ (mem_at 1 rfl) hl20), (Rp.mono _ (mem_at 0 rfl) rN)⟩ ?_
                      rintro _ rfl
                      refine VCsplit.intro (fun q23 => ?_) (fun q23 => ?_)
                      ·
                        simp at q23
                        exact ⟨[], ⟨by rw [q_no fun h => ff (h.2.2.2.2 j (by omega)) (by assumption)], rfl⟩, (.le fun a => by (try simp only [setR, List.cons_append, List.nil_append]); simp [List.count_cons, Blk.ent, idOf]; try omega)⟩
                      ·
                        simp at q23
                        apply loop_stepA (j + 1)
                        · exact .refl _
                        · repeat' (first | exact trivial | refine ⟨⟨_, rfl, by first | rfl | exact inc_eq _ (by omega) | (refine sl_eq ?_; simp; done), by first | exact trivial | simp [SV.ok]⟩, ?_⟩)
                        · exact ⟨rfl, trivial⟩
                        · exact ⟨by omega, allK_step hf (by assumption)⟩
                        omega
                    ·
                      simp at q18
                      (have hke : k = x.atoms.length := (by omega); have hje : j = x.filters.length := (by omega); rw [hke] at ha; rw [hje] at hf; exact ⟨[], ⟨by rw [q_yes ⟨by omega, fun i hi => allK_at ha i hi, by assumption, by assumption, fun i hi => allK_at hf i hi⟩], rfl⟩, (.le fun a => by (try simp only [setR, List.cons_append, List.nil_append]); simp [List.count_cons, Blk.ent, idOf]; try omega)⟩)
theorem q_last {x : Query} (h1 : 1 ≤ x.atoms.length ∧ x.atoms.length ≤ 4 ∧ x.filters.length ≤ 3 ∧ 1 ≤ x.out.length ∧ x.out.length ≤ 4) (h2 : allK (fun i => atomM (x.atoms[i]?.getD default)) x.atoms.length = true) (h3 : allK (fun i => hasS (namesM x.atoms) (x.out[i]?.getD ByteArray.empty)) x.out.length = true) (h4 : allK (fun i => !hasS (x.out.take i) (x.out[i]?.getD ByteArray.empty)) x.out.length = true) (h5 : allK (fun i => filterM (namesM x.atoms) (x.filters[i]?.getD default)) x.filters.length = true) : queryM x = decide (((namesM x.atoms).length : Int) ≤ 4) := by
  by_cases h : (namesM x.atoms).length ≤ 4
  · rw [q_yes ⟨by omega, fun i hi => allK_at h2 i hi, h4, h3, fun i hi => allK_at h5 i hi⟩, decide_eq_true (by omega)]
  rw [q_no fun e => h e.1.2.2.2.2.2, decide_eq_false (by omega)]
theorem f_no1 {ns : List ByteArray} {f : Filter} (h : hasS ns f.left = false) : filterM ns f = false := by unfold filterM; rw [h]; rfl
theorem f_no2 {ns : List ByteArray} {f : Filter} (h : inR 1 2 f.op = false) : filterM ns f = false := by unfold filterM; rw [h]; simp
theorem f_no3 {ns : List ByteArray} {f : Filter} (h0 : ¬ f.right.size = 0) (h : hasS ns f.right = false) : filterM ns f = false := by unfold filterM; rw [if_neg h0, h]; simp
theorem f_no4 {ns : List ByteArray} {f : Filter} (h0 : ¬ f.right.size = 0) (h : ¬ f.num = 0) : filterM ns f = false := by unfold filterM; rw [if_neg h0, decide_eq_false h]; simp
theorem f_no5 {ns : List ByteArray} {f : Filter} (h : inR 0 99 f.num = false) : filterM ns f = false := by
  unfold filterM
  have h1 : ¬ f.num = 0 := fun e => by rw [e] at h; exact absurd h (by decide)
  rw [h, decide_eq_false h1]; simp
theorem f_yes1 {ns : List ByteArray} {f : Filter} (h1 : hasS ns f.left = true) (h2 : inR 1 2 f.op = true) (h0 : f.right.size = 0) (h : inR 0 99 f.num = true) : filterM ns f = true := by unfold filterM; rw [h1, h2, if_pos h0, h]; rfl
theorem f_yes2 {ns : List ByteArray} {f : Filter} (h1 : hasS ns f.left = true) (h2 : inR 1 2 f.op = true) (h0 : ¬ f.right.size = 0) (h : hasS ns f.right = true) (h3 : f.num = 0) : filterM ns f = true := by unfold filterM; rw [h1, h2, if_neg h0, h, decide_eq_true h3]; rfl
--@ct spec.QueryOk val specQueryOk_ct _ $1 ?_ | %1
theorem specQueryOk_ct (l : List Value) (x : Query) (hx : gQuery.sz x ≤ 1048576) : Ct Tryz.prog 45 [.agg ⟨l⟩] [] (fun H => gQuery.rd H l x) (fun v A => v = .bool (queryM x) ∧ A = []) := by
  refine Ct.intro0 G_ok Tryz.func45 rfl rfl rfl fun E H hp => ?_
  obtain ⟨b1p, c1p, b2p, c2p, b3p, c3p, rfl, h1p, h2p, h3p⟩ := gQuery_rd.1 hp
  have ez := gQuery_sz x
  have en1 := len_szL gS x.out
  have en2 := len_szL gAtom x.atoms
  have en3 := len_szL gFilter x.filters
  have hco := (sl_len h1p).2.1
  refine VCnew.intro fun x0 => ?_
  refine call_val (l01In_ct _ _ _) trivial ?_
  rintro _ rfl
  refine VCsplit.intro (fun q2 => ?_) (fun q2 => ?_)
  ·
    simp at q2
    have iq2 := mt inR_iff.2 (Bool.eq_false_iff.1 q2)
    exact ⟨[], ⟨by rw [q_no fun h => by (have := h.1; omega)], rfl⟩, (.le fun a => by (try simp only [setR, List.cons_append, List.nil_append]); simp [List.count_cons, Blk.ent, idOf]; try omega)⟩
  ·
    simp at q2
    have iq2 := inR_iff.1 q2
    refine VCsplit.intro (fun q3 => ?_) (fun q3 => ?_)
    ·
      simp at q3
      exact ⟨[], ⟨by rw [q_no fun h => by (have := h.1; omega)], rfl⟩, (.le fun a => by (try simp only [setR, List.cons_append, List.nil_append]); simp [List.count_cons, Blk.ent, idOf]; try omega)⟩
    ·
      simp at q3
      refine call_val (l01In_ct _ _ _) trivial ?_
      rintro _ rfl
      refine VCsplit.intro (fun q5 => ?_) (fun q5 => ?_)
      ·
        simp at q5
        have iq5 := mt inR_iff.2 (Bool.eq_false_iff.1 q5)
        exact ⟨[], ⟨by rw [q_no fun h => by (have := h.1; omega)], rfl⟩, (.le fun a => by (try simp only [setR, List.cons_append, List.nil_append]); simp [List.count_cons, Blk.ent, idOf]; try omega)⟩
      ·
        simp at q5
        have iq5 := inR_iff.1 q5
        apply loop_mod (α := (Nat)) G_ok [26, 27, 28, 29, 30, 33, 34, 35, 36, 37, 38, 39, 2, 31, 32, 3] (fun z => [(3, .v (.int .i64 z))]) (fun z => [{ id := x0, cs := [Value.bool x.each, Value.slice b1p x.out.length c1p, Value.slice b2p x.atoms.length c2p, Value.slice b3p x.filters.length c3p], ty := (37 : Nat) }]) (fun z => [H]) (fun z => x.atoms.length - z) (fun z => z ≤ x.atoms.length ∧ allK (fun i => atomM (x.atoms[i]?.getD default)) z = true) ((0))
        · repeat' (first | exact trivial | refine ⟨⟨_, rfl, by first | rfl | exact inc_eq _ (by omega) | (refine sl_eq ?_; simp; done), by first | exact trivial | simp [SV.ok]⟩, ?_⟩)
        · exact ⟨rfl, trivial⟩
        · exact ⟨Nat.zero_le _, rfl⟩
        · exact .refl _
        rintro k hI
        obtain ⟨hk, ha⟩ : k ≤ x.atoms.length ∧ allK (fun i => atomM (x.atoms[i]?.getD default)) k = true := hI
        try dsimp only
        refine VCsplit.intro (fun q6 => ?_) (fun q6 => ?_)
        ·
          simp at q6
          refine idx_rd h2p ?_ ?_ fun b7 o7 hb7 => ?_
          · omega
          · omega
          refine load_allN default (k) rfl h2p ?_ ?_ hb7 rfl (mem_at 0 rfl) fun l8 hl8 => ?_
          · omega
          · omega
          obtain ⟨rfl, w0x8, w1x8, w2x8⟩ := gAtom_rd.1 hl8
          refine call_val (l08Atom_ct _ (x.atoms[k]?.getD default) ?_) (Rp.mono _ (mem_at 0 rfl) hl8) ?_
          · exact Nat.le_trans (atoms_path hx (by omega)) (by decide)
          rintro _ rfl
          refine VCsplit.intro (fun q10 => ?_) (fun q10 => ?_)
          ·
            simp at q10
            exact ⟨[], ⟨by rw [q_no fun h => ff (h.2.1 k (by omega)) (by assumption)], rfl⟩, (.le fun a => by (try simp only [setR, List.cons_append, List.nil_append]); simp [List.count_cons, Blk.ent, idOf]; try omega)⟩
          ·
            simp at q10
            apply loop_stepA (k + 1)
            · exact .refl _
            · repeat' (first | exact trivial | refine ⟨⟨_, rfl, by first | rfl | exact inc_eq _ (by omega) | (refine sl_eq ?_; simp; done), by first | exact trivial | simp [SV.ok]⟩, ?_⟩)
            · exact ⟨rfl, trivial⟩
            · exact ⟨by omega, allK_step ha (by assumption)⟩
            omega
        ·
          simp at q6
          refine call_new (specNamesOf_ct _ x ?_) (Rp.mono _ (mem_at 0 rfl) hp) ?_
          · omega
          rintro v11 A11 o11
          obtain ⟨bN, cN, rfl, oN⟩ := o11
          have rN := Gt.owrd _ oN
          apply loop_mod (α := (Nat)) G_ok [42, 43, 44, 45, 46, 49, 50, 51, 52, 53, 54, 55, 56, 57, 58, 59, 60, 61, 62, 63, 64, 65, 66, 67, 68, 2, 47, 48, 5] (fun z => [(5, .v (.int .i64 z))]) (fun z => [{ id := x0, cs := [Value.bool x.each, Value.slice b1p x.out.length c1p, Value.slice b2p x.atoms.length c2p, Value.slice b3p x.filters.length c3p], ty := (37 : Nat) }]) (fun z => [A11, H]) (fun z => x.out.length - z) (fun z => z ≤ x.out.length ∧ allK (fun i => hasS (namesM x.atoms) (x.out[i]?.getD ByteArray.empty)) z = true ∧ allK (fun i => !hasS (x.out.take i) (x.out[i]?.getD ByteArray.empty)) z = true) ((0))
          · repeat' (first | exact trivial | refine ⟨⟨_, rfl, by first | rfl | exact inc_eq _ (by omega) | (refine sl_eq ?_; simp; done), by first | exact trivial | simp [SV.ok]⟩, ?_⟩)
          · exact ⟨rfl, trivial⟩
          · exact ⟨Nat.zero_le _, rfl, rfl⟩
          · exact .refl _
          rintro i hI
          obtain ⟨hi, hb, hc⟩ : i ≤ x.out.length ∧ allK (fun i => hasS (namesM x.atoms) (x.out[i]?.getD ByteArray.empty)) i = true ∧ allK (fun i => !hasS (x.out.take i) (x.out[i]?.getD ByteArray.empty)) i = true := hI
          try dsimp only
          refine VCsplit.intro (fun q12 => ?_) (fun q12 => ?_)
          ·
            simp at q12
            refine draw G_ok mixed none (.q 0 (.q 1 (.q 2 (.q 3 (.q 4 (.q 5 (.f 6 (.q 7 (.q 8 (.q 9 (.q 10 (.q 11 (.q 12 (.q 13 (.q 14 (.q 15 (.q 16 (.q 17 (.f 18 (.q 19 (.nil))))))))))))))))))))) (by decide +kernel) ?_
            refine idx_rd h1p ?_ ?_ fun b13 o13 hb13 => ?_
            · omega
            · omega
            refine load_allN ByteArray.empty (i) rfl h1p ?_ ?_ hb13 rfl (mem_at 1 rfl) fun l14 hl14 => ?_
            · omega
            · omega
            obtain ⟨rfl, hw14⟩ := hl14; simp only [flStr, flInt, okI] at hw14
            refine call_val (l08In_ct _ _ _ (namesM x.atoms) _) (Rp.mono _ (mem_at 0 rfl) rN) ?_
            rintro _ rfl
            refine VC.intro ?_ ?_
            · exact fun _ h => h
            refine VCsplit.intro (fun q16 => ?_) (fun q16 => ?_)
            ·
              simp at q16
              exact ⟨[], ⟨by rw [q_no fun h => ff h.2.2.2.1 (inAll_no (k := i) (by omega) (by assumption))], rfl⟩, (.le fun a => by (try simp only [setR, List.cons_append, List.nil_append]); simp [List.count_cons, Blk.ent, idOf]; try omega)⟩
            ·
              simp at q16
              have hsub : (gSl 9 gS).rd H [.slice (subBase c1p 0 b1p ty9.size) (((i : Nat) : Int).toNat - 0) (c1p - 0)] ((x.out.take ((i : Nat) : Int).toNat).drop 0) := rd_sub (r := gS.toRp) (l := 0) (h := ((i : Nat) : Int).toNat) h1p (by omega) (by omega)
              refine VC.intro ?_ ?_
              · omega
              refine idx_rd h1p ?_ ?_ fun b17 o17 hb17 => ?_
              · omega
              · omega
              refine load_allN ByteArray.empty (i) rfl h1p ?_ ?_ hb17 rfl (mem_at 1 rfl) fun l18 hl18 => ?_
              · omega
              · omega
              obtain ⟨rfl, hw18⟩ := hl18; simp only [flStr, flInt, okI] at hw18
              refine call_val (l08In_ct _ _ _ (List.drop (0 : Nat) (List.take (↑i : Int).toNat x.out)) _) (Rp.mono _ (mem_at 1 rfl) hsub) ?_
              rintro _ rfl
              refine VC.intro ?_ ?_
              · exact fun _ h => h
              refine VCsplit.intro (fun q20 => ?_) (fun q20 => ?_)
              ·
                simp at q20
                exact ⟨[], ⟨by rw [q_no fun h => ff h.2.2.1 (dist_no2 (k := i) (by omega) (by assumption))], rfl⟩, (.le fun a => by (try simp only [setR, List.cons_append, List.nil_append]); simp [List.count_cons, Blk.ent, idOf]; try omega)⟩
              ·
                simp at q20
                apply loop_stepA (i + 1)
                · exact .refl _
                · repeat' (first | exact trivial | refine ⟨⟨_, rfl, by first | rfl | exact inc_eq _ (by omega) | (refine sl_eq ?_; simp; done), by first | exact trivial | simp [SV.ok]⟩, ?_⟩)
                · exact ⟨rfl, trivial⟩
                · exact ⟨by omega, allK_step hb (by assumption), allK_step hc (dist_step (by assumption))⟩
                omega
          ·
            simp at q12
            apply loop_mod (α := (Nat)) G_ok [69, 70, 71, 72, 73, 76, 77, 78, 79, 80, 7, 81, 82, 83, 84, 85, 86, 87, 88, 89, 90, 91, 92, 93, 94, 95, 96, 97, 98, 99, 100, 101, 102, 103, 104, 105, 106, 107, 108, 109, 110, 111, 112, 113, 114, 2, 74, 75, 6] (fun z => [(6, .v (.int .i64 z))]) (fun z => [{ id := x0, cs := [Value.bool x.each, Value.slice b1p x.out.length c1p, Value.slice b2p x.atoms.length c2p, Value.slice b3p x.filters.length c3p], ty := (37 : Nat) }]) (fun z => [A11, H]) (fun z => x.filters.length - z) (fun z => z ≤ x.filters.length ∧ allK (fun i => filterM (namesM x.atoms) (x.filters[i]?.getD default)) z = true) ((0))
            · repeat' (first | exact trivial | refine ⟨⟨_, rfl, by first | rfl | exact inc_eq _ (by omega) | (refine sl_eq ?_; simp; done), by first | exact trivial | simp [SV.ok]⟩, ?_⟩)
            · exact ⟨rfl, trivial⟩
            · exact ⟨Nat.zero_le _, rfl⟩
            · exact .refl _
            rintro j hI
            obtain ⟨hj, hf⟩ : j ≤ x.filters.length ∧ allK (fun i => filterM (namesM x.atoms) (x.filters[i]?.getD default)) j = true := hI
            try dsimp only
            refine VCsplit.intro (fun q21 => ?_) (fun q21 => ?_)
            ·
              simp at q21
              refine idx_rd h3p ?_ ?_ fun b22 o22 hb22 => ?_
              · omega
              · omega
              refine load_allN default (j) rfl h3p ?_ ?_ hb22 rfl (mem_at 1 rfl) fun l23 hl23 => ?_
              · omega
              · omega
              obtain ⟨rfl, w0x23, w1x23, w2x23, w3x23⟩ := gFilter_rd.1 hl23
              refine VCnew.intro fun x24 => ?_
              refine call_val (l08In_ct _ _ _ (namesM x.atoms) _) (Rp.mono _ (mem_at 0 rfl) rN) ?_
              rintro _ rfl
              refine VCsplit.intro (fun q26 => ?_) (fun q26 => ?_)
              ·
                simp at q26
                exact ⟨[], ⟨by rw [q_no fun h => ff (h.2.2.2.2 j (by omega)) (f_no1 (by assumption))], rfl⟩, (.le fun a => by (try simp only [setR, List.cons_append, List.nil_append]); simp [List.count_cons, Blk.ent, idOf]; try omega)⟩
              ·
                simp at q26
                refine call_val (l01In_ct _ _ _) trivial ?_
                rintro _ rfl
                refine VCsplit.intro (fun q28 => ?_) (fun q28 => ?_)
                ·
                  simp at q28
                  have iq28 := mt inR_iff.2 (Bool.eq_false_iff.1 q28)
                  exact ⟨[], ⟨by rw [q_no fun h => ff (h.2.2.2.2 j (by omega)) (f_no2 (by assumption))], rfl⟩, (.le fun a => by (try simp only [setR, List.cons_append, List.nil_append]); simp [List.count_cons, Blk.ent, idOf]; try omega)⟩
                ·
                  simp at q28
                  have iq28 := inR_iff.1 q28
                  refine VCsplit.intro (fun q29 => ?_) (fun q29 => ?_)
                  ·
                    simp at q29
                    have iq29 := mt toL_nil8.2 q29
                    refine call_val (l08In_ct _ _ _ (namesM x.atoms) _) (Rp.mono _ (mem_at 0 rfl) rN) ?_
                    rintro _ rfl
                    refine VCsplit.intro (fun q31 => ?_) (fun q31 => ?_)
                    ·
                      simp at q31
                      exact ⟨[], ⟨by rw [q_no fun h => ff (h.2.2.2.2 j (by omega)) (f_no3 (by assumption) (by assumption))], rfl⟩, (.le fun a => by (try simp only [setR, List.cons_append, List.nil_append]); simp [List.count_cons, Blk.ent, idOf]; try omega)⟩
                    ·
                      simp at q31
                      refine VCsplit.intro (fun q32 => ?_) (fun q32 => ?_)
                      ·
                        simp at q32
                        exact ⟨[], ⟨by rw [q_no fun h => ff (h.2.2.2.2 j (by omega)) (f_no4 (by assumption) (by assumption))], rfl⟩, (.le fun a => by (try simp only [setR, List.cons_append, List.nil_append]); simp [List.count_cons, Blk.ent, idOf]; try omega)⟩
                      ·
                        simp at q32
                        refine call_val (l01In_ct _ _ _) trivial ?_
                        rintro _ rfl
                        refine VCsplit.intro (fun q34 => ?_) (fun q34 => ?_)
                        ·
                          simp at q34
                          have iq34 := mt inR_iff.2 (Bool.eq_false_iff.1 q34)
                          exfalso; omega
                        ·
                          simp at q34
                          have iq34 := inR_iff.1 q34
                          apply loop_stepA (j + 1)
                          · exact .refl _
                          · repeat' (first | exact trivial | refine ⟨⟨_, rfl, by first | rfl | exact inc_eq _ (by omega) | (refine sl_eq ?_; simp; done), by first | exact trivial | simp [SV.ok]⟩, ?_⟩)
                          · exact ⟨rfl, trivial⟩
                          · exact ⟨by omega, allK_step hf (f_yes2 (by assumption) (by assumption) (by assumption) (by assumption) (by assumption))⟩
                          omega
                  ·
                    simp at q29
                    have iq29 := toL_nil8.1 q29
                    refine call_val (l01In_ct _ _ _) trivial ?_
                    rintro _ rfl
                    refine VCsplit.intro (fun q36 => ?_) (fun q36 => ?_)
                    ·
                      simp at q36
                      have iq36 := mt inR_iff.2 (Bool.eq_false_iff.1 q36)
                      exact ⟨[], ⟨by rw [q_no fun h => ff (h.2.2.2.2 j (by omega)) (f_no5 (by assumption))], rfl⟩, (.le fun a => by (try simp only [setR, List.cons_append, List.nil_append]); simp [List.count_cons, Blk.ent, idOf]; try omega)⟩
                    ·
                      simp at q36
                      have iq36 := inR_iff.1 q36
                      apply loop_stepA (j + 1)
                      · exact .refl _
                      · repeat' (first | exact trivial | refine ⟨⟨_, rfl, by first | rfl | exact inc_eq _ (by omega) | (refine sl_eq ?_; simp; done), by first | exact trivial | simp [SV.ok]⟩, ?_⟩)
                      · exact ⟨rfl, trivial⟩
                      · exact ⟨by omega, allK_step hf (f_yes1 (by assumption) (by assumption) (by assumption) (by assumption))⟩
                      omega
            ·
              simp at q21
              (have hke : k = x.atoms.length := (by omega); have hie : i = x.out.length := (by omega); have hje : j = x.filters.length := (by omega); rw [hke] at ha; rw [hie] at hb hc; rw [hje] at hf; exact ⟨[], ⟨by rw [q_last (by omega) ha hb hc hf], rfl⟩, (.le fun a => by (try simp only [setR, List.cons_append, List.nil_append]); simp [List.count_cons, Blk.ent, idOf]; try omega)⟩)
end Go.Proofs.YtcnclhjhnjpeiaaGreatDoor
