/-
  A cell hears of rows, on both sides. Conditions: none.
-/
import Derived.Test.YtcikookachejfaaNd
import Derived.Test.YtcikookachejfaaHa
namespace Go.Proofs.Ytcikookachejfaa
open Go.SX Go.Proofs
set_option linter.unusedSimpArgs false
set_option linter.unusedVariables false
set_option maxHeartbeats 4000000
attribute [local irreducible] IntKind.wrap

def colsOf (a : Atom) : List ByteArray := if a.from' = a.to then [a.from'] else [a.from', a.to]
theorem cols_one {a : Atom} (h : a.from' = a.to) : colsOf a = [a.from'] := by unfold colsOf; rw [if_pos h]
theorem cols_two {a : Atom} (h : ¬ a.from' = a.to) : colsOf a = [a.from', a.to] := by unfold colsOf; rw [if_neg h]
--@ct impl.ColsOf new implColsOf_ct _ $1 | %1 | obtain ⟨b#, c#, rfl, o#⟩ := o#
theorem implColsOf_ct (l : List Value) (a : Atom) : Ct Try.prog 110 [.agg ⟨l⟩] [] (fun H => gAtom.rd H l a) (fun v A => ∃ b c, v = .slice b (colsOf a).length c ∧ (gSl 9 gS).ow [.slice b (colsOf a).length c] (colsOf a) A) := by
  refine Ct.intro0 G_ok Try.func110 rfl rfl rfl fun E H hp => ?_
  obtain ⟨rfl, w0p, w1p, w2p⟩ := gAtom_rd.1 hp
  refine VCnew.intro fun x0 => ?_
  refine VCsplit.intro (fun q1 => ?_) (fun q1 => ?_)
  ·
    simp at q1
    simp only [str_inj, u8_inj, u8_wrap] at q1
    refine VCnew.intro fun x2 => ?_
    try dsimp only
    (rw [cols_one (by assumption)]; exact ⟨[(x2, Obj.cells ⟨[.string a.from']⟩ 9)], ⟨_, _, rfl, ow_fl (Ow.lit (f := flStr) (T := 9) (b := x2) (xs := [a.from']) (by simp [flStr]; omega) (by simp))⟩, .le fun a => by simp [List.count_cons, Blk.ent, zeros]⟩)
  ·
    simp at q1
    simp only [str_inj, u8_inj, u8_wrap] at q1
    refine VCnew.intro fun x3 => ?_
    try dsimp only
    (rw [cols_two (by assumption)]; exact ⟨[(x3, Obj.cells ⟨[.string a.from', .string a.to]⟩ 9)], ⟨_, _, rfl, ow_fl (Ow.lit (f := flStr) (T := 9) (b := x3) (xs := [a.from', a.to]) (by simp [flStr]; omega) (by simp))⟩, .le fun a => by simp [List.count_cons, Blk.ent, zeros]⟩)
--@ct spec.ColsOf new specColsOf_ct _ $1 | %1 | obtain ⟨b#, c#, rfl, o#⟩ := o#
theorem specColsOf_ct (l : List Value) (a : Atom) : Ct Try.prog 100 [.agg ⟨l⟩] [] (fun H => gAtom.rd H l a) (fun v A => ∃ b c, v = .slice b (colsOf a).length c ∧ (gSl 9 gS).ow [.slice b (colsOf a).length c] (colsOf a) A) := by
  refine Ct.intro0 G_ok Try.func100 rfl rfl rfl fun E H hp => ?_
  obtain ⟨rfl, w0p, w1p, w2p⟩ := gAtom_rd.1 hp
  refine VCnew.intro fun x0 => ?_
  refine VCsplit.intro (fun q1 => ?_) (fun q1 => ?_)
  ·
    simp at q1
    simp only [str_inj, u8_inj, u8_wrap] at q1
    refine VCnew.intro fun x2 => ?_
    try dsimp only
    (rw [cols_one (by assumption)]; exact ⟨[(x2, Obj.cells ⟨[.string a.from']⟩ 9)], ⟨_, _, rfl, ow_fl (Ow.lit (f := flStr) (T := 9) (b := x2) (xs := [a.from']) (by simp [flStr]; omega) (by simp))⟩, .le fun a => by simp [List.count_cons, Blk.ent, zeros]⟩)
  ·
    simp at q1
    simp only [str_inj, u8_inj, u8_wrap] at q1
    refine VCnew.intro fun x3 => ?_
    try dsimp only
    (rw [cols_two (by assumption)]; exact ⟨[(x3, Obj.cells ⟨[.string a.from', .string a.to]⟩ 9)], ⟨_, _, rfl, ow_fl (Ow.lit (f := flStr) (T := 9) (b := x3) (xs := [a.from', a.to]) (by simp [flStr]; omega) (by simp))⟩, .le fun a => by simp [List.count_cons, Blk.ent, zeros]⟩)

--@ct impl.isAtom val isAtom_ct _ $1 _ | %1
theorem isAtom_ct (l : List Value) (q : Query) (i : Int) : Ct Try.prog 108 [.agg ⟨l⟩, .int .i64 i] [] (fun H => gQuery.rd H l q) (fun v A => v = .bool (inR 0 ((q.atoms.length : Int) - 1) i) ∧ A = []) := by
  refine Ct.intro0 G_ok Try.func108 rfl rfl rfl fun E H hp => ?_
  obtain ⟨b1p, c1p, b2p, c2p, b3p, c3p, rfl, h1p, h2p, h3p⟩ := gQuery_rd.1 hp
  refine VCnew.intro fun x0 => ?_
  refine VCsplit.intro (fun q1 => ?_) (fun q1 => ?_)
  ·
    simp at q1
    exact ⟨[], ⟨by unfold inR; rw [decide_eq_true (by omega : (0 : Int) ≤ i), Bool.true_and]; congr 1; rw [decide_eq_decide]; omega, rfl⟩, (.le fun a => by (try simp only [setR, List.cons_append, List.nil_append]); simp [List.count_cons, Blk.ent, idOf]; try omega)⟩
  ·
    simp at q1
    exact ⟨[], ⟨by unfold inR; rw [decide_eq_false (by omega : ¬ (0 : Int) ≤ i), Bool.false_and], rfl⟩, (.le fun a => by (try simp only [setR, List.cons_append, List.nil_append]); simp [List.count_cons, Blk.ent, idOf]; try omega)⟩

def hearOk (c : Cell) (f a : Int) (b : Bag) : Prop :=
  0 ≤ f ∧ f < c.n ∧ f < 8 ∧ 0 ≤ a ∧ a < c.query.atoms.length ∧ bagM b = true ∧ (b.items = [] ∨ (b.items[0]?.getD default).row.length = (colsOf (c.query.atoms[a.toNat]?.getD default)).length)
instance (c : Cell) (f a : Int) (b : Bag) : Decidable (hearOk c f a b) := by unfold hearOk; exact inferInstance
def cellHear (c : Cell) (f a : Int) (b : Bag) : Cell := if hearOk c f a b then { c with gots := betw c.gots ⟨f, a, b⟩ } else c
theorem hear_no {c : Cell} {f a : Int} {b : Bag} (h : ¬ hearOk c f a b) : cellHear c f a b = c := if_neg h
theorem hear_yes {c : Cell} {f a : Int} {b : Bag} (h : hearOk c f a b) : cellHear c f a b = { c with gots := betw c.gots ⟨f, a, b⟩ } := if_pos h
theorem hear_old {c : Cell} {f a : Int} {b : Bag} {k : Nat} (hk : k < c.gots.length) (h1 : (c.gots[k]?.getD default).from' = f) (h2 : (c.gots[k]?.getD default).atom = a) : cellHear c f a b = c := by
  unfold cellHear
  split
  · rw [betw_old]
    rw [List.any_eq_true]
    rw [List.getElem?_eq_getElem hk] at h1 h2
    exact ⟨_, List.getElem_mem hk, by rw [decide_eq_true_iff, cmpG_zero]; exact ⟨h1, h2⟩⟩
  · rfl
theorem bag0 {b : Bag} (h : b.items = []) : b.items.length = 0 := by rw [h]; rfl
theorem cell_back {l0 : List Value} {A0 A1 A4 : Hp} {b1 b4 : Option Addr} {c1 c4 : Nat} {x : Cell} {gs : List Got} (h0 : gQuery.ow l0 x.query A0) (h1 : (gSl 3 gI).ow [.slice b1 x.shares.length c1] x.shares A1) (w2 : okI x.at') (w3 : okI x.n) (h4 : (gSl 142 gGot).ow [.slice b4 gs.length c4] gs A4) :
    gCell.ow (l0 ++ [.slice b1 x.shares.length c1, .int .i64 x.at', .int .i64 x.n, .slice b4 gs.length c4]) { x with gots := gs } [A0, A1, A4].flatten := gCell_ow.2 ⟨l0, A0, b1, c1, A1, b4, c4, A4, rfl, by simp, h0, h1, w2, w3, h4⟩

theorem hear_bag {c : Cell} {f a : Int} {b : Bag} (h : bagM b = false) : ¬ hearOk c f a b := fun h2 => by
  have h3 := h2.2.2.2.2.2.1
  rw [h] at h3; cases h3
theorem hear_row {c : Cell} {f a : Int} {b : Bag} (h0 : 0 < b.items.length) (h : ¬ (((b.items[0]?.getD default).row.length : Nat) : Int) = (((colsOf (c.query.atoms[a.toNat]?.getD default)).length : Nat) : Int)) : ¬ hearOk c f a b := fun h2 => by
  rcases h2.2.2.2.2.2.2 with h3 | h3
  · rw [h3] at h0; simp at h0
  · exact h (by rw [h3])
theorem hear_all {c : Cell} {f a : Int} {b : Bag} (h1 : 0 ≤ f ∧ f < c.n ∧ f < 8) (h2 : 0 ≤ a ∧ a ≤ (c.query.atoms.length : Int) - 1) (h3 : bagM b = true) (h4 : b.items = [] ∨ (((b.items[0]?.getD default).row.length : Nat) : Int) = (((colsOf (c.query.atoms[a.toNat]?.getD default)).length : Nat) : Int)) : hearOk c f a b := by
  refine ⟨h1.1, h1.2.1, h1.2.2, h2.1, by omega, h3, ?_⟩
  rcases h4 with h | h
  · exact .inl h
  · exact .inr (by omega)
theorem got_own {f a : Int} {l : List Value} {b : Bag} {A : Hp} (hf : okI f) (ha : okI a) (h : gBag.ow l b A) : gGot.ow (.int .i64 f :: .int .i64 a :: l ++ []) ⟨f, a, b⟩ A := gGot_ow.2 ⟨l, A, rfl, .refl _, hf, ha, h⟩
theorem any_next {xs : List Got} {k : Nat} {f a : Int} {b : Bag} (hk : k < xs.length) (h : ((xs.take k).any fun y => decide (cmpG y ⟨f, a, b⟩ = 0)) = false) (h2 : ¬ ((xs[k]?.getD default).from' = f ∧ (xs[k]?.getD default).atom = a)) : ((xs.take (k + 1)).any fun y => decide (cmpG y ⟨f, a, b⟩ = 0)) = false := by
  rw [List.getElem?_eq_getElem hk] at h2
  rw [← List.take_append_getElem hk, List.any_append, h]
  simp only [List.any_cons, List.any_nil, Bool.or_false, Bool.false_or, decide_eq_false_iff_not, cmpG_zero]
  exact h2
--@ct impl.CellHear new implCellHear_ct _ $1 _ _ _ $4 ?_ ?_ ?_ ?_ | ⟨%1, %4⟩ | obtain ⟨l#, rfl, o#⟩ := o# ;; have r# := Gt.owrd _ o# ;; @open{Cell r# x#}
theorem implCellHear_ct (l : List Value) (c : Cell) (f a : Int) (lb : List Value) (b : Bag) (hc : gCell.sz c ≤ 1048576) (hb : gBag.sz b ≤ 1048576) (hf : okI f) (ha : okI a) :
    Ct Try.prog 44 [.agg ⟨l⟩, .int .i64 f, .int .i64 a, .agg ⟨lb⟩] [] (fun H => gCell.rd H l c ∧ gBag.rd H lb b) (fun v A => ∃ l, v = .agg ⟨l⟩ ∧ gCell.ow l (cellHear c f a b) A) := by
  refine Ct.intro0 G_ok Try.func44 rfl rfl rfl fun E H hp => ?_
  obtain ⟨hp, hp4⟩ := hp
  obtain ⟨l0p, b1p, c1p, b4p, c4p, rfl, h0p, h1p, w2p, w3p, h4p⟩ := gCell_rd.1 hp
  obtain ⟨b1_0p, c1_0p, b2_0p, c2_0p, b3_0p, c3_0p, rfl, h1_0p, h2_0p, h3_0p⟩ := gQuery_rd.1 h0p
  obtain ⟨b0y, c0y, rfl, h0y⟩ := gBag_rd.1 hp4
  have hl4 := (rd_len h0y).2
  have hgl : c.gots.length ≤ 1048576 := by have h1 := len_szL gGot c.gots; rw [gCell_sz] at hc; omega
  refine VCnew.intro fun x0 => ?_
  refine VCnew.intro fun x1 => ?_
  refine VCnew.intro fun x2 => ?_
  refine call_newP (copyCell_ct _ (c) ?_) (Rp.mono _ (mem_at 0 rfl) hp) ?_
  · trivial
  rintro v3 A3 o3
  obtain ⟨l3, rfl, o3⟩ := o3
  obtain ⟨lq, Aq, bs, cs, As, bg, cg, Ag, rfl, hpm, oq, os, w2z, w3z, og⟩ := gCell_ow.1 o3
  refine ⟨[Aq, As, Ag], by simpa using hpm, ?_⟩
  obtain ⟨bq1, cq1, bq2, cq2, bq3, cq3, rfl, h1z, h2z, h3z⟩ := gQuery_rd.1 (Gt.owrd _ oq)
  refine VCnew.intro fun x4 => ?_
  refine VCsplit.intro (fun q5 => ?_) (fun q5 => ?_)
  ·
    simp at q5
    (rw [hear_no (by unfold hearOk; omega)]; exact ⟨_, ⟨_, rfl, cell_back oq os w2z w3z og⟩, (.le fun a => by (try simp only [setR, List.cons_append, List.nil_append]); simp [List.count_cons, Blk.ent, idOf]; try omega)⟩)
  ·
    simp at q5
    refine VCsplit.intro (fun q6 => ?_) (fun q6 => ?_)
    ·
      simp at q6
      (rw [hear_no (by unfold hearOk; omega)]; exact ⟨_, ⟨_, rfl, cell_back oq os w2z w3z og⟩, (.le fun a => by (try simp only [setR, List.cons_append, List.nil_append]); simp [List.count_cons, Blk.ent, idOf]; try omega)⟩)
    ·
      simp at q6
      refine VCsplit.intro (fun q7 => ?_) (fun q7 => ?_)
      ·
        simp at q7
        (rw [hear_no (by unfold hearOk; omega)]; exact ⟨_, ⟨_, rfl, cell_back oq os w2z w3z og⟩, (.le fun a => by (try simp only [setR, List.cons_append, List.nil_append]); simp [List.count_cons, Blk.ent, idOf]; try omega)⟩)
      ·
        simp at q7
        refine call_val (isAtom_ct _ (c.query) _) (Rp.mono _ (mem_at 3 rfl) h0p) ?_
        rintro _ rfl
        refine VCsplit.intro (fun q9 => ?_) (fun q9 => ?_)
        ·
          simp at q9
          have iq9 := mt inR_iff.2 (Bool.eq_false_iff.1 q9)
          (rw [hear_no (by unfold hearOk; omega)]; exact ⟨_, ⟨_, rfl, cell_back oq os w2z w3z og⟩, (.le fun a => by (try simp only [setR, List.cons_append, List.nil_append]); simp [List.count_cons, Blk.ent, idOf]; try omega)⟩)
        ·
          simp at q9
          have iq9 := inR_iff.1 q9
          refine call_val (implBagOk_ct _ (b)) (Rp.mono _ (mem_at 3 rfl) hp4) ?_
          rintro _ rfl
          refine VCsplit.intro (fun q11 => ?_) (fun q11 => ?_)
          ·
            simp at q11
            (rw [hear_no (hear_bag ‹bagM b = false›)]; exact ⟨_, ⟨_, rfl, cell_back oq os w2z w3z og⟩, (.le fun a => by (try simp only [setR, List.cons_append, List.nil_append]); simp [List.count_cons, Blk.ent, idOf]; try omega)⟩)
          ·
            simp at q11
            refine draw G_ok mixed none (.q 0 (.q 1 (.q 2 (.q 3 (.q 4 (.q 5 (.q 6 (.q 7 (.q 8 (.q 9 (.q 10 (.q 11 (.q 12 (.q 13 (.q 14 (.q 15 (.q 16 (.f 17 (.q 18 (.q 19 (.q 20 (.nil)))))))))))))))))))))) (by decide +kernel) ?_
            refine VCsplit.intro (fun q12 => ?_) (fun q12 => ?_)
            ·
              simp at q12
              refine idx_rd h0y ?_ ?_ fun b13 o13 hb13 => ?_
              · trivial
              · omega
              refine load_partN default (0) 0 rfl h0y ?_ ?_ hb13 rfl (by decide) (mem_at 3 rfl) fun l14 hl14 => ?_
              · trivial
              · omega
              obtain ⟨b0x14, c0x14, rfl, h0x14, w1x14⟩ := gItem_rd.1 hl14
              refine idx_rd h2_0p ?_ ?_ fun b15 o15 hb15 => ?_
              · omega
              · omega
              refine load_all default h2_0p ?_ ?_ hb15 rfl (mem_at 3 rfl) fun l16 hl16 => ?_
              · omega
              · omega
              obtain ⟨rfl, w0x16, w1x16, w2x16⟩ := gAtom_rd.1 hl16
              refine call_new (implColsOf_ct _ (c.query.atoms[a.toNat]?.getD default)) (Rp.mono _ (mem_at 3 rfl) hl16) ?_
              rintro v17 A17 o17
              obtain ⟨b17, c17, rfl, o17⟩ := o17
              refine VC.intro ?_ ?_
              · exact keep_new
              refine VCsplit.intro (fun q18 => ?_) (fun q18 => ?_)
              ·
                simp at q18
                (rw [hear_no (hear_row (by assumption) (by assumption))]; exact ⟨_, ⟨_, rfl, cell_back oq os w2z w3z og⟩, (.le fun a => by (try simp only [setR, List.cons_append, List.nil_append]); simp [List.count_cons, Blk.ent, idOf]; try omega)⟩)
              ·
                simp at q18
                refine draw G_ok mixed (some 7) (.q 0 (.q 1 (.q 2 (.q 3 (.q 4 (.f 5 (.q 6 (.tl 7 (.f 8 (.f 9 (.nil))))))))))) (by decide +kernel) ?_
                refine call_new (copyBag_ct _ (b) ?_) (Rp.mono _ (mem_at 4 rfl) hp4) ?_
                · trivial
                rintro v19 A19 o19
                obtain ⟨l19, rfl, o19⟩ := o19
                have r19 := Gt.owrd _ o19
                obtain ⟨b0x19, c0x19, rfl, h0x19⟩ := gBag_rd.1 r19
                have og19 := got_own hf ha o19
                refine VC.intro ?_ ?_
                · exact keep_new
                refine callR_part (Ag ++ A19) [A17, Aq, As, H] (between_ct _ _ _ _ _ _ _ _ og og19 ?_) ?_ trivial ?_
                · omega
                · exact .le fun a => by (try simp only [setR, List.cons_append, List.nil_append]); simp only [List.flatten_append, List.flatten_cons, List.flatten_nil, List.count_append, List.count_nil, List.append_nil, List.nil_append]; omega
                rintro _ A20 ⟨b20, c20, rfl, o20⟩
                refine ⟨[A20], by simp, ?_⟩
                (rw [hear_yes (hear_all (by omega) (by omega) (by assumption) (by first | exact .inl (by assumption) | exact .inr (by assumption)))]; exact ⟨_, ⟨_, rfl, cell_back oq os w2z w3z (by assumption)⟩, (.le fun a => by (try simp only [setR, List.cons_append, List.nil_append]); simp [List.count_cons, Blk.ent, idOf]; try omega)⟩)
            ·
              simp at q12
              have hz12 := bag0 q12
              refine draw G_ok mixed (some 7) (.q 0 (.q 1 (.q 2 (.q 3 (.q 4 (.f 5 (.q 6 (.tl 7 (.f 8 (.f 9 (.nil))))))))))) (by decide +kernel) ?_
              refine call_new (copyBag_ct _ (b) ?_) (Rp.mono _ (mem_at 3 rfl) hp4) ?_
              · trivial
              rintro v21 A21 o21
              obtain ⟨l21, rfl, o21⟩ := o21
              have r21 := Gt.owrd _ o21
              obtain ⟨b0x21, c0x21, rfl, h0x21⟩ := gBag_rd.1 r21
              have og21 := got_own hf ha o21
              refine VC.intro ?_ ?_
              · exact keep_new
              refine callR_part (Ag ++ A21) [Aq, As, H] (between_ct _ _ _ _ _ _ _ _ og og21 ?_) ?_ trivial ?_
              · omega
              · exact .le fun a => by (try simp only [setR, List.cons_append, List.nil_append]); simp only [List.flatten_append, List.flatten_cons, List.flatten_nil, List.count_append, List.count_nil, List.append_nil, List.nil_append]; omega
              rintro _ A22 ⟨b22, c22, rfl, o22⟩
              refine ⟨[A22], by simp, ?_⟩
              (rw [hear_yes (hear_all (by omega) (by omega) (by assumption) (by first | exact .inl (by assumption) | exact .inr (by assumption)))]; exact ⟨_, ⟨_, rfl, cell_back oq os w2z w3z (by assumption)⟩, (.le fun a => by (try simp only [setR, List.cons_append, List.nil_append]); simp [List.count_cons, Blk.ent, idOf]; try omega)⟩)

--@ct spec.CellHear new specCellHear_ct _ $1 _ _ _ $4 ?_ ?_ ?_ ?_ | ⟨%1, %4⟩ | obtain ⟨l#, rfl, o#⟩ := o# ;; have r# := Gt.owrd _ o# ;; @open{Cell r# x#}
theorem specCellHear_ct (l : List Value) (c : Cell) (f a : Int) (lb : List Value) (b : Bag) (hc : gCell.sz c ≤ 1048576) (hb : gBag.sz b ≤ 1048576) (hf : okI f) (ha : okI a) :
    Ct Try.prog 41 [.agg ⟨l⟩, .int .i64 f, .int .i64 a, .agg ⟨lb⟩] [] (fun H => gCell.rd H l c ∧ gBag.rd H lb b) (fun v A => ∃ l, v = .agg ⟨l⟩ ∧ gCell.ow l (cellHear c f a b) A) := by
  refine Ct.intro0 G_ok Try.func41 rfl rfl rfl fun E H hp => ?_
  obtain ⟨hp, hp4⟩ := hp
  obtain ⟨l0p, b1p, c1p, b4p, c4p, rfl, h0p, h1p, w2p, w3p, h4p⟩ := gCell_rd.1 hp
  obtain ⟨b1_0p, c1_0p, b2_0p, c2_0p, b3_0p, c3_0p, rfl, h1_0p, h2_0p, h3_0p⟩ := gQuery_rd.1 h0p
  obtain ⟨b0y, c0y, rfl, h0y⟩ := gBag_rd.1 hp4
  have hl4 := (rd_len h0y).2
  have hgl : c.gots.length ≤ 1048576 := by have h1 := len_szL gGot c.gots; rw [gCell_sz] at hc; omega
  have hwa : IntKind.i64.wrap ((c.query.atoms.length : Int) - 1) = (c.query.atoms.length : Int) - 1 := by
    have h9 := (rd_len h2_0p).2
    exact wrap_of (by omega) (by omega)
  refine VCnew.intro fun x0 => ?_
  refine VCnew.intro fun x1 => ?_
  refine VCnew.intro fun x2 => ?_
  refine call_newP (s_l23Copy_ct _ (c) ?_) (Rp.mono _ (mem_at 0 rfl) hp) ?_
  · trivial
  rintro v3 A3 o3
  obtain ⟨l3, rfl, o3⟩ := o3
  obtain ⟨lq, Aq, bs, cs, As, bg, cg, Ag, rfl, hpm, oq, os, w2z, w3z, og⟩ := gCell_ow.1 o3
  refine ⟨[Aq, As, Ag], by simpa using hpm, ?_⟩
  obtain ⟨bq1, cq1, bq2, cq2, bq3, cq3, rfl, h1z, h2z, h3z⟩ := gQuery_rd.1 (Gt.owrd _ oq)
  refine VCnew.intro fun x4 => ?_
  refine call_val (l01In_ct _ _ _) trivial ?_
  rintro _ rfl
  refine VCsplit.intro (fun q6 => ?_) (fun q6 => ?_)
  ·
    simp at q6
    have iq6 := mt inR_iff.2 (Bool.eq_false_iff.1 q6)
    (rw [hear_no (by unfold hearOk; omega)]; exact ⟨_, ⟨_, rfl, cell_back oq os w2z w3z og⟩, (.le fun a => by (try simp only [setR, List.cons_append, List.nil_append]); simp [List.count_cons, Blk.ent, idOf]; try omega)⟩)
  ·
    simp at q6
    have iq6 := inR_iff.1 q6
    refine VCsplit.intro (fun q7 => ?_) (fun q7 => ?_)
    ·
      simp at q7
      (rw [hear_no (by unfold hearOk; omega)]; exact ⟨_, ⟨_, rfl, cell_back oq os w2z w3z og⟩, (.le fun a => by (try simp only [setR, List.cons_append, List.nil_append]); simp [List.count_cons, Blk.ent, idOf]; try omega)⟩)
    ·
      simp at q7
      refine call_val (l01In_ct _ _ _) trivial ?_
      rintro _ rfl
      refine VCsplit.intro (fun q9 => ?_) (fun q9 => ?_)
      ·
        rw [hwa] at q9
        simp at q9
        have iq9 := mt inR_iff.2 (Bool.eq_false_iff.1 q9)
        (rw [hear_no (by unfold hearOk; omega)]; exact ⟨_, ⟨_, rfl, cell_back oq os w2z w3z og⟩, (.le fun a => by (try simp only [setR, List.cons_append, List.nil_append]); simp [List.count_cons, Blk.ent, idOf]; try omega)⟩)
      ·
        rw [hwa] at q9
        simp at q9
        have iq9 := inR_iff.1 q9
        refine call_val (specBagOk_ct _ (b)) (Rp.mono _ (mem_at 3 rfl) hp4) ?_
        rintro _ rfl
        refine VCsplit.intro (fun q11 => ?_) (fun q11 => ?_)
        ·
          simp at q11
          (rw [hear_no (hear_bag ‹bagM b = false›)]; exact ⟨_, ⟨_, rfl, cell_back oq os w2z w3z og⟩, (.le fun a => by (try simp only [setR, List.cons_append, List.nil_append]); simp [List.count_cons, Blk.ent, idOf]; try omega)⟩)
        ·
          simp at q11
          apply loop_mod (α := (Nat)) G_ok [38, 39, 40, 41, 42, 45, 46, 47, 48, 49, 50, 51, 52, 53, 54, 55, 56, 57, 58, 59, 60, 61, 62, 63, 43, 44, 10] (fun z => [(10, .v (.int .i64 z))]) (fun z => [{ id := x0, cs := [Value.bool c.query.each, Value.slice b1_0p c.query.out.length c1_0p, Value.slice b2_0p c.query.atoms.length c2_0p, Value.slice b3_0p c.query.filters.length c3_0p] ++ [Value.slice b1p c.shares.length c1p, Value.int IntKind.i64 c.at', Value.int IntKind.i64 c.n, Value.slice b4p c.gots.length c4p], ty := (86 : Nat) }, { id := x1, cs := [Value.slice b0y b.items.length c0y], ty := (91 : Nat) }, { id := x2, cs := [Value.bool false, Value.slice none (0 : Nat) (0 : Nat), Value.slice none (0 : Nat) (0 : Nat), Value.slice none (0 : Nat) (0 : Nat), Value.slice none (0 : Nat) (0 : Nat), Value.int IntKind.i64 (0 : Int), Value.int IntKind.i64 (0 : Int), Value.slice none (0 : Nat) (0 : Nat)], ty := (86 : Nat) }, { id := x4, cs := [Value.bool c.query.each, Value.slice bq1 c.query.out.length cq1, Value.slice bq2 c.query.atoms.length cq2, Value.slice bq3 c.query.filters.length cq3, Value.slice bs c.shares.length cs, Value.int IntKind.i64 c.at', Value.int IntKind.i64 c.n, Value.slice bg c.gots.length cg], ty := (86 : Nat) }]) (fun z => [Aq, As, Ag] ++ [H]) (fun z => c.gots.length - z) (fun z => z ≤ c.gots.length ∧ ((c.gots.take z).any fun y => decide (cmpG y ⟨f, a, b⟩ = 0)) = false) (0)
          · repeat' (first | exact trivial | refine ⟨⟨_, rfl, by first | rfl | exact inc_eq _ (by omega) | (refine sl_eq ?_; simp; done), by first | exact trivial | simp [SV.ok]⟩, ?_⟩)
          · exact ⟨rfl, rfl, rfl, rfl, trivial⟩
          · exact ⟨Nat.zero_le _, rfl⟩
          · exact .refl _
          rintro k hI
          obtain ⟨hk, hn⟩ : k ≤ c.gots.length ∧ ((c.gots.take k).any fun y => decide (cmpG y ⟨f, a, b⟩ = 0)) = false := hI
          try dsimp only
          refine VCsplit.intro (fun q12 => ?_) (fun q12 => ?_)
          ·
            simp at q12
            refine idx_rd h4p ?_ ?_ fun b13 o13 hb13 => ?_
            · omega
            · omega
            refine load_partN default (k) 0 rfl h4p ?_ ?_ hb13 rfl (by decide) (mem_at 3 rfl) fun l14 hl14 => ?_
            · omega
            · omega
            obtain ⟨l2x14, rfl, w0x14, w1x14, h2x14⟩ := gGot_rd.1 hl14 ; obtain ⟨b0_2x14, c0_2x14, rfl, h0_2x14⟩ := gBag_rd.1 h2x14
            refine VCsplit.intro (fun q15 => ?_) (fun q15 => ?_)
            ·
              simp at q15
              refine idx_rd h4p ?_ ?_ fun b16 o16 hb16 => ?_
              · omega
              · omega
              refine load_partN default (k) 1 rfl h4p ?_ ?_ hb16 rfl (by decide) (mem_at 3 rfl) fun l17 hl17 => ?_
              · omega
              · omega
              obtain ⟨l2x17, rfl, w0x17, w1x17, h2x17⟩ := gGot_rd.1 hl17 ; obtain ⟨b0_2x17, c0_2x17, rfl, h0_2x17⟩ := gBag_rd.1 h2x17
              refine VCsplit.intro (fun q18 => ?_) (fun q18 => ?_)
              ·
                simp at q18
                (rw [hear_old (k := k) (by omega) (by assumption) (by assumption)]; exact ⟨_, ⟨_, rfl, cell_back oq os w2z w3z og⟩, (.le fun a => by (try simp only [setR, List.cons_append, List.nil_append]); simp [List.count_cons, Blk.ent, idOf]; try omega)⟩)
              ·
                simp at q18
                apply loop_stepA (k + 1)
                · exact .refl _
                · repeat' (first | exact trivial | refine ⟨⟨_, rfl, by first | rfl | exact inc_eq _ (by omega) | (refine sl_eq ?_; simp; done), by first | exact trivial | simp [SV.ok]⟩, ?_⟩)
                · exact ⟨rfl, rfl, rfl, rfl, trivial⟩
                · exact ⟨by omega, any_next (by omega) hn (by simp_all)⟩
                · omega
            ·
              simp at q15
              apply loop_stepA (k + 1)
              · exact .refl _
              · repeat' (first | exact trivial | refine ⟨⟨_, rfl, by first | rfl | exact inc_eq _ (by omega) | (refine sl_eq ?_; simp; done), by first | exact trivial | simp [SV.ok]⟩, ?_⟩)
              · exact ⟨rfl, rfl, rfl, rfl, trivial⟩
              · exact ⟨by omega, any_next (by omega) hn (by simp_all)⟩
              · omega
          ·
            simp at q12
            obtain rfl : k = c.gots.length := by omega
            simp only [List.take_length] at hn
            refine draw G_ok mixed none (.q 0 (.q 1 (.q 2 (.q 3 (.q 4 (.q 5 (.q 6 (.q 7 (.q 8 (.q 9 (.q 10 (.q 11 (.q 12 (.q 13 (.q 14 (.q 15 (.q 16 (.f 17 (.q 18 (.q 19 (.q 20 (.nil)))))))))))))))))))))) (by decide +kernel) ?_
            refine VCsplit.intro (fun q19 => ?_) (fun q19 => ?_)
            ·
              simp at q19
              refine idx_rd h0y ?_ ?_ fun b20 o20 hb20 => ?_
              · trivial
              · omega
              refine load_partN default (0) 0 rfl h0y ?_ ?_ hb20 rfl (by decide) (mem_at 3 rfl) fun l21 hl21 => ?_
              · trivial
              · omega
              obtain ⟨b0x21, c0x21, rfl, h0x21, w1x21⟩ := gItem_rd.1 hl21
              refine idx_rd h2_0p ?_ ?_ fun b22 o22 hb22 => ?_
              · omega
              · omega
              refine load_all default h2_0p ?_ ?_ hb22 rfl (mem_at 3 rfl) fun l23 hl23 => ?_
              · omega
              · omega
              obtain ⟨rfl, w0x23, w1x23, w2x23⟩ := gAtom_rd.1 hl23
              refine call_new (specColsOf_ct _ (c.query.atoms[a.toNat]?.getD default)) (Rp.mono _ (mem_at 3 rfl) hl23) ?_
              rintro v24 A24 o24
              obtain ⟨b24, c24, rfl, o24⟩ := o24
              refine VC.intro ?_ ?_
              · exact keep_new
              refine VCsplit.intro (fun q25 => ?_) (fun q25 => ?_)
              ·
                simp at q25
                (rw [hear_no (hear_row (by assumption) (by assumption))]; exact ⟨_, ⟨_, rfl, cell_back oq os w2z w3z og⟩, (.le fun a => by (try simp only [setR, List.cons_append, List.nil_append]); simp [List.count_cons, Blk.ent, idOf]; try omega)⟩)
              ·
                simp at q25
                refine draw G_ok mixed (some 7) (.q 0 (.q 1 (.q 2 (.q 3 (.q 4 (.f 5 (.q 6 (.tl 7 (.f 8 (.f 9 (.nil))))))))))) (by decide +kernel) ?_
                refine call_new (s_l03Copy_ct _ (b) ?_) (Rp.mono _ (mem_at 4 rfl) hp4) ?_
                · trivial
                rintro v26 A26 o26
                obtain ⟨l26, rfl, o26⟩ := o26
                have r26 := Gt.owrd _ o26
                obtain ⟨b0x26, c0x26, rfl, h0x26⟩ := gBag_rd.1 r26
                have og26 := got_own hf ha o26
                refine VC.intro ?_ ?_
                · exact keep_new
                refine callR_part (Ag ++ A26) [A24, Aq, As, H] (l23Put_ct _ _ _ _ _ _ _ _ og og26 ?_) ?_ trivial ?_
                · omega
                · exact .le fun a => by (try simp only [setR, List.cons_append, List.nil_append]); simp only [List.flatten_append, List.flatten_cons, List.flatten_nil, List.count_append, List.count_nil, List.append_nil, List.nil_append]; omega
                rintro _ A27 ⟨b27, c27, rfl, o27⟩
                refine ⟨[A27], by simp, ?_⟩
                (rw [hear_yes (hear_all (by omega) (by omega) (by assumption) (by first | exact .inl (by assumption) | exact .inr (by assumption))), betw_new hn]; exact ⟨_, ⟨_, rfl, cell_back oq os w2z w3z (by assumption)⟩, (.le fun a => by (try simp only [setR, List.cons_append, List.nil_append]); simp [List.count_cons, Blk.ent, idOf]; try omega)⟩)
            ·
              simp at q19
              refine draw G_ok mixed (some 7) (.q 0 (.q 1 (.q 2 (.q 3 (.q 4 (.f 5 (.q 6 (.tl 7 (.f 8 (.f 9 (.nil))))))))))) (by decide +kernel) ?_
              refine call_new (s_l03Copy_ct _ (b) ?_) (Rp.mono _ (mem_at 3 rfl) hp4) ?_
              · trivial
              rintro v28 A28 o28
              obtain ⟨l28, rfl, o28⟩ := o28
              have r28 := Gt.owrd _ o28
              obtain ⟨b0x28, c0x28, rfl, h0x28⟩ := gBag_rd.1 r28
              have og28 := got_own hf ha o28
              refine VC.intro ?_ ?_
              · exact keep_new
              refine callR_part (Ag ++ A28) [Aq, As, H] (l23Put_ct _ _ _ _ _ _ _ _ og og28 ?_) ?_ trivial ?_
              · omega
              · exact .le fun a => by (try simp only [setR, List.cons_append, List.nil_append]); simp only [List.flatten_append, List.flatten_cons, List.flatten_nil, List.count_append, List.count_nil, List.append_nil, List.nil_append]; omega
              rintro _ A29 ⟨b29, c29, rfl, o29⟩
              refine ⟨[A29], by simp, ?_⟩
              (rw [hear_yes (hear_all (by omega) (by omega) (by assumption) (by first | exact .inl (by assumption) | exact .inr (by assumption))), betw_new hn]; exact ⟨_, ⟨_, rfl, cell_back oq os w2z w3z (by assumption)⟩, (.le fun a => by (try simp only [setR, List.cons_append, List.nil_append]); simp [List.count_cons, Blk.ent, idOf]; try omega)⟩)

end Go.Proofs.Ytcikookachejfaa
