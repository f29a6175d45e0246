/-
  Rows for a cell: the reference's side. The laws' helpers over their types: marks, and what is held (printed by gent.py). The two sides find the rows for a cell alike. Conditions: none.
-/
import Derived.Test.YtjgehblllhkdbaaGreatZr5

namespace Go.Proofs.YtjgehblllhkdbaaGreat
open Go.SX Go.Proofs
set_option linter.unusedSimpArgs false
set_option linter.unusedVariables false
set_option maxHeartbeats 4000000
attribute [local irreducible] IntKind.wrap namesM queryM sharesM ownerOf
theorem colW_1 {a : Atom} : ((colsM a).length : Int) = 1 ↔ a.from' = a.to := by unfold colsM; split <;> simp_all
theorem spec_row {a : Atom} {b : Option Addr} {n c : Nat} {p : List Int} {H : Hp} (h2 : ((p.length : Nat) : Int) = 2) (h : (gSl 3 gI).rd H [.slice b n c] p) : (gSl 3 gI).rd H [.slice (subBase c 0 b ty3.size) (((colsM a).length : Int).toNat - 0) (c - 0)] (pairRow a p) := by
  have hc := (sl_len h).2.1
  have hw := (cols_le a).2
  have h1 := rd_sub (r := gI.toRp) (l := 0) (h := ((colsM a).length : Int).toNat) h (by omega) (by omega)
  have e : (p.take ((colsM a).length : Int).toNat).drop 0 = pairRow a p := by
    rw [List.drop_zero, Int.toNat_natCast]
    unfold colsM pairRow
    split
    · rfl
    · rw [List.take_of_length_le]; simp; omega
  rw [e] at h1; exact h1
theorem sOk1 {a : Atom} {p : List Int} (h : (p[0]?.getD 0) = (p[1]?.getD 0)) : pairOk a p = true := by
  unfold pairOk
  split
  · exact decide_eq_true h
  · rfl
theorem sOk2 {a : Atom} {p : List Int} (h : ¬ ((colsM a).length : Int) = 1) : pairOk a p = true := by unfold pairOk; rw [if_neg fun e => h (colW_1.2 e)]
theorem sNo {a : Atom} {p : List Int} (h : ((colsM a).length : Int) = 1) (h2 : ¬ (p[0]?.getD 0) = (p[1]?.getD 0)) : pairOk a p = false := by unfold pairOk; rw [if_pos (colW_1.1 h), decide_eq_false h2]
theorem rs_no1 {x : Query} {s : List Int} {a : Atom} {c : Int} {xs : List Item} {ps : List (List Int)} {k : Nat} (hk : k < ps.length) (hx : xs = rowsK x s a c (ps.take k)) (h : pairOk a (ps[k]?.getD []) = false) : xs = rowsK x s a c (ps.take (k + 1)) := by rw [rowsK_step hk, stepR_no1 h]; exact hx
theorem rs_no2 {x : Query} {s : List Int} {a : Atom} {c : Int} {xs : List Item} {ps : List (List Int)} {k : Nat} (hk : k < ps.length) (hx : xs = rowsK x s a c (ps.take k)) (h : fitP x s a c (pairRow a (ps[k]?.getD [])) = false) : xs = rowsK x s a c (ps.take (k + 1)) := by rw [rowsK_step hk, stepR_no2 h]; exact hx
theorem rs_no3 {x : Query} {s : List Int} {a : Atom} {c : Int} {xs : List Item} {ps : List (List Int)} {k : Nat} (hk : k < ps.length) (hx : xs = rowsK x s a c (ps.take k)) (h : ¬ tmM xs (pairRow a (ps[k]?.getD [])) = 0) : xs = rowsK x s a c (ps.take (k + 1)) := by rw [rowsK_step hk, ← hx, stepR_no3 h]
theorem rs_yes {x : Query} {s : List Int} {a : Atom} {c : Int} {xs : List Item} {ps : List (List Int)} {k : Nat} (hk : k < ps.length) (hx : xs = rowsK x s a c (ps.take k)) (h1 : pairOk a (ps[k]?.getD []) = true) (h2 : fitP x s a c (pairRow a (ps[k]?.getD [])) = true) (h3 : tmM xs (pairRow a (ps[k]?.getD [])) = 0) : putZ xs (pairRow a (ps[k]?.getD [])) 1 (plR xs (pairRow a (ps[k]?.getD []))) = rowsK x s a c (ps.take (k + 1)) := by rw [rowsK_step hk, ← hx, stepR_yes h1 h2 h3]
theorem specRowsTo_ct (l : List Value) (b : Option Addr) (m c : Nat) (bp : Option Addr) (mp cp : Nat) (x : Query) (s : List Int) (at' : Int) (ps : List (List Int)) (cell : Int) (hx : gQuery.sz x ≤ 1048576) (hps : ps.length ≤ 1048576) :
    Ct Tryz.prog 11 [.agg ⟨l⟩, .slice b m c, .int .i64 at', .slice bp mp cp, .int .i64 cell] [] (fun H => gQuery.rd H l x ∧ (gSl 3 gI).rd H [.slice b m c] s ∧ (gSl 27 (gSl 3 gI)).rd H [.slice bp mp cp] ps)
      (fun v A => ∃ b c, v = .tuple #[.agg ⟨[.slice b (rowsTo x s at' ps cell).1.length c]⟩, .bool (rowsTo x s at' ps cell).2] ∧ (gSl 218 gItem).ow [.slice b (rowsTo x s at' ps cell).1.length c] (rowsTo x s at' ps cell).1 A) := by
  refine Ct.intro0 G_ok Tryz.func11 rfl rfl rfl fun E H hp => ?_
  obtain ⟨hp, hq, hpr⟩ := hp
  obtain ⟨rfl, hcl, hl⟩ := sl_len hq
  obtain ⟨rfl, hcp⟩ := rd_len hpr
  obtain ⟨b1p, c1p, b2p, c2p, b3p, c3p, rfl, h1p, h2p, h3p⟩ := gQuery_rd.1 hp
  have hcr := cells_rng s
  have hal := atoms_len hx
  have hwA : IntKind.i64.wrap ((x.atoms.length : Int) - 1) = (x.atoms.length : Int) - 1 := wrap_of (by omega) (by omega)
  refine VCnew.intro fun x0 => ?_
  refine VCnew.intro fun x1 => ?_
  refine call_val (specSharesOk_ct _ _ _ _ (x) (s) ?_) ⟨(Rp.mono _ (mem_at 0 rfl) hp), (Rp.mono _ (mem_at 0 rfl) hq)⟩ ?_
  · trivial
  rintro _ rfl
  refine VCsplit.intro (fun q3 => ?_) (fun q3 => ?_)
  ·
    simp at q3
    (rw [rowsTo_no1 (by assumption)]; exact ⟨[], ⟨_, _, rfl, sl_nil _ _ _⟩, (.le fun a => by (try simp only [setR, List.cons_append, List.nil_append]); simp [List.count_cons, Blk.ent, idOf]; try omega)⟩)
  ·
    simp at q3
    refine call_val (l01In_ct _ _ _) trivial ?_
    rintro _ rfl
    refine VCsplit.intro (fun q5 => ?_) (fun q5 => ?_)
    ·
      simp at q5
      simp (disch := omega) only [wrap_of] at q5
      (rw [rowsTo_no2 (by assumption)]; exact ⟨[], ⟨_, _, rfl, sl_nil _ _ _⟩, (.le fun a => by (try simp only [setR, List.cons_append, List.nil_append]); simp [List.count_cons, Blk.ent, idOf]; try omega)⟩)
    ·
      simp at q5
      simp (disch := omega) only [wrap_of] at q5
      have hai := inR_iff.1 ‹inR 0 _ at' = true›
      refine call_val (specCellsOf_ct _ _ _ (s)) (Rp.mono _ (mem_at 0 rfl) hq) ?_
      rintro _ rfl
      refine call_val (l01In_ct _ _ _) trivial ?_
      rintro _ rfl
      refine VCsplit.intro (fun q8 => ?_) (fun q8 => ?_)
      ·
        simp at q8
        simp (disch := omega) only [wrap_of] at q8
        (rw [rowsTo_no3 (by assumption)]; exact ⟨[], ⟨_, _, rfl, sl_nil _ _ _⟩, (.le fun a => by (try simp only [setR, List.cons_append, List.nil_append]); simp [List.count_cons, Blk.ent, idOf]; try omega)⟩)
      ·
        simp at q8
        simp (disch := omega) only [wrap_of] at q8
        obtain ⟨hso, hsn, hs4⟩ := shares_all ‹sharesM x s = true›
        refine VCnew.intro fun x9 => ?_
        refine call_new (specNamesOf_ct _ (x) ?_) (Rp.mono _ (mem_at 0 rfl) hp) ?_
        · trivial
        rintro v10 A10 o10
        obtain ⟨b10, c10, rfl, o10⟩ := o10
        refine idx_rd h2p ?_ ?_ fun b11 o11 hb11 => ?_
        · omega
        · omega
        refine load_all default h2p ?_ ?_ hb11 rfl (mem_at 1 rfl) fun l12 hl12 => ?_
        · omega
        · omega
        obtain ⟨rfl, w0x12, w1x12, w2x12⟩ := gAtom_rd.1 hl12
        refine call_new (specColsOf_ct _ (x.atoms[at'.toNat]?.getD default)) (Rp.mono _ (mem_at 1 rfl) hl12) ?_
        rintro v13 A13 o13
        obtain ⟨b13, c13, rfl, o13⟩ := o13
        apply loop_mod (α := (Nat) × (List Item) × (Hp) × (Option Addr) × (Nat)) G_ok [50, 51, 52, 53, 56, 57, 58, 59, 16, 60, 61, 62, 63, 64, 65, 66, 67, 68, 69, 70, 71, 72, 73, 74, 75, 76, 77, 11, 78, 79, 80, 81, 82, 83, 84, 85, 86, 87, 88, 89, 90, 91, 17, 92, 93, 94, 95, 96, 97, 98, 99, 100, 101, 102, 103, 104, 105, 106, 107, 108, 54, 55, 15] (fun z => [(15, .v (.int .i64 z.1)), (11, .v (.bool false))]) (fun z => [⟨x0, [Value.bool x.each, Value.slice b1p x.out.length c1p, Value.slice b2p x.atoms.length c2p, Value.slice b3p x.filters.length c3p], (39 : Nat)⟩, ⟨x1, [Value.slice none (0 : Nat) (0 : Nat)], (33 : Nat)⟩, ⟨x9, [.slice z.2.2.2.1 z.2.1.length z.2.2.2.2], (33 : Nat)⟩]) (fun z => [z.2.2.1, A13, A10, H]) (fun z => ps.length - z.1) (fun z => z.1 ≤ ps.length ∧ allK (fun i => pairV (ps[i]?.getD [])) z.1 = true ∧ z.2.1 = rowsK x s (x.atoms[at'.toNat]?.getD default) cell (ps.take z.1) ∧ (gSl 218 gItem).ow [.slice z.2.2.2.1 z.2.1.length z.2.2.2.2] z.2.1 z.2.2.1) ((0, [], [], none, 0))
        · repeat' (first | exact trivial | refine ⟨⟨_, rfl, by first | rfl | exact inc_eq _ (by omega) | (refine sl_eq ?_; simp; done), by first | exact trivial | simp [SV.ok]⟩, ?_⟩)
        · exact ⟨rfl, rfl, rfl, trivial⟩
        · try dsimp only
          exact ⟨Nat.zero_le _, rfl, rfl, sl_nil _ _ _⟩
        · exact .refl _
        rintro ⟨k, xs, A, lb, lc⟩ hI
        obtain ⟨hk, hpa, hxe, oA⟩ : k ≤ ps.length ∧ allK (fun i => pairV (ps[i]?.getD [])) k = true ∧ xs = rowsK x s (x.atoms[at'.toNat]?.getD default) cell (ps.take k) ∧ (gSl 218 gItem).ow [.slice lb xs.length lc] xs A := hI
        try dsimp only
        refine VCsplit.intro (fun q14 => ?_) (fun q14 => ?_)
        ·
          simp at q14
          refine idx_rd hpr ?_ ?_ fun b15 o15 hb15 => ?_
          · omega
          · omega
          refine load_allN [] (k) rfl hpr ?_ ?_ hb15 rfl (mem_at 3 rfl) fun l16 hl16 => ?_
          · omega
          · omega
          obtain ⟨u16, w16, rfl, hl16⟩ := sl_rd hl16
          refine VCsplit.intro (fun q17 => ?_) (fun q17 => ?_)
          ·
            simp at q17
            (rw [rowsTo_no4 (k := k) (by omega) (pv_no1 (by assumption))]; exact ⟨[], ⟨_, _, rfl, sl_nil _ _ _⟩, (.le fun a => by (try simp only [setR, List.cons_append, List.nil_append]); simp [List.count_cons, Blk.ent, idOf]; try omega)⟩)
          ·
            simp at q17
            refine idx_rd hl16 ?_ ?_ fun b18 o18 hb18 => ?_
            · trivial
            · omega
            refine load_allN 0 (0) rfl hl16 ?_ ?_ hb18 rfl (mem_at 3 rfl) fun l19 hl19 => ?_
            · trivial
            · omega
            obtain ⟨rfl, hw19⟩ := hl19; simp only [flStr, flInt, okI] at hw19
            refine call_val (l01In_ct _ _ _) trivial ?_
            rintro _ rfl
            refine VCsplit.intro (fun q21 => ?_) (fun q21 => ?_)
            ·
              simp at q21
              (rw [rowsTo_no4 (k := k) (by omega) (pv_no2 (by assumption))]; exact ⟨[], ⟨_, _, rfl, sl_nil _ _ _⟩, (.le fun a => by (try simp only [setR, List.cons_append, List.nil_append]); simp [List.count_cons, Blk.ent, idOf]; try omega)⟩)
            ·
              simp at q21
              refine idx_rd hl16 ?_ ?_ fun b22 o22 hb22 => ?_
              · trivial
              · omega
              refine load_allN 0 (1) rfl hl16 ?_ ?_ hb22 rfl (mem_at 3 rfl) fun l23 hl23 => ?_
              · trivial
              · omega
              obtain ⟨rfl, hw23⟩ := hl23; simp only [flStr, flInt, okI] at hw23
              refine call_val (l01In_ct _ _ _) trivial ?_
              rintro _ rfl
              refine VCsplit.intro (fun q25 => ?_) (fun q25 => ?_)
              ·
                simp at q25
                (rw [rowsTo_no4 (k := k) (by omega) (pv_no3 (by assumption))]; exact ⟨[], ⟨_, _, rfl, sl_nil _ _ _⟩, (.le fun a => by (try simp only [setR, List.cons_append, List.nil_append]); simp [List.count_cons, Blk.ent, idOf]; try omega)⟩)
              ·
                simp at q25
                refine draw G_ok mixed none (.q 0 (.q 1 (.q 2 (.q 3 (.q 4 (.q 5 (.q 6 (.q 7 (.q 8 (.q 9 (.q 10 (.nil)))))))))))) (by decide +kernel) ?_
                refine VCsplit.intro (fun q26 => ?_) (fun q26 => ?_)
                ·
                  simp at q26
                  refine idx_rd hl16 ?_ ?_ fun b27 o27 hb27 => ?_
                  · trivial
                  · omega
                  refine load_allN 0 (0) rfl hl16 ?_ ?_ hb27 rfl (mem_at 3 rfl) fun l28 hl28 => ?_
                  · trivial
                  · omega
                  obtain ⟨rfl, hw28⟩ := hl28; simp only [flStr, flInt, okI] at hw28
                  refine idx_rd hl16 ?_ ?_ fun b29 o29 hb29 => ?_
                  · trivial
                  · omega
                  refine load_allN 0 (1) rfl hl16 ?_ ?_ hb29 rfl (mem_at 3 rfl) fun l30 hl30 => ?_
                  · trivial
                  · omega
                  obtain ⟨rfl, hw30⟩ := hl30; simp only [flStr, flInt, okI] at hw30
                  refine VCsplit.intro (fun q31 => ?_) (fun q31 => ?_)
                  ·
                    simp at q31
                    have hV := pv_yes (by assumption) ‹inR 0 11 ((ps[k]?.getD [])[0]?.getD 0) = true› ‹inR 0 11 ((ps[k]?.getD [])[1]?.getD 0) = true›
                    have hO := sNo (a := x.atoms[at'.toNat]?.getD default) (p := ps[k]?.getD []) (by assumption) (by assumption)
                    apply loop_stepA (k + 1, xs, A, lb, lc)
                    · exact .refl _
                    · repeat' (first | exact trivial | refine ⟨⟨_, rfl, by first | rfl | exact inc_eq _ (by omega) | (refine sl_eq ?_; simp; done), by first | exact trivial | simp [SV.ok]⟩, ?_⟩)
                    · exact ⟨rfl, rfl, rfl, trivial⟩
                    · try dsimp only
                      exact ⟨by omega, allK_step hpa hV, rs_no1 (by omega) hxe hO, oA⟩
                    · try dsimp only
                      omega
                  ·
                    simp at q31
                    have hV := pv_yes (by assumption) ‹inR 0 11 ((ps[k]?.getD [])[0]?.getD 0) = true› ‹inR 0 11 ((ps[k]?.getD [])[1]?.getD 0) = true›
                    have hO := sOk1 (a := x.atoms[at'.toNat]?.getD default) (p := ps[k]?.getD []) (by assumption)
                    have hInv := rowsK_inv (x := x) (s := s) (a := (x.atoms[at'.toNat]?.getD default)) (c := cell) k hk hpa
                    rw [← hxe] at hInv
                    have hbr : gBag.rd A [.slice lb xs.length lc] ⟨xs⟩ := gBag_rd.2 ⟨lb, lc, rfl, Gt.owrd _ oA⟩
                    have hRw := spec_row (a := x.atoms[at'.toNat]?.getD default) (by assumption) ‹(gSl 3 gI).rd H _ (ps[k]?.getD [])›
                    refine VC.intro ?_ ?_
                    · (have h9 := (cols_le (x.atoms[at'.toNat]?.getD default)).2; have h8 := (sl_len ‹(gSl 3 gI).rd H _ (ps[k]?.getD [])›).2.1; omega)
                    refine call_new (l13Targets_ct _ _ _ _ _ _ _ _ _ _ x (namesM x.atoms) s at' (pairRow (x.atoms[at'.toNat]?.getD default) (ps[k]?.getD [])) ?_ hso hs4 hsn.symm ?_) ⟨(Rp.mono _ (mem_at 3 rfl) hp), (Rp.mono _ (mem_at 2 rfl) (Gt.owrd _ o10)), (Rp.mono _ (mem_at 3 rfl) hq), (Rp.mono _ (mem_at 3 rfl) hRw)⟩ ?_
                    · omega
                    · (rw [(pair_row hV).1]; have := (cols_le (x.atoms[at'.toNat]?.getD default)).2; omega)
                    rintro v32 A32 o32
                    obtain ⟨bT, cT, rfl, oT⟩ := o32
                    have rT := Gt.owrd _ oT
                    refine call_val (l13In_ct _ _ _ (outT s (alM (namesM x.atoms) (colsM (x.atoms[at'.toNat]?.getD default)) (pairRow (x.atoms[at'.toNat]?.getD default) (ps[k]?.getD [])) s) s.length) _) (Rp.mono _ (mem_at 0 rfl) rT) ?_
                    rintro _ rfl
                    refine VCsplit.intro (fun q34 => ?_) (fun q34 => ?_)
                    ·
                      refine call_val (specBagTimes_ct _ _ _ _ ({ items := xs }) (pairRow (x.atoms[at'.toNat]?.getD default) (ps[k]?.getD []))) ⟨(Rp.mono _ (mem_at 1 rfl) hbr), (Rp.mono _ (mem_at 4 rfl) hRw)⟩ ?_
                      rintro _ rfl
                      refine VCsplit.intro (fun q36 => ?_) (fun q36 => ?_)
                      ·
                        simp at q36
                        refine callR_part (A) [A32, A13, A10, H] (l03Put_ct _ _ _ _ _ _ xs _ (pairRow (x.atoms[at'.toNat]?.getD default) (ps[k]?.getD [])) 1 (plR xs (pairRow (x.atoms[at'.toNat]?.getD default) (ps[k]?.getD []))) oA ?_ ?_ ?_ ?_ ?_) ?_ (Rp.mono _ (mem_at 3 rfl) hRw) ?_
                        · (have := inv_len (cols_le _).2 hInv; omega)
                        · (rw [(pair_row hV).1]; have := (cols_le (x.atoms[at'.toNat]?.getD default)).2; omega)
                        · trivial
                        · exact fun i hi => (by rw [(hInv.2 i hi).2]; decide)
                        · exact plR_at hInv.1
                        · exact .le fun a => by (try simp only [setR, List.cons_append, List.nil_append]); simp only [List.flatten_append, List.flatten_cons, List.flatten_nil, List.count_append, List.count_nil, List.append_nil, List.nil_append]; omega
                        rintro _ A37 ⟨b37, c37, rfl, o37⟩
                        refine ⟨[A37], by simp, ?_⟩
                        apply loop_stepA (k + 1, _, _, _, _)
                        · exact .sub (by repeat (first | exact .slnil | apply List.Sublist.cons_cons | apply List.Sublist.cons))
                        · repeat' (first | exact trivial | refine ⟨⟨_, rfl, by first | rfl | exact inc_eq _ (by omega) | (refine sl_eq ?_; simp; done), by first | exact trivial | simp [SV.ok]⟩, ?_⟩)
                        · exact ⟨rfl, rfl, rfl, trivial⟩
                        · try dsimp only
                          exact ⟨by omega, allK_step hpa hV, rs_yes (by omega) hxe hO (by assumption) (by assumption), by assumption⟩
                        · try dsimp only
                          omega
                      ·
                        simp at q36
                        apply loop_stepA (k + 1, xs, A, lb, lc)
                        · exact .sub (by repeat (first | exact .slnil | apply List.Sublist.cons_cons | apply List.Sublist.cons))
                        · repeat' (first | exact trivial | refine ⟨⟨_, rfl, by first | rfl | exact inc_eq _ (by omega) | (refine sl_eq ?_; simp; done), by first | exact trivial | simp [SV.ok]⟩, ?_⟩)
                        · exact ⟨rfl, rfl, rfl, trivial⟩
                        · try dsimp only
                          exact ⟨by omega, allK_step hpa hV, rs_no3 (by omega) hxe (by assumption), oA⟩
                        · try dsimp only
                          omega
                    ·
                      apply loop_stepA (k + 1, xs, A, lb, lc)
                      · exact .sub (by repeat (first | exact .slnil | apply List.Sublist.cons_cons | apply List.Sublist.cons))
                      · repeat' (first | exact trivial | refine ⟨⟨_, rfl, by first | rfl | exact inc_eq _ (by omega) | (refine sl_eq ?_; simp; done), by first | exact trivial | simp [SV.ok]⟩, ?_⟩)
                      · exact ⟨rfl, rfl, rfl, trivial⟩
                      · try dsimp only
                        exact ⟨by omega, allK_step hpa hV, rs_no2 (by omega) hxe (by assumption), oA⟩
                      · try dsimp only
                        omega
                ·
                  simp at q26
                  have hV := pv_yes (by assumption) ‹inR 0 11 ((ps[k]?.getD [])[0]?.getD 0) = true› ‹inR 0 11 ((ps[k]?.getD [])[1]?.getD 0) = true›
                  have hO := sOk2 (a := x.atoms[at'.toNat]?.getD default) (p := ps[k]?.getD []) (by assumption)
                  have hInv := rowsK_inv (x := x) (s := s) (a := (x.atoms[at'.toNat]?.getD default)) (c := cell) k hk hpa
                  rw [← hxe] at hInv
                  have hbr : gBag.rd A [.slice lb xs.length lc] ⟨xs⟩ := gBag_rd.2 ⟨lb, lc, rfl, Gt.owrd _ oA⟩
                  have hRw := spec_row (a := x.atoms[at'.toNat]?.getD default) (by assumption) ‹(gSl 3 gI).rd H _ (ps[k]?.getD [])›
                  refine VC.intro ?_ ?_
                  · (have h9 := (cols_le (x.atoms[at'.toNat]?.getD default)).2; have h8 := (sl_len ‹(gSl 3 gI).rd H _ (ps[k]?.getD [])›).2.1; omega)
                  refine call_new (l13Targets_ct _ _ _ _ _ _ _ _ _ _ x (namesM x.atoms) s at' (pairRow (x.atoms[at'.toNat]?.getD default) (ps[k]?.getD [])) ?_ hso hs4 hsn.symm ?_) ⟨(Rp.mono _ (mem_at 3 rfl) hp), (Rp.mono _ (mem_at 2 rfl) (Gt.owrd _ o10)), (Rp.mono _ (mem_at 3 rfl) hq), (Rp.mono _ (mem_at 3 rfl) hRw)⟩ ?_
                  · omega
                  · (rw [(pair_row hV).1]; have := (cols_le (x.atoms[at'.toNat]?.getD default)).2; omega)
                  rintro v38 A38 o38
                  obtain ⟨bT, cT, rfl, oT⟩ := o38
                  have rT := Gt.owrd _ oT
                  refine call_val (l13In_ct _ _ _ (outT s (alM (namesM x.atoms) (colsM (x.atoms[at'.toNat]?.getD default)) (pairRow (x.atoms[at'.toNat]?.getD default) (ps[k]?.getD [])) s) s.length) _) (Rp.mono _ (mem_at 0 rfl) rT) ?_
                  rintro _ rfl
                  refine VCsplit.intro (fun q40 => ?_) (fun q40 => ?_)
                  ·
                    refine call_val (specBagTimes_ct _ _ _ _ ({ items := xs }) (pairRow (x.atoms[at'.toNat]?.getD default) (ps[k]?.getD []))) ⟨(Rp.mono _ (mem_at 1 rfl) hbr), (Rp.mono _ (mem_at 4 rfl) hRw)⟩ ?_
                    rintro _ rfl
                    refine VCsplit.intro (fun q42 => ?_) (fun q42 => ?_)
                    ·
                      simp at q42
                      refine callR_part (A) [A38, A13, A10, H] (l03Put_ct _ _ _ _ _ _ xs _ (pairRow (x.atoms[at'.toNat]?.getD default) (ps[k]?.getD [])) 1 (plR xs (pairRow (x.atoms[at'.toNat]?.getD default) (ps[k]?.getD []))) oA ?_ ?_ ?_ ?_ ?_) ?_ (Rp.mono _ (mem_at 3 rfl) hRw) ?_
                      · (have := inv_len (cols_le _).2 hInv; omega)
                      · (rw [(pair_row hV).1]; have := (cols_le (x.atoms[at'.toNat]?.getD default)).2; omega)
                      · trivial
                      · exact fun i hi => (by rw [(hInv.2 i hi).2]; decide)
                      · exact plR_at hInv.1
                      · exact .le fun a => by (try simp only [setR, List.cons_append, List.nil_append]); simp only [List.flatten_append, List.flatten_cons, List.flatten_nil, List.count_append, List.count_nil, List.append_nil, List.nil_append]; omega
                      rintro _ A43 ⟨b43, c43, rfl, o43⟩
                      refine ⟨[A43], by simp, ?_⟩
                      apply loop_stepA (k + 1, _, _, _, _)
                      · exact .sub (by repeat (first | exact .slnil | apply List.Sublist.cons_cons | apply List.Sublist.cons))
                      · repeat' (first | exact trivial | refine ⟨⟨_, rfl, by first | rfl | exact inc_eq _ (by omega) | (refine sl_eq ?_; simp; done), by first | exact trivial | simp [SV.ok]⟩, ?_⟩)
                      · exact ⟨rfl, rfl, rfl, trivial⟩
                      · try dsimp only
                        exact ⟨by omega, allK_step hpa hV, rs_yes (by omega) hxe hO (by assumption) (by assumption), by assumption⟩
                      · try dsimp only
                        omega
                    ·
                      simp at q42
                      apply loop_stepA (k + 1, xs, A, lb, lc)
                      · exact .sub (by repeat (first | exact .slnil | apply List.Sublist.cons_cons | apply List.Sublist.cons))
                      · repeat' (first | exact trivial | refine ⟨⟨_, rfl, by first | rfl | exact inc_eq _ (by omega) | (refine sl_eq ?_; simp; done), by first | exact trivial | simp [SV.ok]⟩, ?_⟩)
                      · exact ⟨rfl, rfl, rfl, trivial⟩
                      · try dsimp only
                        exact ⟨by omega, allK_step hpa hV, rs_no3 (by omega) hxe (by assumption), oA⟩
                      · try dsimp only
                        omega
                  ·
                    apply loop_stepA (k + 1, xs, A, lb, lc)
                    · exact .sub (by repeat (first | exact .slnil | apply List.Sublist.cons_cons | apply List.Sublist.cons))
                    · repeat' (first | exact trivial | refine ⟨⟨_, rfl, by first | rfl | exact inc_eq _ (by omega) | (refine sl_eq ?_; simp; done), by first | exact trivial | simp [SV.ok]⟩, ?_⟩)
                    · exact ⟨rfl, rfl, rfl, trivial⟩
                    · try dsimp only
                      exact ⟨by omega, allK_step hpa hV, rs_no2 (by omega) hxe (by assumption), oA⟩
                    · try dsimp only
                      omega
        ·
          simp at q14
          have hke : k = ps.length := by omega
          subst hke
          (rw [rowsTo_yes (by assumption) (by assumption) (by assumption) hpa]; rw [List.take_length] at hxe; subst hxe; exact ⟨_, ⟨_, _, rfl, by assumption⟩, (.le fun a => by (try simp only [setR, List.cons_append, List.nil_append]); simp [List.count_cons, Blk.ent, idOf]; try omega)⟩)
end Go.Proofs.YtjgehblllhkdbaaGreat

namespace Go.Proofs.YtjgehblllhkdbaaGreat
open Go.SX Go.Proofs
set_option maxHeartbeats 4000000
set_option linter.unusedSimpArgs false
set_option linter.unusedVariables false
theorem dgs_size : ∀ (f k : Nat) (out : ByteArray), (dgs f k out).size ≤ f + out.size
  | 0, k, out => by simp [dgs]
  | f + 1, k, out => by
    unfold dgs
    split
    · omega
    · have := dgs_size f (k / 10) (⟨#[UInt8.ofNat (48 + k % 10)]⟩ ++ out)
      rw [ByteArray.size_append] at this
      have e : (⟨#[UInt8.ofNat (48 + k % 10)]⟩ : ByteArray).size = 1 := rfl
      omega
theorem sz1 (x : UInt8) : (⟨#[x]⟩ : ByteArray).size = 1 := rfl
theorem dgs_dig (q : Nat) : ((q : Int).tmod 10) = ((q % 10 : Nat) : Int) := by rw [Int.tmod_eq_emod_of_nonneg (by omega)]; omega
theorem dgs_fr (q : Nat) (o : ByteArray) : Value.string (⟨(([IntKind.u8.wrap (IntKind.i64.wrap (48 + (q : Int).tmod 10))] : List Int).map fun v => UInt8.ofNat v.toNat).toArray⟩ ++ o) = Value.string (⟨#[UInt8.ofNat (48 + q % 10)]⟩ ++ o) := by
  rw [dgs_dig]
  have h : IntKind.u8.wrap (IntKind.i64.wrap (48 + ((q % 10 : Nat) : Int))) = ((48 + q % 10 : Nat) : Int) := by
    simp (disch := omega) only [wrap_of, u8_wrap]; omega
  rw [h]; rfl
theorem mtx_size (k : Int) : (mtx k).size ≤ 9223372036854775807 := by
  unfold mtx
  split
  · decide
  · have := dgs_size 20 k.toNat .empty
    rw [ByteArray.size_append]
    have e : (⟨#[109]⟩ : ByteArray).size = 1 := rfl
    have e2 : ByteArray.empty.size = 0 := rfl
    omega
--@ct laws.markText val markText_ct _ ?_
theorem markText_ct (k : Int) (h1 : k ≤ 4611686018427387904) : Ct Tryz.prog 173 [.int .i64 k] [] (fun _ => True) (fun v A => v = .string (mtx k) ∧ A = []) := by
  refine Ct.intro0 G_ok Tryz.func173 rfl rfl rfl fun E H hp => ?_
  refine VCsplit.intro (fun q0 => ?_) (fun q0 => ?_)
  ·
    simp at q0
    exact ⟨[], ⟨by unfold mtx; rw [if_pos (by omega)], rfl⟩, (.le fun a => by (try simp only [setR, List.cons_append, List.nil_append]); simp only [List.flatten_append, List.flatten_cons, List.flatten_nil, List.count_append, List.count_nil, List.append_nil, List.nil_append]; omega)⟩
  ·
    simp at q0
    apply loop_mod (α := (Nat) × (Nat) × (ByteArray)) G_ok [6, 7, 8, 9, 10, 11, 12, 13, 14, 15, 3, 16, 17, 0] (fun z => [(3, .v (.string z.2.2)), (0, .v (.int .i64 z.2.1))]) (fun z => []) (fun z => [H]) (fun z => z.2.1) (fun z => dgs z.1 z.2.1 z.2.2 = dgs 20 k.toNat .empty ∧ z.2.1 < 10 ^ z.1 ∧ z.2.2.size + z.1 ≤ 20 ∧ z.2.1 ≤ 4611686018427387904) ((20, k.toNat, .empty))
    · repeat' (first | exact trivial | refine ⟨⟨_, rfl, by first | rfl | exact inc_eq _ (by omega) | (refine sl_eq ?_; simp; done) | (refine svi_eq ?_; (try dsimp only); omega) | exact dgs_fr q o | (refine svi_eq ?_; (try dsimp only); rw [Int.tdiv_eq_ediv_of_nonneg (show (0 : Int) ≤ (q : Int) by omega)]; (try simp (disch := omega) only [wrap_of]); omega), by first | exact trivial | simp [SV.ok]⟩, ?_⟩)
    · exact trivial
    · try dsimp only
      exact ⟨rfl, by omega, by decide, by omega⟩
    · exact .refl _
    rintro ⟨f, q, o⟩ hI
    obtain ⟨hd, hq, hs, hm⟩ : dgs f q o = dgs 20 k.toNat .empty ∧ q < 10 ^ f ∧ o.size + f ≤ 20 ∧ q ≤ 4611686018427387904 := hI
    try dsimp only
    refine VCsplit.intro (fun q1 => ?_) (fun q1 => ?_)
    ·
      simp at q1
      obtain ⟨f, rfl⟩ : ∃ f', f = f' + 1 := by cases f with | zero => simp at hq; omega | succ f' => exact ⟨f', rfl⟩
      refine VC.intro ?_ ?_
      · trivial
      refine VCnew.intro fun x2 => ?_
      refine conv_bs G_ok (([IntKind.u8.wrap (IntKind.i64.wrap ((48 : Int) + (↑q : Int).tmod (10 : Int)))] : List Int).map fun v => UInt8.ofNat v.toNat) rfl (lit_bs [IntKind.u8.wrap (IntKind.i64.wrap ((48 : Int) + (↑q : Int).tmod (10 : Int)))] (mem_at 0 rfl _ (List.mem_singleton.2 rfl)) rfl ?_ (by simp)) rfl rfl rfl ?_
      · (simp only [inU8, u8_wrap, and_true]; omega)
      refine VC.intro ?_ ?_
      · (rw [bsz]; simp only [List.length_map, List.length_cons, List.length_nil]; have : IntKind.i64.max = 9223372036854775807 := rfl; omega)
      refine VC.intro ?_ ?_
      · trivial
      apply loop_stepA (f, q / 10, ⟨#[UInt8.ofNat (48 + q % 10)]⟩ ++ o)
      · exact .sub (by repeat (first | exact .slnil | apply List.Sublist.cons_cons | apply List.Sublist.cons))
      · repeat' (first | exact trivial | refine ⟨⟨_, rfl, by first | rfl | exact inc_eq _ (by omega) | (refine sl_eq ?_; simp; done) | (refine svi_eq ?_; (try dsimp only); omega) | exact dgs_fr q o | (refine svi_eq ?_; (try dsimp only); rw [Int.tdiv_eq_ediv_of_nonneg (show (0 : Int) ≤ (q : Int) by omega)]; (try simp (disch := omega) only [wrap_of]); omega), by first | exact trivial | simp [SV.ok]⟩, ?_⟩)
      · exact trivial
      · try dsimp only
        exact ⟨by rw [← hd]; conv => rhs; unfold dgs; rw [if_neg (by omega : ¬ q = 0)], by rw [Nat.pow_succ] at hq; omega, by rw [ByteArray.size_append, sz1]; omega, by omega⟩
      · try dsimp only
        omega
    ·
      simp at q1
      obtain rfl : q = 0 := by omega
      have hd0 : o = dgs 20 k.toNat .empty := by rw [← hd]; cases f <;> simp [dgs]
      refine VC.intro ?_ ?_
      · (have e1 : (⟨#[109]⟩ : ByteArray).size = 1 := rfl; have : IntKind.i64.max = 9223372036854775807 := rfl; omega)
      exact ⟨[], ⟨by unfold mtx; rw [if_neg (by omega), hd0], rfl⟩, (.le fun a => by (try simp only [setR, List.cons_append, List.nil_append]); simp only [List.flatten_append, List.flatten_cons, List.flatten_nil, List.count_append, List.count_nil, List.append_nil, List.nil_append]; omega)⟩
--@ct laws.markIntS mark1 markIntS_ct _ _ _ _ _ _ ~ ?_ ?_
theorem markIntS_ct (b : Option Addr) (m c : Nat) (xs : List Int) (A : Hp) (k0 : Int) (ho : (gSl 3 gI).ow [.slice b m c] xs A) (h0 : 0 ≤ k0) (h1 : k0 + cntL gI xs ≤ 4611686018427387904) :
    CtR Tryz.prog 21 [.slice b m c, .int .i64 k0] A (fun _ => True) (fun v A => v = .int .i64 (k0 + cntL gI xs) ∧ (gSl 3 gI).ow [.slice b m c] (mkL gI k0 xs) A) := by
  obtain ⟨rfl, hcl, hl⟩ := sl_len (Gt.owrd _ ho)
  refine CtR.intro G_ok [A] Tryz.func21 rfl rfl rfl (by simp) fun E H hp => ?_
  apply loop_mod (α := (Nat) × (Hp)) G_ok [6, 7, 8, 9, 12, 13, 14, 15, 16, 17, 1, 10, 11, 5] (fun z => [(5, .v (.int .i64 z.1)), (1, .v (.int .i64 (k0 + cntL gI (xs.take z.1))))]) (fun z => []) (fun z => [z.2, H]) (fun z => xs.length - z.1) (fun z => z.1 ≤ xs.length ∧ (gSl 3 gI).ow [.slice b xs.length c] (mkL gI k0 (xs.take z.1) ++ xs.drop z.1) z.2) ((0, A))
  · repeat' (first | exact trivial | refine ⟨⟨_, rfl, by first | rfl | exact inc_eq _ (by omega) | (refine sl_eq ?_; simp; done) | (refine svi_eq ?_; subst_vars; (try dsimp only); (try simp (disch := omega) only [wrap_of]); omega) | (simp [cntL]), by first | exact trivial | simp [SV.ok]⟩, ?_⟩)
  · exact trivial
  · try dsimp only
    exact ⟨by omega, by simpa [mkL] using ho⟩
  · exact .refl _
  rintro ⟨k, B⟩ hI
  obtain ⟨hk, oB⟩ : k ≤ xs.length ∧ (gSl 3 gI).ow [.slice b xs.length c] (mkL gI k0 (xs.take k) ++ xs.drop k) B := hI
  try dsimp only
  refine VCsplit.intro (fun q0 => ?_) (fun q0 => ?_)
  ·
    simp at q0
    have hs : cntL gI (xs.take (k + 1)) = cntL gI (xs.take k) + 1 := (cntL_step gI xs k 0 (by omega))
    have hs2 := cntL_take_le gI xs (k + 1)
    refine idx_rd (Gt.owrd _ oB) ?_ ?_ fun b1 o1 hb1 => ?_
    · omega
    · (rw [mk_len _ _ _ _ (by omega)]; omega)
    refine gstoreN (Fld.id _) 0 (k) 0 rfl rfl oB ?_ ?_ hb1 rfl gI_pl _ (gI_ow ?_) fun A2 o2 => ?_
    · omega
    · (rw [mk_len _ _ _ _ (by omega)]; omega)
    · unfold okI; omega
    apply loop_stepA (k + 1, _)
    · exact .refl _
    · repeat' (first | exact trivial | refine ⟨⟨_, rfl, by first | rfl | exact inc_eq _ (by omega) | (refine sl_eq ?_; simp; done) | (refine svi_eq ?_; subst_vars; (try dsimp only); (try simp (disch := omega) only [wrap_of]); omega) | (simp [cntL]), by first | exact trivial | simp [SV.ok]⟩, ?_⟩)
    · exact trivial
    · try dsimp only
      exact ⟨by omega, by rw [← mk_step gI 0 xs k0 k (by omega)] ; assumption⟩
    · try dsimp only
      omega
  ·
    simp at q0
    obtain rfl : k = xs.length := by omega
    rw [List.take_length, List.drop_length, List.append_nil] at oB
    exact ⟨_, ⟨by rw [List.take_length], oB⟩, (.le fun a => by (try simp only [setR, List.cons_append, List.nil_append]); simp only [List.flatten_append, List.flatten_cons, List.flatten_nil, List.count_append, List.count_nil, List.append_nil, List.nil_append]; omega)⟩
--@ct laws.heldIntS val heldIntS_ct _ _ _ _ _ _ ?_ ?_ ?_ | %1
theorem heldIntS_ct (b : Option Addr) (m c : Nat) (xs : List Int) (k0 k1 : Int) (hk1 : k0 = k1) (h0 : 0 ≤ k0) (h1 : k0 + cntL gI xs ≤ 4611686018427387904) :
    Ct Tryz.prog 100 [.slice b m c, .int .i64 k0] [] (fun H => (gSl 3 gI).rd H [.slice b m c] (mkL gI k1 xs)) (fun v A => v = .int .i64 (k0 + cntL gI xs) ∧ A = []) := by
  subst hk1
  refine Ct.intro0 G_ok Tryz.func100 rfl rfl rfl fun E H hp => ?_
  have hm0 := (sl_len hp).1
  rw [mkL_len] at hm0; subst hm0
  obtain ⟨-, hcl, hl⟩ := sl_len hp
  rw [mkL_len] at hcl hl
  have hln := mkL_len gI xs k0
  apply loop_mod (α := (Nat)) G_ok [6, 7, 8, 9, 12, 13, 14, 15, 16, 17, 4, 18, 19, 1, 10, 11, 5] (fun z => [(5, .v (.int .i64 z)), (1, .v (.int .i64 (k0 + cntL gI (xs.take z))))]) (fun z => []) (fun z => [H]) (fun z => xs.length - z) (fun z => z ≤ xs.length) (0)
  · repeat' (first | exact trivial | refine ⟨⟨_, rfl, by first | rfl | exact inc_eq _ (by omega) | (refine sl_eq ?_; simp; done) | (refine svi_eq ?_; (try dsimp only); (try simp (disch := omega) only [wrap_of]); omega) | (simp [cntL]), by first | exact trivial | simp [SV.ok]⟩, ?_⟩)
  · exact trivial
  · omega
  · exact .refl _
  rintro k hI
  obtain hk : k ≤ xs.length := hI
  try dsimp only
  refine VCsplit.intro (fun q0 => ?_) (fun q0 => ?_)
  ·
    simp at q0
    have hs : cntL gI (xs.take (k + 1)) = cntL gI (xs.take k) + 1 := (cntL_step gI xs k 0 (by omega))
    have hs2 := cntL_take_le gI xs (k + 1)
    have hm : (mkL gI k0 xs)[k]?.getD 0 = k0 + cntL gI (xs.take k) := mkL_get gI 0 xs k0 k (by omega)
    refine idx_rd hp ?_ ?_ fun b1 o1 hb1 => ?_
    · omega
    · omega
    refine load_allN 0 (k) rfl hp ?_ ?_ hb1 rfl (mem_at 0 rfl) fun l2 hl2 => ?_
    · omega
    · omega
    rw [hm] at hl2
    obtain ⟨rfl, hw2⟩ := hl2; simp only [flStr, flInt, okI] at hw2
    refine VCsplit.intro (fun q3 => ?_) (fun q3 => ?_)
    ·
      simp at q3
    ·
      simp at q3
      apply loop_stepA (k + 1)
      · exact .refl _
      · repeat' (first | exact trivial | refine ⟨⟨_, rfl, by first | rfl | exact inc_eq _ (by omega) | (refine sl_eq ?_; simp; done) | (refine svi_eq ?_; (try dsimp only); (try simp (disch := omega) only [wrap_of]); omega) | (simp [cntL]), by first | exact trivial | simp [SV.ok]⟩, ?_⟩)
      · exact trivial
      · trivial
      · omega
  ·
    simp at q0
    obtain rfl : k = xs.length := by omega
    exact ⟨[], ⟨by rw [List.take_length], rfl⟩, (.le fun a => by (try simp only [setR, List.cons_append, List.nil_append]); simp only [List.flatten_append, List.flatten_cons, List.flatten_nil, List.count_append, List.count_nil, List.append_nil, List.nil_append]; omega)⟩
--@ct laws.markStringS mark1 markStringS_ct _ _ _ _ _ _ ~ ?_ ?_
theorem markStringS_ct (b : Option Addr) (m c : Nat) (xs : List ByteArray) (A : Hp) (k0 : Int) (ho : (gSl 9 gS).ow [.slice b m c] xs A) (h0 : 0 ≤ k0) (h1 : k0 + cntL gS xs ≤ 4611686018427387904) :
    CtR Tryz.prog 85 [.slice b m c, .int .i64 k0] A (fun _ => True) (fun v A => v = .int .i64 (k0 + cntL gS xs) ∧ (gSl 9 gS).ow [.slice b m c] (mkL gS k0 xs) A) := by
  obtain ⟨rfl, hcl, hl⟩ := sl_len (Gt.owrd _ ho)
  refine CtR.intro G_ok [A] Tryz.func85 rfl rfl rfl (by simp) fun E H hp => ?_
  apply loop_mod (α := (Nat) × (Hp)) G_ok [6, 7, 8, 9, 12, 13, 14, 15, 16, 17, 18, 1, 10, 11, 5] (fun z => [(5, .v (.int .i64 z.1)), (1, .v (.int .i64 (k0 + cntL gS (xs.take z.1))))]) (fun z => []) (fun z => [z.2, H]) (fun z => xs.length - z.1) (fun z => z.1 ≤ xs.length ∧ (gSl 9 gS).ow [.slice b xs.length c] (mkL gS k0 (xs.take z.1) ++ xs.drop z.1) z.2) ((0, A))
  · repeat' (first | exact trivial | refine ⟨⟨_, rfl, by first | rfl | exact inc_eq _ (by omega) | (refine sl_eq ?_; simp; done) | (refine svi_eq ?_; subst_vars; (try dsimp only); (try simp (disch := omega) only [wrap_of]); omega) | (simp [cntL]), by first | exact trivial | simp [SV.ok]⟩, ?_⟩)
  · exact trivial
  · try dsimp only
    exact ⟨by omega, by simpa [mkL] using ho⟩
  · exact .refl _
  rintro ⟨k, B⟩ hI
  obtain ⟨hk, oB⟩ : k ≤ xs.length ∧ (gSl 9 gS).ow [.slice b xs.length c] (mkL gS k0 (xs.take k) ++ xs.drop k) B := hI
  try dsimp only
  refine VCsplit.intro (fun q0 => ?_) (fun q0 => ?_)
  ·
    simp at q0
    have hs : cntL gS (xs.take (k + 1)) = cntL gS (xs.take k) + 1 := (cntL_step gS xs k ByteArray.empty (by omega))
    have hs2 := cntL_take_le gS xs (k + 1)
    refine call_val (markText_ct _ ?_) trivial ?_
    · omega
    rintro _ rfl
    refine idx_rd (Gt.owrd _ oB) ?_ ?_ fun b2 o2 hb2 => ?_
    · omega
    · (rw [mk_len _ _ _ _ (by omega)]; omega)
    refine gstoreN (Fld.id _) ByteArray.empty (k) 0 rfl rfl oB ?_ ?_ hb2 rfl fl_pl _ (gS_ow ?_) fun A3 o3 => ?_
    · omega
    · (rw [mk_len _ _ _ _ (by omega)]; omega)
    · exact mtx_size _
    apply loop_stepA (k + 1, _)
    · exact .refl _
    · repeat' (first | exact trivial | refine ⟨⟨_, rfl, by first | rfl | exact inc_eq _ (by omega) | (refine sl_eq ?_; simp; done) | (refine svi_eq ?_; subst_vars; (try dsimp only); (try simp (disch := omega) only [wrap_of]); omega) | (simp [cntL]), by first | exact trivial | simp [SV.ok]⟩, ?_⟩)
    · exact trivial
    · try dsimp only
      exact ⟨by omega, by rw [← mk_step gS ByteArray.empty xs k0 k (by omega)] ; assumption⟩
    · try dsimp only
      omega
  ·
    simp at q0
    obtain rfl : k = xs.length := by omega
    rw [List.take_length, List.drop_length, List.append_nil] at oB
    exact ⟨_, ⟨by rw [List.take_length], oB⟩, (.le fun a => by (try simp only [setR, List.cons_append, List.nil_append]); simp only [List.flatten_append, List.flatten_cons, List.flatten_nil, List.count_append, List.count_nil, List.append_nil, List.nil_append]; omega)⟩
--@ct laws.markItemS mark1 markItemS_ct _ _ _ _ _ _ ~ ?_ ?_
theorem markItemS_ct (b : Option Addr) (m c : Nat) (xs : List Item) (A : Hp) (k0 : Int) (ho : (gSl 218 gItem).ow [.slice b m c] xs A) (h0 : 0 ≤ k0) (h1 : k0 + cntL gItem xs ≤ 4611686018427387904) :
    CtR Tryz.prog 88 [.slice b m c, .int .i64 k0] A (fun _ => True) (fun v A => v = .int .i64 (k0 + cntL gItem xs) ∧ (gSl 218 gItem).ow [.slice b m c] (mkL gItem k0 xs) A) := by
  obtain ⟨rfl, hcl, hl⟩ := sl_len (Gt.owrd _ ho)
  refine CtR.intro G_ok [A] Tryz.func88 rfl rfl rfl (by simp) fun E H hp => ?_
  apply loop_mod (α := (Nat) × (Hp)) G_ok [6, 7, 8, 9, 12, 13, 14, 15, 16, 17, 18, 1, 19, 20, 21, 22, 23, 24, 25, 10, 11, 5] (fun z => [(5, .v (.int .i64 z.1)), (1, .v (.int .i64 (k0 + cntL gItem (xs.take z.1))))]) (fun z => []) (fun z => [z.2, H]) (fun z => xs.length - z.1) (fun z => z.1 ≤ xs.length ∧ (gSl 218 gItem).ow [.slice b xs.length c] (mkL gItem k0 (xs.take z.1) ++ xs.drop z.1) z.2) ((0, A))
  · repeat' (first | exact trivial | refine ⟨⟨_, rfl, by first | rfl | exact inc_eq _ (by omega) | (refine sl_eq ?_; simp; done) | (refine svi_eq ?_; subst_vars; (try dsimp only); (try simp (disch := omega) only [wrap_of]); omega) | (simp [cntL]), by first | exact trivial | simp [SV.ok]⟩, ?_⟩)
  · exact trivial
  · try dsimp only
    exact ⟨by omega, by simpa [mkL] using ho⟩
  · exact .refl _
  rintro ⟨k, B⟩ hI
  obtain ⟨hk, oB⟩ : k ≤ xs.length ∧ (gSl 218 gItem).ow [.slice b xs.length c] (mkL gItem k0 (xs.take k) ++ xs.drop k) B := hI
  try dsimp only
  refine VCsplit.intro (fun q0 => ?_) (fun q0 => ?_)
  ·
    simp at q0
    have hs := (cntL_step gItem xs k default (by omega))
    simp only [gItem_cnt] at hs
    have hs2 := cntL_take_le gItem xs (k + 1)
    obtain ⟨y, ey, oe⟩ := OwE.mk default k oB (by rw [mk_len _ _ _ _ (by omega)]; omega)
    rw [mk_get _ _ _ _ _ (by omega)] at ey
    clear oB
    refine oe_idx oe ?_ fun b1 o1 hb1 => ?_
    · rfl
    refine oe_load gItem_row oe rfl hb1 rfl (mem_at 0 rfl) fun l2 hl2 hf2 => ?_
    obtain ⟨u2, w2, rfl, hl2⟩ := sl_rd hl2
    refine call_foc 0 rfl hf2 (fun Af3 oa3 => markIntS_ct _ _ _ _ _ _ oa3 ?_ ?_) (fun _ _ => trivial) ?_
    · omega
    · simp_all; omega
    rintro _ A3 rfl ⟨y3, ey3, o3⟩
    try dsimp only at ey3
    refine oe_idx o3 ?_ fun b4 o4 hb4 => ?_
    · rfl
    refine oe_store gItem_times 0 rfl o3 rfl hb4 rfl gI_pl _ (gI_ow ?_) fun y5 A5 ey5 o5 => ?_
    · (subst_vars; unfold okI; (try dsimp only at *); omega)
    apply loop_stepA (k + 1, _)
    · exact .refl _
    · repeat' (first | exact trivial | refine ⟨⟨_, rfl, by first | rfl | exact inc_eq _ (by omega) | (refine sl_eq ?_; simp; done) | (refine svi_eq ?_; subst_vars; (try dsimp only); (try simp (disch := omega) only [wrap_of]); omega) | (simp [cntL]), by first | exact trivial | simp [SV.ok]⟩, ?_⟩)
    · exact trivial
    · try dsimp only
      exact ⟨by omega, OwE.done (by assumption) (by rw [← mk_step gItem default xs k0 k (by omega)]; congr 1; subst_vars; (try simp only [gItem_mark, gItem_cnt]); (try simp (disch := omega) only [wrap_of]); (try rfl))⟩
    · try dsimp only
      omega
  ·
    simp at q0
    obtain rfl : k = xs.length := by omega
    rw [List.take_length, List.drop_length, List.append_nil] at oB
    exact ⟨_, ⟨by rw [List.take_length], oB⟩, (.le fun a => by (try simp only [setR, List.cons_append, List.nil_append]); simp only [List.flatten_append, List.flatten_cons, List.flatten_nil, List.count_append, List.count_nil, List.append_nil, List.nil_append]; omega)⟩
--@ct laws.heldItemS val heldItemS_ct _ _ _ _ _ _ ?_ ?_ ?_ | %1
theorem heldItemS_ct (b : Option Addr) (m c : Nat) (xs : List Item) (k0 k1 : Int) (hk1 : k0 = k1) (h0 : 0 ≤ k0) (h1 : k0 + cntL gItem xs ≤ 4611686018427387904) :
    Ct Tryz.prog 89 [.slice b m c, .int .i64 k0] [] (fun H => (gSl 218 gItem).rd H [.slice b m c] (mkL gItem k1 xs)) (fun v A => v = .int .i64 (k0 + cntL gItem xs) ∧ A = []) := by
  subst hk1
  refine Ct.intro0 G_ok Tryz.func89 rfl rfl rfl fun E H hp => ?_
  have hm0 := (sl_len hp).1
  rw [mkL_len] at hm0; subst hm0
  obtain ⟨-, hcl, hl⟩ := sl_len hp
  rw [mkL_len] at hcl hl
  have hln := mkL_len gItem xs k0
  apply loop_mod (α := (Nat)) G_ok [6, 7, 8, 9, 12, 13, 14, 15, 16, 17, 18, 1, 19, 20, 4, 21, 22, 23, 24, 25, 26, 27, 28, 29, 10, 11, 5] (fun z => [(5, .v (.int .i64 z)), (1, .v (.int .i64 (k0 + cntL gItem (xs.take z))))]) (fun z => []) (fun z => [H]) (fun z => xs.length - z) (fun z => z ≤ xs.length) (0)
  · repeat' (first | exact trivial | refine ⟨⟨_, rfl, by first | rfl | exact inc_eq _ (by omega) | (refine sl_eq ?_; simp; done) | (refine svi_eq ?_; (try dsimp only); (try simp (disch := omega) only [wrap_of]); omega) | (simp [cntL]), by first | exact trivial | simp [SV.ok]⟩, ?_⟩)
  · exact trivial
  · omega
  · exact .refl _
  rintro k hI
  obtain hk : k ≤ xs.length := hI
  try dsimp only
  refine VCsplit.intro (fun q0 => ?_) (fun q0 => ?_)
  ·
    simp at q0
    have hs := (cntL_step gItem xs k default (by omega))
    simp only [gItem_cnt] at hs
    have hs2 := cntL_take_le gItem xs (k + 1)
    have hm := mkL_get gItem default xs k0 k (by omega)
    simp only [gItem_mark, gItem_cnt] at hm
    refine idx_rd hp ?_ ?_ fun b1 o1 hb1 => ?_
    · omega
    · omega
    refine load_partN default (k) 0 rfl hp ?_ ?_ hb1 rfl (by decide) (mem_at 0 rfl) fun l2 hl2 => ?_
    · omega
    · omega
    rw [hm] at hl2
    obtain ⟨b0x2, c0x2, rfl, h0x2, w1x2⟩ := gItem_rd.1 hl2
    refine call_val (heldIntS_ct _ _ _ _ _ _ ?_ ?_ ?_) (Rp.mono _ (mem_at 0 rfl) h0x2) ?_
    · rfl
    · omega
    · omega
    rintro _ rfl
    refine VCsplit.intro (fun q4 => ?_) (fun q4 => ?_)
    ·
      simp at q4
      exfalso; omega
    ·
      simp at q4
      refine idx_rd hp ?_ ?_ fun b5 o5 hb5 => ?_
      · omega
      · omega
      refine load_partN default (k) 1 rfl hp ?_ ?_ hb5 rfl (by decide) (mem_at 0 rfl) fun l6 hl6 => ?_
      · omega
      · omega
      rw [hm] at hl6
      obtain ⟨b0x6, c0x6, rfl, h0x6, w1x6⟩ := gItem_rd.1 hl6
      refine VCsplit.intro (fun q7 => ?_) (fun q7 => ?_)
      ·
        simp at q7
      ·
        simp at q7
        apply loop_stepA (k + 1)
        · exact .refl _
        · repeat' (first | exact trivial | refine ⟨⟨_, rfl, by first | rfl | exact inc_eq _ (by omega) | (refine sl_eq ?_; simp; done) | (refine svi_eq ?_; (try dsimp only); (try simp (disch := omega) only [wrap_of]); omega) | (simp [cntL]), by first | exact trivial | simp [SV.ok]⟩, ?_⟩)
        · exact trivial
        · trivial
        · omega
  ·
    simp at q0
    obtain rfl : k = xs.length := by omega
    exact ⟨[], ⟨by rw [List.take_length], rfl⟩, (.le fun a => by (try simp only [setR, List.cons_append, List.nil_append]); simp only [List.flatten_append, List.flatten_cons, List.flatten_nil, List.count_append, List.count_nil, List.append_nil, List.nil_append]; omega)⟩
--@ct laws.markBag mark1 markBag_ct _ _ _ _ ~ ?_ ?_
theorem markBag_ct (l : List Value) (x : Bag) (A : Hp) (k0 : Int) (ho : gBag.ow l x A) (h0 : 0 ≤ k0) (h1 : k0 + gBag.cntV x ≤ 4611686018427387904) :
    CtR Tryz.prog 23 [.agg ⟨l⟩, .int .i64 k0] A (fun _ => True) (fun v A => v = .int .i64 (k0 + gBag.cntV x) ∧ gBag.ow l (gBag.markV k0 x) A) := by
  obtain ⟨b0, c0, A0, rfl, hpm, h0⟩ := gBag_ow.1 ho
  have hz := gBag_cntV x
  refine CtR.introP G_ok [A0] Tryz.func23 rfl rfl rfl (hpm.trans (by simp)) fun E H hp => ?_
  refine VCnew.intro fun x0 => ?_
  refine callR_at 0 rfl (markItemS_ct _ _ _ _ _ _ h0 ?_ ?_) trivial ?_
  · trivial
  · trivial
  rintro _ A1 ⟨rfl, o1⟩
  exact ⟨_, ⟨by rw [hz]; (try simp); (try omega), by rw [gBag_markV]; exact gBag_ow.2 ⟨_, _, _, by simp only [mkL_len]; rfl, .refl _, by rw [mkL_len]; assumption⟩⟩, (.le fun a => by (try simp only [setR, List.cons_append, List.nil_append]); simp only [List.flatten_append, List.flatten_cons, List.flatten_nil, List.count_append, List.count_nil, List.append_nil, List.nil_append]; omega)⟩
--@ct laws.heldBag val heldBag_ct _ _ _ _ ?_ ?_ ?_ | %1
theorem heldBag_ct (l : List Value) (x : Bag) (k0 k1 : Int) (hk1 : k0 = k1) (h0 : 0 ≤ k0) (h1 : k0 + gBag.cntV x ≤ 4611686018427387904) :
    Ct Tryz.prog 24 [.agg ⟨l⟩, .int .i64 k0] [] (fun H => gBag.rd H l (gBag.markV k1 x)) (fun v A => v = .int .i64 (k0 + gBag.cntV x) ∧ A = []) := by
  subst hk1
  refine Ct.intro0 G_ok Tryz.func24 rfl rfl rfl fun E H hp => ?_
  rw [gBag_markV] at hp
  obtain ⟨b0, c0, rfl, h0⟩ := gBag_rd.1 hp
  have hz := gBag_cntV x
  refine VCnew.intro fun x0 => ?_
  refine call_val (heldItemS_ct _ _ _ _ _ _ ?_ ?_ ?_) (Rp.mono _ (mem_at 0 rfl) h0) ?_
  · rfl
  · trivial
  · trivial
  rintro _ rfl
  refine VCsplit.intro (fun q2 => ?_) (fun q2 => ?_)
  ·
    simp at q2
    exfalso; omega
  ·
    simp at q2
    try dsimp only
    exact ⟨[], ⟨by rw [hz]; (try simp); (try omega), rfl⟩, (.le fun a => by (try simp only [setR, List.cons_append, List.nil_append]); simp only [List.flatten_append, List.flatten_cons, List.flatten_nil, List.count_append, List.count_nil, List.append_nil, List.nil_append]; omega)⟩
--@ct laws.markAtomS mark1 markAtomS_ct _ _ _ _ _ _ ~ ?_ ?_
theorem markAtomS_ct (b : Option Addr) (m c : Nat) (xs : List Atom) (A : Hp) (k0 : Int) (ho : (gSl 118 gAtom).ow [.slice b m c] xs A) (h0 : 0 ≤ k0) (h1 : k0 + cntL gAtom xs ≤ 4611686018427387904) :
    CtR Tryz.prog 86 [.slice b m c, .int .i64 k0] A (fun _ => True) (fun v A => v = .int .i64 (k0 + cntL gAtom xs) ∧ (gSl 118 gAtom).ow [.slice b m c] (mkL gAtom k0 xs) A) := by
  obtain ⟨rfl, hcl, hl⟩ := sl_len (Gt.owrd _ ho)
  refine CtR.intro G_ok [A] Tryz.func86 rfl rfl rfl (by simp) fun E H hp => ?_
  apply loop_mod (α := (Nat) × (Hp)) G_ok [6, 7, 8, 9, 12, 13, 14, 15, 16, 17, 18, 19, 1, 20, 21, 22, 23, 24, 25, 26, 27, 28, 29, 30, 31, 32, 33, 34, 35, 10, 11, 5] (fun z => [(5, .v (.int .i64 z.1)), (1, .v (.int .i64 (k0 + cntL gAtom (xs.take z.1))))]) (fun z => []) (fun z => [z.2, H]) (fun z => xs.length - z.1) (fun z => z.1 ≤ xs.length ∧ (gSl 118 gAtom).ow [.slice b xs.length c] (mkL gAtom k0 (xs.take z.1) ++ xs.drop z.1) z.2) ((0, A))
  · repeat' (first | exact trivial | refine ⟨⟨_, rfl, by first | rfl | exact inc_eq _ (by omega) | (refine sl_eq ?_; simp; done) | (refine svi_eq ?_; subst_vars; (try dsimp only); (try simp (disch := omega) only [wrap_of]); omega) | (simp [cntL]), by first | exact trivial | simp [SV.ok]⟩, ?_⟩)
  · exact trivial
  · try dsimp only
    exact ⟨by omega, by simpa [mkL] using ho⟩
  · exact .refl _
  rintro ⟨k, B⟩ hI
  obtain ⟨hk, oB⟩ : k ≤ xs.length ∧ (gSl 118 gAtom).ow [.slice b xs.length c] (mkL gAtom k0 (xs.take k) ++ xs.drop k) B := hI
  try dsimp only
  refine VCsplit.intro (fun q0 => ?_) (fun q0 => ?_)
  ·
    simp at q0
    have hs := (cntL_step gAtom xs k default (by omega))
    simp only [gAtom_cnt] at hs
    have hs2 := cntL_take_le gAtom xs (k + 1)
    obtain ⟨y, ey, oe⟩ := OwE.mk default k oB (by rw [mk_len _ _ _ _ (by omega)]; omega)
    rw [mk_get _ _ _ _ _ (by omega)] at ey
    clear oB
    refine call_val (markText_ct _ ?_) trivial ?_
    · omega
    rintro _ rfl
    refine oe_idx oe ?_ fun b2 o2 hb2 => ?_
    · rfl
    refine oe_store gAtom_from 0 rfl oe rfl hb2 rfl fl_pl _ (gS_ow ?_) fun y3 A3 ey3 o3 => ?_
    · exact mtx_size _
    refine call_val (markText_ct _ ?_) trivial ?_
    · (simp (disch := omega) only [wrap_of]; omega)
    rintro _ rfl
    refine oe_idx o3 ?_ fun b5 o5 hb5 => ?_
    · rfl
    refine oe_store gAtom_path 0 rfl o3 rfl hb5 rfl fl_pl _ (gS_ow ?_) fun y6 A6 ey6 o6 => ?_
    · exact mtx_size _
    refine call_val (markText_ct _ ?_) trivial ?_
    · (simp (disch := omega) only [wrap_of]; omega)
    rintro _ rfl
    refine oe_idx o6 ?_ fun b8 o8 hb8 => ?_
    · rfl
    refine oe_store gAtom_to 0 rfl o6 rfl hb8 rfl fl_pl _ (gS_ow ?_) fun y9 A9 ey9 o9 => ?_
    · exact mtx_size _
    apply loop_stepA (k + 1, _)
    · exact .refl _
    · repeat' (first | exact trivial | refine ⟨⟨_, rfl, by first | rfl | exact inc_eq _ (by omega) | (refine sl_eq ?_; simp; done) | (refine svi_eq ?_; subst_vars; (try dsimp only); (try simp (disch := omega) only [wrap_of]); omega) | (simp [cntL]), by first | exact trivial | simp [SV.ok]⟩, ?_⟩)
    · exact trivial
    · try dsimp only
      exact ⟨by omega, OwE.done (by assumption) (by rw [← mk_step gAtom default xs k0 k (by omega)]; congr 1; subst_vars; (try simp only [gAtom_mark, gAtom_cnt]); (try simp (disch := omega) only [wrap_of]); (try rfl))⟩
    · try dsimp only
      omega
  ·
    simp at q0
    obtain rfl : k = xs.length := by omega
    rw [List.take_length, List.drop_length, List.append_nil] at oB
    exact ⟨_, ⟨by rw [List.take_length], oB⟩, (.le fun a => by (try simp only [setR, List.cons_append, List.nil_append]); simp only [List.flatten_append, List.flatten_cons, List.flatten_nil, List.count_append, List.count_nil, List.append_nil, List.nil_append]; omega)⟩
--@ct laws.markFilterS mark1 markFilterS_ct _ _ _ _ _ _ ~ ?_ ?_
theorem markFilterS_ct (b : Option Addr) (m c : Nat) (xs : List Filter) (A : Hp) (k0 : Int) (ho : (gSl 220 gFilter).ow [.slice b m c] xs A) (h0 : 0 ≤ k0) (h1 : k0 + cntL gFilter xs ≤ 4611686018427387904) :
    CtR Tryz.prog 87 [.slice b m c, .int .i64 k0] A (fun _ => True) (fun v A => v = .int .i64 (k0 + cntL gFilter xs) ∧ (gSl 220 gFilter).ow [.slice b m c] (mkL gFilter k0 xs) A) := by
  obtain ⟨rfl, hcl, hl⟩ := sl_len (Gt.owrd _ ho)
  refine CtR.intro G_ok [A] Tryz.func87 rfl rfl rfl (by simp) fun E H hp => ?_
  apply loop_mod (α := (Nat) × (Hp)) G_ok [6, 7, 8, 9, 12, 13, 14, 15, 16, 17, 18, 19, 1, 20, 21, 22, 23, 24, 25, 26, 27, 28, 29, 30, 31, 32, 33, 34, 35, 36, 37, 38, 39, 40, 41, 10, 11, 5] (fun z => [(5, .v (.int .i64 z.1)), (1, .v (.int .i64 (k0 + cntL gFilter (xs.take z.1))))]) (fun z => []) (fun z => [z.2, H]) (fun z => xs.length - z.1) (fun z => z.1 ≤ xs.length ∧ (gSl 220 gFilter).ow [.slice b xs.length c] (mkL gFilter k0 (xs.take z.1) ++ xs.drop z.1) z.2) ((0, A))
  · repeat' (first | exact trivial | refine ⟨⟨_, rfl, by first | rfl | exact inc_eq _ (by omega) | (refine sl_eq ?_; simp; done) | (refine svi_eq ?_; subst_vars; (try dsimp only); (try simp (disch := omega) only [wrap_of]); omega) | (simp [cntL]), by first | exact trivial | simp [SV.ok]⟩, ?_⟩)
  · exact trivial
  · try dsimp only
    exact ⟨by omega, by simpa [mkL] using ho⟩
  · exact .refl _
  rintro ⟨k, B⟩ hI
  obtain ⟨hk, oB⟩ : k ≤ xs.length ∧ (gSl 220 gFilter).ow [.slice b xs.length c] (mkL gFilter k0 (xs.take k) ++ xs.drop k) B := hI
  try dsimp only
  refine VCsplit.intro (fun q0 => ?_) (fun q0 => ?_)
  ·
    simp at q0
    have hs := (cntL_step gFilter xs k default (by omega))
    simp only [gFilter_cnt] at hs
    have hs2 := cntL_take_le gFilter xs (k + 1)
    obtain ⟨y, ey, oe⟩ := OwE.mk default k oB (by rw [mk_len _ _ _ _ (by omega)]; omega)
    rw [mk_get _ _ _ _ _ (by omega)] at ey
    clear oB
    refine call_val (markText_ct _ ?_) trivial ?_
    · omega
    rintro _ rfl
    refine oe_idx oe ?_ fun b2 o2 hb2 => ?_
    · rfl
    refine oe_store gFilter_left 0 rfl oe rfl hb2 rfl fl_pl _ (gS_ow ?_) fun y3 A3 ey3 o3 => ?_
    · exact mtx_size _
    refine oe_idx o3 ?_ fun b4 o4 hb4 => ?_
    · rfl
    refine oe_store gFilter_op 0 rfl o3 rfl hb4 rfl gI_pl _ (gI_ow ?_) fun y5 A5 ey5 o5 => ?_
    · exact okI_wrap _
    refine call_val (markText_ct _ ?_) trivial ?_
    · (simp (disch := omega) only [wrap_of]; omega)
    rintro _ rfl
    refine oe_idx o5 ?_ fun b7 o7 hb7 => ?_
    · rfl
    refine oe_store gFilter_right 0 rfl o5 rfl hb7 rfl fl_pl _ (gS_ow ?_) fun y8 A8 ey8 o8 => ?_
    · exact mtx_size _
    refine oe_idx o8 ?_ fun b9 o9 hb9 => ?_
    · rfl
    refine oe_store gFilter_num 0 rfl o8 rfl hb9 rfl gI_pl _ (gI_ow ?_) fun y10 A10 ey10 o10 => ?_
    · exact okI_wrap _
    apply loop_stepA (k + 1, _)
    · exact .refl _
    · repeat' (first | exact trivial | refine ⟨⟨_, rfl, by first | rfl | exact inc_eq _ (by omega) | (refine sl_eq ?_; simp; done) | (refine svi_eq ?_; subst_vars; (try dsimp only); (try simp (disch := omega) only [wrap_of]); omega) | (simp [cntL]), by first | exact trivial | simp [SV.ok]⟩, ?_⟩)
    · exact trivial
    · try dsimp only
      exact ⟨by omega, OwE.done (by assumption) (by rw [← mk_step gFilter default xs k0 k (by omega)]; congr 1; subst_vars; (try simp only [gFilter_mark, gFilter_cnt]); (try simp (disch := omega) only [wrap_of]); (try rfl))⟩
    · try dsimp only
      omega
  ·
    simp at q0
    obtain rfl : k = xs.length := by omega
    rw [List.take_length, List.drop_length, List.append_nil] at oB
    exact ⟨_, ⟨by rw [List.take_length], oB⟩, (.le fun a => by (try simp only [setR, List.cons_append, List.nil_append]); simp only [List.flatten_append, List.flatten_cons, List.flatten_nil, List.count_append, List.count_nil, List.append_nil, List.nil_append]; omega)⟩
--@ct laws.markQuery mark1 markQuery_ct _ _ _ _ ~ ?_ ?_
theorem markQuery_ct (l : List Value) (x : Query) (A : Hp) (k0 : Int) (ho : gQuery.ow l x A) (h0 : 0 ≤ k0) (h1 : k0 + gQuery.cntV x ≤ 4611686018427387904) :
    CtR Tryz.prog 20 [.agg ⟨l⟩, .int .i64 k0] A (fun _ => True) (fun v A => v = .int .i64 (k0 + gQuery.cntV x) ∧ gQuery.ow l (gQuery.markV k0 x) A) := by
  obtain ⟨b1, c1, A1, b2, c2, A2, b3, c3, A3, rfl, hpm, h1, h2, h3⟩ := gQuery_ow.1 ho
  have hz := gQuery_cntV x
  refine CtR.introP G_ok [A1, A2, A3] Tryz.func20 rfl rfl rfl (hpm.trans (by simp)) fun E H hp => ?_
  refine VCnew.intro fun x0 => ?_
  refine callR_at 0 rfl (markStringS_ct _ _ _ _ _ _ h1 ?_ ?_) trivial ?_
  · trivial
  · omega
  rintro _ A1 ⟨rfl, o1⟩
  refine callR_at 1 rfl (markAtomS_ct _ _ _ _ _ _ h2 ?_ ?_) trivial ?_
  · omega
  · omega
  rintro _ A2 ⟨rfl, o2⟩
  refine callR_at 2 rfl (markFilterS_ct _ _ _ _ _ _ h3 ?_ ?_) trivial ?_
  · omega
  · omega
  rintro _ A3 ⟨rfl, o3⟩
  exact ⟨_, ⟨by rw [hz]; (try simp); (try omega), by rw [gQuery_markV]; exact gQuery_ow.2 ⟨_, _, _, _, _, _, _, _, _, by simp only [mkL_len]; rfl, .refl _, by rw [mkL_len]; assumption, by rw [mkL_len]; assumption, by rw [mkL_len]; assumption⟩⟩, (.le fun a => by (try simp only [setR, List.cons_append, List.nil_append]); simp only [List.flatten_append, List.flatten_cons, List.flatten_nil, List.count_append, List.count_nil, List.append_nil, List.nil_append]; omega)⟩
--@ct laws.markWalkS mark1 markWalkS_ct _ _ _ _ _ _ ~ ?_ ?_
--@ct laws.markGotS mark1 markGotS_ct _ _ _ _ _ _ ~ ?_ ?_
--@ct laws.markCell mark1 markCell_ct _ _ _ _ ~ ?_ ?_
--@ct laws.markMailS mark1 markMailS_ct _ _ _ _ _ _ ~ ?_ ?_
--@ct laws.markWork mark1 markWork_ct _ _ _ _ ~ ?_ ?_
--@ct laws.markIntSS mark1 markIntSS_ct _ _ _ _ _ _ ~ ?_ ?_
theorem markIntSS_ct (b : Option Addr) (m c : Nat) (xs : List (List Int)) (A : Hp) (k0 : Int) (ho : (gSl 27 (gSl 3 gI)).ow [.slice b m c] xs A) (h0 : 0 ≤ k0) (h1 : k0 + cntL (gSl 3 gI) xs ≤ 4611686018427387904) :
    CtR Tryz.prog 22 [.slice b m c, .int .i64 k0] A (fun _ => True) (fun v A => v = .int .i64 (k0 + cntL (gSl 3 gI) xs) ∧ (gSl 27 (gSl 3 gI)).ow [.slice b m c] (mkL (gSl 3 gI) k0 xs) A) := by
  obtain ⟨rfl, hcl, hl⟩ := sl_len (Gt.owrd _ ho)
  refine CtR.intro G_ok [A] Tryz.func22 rfl rfl rfl (by simp) fun E H hp => ?_
  apply loop_mod (α := (Nat) × (Hp)) G_ok [6, 7, 8, 9, 12, 13, 14, 15, 16, 17, 1, 10, 11, 5] (fun z => [(5, .v (.int .i64 z.1)), (1, .v (.int .i64 (k0 + cntL (gSl 3 gI) (xs.take z.1))))]) (fun z => []) (fun z => [z.2, H]) (fun z => xs.length - z.1) (fun z => z.1 ≤ xs.length ∧ (gSl 27 (gSl 3 gI)).ow [.slice b xs.length c] (mkL (gSl 3 gI) k0 (xs.take z.1) ++ xs.drop z.1) z.2) ((0, A))
  · repeat' (first | exact trivial | refine ⟨⟨_, rfl, by first | rfl | exact inc_eq _ (by omega) | (refine sl_eq ?_; simp; done) | (refine svi_eq ?_; subst_vars; (try dsimp only); (try simp (disch := omega) only [wrap_of]); omega) | (simp [cntL]), by first | exact trivial | simp [SV.ok]⟩, ?_⟩)
  · exact trivial
  · try dsimp only
    exact ⟨by omega, by simpa [mkL] using ho⟩
  · exact .refl _
  rintro ⟨k, B⟩ hI
  obtain ⟨hk, oB⟩ : k ≤ xs.length ∧ (gSl 27 (gSl 3 gI)).ow [.slice b xs.length c] (mkL (gSl 3 gI) k0 (xs.take k) ++ xs.drop k) B := hI
  try dsimp only
  refine VCsplit.intro (fun q0 => ?_) (fun q0 => ?_)
  ·
    simp at q0
    have hs := (cntL_step (gSl 3 gI) xs k [] (by omega))
    change _ = _ + cntL _ _ at hs
    have hs2 := cntL_take_le (gSl 3 gI) xs (k + 1)
    obtain ⟨y, ey, oe⟩ := OwE.mk [] k oB (by rw [mk_len _ _ _ _ (by omega)]; omega)
    rw [mk_get _ _ _ _ _ (by omega)] at ey
    clear oB
    refine oe_idx oe ?_ fun b1 o1 hb1 => ?_
    · rfl
    refine oe_load fldId oe rfl hb1 rfl (mem_at 0 rfl) fun l2 hl2 hf2 => ?_
    obtain ⟨u2, w2, rfl, hl2⟩ := sl_rd hl2
    refine call_foc 0 rfl hf2 (fun Af3 oa3 => markIntS_ct _ _ _ _ _ _ oa3 ?_ ?_) (fun _ _ => trivial) ?_
    · omega
    · simp_all; omega
    rintro _ A3 rfl ⟨y3, ey3, o3⟩
    try dsimp only at ey3
    apply loop_stepA (k + 1, _)
    · exact .refl _
    · repeat' (first | exact trivial | refine ⟨⟨_, rfl, by first | rfl | exact inc_eq _ (by omega) | (refine sl_eq ?_; simp; done) | (refine svi_eq ?_; subst_vars; (try dsimp only); (try simp (disch := omega) only [wrap_of]); omega) | (simp [cntL]), by first | exact trivial | simp [SV.ok]⟩, ?_⟩)
    · exact trivial
    · try dsimp only
      exact ⟨by omega, OwE.done (by assumption) (by rw [← mk_step (gSl 3 gI) [] xs k0 k (by omega)]; congr 1; subst_vars; (try simp only [mkL]); (try simp (disch := omega) only [wrap_of]); (try rfl))⟩
    · try dsimp only
      omega
  ·
    simp at q0
    obtain rfl : k = xs.length := by omega
    rw [List.take_length, List.drop_length, List.append_nil] at oB
    exact ⟨_, ⟨by rw [List.take_length], oB⟩, (.le fun a => by (try simp only [setR, List.cons_append, List.nil_append]); simp only [List.flatten_append, List.flatten_cons, List.flatten_nil, List.count_append, List.count_nil, List.append_nil, List.nil_append]; omega)⟩
--@ct laws.heldIntSS val heldIntSS_ct _ _ _ _ _ _ ?_ ?_ ?_ | %1
end Go.Proofs.YtjgehblllhkdbaaGreat

namespace Go.Proofs.YtjgehblllhkdbaaGreat
open Go.SX Go.Proofs
set_option linter.unusedSimpArgs false
set_option linter.unusedVariables false
set_option maxHeartbeats 8000000
--@ct impl.RowsTo new implRowsToB_ct _ _ _ _ _ _ _ $1 $2 _ $4 _ ?_ ?_ | ⟨%1, %2, %4⟩ | obtain ⟨l#, rfl, o#⟩ := o# ;; have r# := Gt.owrd _ o# ;; @open{Bag r# x#}
--@ct spec.RowsTo new specRowsToB_ct _ _ _ _ _ _ _ $1 $2 _ $4 _ ?_ ?_ | ⟨%1, %2, %4⟩ | obtain ⟨l#, rfl, o#⟩ := o# ;; have r# := Gt.owrd _ o# ;; @open{Bag r# x#}
theorem implRowsToB_ct (l : List Value) (b : Option Addr) (m c : Nat) (bp : Option Addr) (mp cp : Nat) (x : Query) (s : List Int) (at' : Int) (ps : List (List Int)) (cell : Int) (hx : gQuery.sz x ≤ 1048576) (hps : ps.length ≤ 1048576) :
    Ct Tryz.prog 15 [.agg ⟨l⟩, .slice b m c, .int .i64 at', .slice bp mp cp, .int .i64 cell] [] (fun H => gQuery.rd H l x ∧ (gSl 3 gI).rd H [.slice b m c] s ∧ (gSl 27 (gSl 3 gI)).rd H [.slice bp mp cp] ps)
      (fun v A => ∃ l, v = .tuple #[.agg ⟨l⟩, .bool (rowsTo x s at' ps cell).2] ∧ gBag.ow l ⟨(rowsTo x s at' ps cell).1⟩ A) := by
  have h := implRowsTo_ct l b m c bp mp cp x s at' ps cell hx hps
  refine ⟨h.1, fun E H w hs hp => (h.2 E H w hs hp).mono ?_⟩
  rintro e w' ⟨v, A, h1, ⟨b, c, h2, h3⟩, h4⟩
  exact ⟨v, A, h1, ⟨_, h2, gBag_ow.2 ⟨b, c, A, rfl, .refl _, h3⟩⟩, h4⟩
theorem specRowsToB_ct (l : List Value) (b : Option Addr) (m c : Nat) (bp : Option Addr) (mp cp : Nat) (x : Query) (s : List Int) (at' : Int) (ps : List (List Int)) (cell : Int) (hx : gQuery.sz x ≤ 1048576) (hps : ps.length ≤ 1048576) :
    Ct Tryz.prog 11 [.agg ⟨l⟩, .slice b m c, .int .i64 at', .slice bp mp cp, .int .i64 cell] [] (fun H => gQuery.rd H l x ∧ (gSl 3 gI).rd H [.slice b m c] s ∧ (gSl 27 (gSl 3 gI)).rd H [.slice bp mp cp] ps)
      (fun v A => ∃ l, v = .tuple #[.agg ⟨l⟩, .bool (rowsTo x s at' ps cell).2] ∧ gBag.ow l ⟨(rowsTo x s at' ps cell).1⟩ A) := by
  have h := specRowsTo_ct l b m c bp mp cp x s at' ps cell hx hps
  refine ⟨h.1, fun E H w hs hp => (h.2 E H w hs hp).mono ?_⟩
  rintro e w' ⟨v, A, h1, ⟨b, c, h2, h3⟩, h4⟩
  exact ⟨v, A, h1, ⟨_, h2, gBag_ow.2 ⟨b, c, A, rfl, .refl _, h3⟩⟩, h4⟩
theorem cntI5 : ∀ xs : List Int, cntL gI xs = xs.length := cntL_one gI fun _ => rfl
theorem query_cnt5 (x : Query) (h : gQuery.sz x ≤ 1048576) : (gQuery.cntV x : Int) ≤ 100000000 := by
  have h1 := gQuery.cntV_le x
  have h2 : gQuery.w ≤ 50 := by decide
  have := Nat.mul_le_mul h2 (show 1 + gQuery.sz x ≤ 1048577 by omega)
  omega
theorem pairs_cnt5 (xs : List (List Int)) (h : szL (gSl 3 gI) xs ≤ 1048576) : (cntL (gSl 3 gI) xs : Int) ≤ 100000000 := by
  have h1 := cntL_le (gSl 3 gI) xs
  have h2 : (gSl 3 gI).w ≤ 50 := by decide
  have := Nat.mul_le_mul h2 h
  omega
theorem rowsTo_sz (x : Query) (s : List Int) (a : Int) (ps : List (List Int)) (c : Int) : gBag.sz ⟨(rowsTo x s a ps c).1⟩ ≤ 1048576 := by
  unfold rowsTo
  split
  · rename_i h
    have hI := rowsK_inv (x := x) (s := s) (a := x.atoms[a.toNat]?.getD default) (c := c) ps.length (Nat.le_refl _) h.2.2.2
    rw [List.take_length] at hI
    have hw := (cols_le (x.atoms[a.toNat]?.getD default)).2
    have h2 := inv_len hw hI
    have h3 := szItems _ (fun i hi => by have h4 := (hI.2 i hi).1.1; unfold rowI at h4; omega)
    have h5 := gBag_sz ⟨rowsK x s (x.atoms[a.toNat]?.getD default) c ps⟩
    show gBag.sz ⟨rowsK x s (x.atoms[a.toNat]?.getD default) c ps⟩ ≤ _
    rw [h5]
    show szL gItem (rowsK x s (x.atoms[a.toNat]?.getD default) c ps) ≤ _
    omega
  · have h5 := gBag_sz ⟨[]⟩
    show gBag.sz ⟨[]⟩ ≤ _
    rw [h5]
    show szL gItem [] ≤ _
    decide
theorem bag_cnt5 (x : Query) (s : List Int) (a : Int) (ps : List (List Int)) (c : Int) : (gBag.cntV ⟨(rowsTo x s a ps c).1⟩ : Int) ≤ 100000000 := by
  have h1 := gBag.cntV_le ⟨(rowsTo x s a ps c).1⟩
  have h2 : gBag.w ≤ 50 := by decide
  have := Nat.mul_le_mul h2 (show 1 + gBag.sz ⟨(rowsTo x s a ps c).1⟩ ≤ 1048577 by have := rowsTo_sz x s a ps c; omega)
  omega
attribute [local irreducible] rowsTo
theorem fnExactRowsTo_ct (v0 v1 v2 v3 v4 : Value) :
    Ct Tryz.prog 3 [v0, v1, v2, v3, v4] [] (fun H => (∃ x, rdV true gQuery.toRp H v0 x) ∧ (∃ x, rdV false (gSl 3 gI).toRp H v1 x) ∧ (∃ x, rdV false gI.toRp H v2 x) ∧ (∃ x, rdV false (gSl 27 (gSl 3 gI)).toRp H v3 x) ∧ (∃ x, rdV false gI.toRp H v4 x)) (fun v A => v = .bool true ∧ A = []) := by
  refine Ct.intro0 G_ok Tryz.func3 rfl rfl rfl fun E H hp => ?_
  obtain ⟨⟨xa0, hp0⟩, ⟨xa1, hp1⟩, ⟨xa2, hp2⟩, ⟨xa3, hp3⟩, ⟨xa4, hp4⟩⟩ := hp
  obtain ⟨la0, rfl, hp0⟩ := hp0
  obtain ⟨b1a0, c1a0, b2a0, c2a0, b3a0, c3a0, rfl, h1a0, h2a0, h3a0⟩ := gQuery_rd.1 hp0
  obtain ⟨ba1, ca1, ea1, hs1⟩ := sl_rd hp1; cases ea1; clear hp1
  obtain ⟨ea2, wa2⟩ := hp2; cases ea2
  obtain ⟨ba3, ca3, ea3, hs3⟩ := sl_rd hp3; cases ea3; clear hp3
  obtain ⟨ea4, wa4⟩ := hp4; cases ea4
  refine VCnew.intro fun x0 => ?_
  refine VCsplit.intro (fun q1 => ?_) (fun q1 => ?_)
  ·
    simp at q1
    exact ⟨[], ⟨rfl, rfl⟩, (.le fun a => by (try simp only [setR, List.cons_append, List.nil_append]); simp only [List.flatten_append, List.flatten_cons, List.flatten_nil, List.count_append, List.count_nil, List.append_nil, List.nil_append]; omega)⟩
  ·
    simp at q1
    refine call_q (szQuery_ct _ (xa0) _ ?_ ?_) (Rp.mono _ (mem_at 0 rfl) hp0) ?_
    · trivial
    · trivial
    rintro _ ⟨r2, rfl, hr2⟩
    refine VCsplit.intro (fun q3 => ?_) (fun q3 => ?_)
    ·
      simp at q3
      exact ⟨[], ⟨rfl, rfl⟩, (.le fun a => by (try simp only [setR, List.cons_append, List.nil_append]); simp only [List.flatten_append, List.flatten_cons, List.flatten_nil, List.count_append, List.count_nil, List.append_nil, List.nil_append]; omega)⟩
    ·
      simp at q3
      refine call_q (szIntSS_ct _ _ _ (xa3) _ ?_ ?_) (Rp.mono _ (mem_at 0 rfl) hs3) ?_
      · trivial
      · omega
      rintro _ ⟨r4, rfl, hr4⟩
      refine VCsplit.intro (fun q5 => ?_) (fun q5 => ?_)
      ·
        simp at q5
        exact ⟨[], ⟨rfl, rfl⟩, (.le fun a => by (try simp only [setR, List.cons_append, List.nil_append]); simp only [List.flatten_append, List.flatten_cons, List.flatten_nil, List.count_append, List.count_nil, List.append_nil, List.nil_append]; omega)⟩
      ·
        simp at q5
        refine call_new (toQuery_ct _ (xa0) ?_) (Rp.mono _ (mem_at 0 rfl) hp0) ?_
        · omega
        rintro v6 A6 o6
        obtain ⟨l6, rfl, o6⟩ := o6
        have r6 := Gt.owrd _ o6
        obtain ⟨b1x6, c1x6, b2x6, c2x6, b3x6, c3x6, rfl, h1x6, h2x6, h3x6⟩ := gQuery_rd.1 r6
        refine call_new (toIntS_ct _ _ _ (xa1) ?_) (Rp.mono _ (mem_at 1 rfl) hs1) ?_
        · (rw [szI]; omega)
        rintro v7 A7 o7
        obtain ⟨b7, c7, rfl, o7⟩ := o7
        refine call_new (toIntSS_ct _ _ _ (xa3) ?_) (Rp.mono _ (mem_at 2 rfl) hs3) ?_
        · omega
        rintro v8 A8 o8
        obtain ⟨b8, c8, rfl, o8⟩ := o8
        refine call_new (specRowsToB_ct _ _ _ _ _ _ _ (xa0) (xa1) _ (xa3) _ ?_ ?_) ⟨(Rp.mono _ (mem_at 2 rfl) r6), (Rp.mono _ (mem_at 1 rfl) (Gt.owrd _ o7)), (Rp.mono _ (mem_at 0 rfl) (Gt.owrd _ o8))⟩ ?_
        · omega
        · (have := len_szL (gSl 3 gI) xa3; omega)
        rintro v9 A9 o9
        obtain ⟨l9, rfl, o9⟩ := o9
        have r9 := Gt.owrd _ o9
        obtain ⟨b0x9, c0x9, rfl, h0x9⟩ := gBag_rd.1 r9
        refine VCnew.intro fun x10 => ?_
        refine call_new (toQuery_ct _ (xa0) ?_) (Rp.mono _ (mem_at 4 rfl) hp0) ?_
        · omega
        rintro v11 A11 o11
        obtain ⟨l11, rfl, o11⟩ := o11
        have r11 := Gt.owrd _ o11
        obtain ⟨b1x11, c1x11, b2x11, c2x11, b3x11, c3x11, rfl, h1x11, h2x11, h3x11⟩ := gQuery_rd.1 r11
        refine VCnew.intro fun x12 => ?_
        refine call_new (toIntS_ct _ _ _ (xa1) ?_) (Rp.mono _ (mem_at 5 rfl) hs1) ?_
        · (rw [szI]; omega)
        rintro v13 A13 o13
        obtain ⟨b13, c13, rfl, o13⟩ := o13
        refine call_new (toIntSS_ct _ _ _ (xa3) ?_) (Rp.mono _ (mem_at 6 rfl) hs3) ?_
        · omega
        rintro v14 A14 o14
        obtain ⟨b14, c14, rfl, o14⟩ := o14
        refine call_new (implRowsToB_ct _ _ _ _ _ _ _ (xa0) (xa1) _ (xa3) _ ?_ ?_) ⟨(Rp.mono _ (mem_at 2 rfl) r11), (Rp.mono _ (mem_at 1 rfl) (Gt.owrd _ o13)), (Rp.mono _ (mem_at 0 rfl) (Gt.owrd _ o14))⟩ ?_
        · omega
        · (have := len_szL (gSl 3 gI) xa3; omega)
        rintro v15 A15 o15
        obtain ⟨l15, rfl, o15⟩ := o15
        have r15 := Gt.owrd _ o15
        obtain ⟨b0x15, c0x15, rfl, h0x15⟩ := gBag_rd.1 r15
        refine VCnew.intro fun x16 => ?_
        refine call_val (eqBag_ct _ _ ({ items := (rowsTo xa0 xa1 xa2 xa3 xa4).fst }) ({ items := (rowsTo xa0 xa1 xa2 xa3 xa4).fst })) ⟨(Rp.mono _ (mem_at 0 rfl) r15), (Rp.mono _ (mem_at 4 rfl) r9)⟩ ?_
        rintro _ rfl
        refine VCsplit.intro (fun q18 => ?_) (fun q18 => ?_)
        ·
          simp at q18
        ·
          simp at q18
          refine VCsplit.intro (fun q19 => ?_) (fun q19 => ?_)
          ·
            simp at q19
          ·
            simp at q19
            refine draw G_ok mixed none (.q 0 (.q 1 (.f 2 (.f 3 (.q 4 (.nil)))))) (by decide +kernel) ?_
            refine call_new (toQuery_ct _ (xa0) ?_) (Rp.mono _ (mem_at 8 rfl) hp0) ?_
            · omega
            rintro v20 A20 o20
            obtain ⟨l20, rfl, o20⟩ := o20
            have r20 := Gt.owrd _ o20
            obtain ⟨b1x20, c1x20, b2x20, c2x20, b3x20, c3x20, rfl, h1x20, h2x20, h3x20⟩ := gQuery_rd.1 r20
            refine VC.intro ?_ ?_
            · exact keep_new
            refine call_val (eqQuery_ct _ _ (xa0) (xa0)) ⟨(Rp.mono _ (mem_at 4 rfl) r11), (Rp.mono _ (mem_at 0 rfl) r20)⟩ ?_
            rintro _ rfl
            refine VC.intro ?_ ?_
            · exact keep_new
            refine VCsplit.intro (fun q22 => ?_) (fun q22 => ?_)
            ·
              simp at q22
            ·
              simp at q22
              refine call_new (toIntS_ct _ _ _ (xa1) ?_) (Rp.mono _ (mem_at 9 rfl) hs1) ?_
              · (rw [szI]; omega)
              rintro v23 A23 o23
              obtain ⟨b23, c23, rfl, o23⟩ := o23
              refine call_val (eqIntS_ct _ _ _ _ _ _ (xa1) (xa1)) ⟨(Rp.mono _ (mem_at 4 rfl) (Gt.owrd _ o13)), (Rp.mono _ (mem_at 0 rfl) (Gt.owrd _ o23))⟩ ?_
              rintro _ rfl
              refine VCsplit.intro (fun q25 => ?_) (fun q25 => ?_)
              ·
                simp at q25
              ·
                simp at q25
                refine call_new (toIntSS_ct _ _ _ (xa3) ?_) (Rp.mono _ (mem_at 10 rfl) hs3) ?_
                · omega
                rintro v26 A26 o26
                obtain ⟨b26, c26, rfl, o26⟩ := o26
                refine call_val (eqIntSS_ct _ _ _ _ _ _ (xa3) (xa3)) ⟨(Rp.mono _ (mem_at 4 rfl) (Gt.owrd _ o14)), (Rp.mono _ (mem_at 0 rfl) (Gt.owrd _ o26))⟩ ?_
                rintro _ rfl
                refine VCsplit.intro (fun q28 => ?_) (fun q28 => ?_)
                ·
                  simp at q28
                ·
                  simp at q28
                  refine callR_at 6 rfl (markQuery_ct _ _ _ _ o11 ?_ ?_) trivial ?_
                  · trivial
                  · (have := query_cnt5 xa0 (by omega); omega)
                  rintro _ A29 ⟨rfl, o29⟩
                  refine callR_at 5 rfl (markIntS_ct _ _ _ _ _ _ o13 ?_ ?_) trivial ?_
                  · omega
                  · (have := query_cnt5 xa0 (by omega); have := cntI5 xa1; omega)
                  rintro _ A30 ⟨rfl, o30⟩
                  refine callR_at 4 rfl (markIntSS_ct _ _ _ _ _ _ o14 ?_ ?_) trivial ?_
                  · omega
                  · (have := query_cnt5 xa0 (by omega); have := cntI5 xa1; have := pairs_cnt5 xa3 (by omega); omega)
                  rintro _ A31 ⟨rfl, o31⟩
                  refine VCsplit.intro (fun q32 => ?_) (fun q32 => ?_)
                  ·
                    simp at q32
                    exfalso; omega
                  ·
                    simp at q32
                    refine call_val (eqBag_ct _ _ ({ items := (rowsTo xa0 xa1 xa2 xa3 xa4).fst }) ({ items := (rowsTo xa0 xa1 xa2 xa3 xa4).fst })) ⟨(Rp.mono _ (mem_at 3 rfl) r15), (Rp.mono _ (mem_at 7 rfl) r9)⟩ ?_
                    rintro _ rfl
                    refine VCsplit.intro (fun q34 => ?_) (fun q34 => ?_)
                    ·
                      simp at q34
                    ·
                      simp at q34
                      refine VCsplit.intro (fun q35 => ?_) (fun q35 => ?_)
                      ·
                        simp at q35
                      ·
                        simp at q35
                        refine callR_at 3 rfl (markBag_ct _ _ _ _ o15 ?_ ?_) trivial ?_
                        · trivial
                        · (have := bag_cnt5 xa0 xa1 xa2 xa3 xa4; omega)
                        rintro _ A36 ⟨rfl, o36⟩
                        refine call_val (heldBag_ct _ _ _ _ ?_ ?_ ?_) (Rp.mono _ (mem_at 3 rfl) (Gt.owrd _ o36)) ?_
                        · rfl
                        · trivial
                        · (have := bag_cnt5 xa0 xa1 xa2 xa3 xa4; omega)
                        rintro _ rfl
                        refine VCsplit.intro (fun q38 => ?_) (fun q38 => ?_)
                        ·
                          simp at q38
                          exfalso; omega
                        ·
                          simp at q38
                          refine VCsplit.intro (fun q39 => ?_) (fun q39 => ?_)
                          ·
                            simp at q39
                          ·
                            simp at q39
                            refine call_new (toQuery_ct _ (xa0) ?_) (Rp.mono _ (mem_at 11 rfl) hp0) ?_
                            · omega
                            rintro v40 A40 o40
                            obtain ⟨l40, rfl, o40⟩ := o40
                            have r40 := Gt.owrd _ o40
                            obtain ⟨b1x40, c1x40, b2x40, c2x40, b3x40, c3x40, rfl, h1x40, h2x40, h3x40⟩ := gQuery_rd.1 r40
                            refine call_new (toIntS_ct _ _ _ (xa1) ?_) (Rp.mono _ (mem_at 12 rfl) hs1) ?_
                            · (rw [szI]; omega)
                            rintro v41 A41 o41
                            obtain ⟨b41, c41, rfl, o41⟩ := o41
                            refine call_new (toIntSS_ct _ _ _ (xa3) ?_) (Rp.mono _ (mem_at 13 rfl) hs3) ?_
                            · omega
                            rintro v42 A42 o42
                            obtain ⟨b42, c42, rfl, o42⟩ := o42
                            refine call_new (implRowsToB_ct _ _ _ _ _ _ _ (xa0) (xa1) _ (xa3) _ ?_ ?_) ⟨(Rp.mono _ (mem_at 2 rfl) r40), (Rp.mono _ (mem_at 1 rfl) (Gt.owrd _ o41)), (Rp.mono _ (mem_at 0 rfl) (Gt.owrd _ o42))⟩ ?_
                            · omega
                            · (have := len_szL (gSl 3 gI) xa3; omega)
                            rintro v43 A43 o43
                            obtain ⟨l43, rfl, o43⟩ := o43
                            have r43 := Gt.owrd _ o43
                            obtain ⟨b0x43, c0x43, rfl, h0x43⟩ := gBag_rd.1 r43
                            refine VCnew.intro fun x44 => ?_
                            refine call_val (eqBag_ct _ _ ({ items := (rowsTo xa0 xa1 xa2 xa3 xa4).fst }) ({ items := (rowsTo xa0 xa1 xa2 xa3 xa4).fst })) ⟨(Rp.mono _ (mem_at 0 rfl) r43), (Rp.mono _ (mem_at 11 rfl) r9)⟩ ?_
                            rintro _ rfl
                            refine VCsplit.intro (fun q46 => ?_) (fun q46 => ?_)
                            ·
                              simp at q46
                            ·
                              simp at q46
                              refine VCsplit.intro (fun q47 => ?_) (fun q47 => ?_)
                              ·
                                simp at q47
                              ·
                                simp at q47
                                refine call_val (heldBag_ct _ _ _ _ ?_ ?_ ?_) (Rp.mono _ (mem_at 7 rfl) (Gt.owrd _ o36)) ?_
                                · rfl
                                · trivial
                                · (have := bag_cnt5 xa0 xa1 xa2 xa3 xa4; omega)
                                rintro _ rfl
                                refine VCsplit.intro (fun q49 => ?_) (fun q49 => ?_)
                                ·
                                  simp at q49
                                  exfalso; omega
                                ·
                                  simp at q49
                                  refine VCsplit.intro (fun q50 => ?_) (fun q50 => ?_)
                                  ·
                                    simp at q50
                                  ·
                                    simp at q50
                                    try dsimp only
                                    exact ⟨[], ⟨rfl, rfl⟩, (.le fun a => by (try simp only [setR, List.cons_append, List.nil_append]); simp only [List.flatten_append, List.flatten_cons, List.flatten_nil, List.count_append, List.count_nil, List.append_nil, List.nil_append]; omega)⟩
end Go.Proofs.YtjgehblllhkdbaaGreat
