/-
  Queries that are right, on both sides. Shares, on both sides. Cells made, on both sides. The owner of a vertex, on both sides. Rows sent to cells: columns, places, digits, on both sides. Generic rules: copies, appends of zeros, overlaps. An element put into a list at its place. An item put into a list of items at its place (slices.Insert). Rows sent to cells: both sides find the same cells. Plain. Rows sent to cells: digits, the program's targets. Rows sent to cells: the program's targets. Rows sent to cells: the reference's targets. Rows and bags: rows compared, times, the row of a pair. The middle of two places. The place of a row among items (the program's binary search). A row put into a bag, on the program's side. Each row of a bag once; the row of a pair. The row of a pair. Numbers among numbers; rows put into sorted items (plain). Raw rows picked and put together. A row put into a bag, on the reference's side. A row put into a bag that is owned, on the reference's side; the place of a row (plain). Rows of pairs put into a bag, as both sides do it (plain). Cells made, on both sides: CellNew. Rows for a cell: the program's side. Conditions: none.
-/
import Derived.Test.YtjgehblllhkdbaaGreatZr4

namespace Go.Proofs.YtjgehblllhkdbaaGreat
open Go.SX Go.Proofs
set_option linter.unusedSimpArgs false
set_option linter.unusedVariables false
set_option maxHeartbeats 8000000
attribute [local irreducible] IntKind.wrap atomM namesM
def queryP (x : Query) : Prop := (1 ≤ x.atoms.length ∧ x.atoms.length ≤ 4 ∧ x.filters.length ≤ 3 ∧ 1 ≤ x.out.length ∧ x.out.length ≤ 4 ∧ (namesM x.atoms).length ≤ 4) ∧
  (∀ k, k < x.atoms.length → atomM (x.atoms[k]?.getD default) = true) ∧ distM x.out = true ∧ inAll (namesM x.atoms) x.out = true ∧ ∀ k, k < x.filters.length → filterM (namesM x.atoms) (x.filters[k]?.getD default) = true
open Classical in
noncomputable def queryM (x : Query) : Bool := decide (queryP x)
open Classical in
theorem q_no {x : Query} (h : ¬ queryP x) : queryM x = false := by unfold queryM; exact decide_eq_false h
open Classical in
theorem q_yes {x : Query} (h : queryP x) : queryM x = true := by unfold queryM; exact decide_eq_true h
theorem sz_at8 {α : Type} (g : Gt α) (z : α) : ∀ (xs : List α) (k : Nat), k < xs.length → g.sz (xs[k]?.getD z) + 1 ≤ szL g xs
  | [], k, h => absurd h (by simp)
  | x :: r, 0, _ => by rw [show szL g (x :: r) = 1 + g.sz x + szL g r from rfl]; show g.sz x + 1 ≤ _; omega
  | x :: r, k + 1, h => by
    have := sz_at8 g z r k (by simpa using h)
    rw [show szL g (x :: r) = 1 + g.sz x + szL g r from rfl]
    show g.sz (r[k]?.getD z) + 1 ≤ _; omega
theorem atoms_path {x : Query} (h : gQuery.sz x ≤ 1048576) {k : Nat} (hk : k < x.atoms.length) : (x.atoms[k]?.getD default).path.size ≤ 1048576 := by
  have h1 := gQuery_sz x
  have h2 := sz_at8 gAtom default x.atoms k hk
  have h3 := gAtom_sz (x.atoms[k]?.getD default)
  omega
theorem ff {b : Bool} (h1 : b = true) (h2 : b = false) : False := by rw [h1] at h2; cases h2
--@ct impl.QueryOk val implQueryOk_ct _ $1 ?_ | %1
theorem implQueryOk_ct (l : List Value) (x : Query) (hx : gQuery.sz x ≤ 1048576) : Ct Tryz.prog 115 [.agg ⟨l⟩] [] (fun H => gQuery.rd H l x) (fun v A => v = .bool (queryM x) ∧ A = []) := by
  refine Ct.intro0 G_ok Tryz.func115 rfl rfl rfl fun E H hp => ?_
  obtain ⟨b1p, c1p, b2p, c2p, b3p, c3p, rfl, h1p, h2p, h3p⟩ := gQuery_rd.1 hp
  have ez := gQuery_sz x
  have en1 := len_szL gS x.out
  have en2 := len_szL gAtom x.atoms
  have en3 := len_szL gFilter x.filters
  refine VCnew.intro fun x0 => ?_
  refine VCsplit.intro (fun q1 => ?_) (fun q1 => ?_)
  ·
    simp at q1
    exact ⟨[], ⟨by rw [q_no fun h => by (have := h.1; omega)], rfl⟩, (.le fun a => by (try simp only [setR, List.cons_append, List.nil_append]); simp [List.count_cons, Blk.ent, idOf]; try omega)⟩
  ·
    simp at q1
    refine VCsplit.intro (fun q2 => ?_) (fun q2 => ?_)
    ·
      simp at q2
      exact ⟨[], ⟨by rw [q_no fun h => by (have := h.1; omega)], rfl⟩, (.le fun a => by (try simp only [setR, List.cons_append, List.nil_append]); simp [List.count_cons, Blk.ent, idOf]; try omega)⟩
    ·
      simp at q2
      refine VCsplit.intro (fun q3 => ?_) (fun q3 => ?_)
      ·
        simp at q3
        exact ⟨[], ⟨by rw [q_no fun h => by (have := h.1; omega)], rfl⟩, (.le fun a => by (try simp only [setR, List.cons_append, List.nil_append]); simp [List.count_cons, Blk.ent, idOf]; try omega)⟩
      ·
        simp at q3
        apply loop_mod (α := (Nat)) G_ok [28, 29, 30, 4, 31, 32, 33, 2, 34, 27] (fun z => [(27, .v (.int .i64 z))]) (fun z => [{ id := x0, cs := [Value.bool x.each, Value.slice b1p x.out.length c1p, Value.slice b2p x.atoms.length c2p, Value.slice b3p x.filters.length c3p], ty := (39 : Nat) }]) (fun z => [H]) (fun z => x.atoms.length - z) (fun z => z ≤ x.atoms.length ∧ allK (fun i => atomM (x.atoms[i]?.getD default)) z = true) ((0))
        · repeat' (first | exact trivial | refine ⟨⟨_, rfl, by first | rfl | exact inc_eq _ (by omega) | (refine sl_eq ?_; simp; done), by first | exact trivial | simp [SV.ok]⟩, ?_⟩)
        · exact ⟨rfl, trivial⟩
        · exact ⟨Nat.zero_le _, rfl⟩
        · exact .refl _
        rintro k hI
        obtain ⟨hk, ha⟩ : k ≤ x.atoms.length ∧ allK (fun i => atomM (x.atoms[i]?.getD default)) k = true := hI
        try dsimp only
        refine VCsplit.intro (fun q4 => ?_) (fun q4 => ?_)
        ·
          simp at q4
          refine idx_rd h2p ?_ ?_ fun b5 o5 hb5 => ?_
          · omega
          · omega
          refine load_allN default (k) rfl h2p ?_ ?_ hb5 rfl (mem_at 0 rfl) fun l6 hl6 => ?_
          · omega
          · omega
          obtain ⟨rfl, w0x6, w1x6, w2x6⟩ := gAtom_rd.1 hl6
          refine VCnew.intro fun x7 => ?_
          refine call_val (atomOk_ct _ (x.atoms[k]?.getD default) ?_) (Rp.mono _ (mem_at 0 rfl) hl6) ?_
          · exact Nat.le_trans (atoms_path hx (by omega)) (by decide)
          rintro _ rfl
          refine VCsplit.intro (fun q9 => ?_) (fun q9 => ?_)
          ·
            simp at q9
            exact ⟨[], ⟨by rw [q_no fun h => ff (h.2.1 k (by omega)) (by assumption)], rfl⟩, (.le fun a => by (try simp only [setR, List.cons_append, List.nil_append]); simp [List.count_cons, Blk.ent, idOf]; try omega)⟩
          ·
            simp at q9
            apply loop_stepA (k + 1)
            · exact .refl _
            · repeat' (first | exact trivial | refine ⟨⟨_, rfl, by first | rfl | exact inc_eq _ (by omega) | (refine sl_eq ?_; simp; done), by first | exact trivial | simp [SV.ok]⟩, ?_⟩)
            · exact ⟨rfl, trivial⟩
            · exact ⟨by omega, allK_step ha (by assumption)⟩
            · omega
        ·
          simp at q4
          refine call_new (implNamesOf_ct _ x ?_) (Rp.mono _ (mem_at 0 rfl) hp) ?_
          · omega
          rintro v10 A10 o10
          obtain ⟨bN, cN, rfl, oN⟩ := o10
          have rN := Gt.owrd _ oN
          refine VCsplit.intro (fun q11 => ?_) (fun q11 => ?_)
          ·
            simp at q11
            exact ⟨[], ⟨by rw [q_no fun h => by (have := h.1; omega)], rfl⟩, (.le fun a => by (try simp only [setR, List.cons_append, List.nil_append]); simp [List.count_cons, Blk.ent, idOf]; try omega)⟩
          ·
            simp at q11
            refine VCsplit.intro (fun q12 => ?_) (fun q12 => ?_)
            ·
              simp at q12
              exact ⟨[], ⟨by rw [q_no fun h => by (have := h.1; omega)], rfl⟩, (.le fun a => by (try simp only [setR, List.cons_append, List.nil_append]); simp [List.count_cons, Blk.ent, idOf]; try omega)⟩
            ·
              simp at q12
              refine VCsplit.intro (fun q13 => ?_) (fun q13 => ?_)
              ·
                simp at q13
                exact ⟨[], ⟨by rw [q_no fun h => by (have := h.1; omega)], rfl⟩, (.le fun a => by (try simp only [setR, List.cons_append, List.nil_append]); simp [List.count_cons, Blk.ent, idOf]; try omega)⟩
              ·
                simp at q13
                refine call_val (areDistinct_ct _ _ _ (x.out)) (Rp.mono _ (mem_at 1 rfl) h1p) ?_
                rintro _ rfl
                refine VCsplit.intro (fun q15 => ?_) (fun q15 => ?_)
                ·
                  simp at q15
                  exact ⟨[], ⟨by rw [q_no fun h => ff h.2.2.1 (by assumption)], rfl⟩, (.le fun a => by (try simp only [setR, List.cons_append, List.nil_append]); simp [List.count_cons, Blk.ent, idOf]; try omega)⟩
                ·
                  simp at q15
                  refine call_val (containsAll_ct _ _ _ _ _ _ (namesM x.atoms) (x.out)) ⟨(Rp.mono _ (mem_at 0 rfl) rN), (Rp.mono _ (mem_at 1 rfl) h1p)⟩ ?_
                  rintro _ rfl
                  refine VCsplit.intro (fun q17 => ?_) (fun q17 => ?_)
                  ·
                    simp at q17
                    exact ⟨[], ⟨by rw [q_no fun h => ff h.2.2.2.1 (by assumption)], rfl⟩, (.le fun a => by (try simp only [setR, List.cons_append, List.nil_append]); simp [List.count_cons, Blk.ent, idOf]; try omega)⟩
                  ·
                    simp at q17
                    apply loop_mod (α := (Nat)) G_ok [67, 68, 69, 7, 70, 71, 72, 73, 2, 74, 66] (fun z => [(66, .v (.int .i64 z))]) (fun z => [{ id := x0, cs := [Value.bool x.each, Value.slice b1p x.out.length c1p, Value.slice b2p x.atoms.length c2p, Value.slice b3p x.filters.length c3p], ty := (39 : Nat) }]) (fun z => [A10, H]) (fun z => x.filters.length - z) (fun z => z ≤ x.filters.length ∧ allK (fun i => filterM (namesM x.atoms) (x.filters[i]?.getD default)) z = true) ((0))
                    · repeat' (first | exact trivial | refine ⟨⟨_, rfl, by first | rfl | exact inc_eq _ (by omega) | (refine sl_eq ?_; simp; done), by first | exact trivial | simp [SV.ok]⟩, ?_⟩)
                    · exact ⟨rfl, trivial⟩
                    · exact ⟨Nat.zero_le _, rfl⟩
                    · exact .refl _
                    rintro j hI
                    obtain ⟨hj, hf⟩ : j ≤ x.filters.length ∧ allK (fun i => filterM (namesM x.atoms) (x.filters[i]?.getD default)) j = true := hI
                    try dsimp only
                    refine VCsplit.intro (fun q18 => ?_) (fun q18 => ?_)
                    ·
                      simp at q18
                      refine idx_rd h3p ?_ ?_ fun b19 o19 hb19 => ?_
                      · omega
                      · omega
                      refine load_allN default (j) rfl h3p ?_ ?_ hb19 rfl (mem_at 1 rfl) fun l20 hl20 => ?_
                      · omega
                      · omega
                      obtain ⟨rfl, w0x20, w1x20, w2x20, w3x20⟩ := gFilter_rd.1 hl20
                      refine VCnew.intro fun x21 => ?_
                      refine call_val (filterOk_ct _ _ _ _ (x.filters[j]?.getD default) (namesM x.atoms)) ⟨(Rp.mono _ (mem_at 1 rfl) hl20), (Rp.mono _ (mem_at 0 rfl) rN)⟩ ?_
                      rintro _ rfl
                      refine VCsplit.intro (fun q23 => ?_) (fun q23 => ?_)
                      ·
                        simp at q23
                        exact ⟨[], ⟨by rw [q_no fun h => ff (h.2.2.2.2 j (by omega)) (by assumption)], rfl⟩, (.le fun a => by (try simp only [setR, List.cons_append, List.nil_append]); simp [List.count_cons, Blk.ent, idOf]; try omega)⟩
                      ·
                        simp at q23
                        apply loop_stepA (j + 1)
                        · exact .refl _
                        · repeat' (first | exact trivial | refine ⟨⟨_, rfl, by first | rfl | exact inc_eq _ (by omega) | (refine sl_eq ?_; simp; done), by first | exact trivial | simp [SV.ok]⟩, ?_⟩)
                        · exact ⟨rfl, trivial⟩
                        · exact ⟨by omega, allK_step hf (by assumption)⟩
                        · omega
                    ·
                      simp at q18
                      (have hke : k = x.atoms.length := (by omega); have hje : j = x.filters.length := (by omega); rw [hke] at ha; rw [hje] at hf; exact ⟨[], ⟨by rw [q_yes ⟨by omega, fun i hi => allK_at ha i hi, by assumption, by assumption, fun i hi => allK_at hf i hi⟩], rfl⟩, (.le fun a => by (try simp only [setR, List.cons_append, List.nil_append]); simp [List.count_cons, Blk.ent, idOf]; try omega)⟩)
theorem q_last {x : Query} (h1 : 1 ≤ x.atoms.length ∧ x.atoms.length ≤ 4 ∧ x.filters.length ≤ 3 ∧ 1 ≤ x.out.length ∧ x.out.length ≤ 4) (h2 : allK (fun i => atomM (x.atoms[i]?.getD default)) x.atoms.length = true) (h3 : allK (fun i => hasS (namesM x.atoms) (x.out[i]?.getD ByteArray.empty)) x.out.length = true) (h4 : allK (fun i => !hasS (x.out.take i) (x.out[i]?.getD ByteArray.empty)) x.out.length = true) (h5 : allK (fun i => filterM (namesM x.atoms) (x.filters[i]?.getD default)) x.filters.length = true) : queryM x = decide (((namesM x.atoms).length : Int) ≤ 4) := by
  by_cases h : (namesM x.atoms).length ≤ 4
  · rw [q_yes ⟨by omega, fun i hi => allK_at h2 i hi, h4, h3, fun i hi => allK_at h5 i hi⟩, decide_eq_true (by omega)]
  · rw [q_no fun e => h e.1.2.2.2.2.2, decide_eq_false (by omega)]
theorem f_no1 {ns : List ByteArray} {f : Filter} (h : hasS ns f.left = false) : filterM ns f = false := by unfold filterM; rw [h]; rfl
theorem f_no2 {ns : List ByteArray} {f : Filter} (h : inR 1 2 f.op = false) : filterM ns f = false := by unfold filterM; rw [h]; simp
theorem f_no3 {ns : List ByteArray} {f : Filter} (h0 : ¬ f.right.size = 0) (h : hasS ns f.right = false) : filterM ns f = false := by unfold filterM; rw [if_neg h0, h]; simp
theorem f_no4 {ns : List ByteArray} {f : Filter} (h0 : ¬ f.right.size = 0) (h : ¬ f.num = 0) : filterM ns f = false := by unfold filterM; rw [if_neg h0, decide_eq_false h]; simp
theorem f_no5 {ns : List ByteArray} {f : Filter} (h : inR 0 99 f.num = false) : filterM ns f = false := by
  unfold filterM
  have h1 : ¬ f.num = 0 := fun e => by rw [e] at h; exact absurd h (by decide)
  rw [h, decide_eq_false h1]; simp
theorem f_yes1 {ns : List ByteArray} {f : Filter} (h1 : hasS ns f.left = true) (h2 : inR 1 2 f.op = true) (h0 : f.right.size = 0) (h : inR 0 99 f.num = true) : filterM ns f = true := by unfold filterM; rw [h1, h2, if_pos h0, h]; rfl
theorem f_yes2 {ns : List ByteArray} {f : Filter} (h1 : hasS ns f.left = true) (h2 : inR 1 2 f.op = true) (h0 : ¬ f.right.size = 0) (h : hasS ns f.right = true) (h3 : f.num = 0) : filterM ns f = true := by unfold filterM; rw [h1, h2, if_neg h0, h, decide_eq_true h3]; rfl
--@ct spec.QueryOk val specQueryOk_ct _ $1 ?_ | %1
theorem specQueryOk_ct (l : List Value) (x : Query) (hx : gQuery.sz x ≤ 1048576) : Ct Tryz.prog 105 [.agg ⟨l⟩] [] (fun H => gQuery.rd H l x) (fun v A => v = .bool (queryM x) ∧ A = []) := by
  refine Ct.intro0 G_ok Tryz.func105 rfl rfl rfl fun E H hp => ?_
  obtain ⟨b1p, c1p, b2p, c2p, b3p, c3p, rfl, h1p, h2p, h3p⟩ := gQuery_rd.1 hp
  have ez := gQuery_sz x
  have en1 := len_szL gS x.out
  have en2 := len_szL gAtom x.atoms
  have en3 := len_szL gFilter x.filters
  have hco := (sl_len h1p).2.1
  refine VCnew.intro fun x0 => ?_
  refine call_val (l01In_ct _ _ _) trivial ?_
  rintro _ rfl
  refine VCsplit.intro (fun q2 => ?_) (fun q2 => ?_)
  ·
    simp at q2
    have iq2 := mt inR_iff.2 (Bool.eq_false_iff.1 q2)
    exact ⟨[], ⟨by rw [q_no fun h => by (have := h.1; omega)], rfl⟩, (.le fun a => by (try simp only [setR, List.cons_append, List.nil_append]); simp [List.count_cons, Blk.ent, idOf]; try omega)⟩
  ·
    simp at q2
    have iq2 := inR_iff.1 q2
    refine VCsplit.intro (fun q3 => ?_) (fun q3 => ?_)
    ·
      simp at q3
      exact ⟨[], ⟨by rw [q_no fun h => by (have := h.1; omega)], rfl⟩, (.le fun a => by (try simp only [setR, List.cons_append, List.nil_append]); simp [List.count_cons, Blk.ent, idOf]; try omega)⟩
    ·
      simp at q3
      refine call_val (l01In_ct _ _ _) trivial ?_
      rintro _ rfl
      refine VCsplit.intro (fun q5 => ?_) (fun q5 => ?_)
      ·
        simp at q5
        have iq5 := mt inR_iff.2 (Bool.eq_false_iff.1 q5)
        exact ⟨[], ⟨by rw [q_no fun h => by (have := h.1; omega)], rfl⟩, (.le fun a => by (try simp only [setR, List.cons_append, List.nil_append]); simp [List.count_cons, Blk.ent, idOf]; try omega)⟩
      ·
        simp at q5
        have iq5 := inR_iff.1 q5
        apply loop_mod (α := (Nat)) G_ok [26, 27, 28, 29, 30, 33, 34, 35, 36, 37, 38, 39, 2, 31, 32, 3] (fun z => [(3, .v (.int .i64 z))]) (fun z => [{ id := x0, cs := [Value.bool x.each, Value.slice b1p x.out.length c1p, Value.slice b2p x.atoms.length c2p, Value.slice b3p x.filters.length c3p], ty := (39 : Nat) }]) (fun z => [H]) (fun z => x.atoms.length - z) (fun z => z ≤ x.atoms.length ∧ allK (fun i => atomM (x.atoms[i]?.getD default)) z = true) ((0))
        · repeat' (first | exact trivial | refine ⟨⟨_, rfl, by first | rfl | exact inc_eq _ (by omega) | (refine sl_eq ?_; simp; done), by first | exact trivial | simp [SV.ok]⟩, ?_⟩)
        · exact ⟨rfl, trivial⟩
        · exact ⟨Nat.zero_le _, rfl⟩
        · exact .refl _
        rintro k hI
        obtain ⟨hk, ha⟩ : k ≤ x.atoms.length ∧ allK (fun i => atomM (x.atoms[i]?.getD default)) k = true := hI
        try dsimp only
        refine VCsplit.intro (fun q6 => ?_) (fun q6 => ?_)
        ·
          simp at q6
          refine idx_rd h2p ?_ ?_ fun b7 o7 hb7 => ?_
          · omega
          · omega
          refine load_allN default (k) rfl h2p ?_ ?_ hb7 rfl (mem_at 0 rfl) fun l8 hl8 => ?_
          · omega
          · omega
          obtain ⟨rfl, w0x8, w1x8, w2x8⟩ := gAtom_rd.1 hl8
          refine call_val (l08Atom_ct _ (x.atoms[k]?.getD default) ?_) (Rp.mono _ (mem_at 0 rfl) hl8) ?_
          · exact Nat.le_trans (atoms_path hx (by omega)) (by decide)
          rintro _ rfl
          refine VCsplit.intro (fun q10 => ?_) (fun q10 => ?_)
          ·
            simp at q10
            exact ⟨[], ⟨by rw [q_no fun h => ff (h.2.1 k (by omega)) (by assumption)], rfl⟩, (.le fun a => by (try simp only [setR, List.cons_append, List.nil_append]); simp [List.count_cons, Blk.ent, idOf]; try omega)⟩
          ·
            simp at q10
            apply loop_stepA (k + 1)
            · exact .refl _
            · repeat' (first | exact trivial | refine ⟨⟨_, rfl, by first | rfl | exact inc_eq _ (by omega) | (refine sl_eq ?_; simp; done), by first | exact trivial | simp [SV.ok]⟩, ?_⟩)
            · exact ⟨rfl, trivial⟩
            · exact ⟨by omega, allK_step ha (by assumption)⟩
            · omega
        ·
          simp at q6
          refine call_new (specNamesOf_ct _ x ?_) (Rp.mono _ (mem_at 0 rfl) hp) ?_
          · omega
          rintro v11 A11 o11
          obtain ⟨bN, cN, rfl, oN⟩ := o11
          have rN := Gt.owrd _ oN
          apply loop_mod (α := (Nat)) G_ok [42, 43, 44, 45, 46, 49, 50, 51, 52, 53, 54, 55, 56, 57, 58, 59, 60, 61, 62, 63, 64, 65, 66, 67, 68, 2, 47, 48, 5] (fun z => [(5, .v (.int .i64 z))]) (fun z => [{ id := x0, cs := [Value.bool x.each, Value.slice b1p x.out.length c1p, Value.slice b2p x.atoms.length c2p, Value.slice b3p x.filters.length c3p], ty := (39 : Nat) }]) (fun z => [A11, H]) (fun z => x.out.length - z) (fun z => z ≤ x.out.length ∧ allK (fun i => hasS (namesM x.atoms) (x.out[i]?.getD ByteArray.empty)) z = true ∧ allK (fun i => !hasS (x.out.take i) (x.out[i]?.getD ByteArray.empty)) z = true) ((0))
          · repeat' (first | exact trivial | refine ⟨⟨_, rfl, by first | rfl | exact inc_eq _ (by omega) | (refine sl_eq ?_; simp; done), by first | exact trivial | simp [SV.ok]⟩, ?_⟩)
          · exact ⟨rfl, trivial⟩
          · exact ⟨Nat.zero_le _, rfl, rfl⟩
          · exact .refl _
          rintro i hI
          obtain ⟨hi, hb, hc⟩ : i ≤ x.out.length ∧ allK (fun i => hasS (namesM x.atoms) (x.out[i]?.getD ByteArray.empty)) i = true ∧ allK (fun i => !hasS (x.out.take i) (x.out[i]?.getD ByteArray.empty)) i = true := hI
          try dsimp only
          refine VCsplit.intro (fun q12 => ?_) (fun q12 => ?_)
          ·
            simp at q12
            refine draw G_ok mixed none (.q 0 (.q 1 (.q 2 (.q 3 (.q 4 (.q 5 (.f 6 (.q 7 (.q 8 (.q 9 (.q 10 (.q 11 (.q 12 (.q 13 (.q 14 (.q 15 (.q 16 (.q 17 (.f 18 (.q 19 (.nil))))))))))))))))))))) (by decide +kernel) ?_
            refine idx_rd h1p ?_ ?_ fun b13 o13 hb13 => ?_
            · omega
            · omega
            refine load_allN ByteArray.empty (i) rfl h1p ?_ ?_ hb13 rfl (mem_at 1 rfl) fun l14 hl14 => ?_
            · omega
            · omega
            obtain ⟨rfl, hw14⟩ := hl14; simp only [flStr, flInt, okI] at hw14
            refine call_val (l08In_ct _ _ _ (namesM x.atoms) _) (Rp.mono _ (mem_at 0 rfl) rN) ?_
            rintro _ rfl
            refine VC.intro ?_ ?_
            · exact fun _ h => h
            refine VCsplit.intro (fun q16 => ?_) (fun q16 => ?_)
            ·
              simp at q16
              exact ⟨[], ⟨by rw [q_no fun h => ff h.2.2.2.1 (inAll_no (k := i) (by omega) (by assumption))], rfl⟩, (.le fun a => by (try simp only [setR, List.cons_append, List.nil_append]); simp [List.count_cons, Blk.ent, idOf]; try omega)⟩
            ·
              simp at q16
              have hsub : (gSl 9 gS).rd H [.slice (subBase c1p 0 b1p ty9.size) (((i : Nat) : Int).toNat - 0) (c1p - 0)] ((x.out.take ((i : Nat) : Int).toNat).drop 0) := rd_sub (r := gS.toRp) (l := 0) (h := ((i : Nat) : Int).toNat) h1p (by omega) (by omega)
              refine VC.intro ?_ ?_
              · omega
              refine idx_rd h1p ?_ ?_ fun b17 o17 hb17 => ?_
              · omega
              · omega
              refine load_allN ByteArray.empty (i) rfl h1p ?_ ?_ hb17 rfl (mem_at 1 rfl) fun l18 hl18 => ?_
              · omega
              · omega
              obtain ⟨rfl, hw18⟩ := hl18; simp only [flStr, flInt, okI] at hw18
              refine call_val (l08In_ct _ _ _ (List.drop (0 : Nat) (List.take (↑i : Int).toNat x.out)) _) (Rp.mono _ (mem_at 1 rfl) hsub) ?_
              rintro _ rfl
              refine VC.intro ?_ ?_
              · exact fun _ h => h
              refine VCsplit.intro (fun q20 => ?_) (fun q20 => ?_)
              ·
                simp at q20
                exact ⟨[], ⟨by rw [q_no fun h => ff h.2.2.1 (dist_no2 (k := i) (by omega) (by assumption))], rfl⟩, (.le fun a => by (try simp only [setR, List.cons_append, List.nil_append]); simp [List.count_cons, Blk.ent, idOf]; try omega)⟩
              ·
                simp at q20
                apply loop_stepA (i + 1)
                · exact .refl _
                · repeat' (first | exact trivial | refine ⟨⟨_, rfl, by first | rfl | exact inc_eq _ (by omega) | (refine sl_eq ?_; simp; done), by first | exact trivial | simp [SV.ok]⟩, ?_⟩)
                · exact ⟨rfl, trivial⟩
                · exact ⟨by omega, allK_step hb (by assumption), allK_step hc (dist_step (by assumption))⟩
                · omega
          ·
            simp at q12
            apply loop_mod (α := (Nat)) G_ok [69, 70, 71, 72, 73, 76, 77, 78, 79, 80, 7, 81, 82, 83, 84, 85, 86, 87, 88, 89, 90, 91, 92, 93, 94, 95, 96, 97, 98, 99, 100, 101, 102, 103, 104, 105, 106, 107, 108, 109, 110, 111, 112, 113, 114, 2, 74, 75, 6] (fun z => [(6, .v (.int .i64 z))]) (fun z => [{ id := x0, cs := [Value.bool x.each, Value.slice b1p x.out.length c1p, Value.slice b2p x.atoms.length c2p, Value.slice b3p x.filters.length c3p], ty := (39 : Nat) }]) (fun z => [A11, H]) (fun z => x.filters.length - z) (fun z => z ≤ x.filters.length ∧ allK (fun i => filterM (namesM x.atoms) (x.filters[i]?.getD default)) z = true) ((0))
            · repeat' (first | exact trivial | refine ⟨⟨_, rfl, by first | rfl | exact inc_eq _ (by omega) | (refine sl_eq ?_; simp; done), by first | exact trivial | simp [SV.ok]⟩, ?_⟩)
            · exact ⟨rfl, trivial⟩
            · exact ⟨Nat.zero_le _, rfl⟩
            · exact .refl _
            rintro j hI
            obtain ⟨hj, hf⟩ : j ≤ x.filters.length ∧ allK (fun i => filterM (namesM x.atoms) (x.filters[i]?.getD default)) j = true := hI
            try dsimp only
            refine VCsplit.intro (fun q21 => ?_) (fun q21 => ?_)
            ·
              simp at q21
              refine idx_rd h3p ?_ ?_ fun b22 o22 hb22 => ?_
              · omega
              · omega
              refine load_allN default (j) rfl h3p ?_ ?_ hb22 rfl (mem_at 1 rfl) fun l23 hl23 => ?_
              · omega
              · omega
              obtain ⟨rfl, w0x23, w1x23, w2x23, w3x23⟩ := gFilter_rd.1 hl23
              refine VCnew.intro fun x24 => ?_
              refine call_val (l08In_ct _ _ _ (namesM x.atoms) _) (Rp.mono _ (mem_at 0 rfl) rN) ?_
              rintro _ rfl
              refine VCsplit.intro (fun q26 => ?_) (fun q26 => ?_)
              ·
                simp at q26
                exact ⟨[], ⟨by rw [q_no fun h => ff (h.2.2.2.2 j (by omega)) (f_no1 (by assumption))], rfl⟩, (.le fun a => by (try simp only [setR, List.cons_append, List.nil_append]); simp [List.count_cons, Blk.ent, idOf]; try omega)⟩
              ·
                simp at q26
                refine call_val (l01In_ct _ _ _) trivial ?_
                rintro _ rfl
                refine VCsplit.intro (fun q28 => ?_) (fun q28 => ?_)
                ·
                  simp at q28
                  have iq28 := mt inR_iff.2 (Bool.eq_false_iff.1 q28)
                  exact ⟨[], ⟨by rw [q_no fun h => ff (h.2.2.2.2 j (by omega)) (f_no2 (by assumption))], rfl⟩, (.le fun a => by (try simp only [setR, List.cons_append, List.nil_append]); simp [List.count_cons, Blk.ent, idOf]; try omega)⟩
                ·
                  simp at q28
                  have iq28 := inR_iff.1 q28
                  refine VCsplit.intro (fun q29 => ?_) (fun q29 => ?_)
                  ·
                    simp at q29
                    have iq29 := mt toL_nil8.2 q29
                    refine call_val (l08In_ct _ _ _ (namesM x.atoms) _) (Rp.mono _ (mem_at 0 rfl) rN) ?_
                    rintro _ rfl
                    refine VCsplit.intro (fun q31 => ?_) (fun q31 => ?_)
                    ·
                      simp at q31
                      exact ⟨[], ⟨by rw [q_no fun h => ff (h.2.2.2.2 j (by omega)) (f_no3 (by assumption) (by assumption))], rfl⟩, (.le fun a => by (try simp only [setR, List.cons_append, List.nil_append]); simp [List.count_cons, Blk.ent, idOf]; try omega)⟩
                    ·
                      simp at q31
                      refine VCsplit.intro (fun q32 => ?_) (fun q32 => ?_)
                      ·
                        simp at q32
                        exact ⟨[], ⟨by rw [q_no fun h => ff (h.2.2.2.2 j (by omega)) (f_no4 (by assumption) (by assumption))], rfl⟩, (.le fun a => by (try simp only [setR, List.cons_append, List.nil_append]); simp [List.count_cons, Blk.ent, idOf]; try omega)⟩
                      ·
                        simp at q32
                        refine call_val (l01In_ct _ _ _) trivial ?_
                        rintro _ rfl
                        refine VCsplit.intro (fun q34 => ?_) (fun q34 => ?_)
                        ·
                          simp at q34
                          have iq34 := mt inR_iff.2 (Bool.eq_false_iff.1 q34)
                          exfalso; omega
                        ·
                          simp at q34
                          have iq34 := inR_iff.1 q34
                          apply loop_stepA (j + 1)
                          · exact .refl _
                          · repeat' (first | exact trivial | refine ⟨⟨_, rfl, by first | rfl | exact inc_eq _ (by omega) | (refine sl_eq ?_; simp; done), by first | exact trivial | simp [SV.ok]⟩, ?_⟩)
                          · exact ⟨rfl, trivial⟩
                          · exact ⟨by omega, allK_step hf (f_yes2 (by assumption) (by assumption) (by assumption) (by assumption) (by assumption))⟩
                          · omega
                  ·
                    simp at q29
                    have iq29 := toL_nil8.1 q29
                    refine call_val (l01In_ct _ _ _) trivial ?_
                    rintro _ rfl
                    refine VCsplit.intro (fun q36 => ?_) (fun q36 => ?_)
                    ·
                      simp at q36
                      have iq36 := mt inR_iff.2 (Bool.eq_false_iff.1 q36)
                      exact ⟨[], ⟨by rw [q_no fun h => ff (h.2.2.2.2 j (by omega)) (f_no5 (by assumption))], rfl⟩, (.le fun a => by (try simp only [setR, List.cons_append, List.nil_append]); simp [List.count_cons, Blk.ent, idOf]; try omega)⟩
                    ·
                      simp at q36
                      have iq36 := inR_iff.1 q36
                      apply loop_stepA (j + 1)
                      · exact .refl _
                      · repeat' (first | exact trivial | refine ⟨⟨_, rfl, by first | rfl | exact inc_eq _ (by omega) | (refine sl_eq ?_; simp; done), by first | exact trivial | simp [SV.ok]⟩, ?_⟩)
                      · exact ⟨rfl, trivial⟩
                      · exact ⟨by omega, allK_step hf (f_yes1 (by assumption) (by assumption) (by assumption) (by assumption))⟩
                      · omega
            ·
              simp at q21
              (have hke : k = x.atoms.length := (by omega); have hie : i = x.out.length := (by omega); have hje : j = x.filters.length := (by omega); rw [hke] at ha; rw [hie] at hb hc; rw [hje] at hf; exact ⟨[], ⟨by rw [q_last (by omega) ha hb hc hf], rfl⟩, (.le fun a => by (try simp only [setR, List.cons_append, List.nil_append]); simp [List.count_cons, Blk.ent, idOf]; try omega)⟩)
end Go.Proofs.YtjgehblllhkdbaaGreat

namespace Go.Proofs.YtjgehblllhkdbaaGreat
open Go.SX Go.Proofs
set_option linter.unusedSimpArgs false
set_option linter.unusedVariables false
set_option maxHeartbeats 4000000
attribute [local irreducible] IntKind.wrap namesM queryM
def shK (s : List Int) (k : Nat) : Bool := allK (fun i => inR 1 8 (s[i]?.getD 0)) k
def prodK (s : List Int) : Nat → Int
  | 0 => 1
  | k + 1 => prodK s k * (s[k]?.getD 0)
theorem prod_rng {s : List Int} : ∀ {k : Nat}, shK s k = true → 1 ≤ prodK s k ∧ prodK s k ≤ 8 ^ k
  | 0, _ => by show (1 : Int) ≤ 1 ∧ (1 : Int) ≤ 8 ^ 0; decide
  | k + 1, h => by
    have h1 : shK s k = true := by
      unfold shK at h ⊢; unfold allK at h; rw [Bool.and_eq_true] at h; exact h.1
    have h2 := inR_iff.1 (allK_at h k (by omega))
    have ih := prod_rng h1
    show 1 ≤ prodK s k * (s[k]?.getD 0) ∧ prodK s k * (s[k]?.getD 0) ≤ 8 ^ (k + 1)
    rw [Int.pow_succ]
    exact ⟨Int.le_trans (by decide : (1 : Int) ≤ 1 * 1) (Int.mul_le_mul ih.1 h2.1 (by decide) (by omega)), Int.mul_le_mul ih.2 h2.2 (by omega) (Int.le_trans (by decide) (Int.le_trans ih.1 ih.2))⟩
theorem prod_4 {s : List Int} {k : Nat} (h : shK s k = true) (hk : k ≤ 4) : 1 ≤ prodK s k ∧ prodK s k ≤ 4096 := by
  have h1 := prod_rng h
  rcases (by omega : k = 0 ∨ k = 1 ∨ k = 2 ∨ k = 3 ∨ k = 4) with rfl | rfl | rfl | rfl | rfl <;> (refine ⟨h1.1, Int.le_trans h1.2 (by decide)⟩)
theorem prod_mono {s : List Int} {j : Nat} : ∀ {k : Nat}, shK s k = true → j ≤ k → prodK s j ≤ prodK s k
  | 0, _, hj => by rw [show j = 0 by omega]; exact Int.le_refl _
  | k + 1, h, hj => by
    have h1 : shK s k = true := by
      unfold shK at h ⊢; unfold allK at h; rw [Bool.and_eq_true] at h; exact h.1
    have h2 := inR_iff.1 (allK_at h k (by omega))
    have ih := prod_rng h1
    have h3 : prodK s k ≤ prodK s (k + 1) := by
      show prodK s k ≤ prodK s k * (s[k]?.getD 0)
      have := Int.mul_le_mul_of_nonneg_left h2.1 (by omega : (0 : Int) ≤ prodK s k)
      rw [Int.mul_one] at this; exact this
    rcases (by omega : j ≤ k ∨ j = k + 1) with h4 | rfl
    · exact Int.le_trans (prod_mono h1 h4) h3
    · exact Int.le_refl _
theorem prod_step {p v : Int} (h1 : 1 ≤ p ∧ p ≤ 8 ^ 8) (h2 : 1 ≤ v ∧ v ≤ 8) : 1 ≤ p * v ∧ p * v ≤ 8 ^ 9 :=
  ⟨Int.le_trans (by decide : (1 : Int) ≤ 1 * 1) (Int.mul_le_mul h1.1 h2.1 (by decide) (by omega)), Int.le_trans (Int.mul_le_mul h1.2 h2.2 (by omega) (by decide)) (by decide)⟩
/-- the numbers are right -/
def shOk (s : List Int) : Bool := shK s s.length && decide (prodK s s.length ≤ 8)
theorem shOk_no1 {s : List Int} {k : Nat} (hk : k < s.length) (h : ¬ (1 ≤ (s[k]?.getD 0) ∧ (s[k]?.getD 0) ≤ 8)) : shOk s = false := by
  unfold shOk shK
  rw [allK_no (p := fun i => inR 1 8 (s[i]?.getD 0)) (k := k) (by rw [Bool.eq_false_iff, Ne, inR_iff]; exact h) _ hk]; rfl
theorem shOk_no2 {s : List Int} {k : Nat} (hk : k ≤ s.length) (h : ¬ prodK s k ≤ 8) : shOk s = false := by
  cases e : shOk s with
  | false => rfl
  | true =>
    unfold shOk at e
    rw [Bool.and_eq_true, decide_eq_true_iff] at e
    exact absurd (Int.le_trans (prod_mono e.1 hk) e.2) h
theorem shOk_yes {s : List Int} (h : shK s s.length = true) (h1 : prodK s s.length ≤ 8) : shOk s = true := by unfold shOk; rw [h, decide_eq_true h1]; rfl
theorem shK_step {s : List Int} {k : Nat} (h : shK s k = true) (h1 : 1 ≤ (s[k]?.getD 0) ∧ (s[k]?.getD 0) ≤ 8) : shK s (k + 1) = true := allK_step h (inR_iff.2 h1)
theorem shK_all {s : List Int} (h : shOk s = true) : shK s s.length = true := by unfold shOk at h; rw [Bool.and_eq_true] at h; exact h.1
theorem shK_le {s : List Int} {n k : Nat} (h : shK s n = true) (hk : k ≤ n) : shK s k = true := by
  induction n with
  | zero => rw [show k = 0 by omega]; rfl
  | succ n ih =>
    rcases (by omega : k ≤ n ∨ k = n + 1) with h1 | rfl
    · exact ih (by unfold shK at h ⊢; unfold allK at h; rw [Bool.and_eq_true] at h; exact h.1) h1
    · exact h
def cellsM (s : List Int) : Int := if 1 ≤ s.length ∧ s.length ≤ 4 ∧ shOk s = true then prodK s s.length else 0
theorem cells_no1 {s : List Int} (h : ¬ (1 ≤ s.length ∧ s.length ≤ 4)) : cellsM s = 0 := if_neg fun e => h ⟨e.1, e.2.1⟩
theorem cells_no2 {s : List Int} (h : shOk s = false) : cellsM s = 0 := if_neg fun e => by rw [h] at e; cases e.2.2
theorem cells_yes {s : List Int} (h1 : 1 ≤ s.length ∧ s.length ≤ 4) (h : shOk s = true) : cellsM s = prodK s s.length := if_pos ⟨h1.1, h1.2, h⟩
theorem cells_rng (s : List Int) : 0 ≤ cellsM s ∧ cellsM s ≤ 8 := by
  unfold cellsM
  split
  · rename_i h
    have h2 := h.2.2
    unfold shOk at h2
    rw [Bool.and_eq_true, decide_eq_true_iff] at h2
    have := prod_rng h2.1
    omega
  · omega
--@ct impl.CellsOf val implCellsOf_ct _ _ _ $1 | %1
theorem implCellsOf_ct (b : Option Addr) (m c : Nat) (xs : List Int) : Ct Tryz.prog 159 [.slice b m c] [] (fun H => (gSl 3 gI).rd H [.slice b m c] xs) (fun v A => v = .int .i64 (cellsM xs) ∧ A = []) := by
  refine Ct.intro0 G_ok Tryz.func159 rfl rfl rfl fun E H hp => ?_
  obtain ⟨rfl, hcl, hl⟩ := sl_len hp
  refine VCsplit.intro (fun q0 => ?_) (fun q0 => ?_)
  ·
    simp at q0
    exact ⟨[], ⟨by rw [cells_no1 (by omega)], rfl⟩, (.le fun a => by (try simp only [setR, List.cons_append, List.nil_append]); simp [List.count_cons, Blk.ent, idOf]; try omega)⟩
  ·
    simp at q0
    refine VCsplit.intro (fun q1 => ?_) (fun q1 => ?_)
    ·
      simp at q1
      exact ⟨[], ⟨by rw [cells_no1 (by omega)], rfl⟩, (.le fun a => by (try simp only [setR, List.cons_append, List.nil_append]); simp [List.count_cons, Blk.ent, idOf]; try omega)⟩
    ·
      simp at q1
      apply loop_mod (α := (Nat) × (Int)) G_ok [17, 18, 19, 5, 20, 21, 22, 23, 24, 25, 2, 26, 27, 28, 3, 29, 16] (fun z => [(16, .v (.int .i64 z.1)), (3, .v (.int .i64 z.2))]) (fun z => []) (fun z => [H]) (fun z => xs.length - z.1) (fun z => z.1 ≤ xs.length ∧ shK xs z.1 = true ∧ z.2 = prodK xs z.1) ((0, 1))
      · repeat' (first | exact trivial | refine ⟨⟨_, rfl, by first | rfl | exact inc_eq _ (by omega) | (refine sl_eq ?_; simp; done) | rw [wrap_of (x := p * (xs[k]?.getD 0)) (by omega) (by omega)], by first | exact trivial | simp [SV.ok]⟩, ?_⟩)
      · exact trivial
      · try dsimp only
        exact ⟨Nat.zero_le _, rfl, rfl⟩
      · exact .refl _
      rintro ⟨k, p⟩ hI
      obtain ⟨hk, ha, hpp⟩ : k ≤ xs.length ∧ shK xs k = true ∧ p = prodK xs k := hI
      try dsimp only
      refine VCsplit.intro (fun q2 => ?_) (fun q2 => ?_)
      ·
        simp at q2
        have hpr := prod_4 ha (by omega)
        rw [← hpp] at hpr
        refine idx_rd hp ?_ ?_ fun b3 o3 hb3 => ?_
        · omega
        · omega
        refine load_allN 0 (k) rfl hp ?_ ?_ hb3 rfl (mem_at 0 rfl) fun l4 hl4 => ?_
        · omega
        · omega
        obtain ⟨rfl, hw4⟩ := hl4; simp only [flStr, flInt, okI] at hw4
        refine VCsplit.intro (fun q5 => ?_) (fun q5 => ?_)
        ·
          simp at q5
          exact ⟨[], ⟨by rw [cells_no2 (shOk_no1 (k := k) (by omega) (by omega))], rfl⟩, (.le fun a => by (try simp only [setR, List.cons_append, List.nil_append]); simp [List.count_cons, Blk.ent, idOf]; try omega)⟩
        ·
          simp at q5
          refine VCsplit.intro (fun q6 => ?_) (fun q6 => ?_)
          ·
            simp at q6
            exact ⟨[], ⟨by rw [cells_no2 (shOk_no1 (k := k) (by omega) (by omega))], rfl⟩, (.le fun a => by (try simp only [setR, List.cons_append, List.nil_append]); simp [List.count_cons, Blk.ent, idOf]; try omega)⟩
          ·
            simp at q6
            have hps := prod_step (p := p) (v := xs[k]?.getD 0) ⟨hpr.1, by omega⟩ (by omega)
            apply loop_stepA (k + 1, p * (xs[k]?.getD 0))
            · exact .refl _
            · repeat' (first | exact trivial | refine ⟨⟨_, rfl, by first | rfl | exact inc_eq _ (by omega) | (refine sl_eq ?_; simp; done) | rw [wrap_of (x := p * (xs[k]?.getD 0)) (by omega) (by omega)], by first | exact trivial | simp [SV.ok]⟩, ?_⟩)
            · exact trivial
            · try dsimp only
              exact ⟨by omega, shK_step ha (by omega), by rw [hpp]; rfl⟩
            · try dsimp only
              omega
      ·
        simp at q2
        have hpr := prod_4 ha (by omega)
        rw [← hpp] at hpr
        refine VCsplit.intro (fun q7 => ?_) (fun q7 => ?_)
        ·
          simp at q7
          exact ⟨[], ⟨by rw [cells_no2 (shOk_no2 (k := k) (by omega) (by rw [← hpp]; omega))], rfl⟩, (.le fun a => by (try simp only [setR, List.cons_append, List.nil_append]); simp [List.count_cons, Blk.ent, idOf]; try omega)⟩
        ·
          simp at q7
          (have hke : k = xs.length := (by omega); subst hke; exact ⟨[], ⟨by rw [cells_yes (by omega) (shOk_yes ha (by rw [← hpp]; omega)), ← hpp], rfl⟩, (.le fun a => by (try simp only [setR, List.cons_append, List.nil_append]); simp [List.count_cons, Blk.ent, idOf]; try omega)⟩)
theorem beq_dec {a b : Int} : (a == b) = decide (a = b) := by rw [Bool.eq_iff_iff, beq_iff_eq, decide_eq_true_iff]
--@ct spec.l13Number val l13Number_ct _ _ _ $1 _ | %1
theorem l13Number_ct (b : Option Addr) (m c : Nat) (xs : List Int) (n : Int) : Ct Tryz.prog 151 [.slice b m c, .int .i64 n] [] (fun H => (gSl 3 gI).rd H [.slice b m c] xs) (fun v A => v = .bool (shOk xs && decide ((xs.length : Int) = n)) ∧ A = []) := by
  refine Ct.intro0 G_ok Tryz.func151 rfl rfl rfl fun E H hp => ?_
  obtain ⟨rfl, hcl, hl⟩ := sl_len hp
  apply loop_mod (α := (Nat) × (Int)) G_ok [7, 8, 9, 10, 13, 14, 15, 16, 17, 18, 4, 19, 20, 21, 22, 23, 24, 5, 25, 26, 11, 12, 6] (fun z => [(6, .v (.int .i64 z.1)), (5, .v (.int .i64 z.2))]) (fun z => []) (fun z => [H]) (fun z => xs.length - z.1) (fun z => z.1 ≤ xs.length ∧ shK xs z.1 = true ∧ z.2 = prodK xs z.1 ∧ 1 ≤ z.2 ∧ z.2 ≤ 8) ((0, 1))
  · repeat' (first | exact trivial | refine ⟨⟨_, rfl, by first | rfl | exact inc_eq _ (by omega) | (refine sl_eq ?_; simp; done) | rw [wrap_of (x := p * (xs[k]?.getD 0)) (by omega) (by omega)], by first | exact trivial | simp [SV.ok]⟩, ?_⟩)
  · exact trivial
  · try dsimp only
    exact ⟨Nat.zero_le _, rfl, rfl, by decide, by decide⟩
  · exact .refl _
  rintro ⟨k, p⟩ hI
  obtain ⟨hk, ha, hpp, hp1, hp8⟩ : k ≤ xs.length ∧ shK xs k = true ∧ p = prodK xs k ∧ 1 ≤ p ∧ p ≤ 8 := hI
  try dsimp only
  refine VCsplit.intro (fun q0 => ?_) (fun q0 => ?_)
  ·
    simp at q0
    refine idx_rd hp ?_ ?_ fun b1 o1 hb1 => ?_
    · omega
    · omega
    refine load_allN 0 (k) rfl hp ?_ ?_ hb1 rfl (mem_at 0 rfl) fun l2 hl2 => ?_
    · omega
    · omega
    obtain ⟨rfl, hw2⟩ := hl2; simp only [flStr, flInt, okI] at hw2
    refine call_val (l01In_ct _ _ _) trivial ?_
    rintro _ rfl
    refine VCsplit.intro (fun q4 => ?_) (fun q4 => ?_)
    ·
      simp at q4
      have iq4 := mt inR_iff.2 (Bool.eq_false_iff.1 q4)
      exact ⟨[], ⟨by rw [shOk_no1 (k := k) (by omega) (by omega)]; rfl, rfl⟩, (.le fun a => by (try simp only [setR, List.cons_append, List.nil_append]); simp [List.count_cons, Blk.ent, idOf]; try omega)⟩
    ·
      simp at q4
      have iq4 := inR_iff.1 q4
      have hps := prod_step (p := p) (v := xs[k]?.getD 0) ⟨hp1, by omega⟩ (by omega)
      refine idx_rd hp ?_ ?_ fun b5 o5 hb5 => ?_
      · omega
      · omega
      refine load_allN 0 (k) rfl hp ?_ ?_ hb5 rfl (mem_at 0 rfl) fun l6 hl6 => ?_
      · omega
      · omega
      obtain ⟨rfl, hw6⟩ := hl6; simp only [flStr, flInt, okI] at hw6
      refine VCsplit.intro (fun q7 => ?_) (fun q7 => ?_)
      ·
        simp at q7
        simp (disch := omega) only [wrap_of] at q7
        exact ⟨[], ⟨by rw [shOk_no2 (s := xs) (k := k + 1) (by omega) (by show ¬ prodK xs k * (xs[k]?.getD 0) ≤ 8; rw [← hpp]; omega)]; rfl, rfl⟩, (.le fun a => by (try simp only [setR, List.cons_append, List.nil_append]); simp [List.count_cons, Blk.ent, idOf]; try omega)⟩
      ·
        simp at q7
        simp (disch := omega) only [wrap_of] at q7
        apply loop_stepA (k + 1, p * (xs[k]?.getD 0))
        · exact .refl _
        · repeat' (first | exact trivial | refine ⟨⟨_, rfl, by first | rfl | exact inc_eq _ (by omega) | (refine sl_eq ?_; simp; done) | rw [wrap_of (x := p * (xs[k]?.getD 0)) (by omega) (by omega)], by first | exact trivial | simp [SV.ok]⟩, ?_⟩)
        · exact trivial
        · try dsimp only
          exact ⟨by omega, shK_step ha (by omega), by rw [hpp]; rfl, by omega, by omega⟩
        · try dsimp only
          omega
  ·
    simp at q0
    (have hke : k = xs.length := (by omega); subst hke; exact ⟨[], ⟨by rw [shOk_yes ha (by rw [← hpp]; omega), Bool.true_and]; first | rfl | (rw [beq_dec]), rfl⟩, (.le fun a => by (try simp only [setR, List.cons_append, List.nil_append]); simp [List.count_cons, Blk.ent, idOf]; try omega)⟩)
end Go.Proofs.YtjgehblllhkdbaaGreat

namespace Go.Proofs.YtjgehblllhkdbaaGreat
open Go.SX Go.Proofs
set_option linter.unusedSimpArgs false
set_option linter.unusedVariables false
set_option maxHeartbeats 4000000
attribute [local irreducible] IntKind.wrap queryM
--@ct spec.CellsOf val specCellsOf_ct _ _ _ $1 | %1
theorem specCellsOf_ct (b : Option Addr) (m c : Nat) (xs : List Int) : Ct Tryz.prog 62 [.slice b m c] [] (fun H => (gSl 3 gI).rd H [.slice b m c] xs) (fun v A => v = .int .i64 (cellsM xs) ∧ A = []) := by
  refine Ct.intro0 G_ok Tryz.func62 rfl rfl rfl fun E H hp => ?_
  obtain ⟨rfl, hcl, hl⟩ := sl_len hp
  refine call_val (l01In_ct _ _ _) trivial ?_
  rintro _ rfl
  refine VCsplit.intro (fun q1 => ?_) (fun q1 => ?_)
  ·
    simp at q1
    have iq1 := mt inR_iff.2 (Bool.eq_false_iff.1 q1)
    exact ⟨[], ⟨by rw [cells_no1 (by omega)], rfl⟩, (.le fun a => by (try simp only [setR, List.cons_append, List.nil_append]); simp [List.count_cons, Blk.ent, idOf]; try omega)⟩
  ·
    simp at q1
    have iq1 := inR_iff.1 q1
    refine call_val (l13Number_ct _ _ _ (xs) _) (Rp.mono _ (mem_at 0 rfl) hp) ?_
    rintro _ rfl
    refine VCsplit.intro (fun q3 => ?_) (fun q3 => ?_)
    ·
      simp at q3
      exact ⟨[], ⟨by rw [cells_no2 (by assumption)], rfl⟩, (.le fun a => by (try simp only [setR, List.cons_append, List.nil_append]); simp [List.count_cons, Blk.ent, idOf]; try omega)⟩
    ·
      simp at q3
      apply loop_mod (α := (Nat) × (Int)) G_ok [16, 17, 18, 19, 22, 23, 24, 25, 26, 27, 3, 20, 21, 4] (fun z => [(4, .v (.int .i64 z.1)), (3, .v (.int .i64 z.2))]) (fun z => []) (fun z => [H]) (fun z => xs.length - z.1) (fun z => z.1 ≤ xs.length ∧ z.2 = prodK xs z.1) ((0, 1))
      · repeat' (first | exact trivial | refine ⟨⟨_, rfl, by first | rfl | exact inc_eq _ (by omega) | (refine sl_eq ?_; simp; done) | rw [wrap_of (x := p * (xs[k]?.getD 0)) (by omega) (by omega)], by first | exact trivial | simp [SV.ok]⟩, ?_⟩)
      · exact trivial
      · try dsimp only
        exact ⟨Nat.zero_le _, rfl⟩
      · exact .refl _
      rintro ⟨k, p⟩ hI
      obtain ⟨hk, hpp⟩ : k ≤ xs.length ∧ p = prodK xs k := hI
      try dsimp only
      refine VCsplit.intro (fun q4 => ?_) (fun q4 => ?_)
      ·
        simp at q4
        have hyes : shOk xs = true := (by assumption)
        have hsk := shK_all hyes
        have hpr := prod_4 (k := k) (shK_le hsk (by omega)) (by omega)
        rw [← hpp] at hpr
        have hvk := inR_iff.1 (allK_at hsk k (by omega))
        have hps := prod_step (p := p) (v := xs[k]?.getD 0) ⟨hpr.1, by omega⟩ (by omega)
        refine idx_rd hp ?_ ?_ fun b5 o5 hb5 => ?_
        · omega
        · omega
        refine load_allN 0 (k) rfl hp ?_ ?_ hb5 rfl (mem_at 0 rfl) fun l6 hl6 => ?_
        · omega
        · omega
        obtain ⟨rfl, hw6⟩ := hl6; simp only [flStr, flInt, okI] at hw6
        apply loop_stepA (k + 1, p * (xs[k]?.getD 0))
        · exact .refl _
        · repeat' (first | exact trivial | refine ⟨⟨_, rfl, by first | rfl | exact inc_eq _ (by omega) | (refine sl_eq ?_; simp; done) | rw [wrap_of (x := p * (xs[k]?.getD 0)) (by omega) (by omega)], by first | exact trivial | simp [SV.ok]⟩, ?_⟩)
        · exact trivial
        · try dsimp only
          exact ⟨by omega, by rw [hpp]; rfl⟩
        · try dsimp only
          omega
      ·
        simp at q4
        (have hke : k = xs.length := (by omega); subst hke; exact ⟨[], ⟨by rw [cells_yes (by omega) (by assumption), ← hpp], rfl⟩, (.le fun a => by (try simp only [setR, List.cons_append, List.nil_append]); simp [List.count_cons, Blk.ent, idOf]; try omega)⟩)
theorem addN_pos (l : List ByteArray) (s : ByteArray) : 1 ≤ (addN l s).length := by
  unfold addN
  split
  · rename_i h
    cases l with
    | nil => exact absurd h (by show ¬ (false = true); decide)
    | cons a r => simp
  · simp
theorem names_pos {ats : List Atom} (h : 1 ≤ ats.length) : 1 ≤ (namesM ats).length := by
  have e := namesM_step (ats := ats) (k := ats.length - 1) (by omega)
  rw [show ats.length - 1 + 1 = ats.length by omega, List.take_length] at e
  rw [e]; exact addN_pos _ _
theorem query_names {x : Query} (h : queryM x = true) : 1 ≤ (namesM x.atoms).length ∧ (namesM x.atoms).length ≤ 4 := by
  have h1 : queryP x := by
    apply Classical.byContradiction
    intro e
    rw [q_no e] at h; cases h
  exact ⟨names_pos h1.1.1, h1.1.2.2.2.2.2⟩
attribute [local irreducible] namesM
noncomputable def sharesM (x : Query) (s : List Int) : Bool := queryM x && (shOk s && decide (s.length = (namesM x.atoms).length))
theorem shares_no1 {x : Query} {s : List Int} (h : queryM x = false) : sharesM x s = false := by unfold sharesM; rw [h]; rfl
theorem shares_no2 {x : Query} {s : List Int} (h : ¬ s.length = (namesM x.atoms).length) : sharesM x s = false := by unfold sharesM; rw [decide_eq_false h]; simp
theorem shares_val {x : Query} {s : List Int} (h : queryM x = true) (h1 : s.length = (namesM x.atoms).length) : sharesM x s = decide (0 < cellsM s) := by
  have hn := query_names h
  unfold sharesM
  rw [h, decide_eq_true h1, Bool.true_and, Bool.and_true]
  cases e : shOk s with
  | false => rw [cells_no2 e]; rfl
  | true =>
    rw [cells_yes (by omega) e]
    have := prod_rng (shK_all e)
    rw [decide_eq_true (by omega)]
theorem atoms_len {x : Query} (h : gQuery.sz x ≤ 1048576) : x.atoms.length ≤ 1048576 := by
  have h1 := gQuery_sz x
  have h2 := len_szL gAtom x.atoms
  omega
--@ct impl.SharesOk val implSharesOk_ct _ _ _ _ $1 $2 ?_ | ⟨%1, %2⟩
theorem implSharesOk_ct (l : List Value) (b : Option Addr) (m c : Nat) (x : Query) (s : List Int) (hx : gQuery.sz x ≤ 1048576) : Ct Tryz.prog 72 [.agg ⟨l⟩, .slice b m c] [] (fun H => gQuery.rd H l x ∧ (gSl 3 gI).rd H [.slice b m c] s) (fun v A => v = .bool (sharesM x s) ∧ A = []) := by
  refine Ct.intro0 G_ok Tryz.func72 rfl rfl rfl fun E H hp => ?_
  obtain ⟨hp, hq⟩ := hp
  obtain ⟨rfl, hcl, hl⟩ := sl_len hq
  obtain ⟨b1p, c1p, b2p, c2p, b3p, c3p, rfl, h1p, h2p, h3p⟩ := gQuery_rd.1 hp
  have hal := atoms_len hx
  refine VCnew.intro fun x0 => ?_
  refine call_val (implQueryOk_ct _ (x) ?_) (Rp.mono _ (mem_at 0 rfl) hp) ?_
  · trivial
  rintro _ rfl
  refine VCsplit.intro (fun q2 => ?_) (fun q2 => ?_)
  ·
    refine call_new (implNamesOf_ct _ (x) ?_) (Rp.mono _ (mem_at 0 rfl) hp) ?_
    · trivial
    rintro v3 A3 o3
    obtain ⟨b3, c3, rfl, o3⟩ := o3
    refine VCsplit.intro (fun q4 => ?_) (fun q4 => ?_)
    ·
      simp at q4
      refine call_val (implCellsOf_ct _ _ _ (s)) (Rp.mono _ (mem_at 1 rfl) hq) ?_
      rintro _ rfl
      exact ⟨[], ⟨congrArg Value.bool (shares_val (by assumption) (by omega)).symm, rfl⟩, (.le fun a => by (try simp only [setR, List.cons_append, List.nil_append]); simp [List.count_cons, Blk.ent, idOf]; try omega)⟩
    ·
      simp at q4
      exact ⟨[], ⟨by rw [shares_no2 (by omega)], rfl⟩, (.le fun a => by (try simp only [setR, List.cons_append, List.nil_append]); simp [List.count_cons, Blk.ent, idOf]; try omega)⟩
  ·
    exact ⟨[], ⟨by rw [shares_no1 (by assumption)], rfl⟩, (.le fun a => by (try simp only [setR, List.cons_append, List.nil_append]); simp [List.count_cons, Blk.ent, idOf]; try omega)⟩
--@ct spec.SharesOk val specSharesOk_ct _ _ _ _ $1 $2 ?_ | ⟨%1, %2⟩
theorem specSharesOk_ct (l : List Value) (b : Option Addr) (m c : Nat) (x : Query) (s : List Int) (hx : gQuery.sz x ≤ 1048576) : Ct Tryz.prog 60 [.agg ⟨l⟩, .slice b m c] [] (fun H => gQuery.rd H l x ∧ (gSl 3 gI).rd H [.slice b m c] s) (fun v A => v = .bool (sharesM x s) ∧ A = []) := by
  refine Ct.intro0 G_ok Tryz.func60 rfl rfl rfl fun E H hp => ?_
  obtain ⟨hp, hq⟩ := hp
  obtain ⟨rfl, hcl, hl⟩ := sl_len hq
  obtain ⟨b1p, c1p, b2p, c2p, b3p, c3p, rfl, h1p, h2p, h3p⟩ := gQuery_rd.1 hp
  have hal := atoms_len hx
  refine VCnew.intro fun x0 => ?_
  refine call_val (specQueryOk_ct _ (x) ?_) (Rp.mono _ (mem_at 0 rfl) hp) ?_
  · trivial
  rintro _ rfl
  refine VCsplit.intro (fun q2 => ?_) (fun q2 => ?_)
  ·
    refine call_new (specNamesOf_ct _ (x) ?_) (Rp.mono _ (mem_at 0 rfl) hp) ?_
    · trivial
    rintro v3 A3 o3
    obtain ⟨b3, c3, rfl, o3⟩ := o3
    refine call_val (l13Number_ct _ _ _ (s) _) (Rp.mono _ (mem_at 1 rfl) hq) ?_
    rintro _ rfl
    exact ⟨[], ⟨congrArg Value.bool (by unfold sharesM; rw [‹queryM x = true›, Bool.true_and]; congr 1; rw [decide_eq_decide]; omega), rfl⟩, (.le fun a => by (try simp only [setR, List.cons_append, List.nil_append]); simp [List.count_cons, Blk.ent, idOf]; try omega)⟩
  ·
    exact ⟨[], ⟨by rw [shares_no1 (by assumption)], rfl⟩, (.le fun a => by (try simp only [setR, List.cons_append, List.nil_append]); simp [List.count_cons, Blk.ent, idOf]; try omega)⟩
--@ct impl.isCell val isCell_ct _ _ _ $1 _ | %1
theorem isCell_ct (b : Option Addr) (m c : Nat) (s : List Int) (n : Int) : Ct Tryz.prog 74 [.slice b m c, .int .i64 n] [] (fun H => (gSl 3 gI).rd H [.slice b m c] s) (fun v A => v = .bool (inR 0 (cellsM s - 1) n) ∧ A = []) := by
  refine Ct.intro0 G_ok Tryz.func74 rfl rfl rfl fun E H hp => ?_
  obtain ⟨rfl, hcl, hl⟩ := sl_len hp
  refine VCsplit.intro (fun q0 => ?_) (fun q0 => ?_)
  ·
    simp at q0
    refine call_val (implCellsOf_ct _ _ _ (s)) (Rp.mono _ (mem_at 0 rfl) hp) ?_
    rintro _ rfl
    exact ⟨[], ⟨congrArg Value.bool (by unfold inR; rw [Bool.eq_iff_iff]; simp; omega), rfl⟩, (.le fun a => by (try simp only [setR, List.cons_append, List.nil_append]); simp only [List.flatten_append, List.flatten_cons, List.flatten_nil, List.count_append, List.count_nil, List.append_nil, List.nil_append]; omega)⟩
  ·
    simp at q0
    exact ⟨[], ⟨congrArg Value.bool (by unfold inR; rw [Bool.eq_iff_iff]; simp; omega), rfl⟩, (.le fun a => by (try simp only [setR, List.cons_append, List.nil_append]); simp only [List.flatten_append, List.flatten_cons, List.flatten_nil, List.count_append, List.count_nil, List.append_nil, List.nil_append]; omega)⟩
end Go.Proofs.YtjgehblllhkdbaaGreat

namespace Go.Proofs.YtjgehblllhkdbaaGreat
open Go.SX Go.Proofs
set_option linter.unusedSimpArgs false
set_option linter.unusedVariables false
set_option maxHeartbeats 4000000
attribute [local irreducible] IntKind.wrap
def ownerOk (v n : Int) : Bool := inR 1 8 n && inR 0 11 v
def ownerOf (v n : Int) : Int := if ownerOk v n then sumOf (varText v) % n else 0
theorem ownerOf_no {v n : Int} (h : ownerOk v n = false) : ownerOf v n = 0 := by unfold ownerOf; rw [h]; rfl
theorem ownerOf_val {v n : Int} (h1 : 1 ≤ n) (h2 : n ≤ 8) (h3 : 0 ≤ v) (h4 : v ≤ 11) : Value.int .i64 (IntKind.i64.wrap ((sumOf (varText v)).tmod (IntKind.u32.wrap n))) = Value.int .i64 (ownerOf v n) := by
  have h5 := sumOf_rng (varText v)
  have h6 : IntKind.u32.wrap n = n := by rw [u32_wrap]; omega
  have h7 : 0 ≤ sumOf (varText v) % n := Int.emod_nonneg _ (by omega)
  have h8 : sumOf (varText v) % n < n := Int.emod_lt_of_pos _ (by omega)
  have h9 : ownerOk v n = true := by unfold ownerOk inR; simp; omega
  unfold ownerOf
  rw [h6, Int.tmod_eq_emod_of_nonneg h5.1, wrap_of (by omega) (by omega), h9]; rfl
--@ct impl.OwnerOf val implOwnerOf_ct _ _
theorem implOwnerOf_ct (v n : Int) : Ct Tryz.prog 163 [.int .i64 v, .int .i64 n] [] (fun _ => True) (fun r A => r = .int .i64 (ownerOf v n) ∧ A = []) := by
  refine Ct.intro0 G_ok Tryz.func163 rfl rfl rfl fun E H hp => ?_
  have h1 := varText_size v
  have h3 := sumOf_rng (varText v)
  refine VCsplit.intro (fun q0 => ?_) (fun q0 => ?_)
  ·
    simp at q0
    exact ⟨[], ⟨by rw [ownerOf_no (by unfold ownerOk inR; simp; omega)], rfl⟩, (.le fun a => by (try simp only [setR, List.cons_append, List.nil_append]); simp only [List.flatten_append, List.flatten_cons, List.flatten_nil, List.count_append, List.count_nil, List.append_nil, List.nil_append]; omega)⟩
  ·
    simp at q0
    refine VCsplit.intro (fun q1 => ?_) (fun q1 => ?_)
    ·
      simp at q1
      exact ⟨[], ⟨by rw [ownerOf_no (by unfold ownerOk inR; simp; omega)], rfl⟩, (.le fun a => by (try simp only [setR, List.cons_append, List.nil_append]); simp only [List.flatten_append, List.flatten_cons, List.flatten_nil, List.count_append, List.count_nil, List.append_nil, List.nil_append]; omega)⟩
    ·
      simp at q1
      refine VCsplit.intro (fun q2 => ?_) (fun q2 => ?_)
      ·
        simp at q2
        exact ⟨[], ⟨by rw [ownerOf_no (by unfold ownerOk inR; simp; omega)], rfl⟩, (.le fun a => by (try simp only [setR, List.cons_append, List.nil_append]); simp only [List.flatten_append, List.flatten_cons, List.flatten_nil, List.count_append, List.count_nil, List.append_nil, List.nil_append]; omega)⟩
      ·
        simp at q2
        refine VCsplit.intro (fun q3 => ?_) (fun q3 => ?_)
        ·
          simp at q3
          exact ⟨[], ⟨by rw [ownerOf_no (by unfold ownerOk inR; simp; omega)], rfl⟩, (.le fun a => by (try simp only [setR, List.cons_append, List.nil_append]); simp only [List.flatten_append, List.flatten_cons, List.flatten_nil, List.count_append, List.count_nil, List.append_nil, List.nil_append]; omega)⟩
        ·
          simp at q3
          refine call_val (varText_ct _ ?_ ?_) trivial ?_
          · trivial
          · omega
          rintro _ rfl
          refine call_val (implSumOf_ct _ ?_) trivial ?_
          · omega
          rintro _ rfl
          refine VC.intro ?_ ?_
          · (rw [u32_wrap]; omega)
          exact ⟨[], ⟨ownerOf_val (by omega) (by omega) (by omega) (by omega), rfl⟩, (.le fun a => by (try simp only [setR, List.cons_append, List.nil_append]); simp only [List.flatten_append, List.flatten_cons, List.flatten_nil, List.count_append, List.count_nil, List.append_nil, List.nil_append]; omega)⟩
--@ct spec.OwnerOf val specOwnerOf_ct _ _
theorem specOwnerOf_ct (v n : Int) : Ct Tryz.prog 108 [.int .i64 v, .int .i64 n] [] (fun _ => True) (fun r A => r = .int .i64 (ownerOf v n) ∧ A = []) := by
  refine Ct.intro0 G_ok Tryz.func108 rfl rfl rfl fun E H hp => ?_
  have h1 := varText_size v
  have h3 := sumOf_rng (varText v)
  refine call_val (l01In_ct _ _ _) trivial ?_
  rintro _ rfl
  refine VCsplit.intro (fun q1 => ?_) (fun q1 => ?_)
  ·
    simp at q1
    exact ⟨[], ⟨by rw [ownerOf_no (by unfold ownerOk; simp_all)], rfl⟩, (.le fun a => by (try simp only [setR, List.cons_append, List.nil_append]); simp only [List.flatten_append, List.flatten_cons, List.flatten_nil, List.count_append, List.count_nil, List.append_nil, List.nil_append]; omega)⟩
  ·
    simp at q1
    have iq1 := inR_iff.1 q1
    refine call_val (l01In_ct _ _ _) trivial ?_
    rintro _ rfl
    refine VCsplit.intro (fun q3 => ?_) (fun q3 => ?_)
    ·
      simp at q3
      exact ⟨[], ⟨by rw [ownerOf_no (by unfold ownerOk; simp_all)], rfl⟩, (.le fun a => by (try simp only [setR, List.cons_append, List.nil_append]); simp only [List.flatten_append, List.flatten_cons, List.flatten_nil, List.count_append, List.count_nil, List.append_nil, List.nil_append]; omega)⟩
    ·
      simp at q3
      have iq3 := inR_iff.1 q3
      refine call_val (l01Var_ct _ ?_ ?_) trivial ?_
      · omega
      · omega
      rintro _ rfl
      refine call_val (specSumOf_ct _ ?_) trivial ?_
      · omega
      rintro _ rfl
      refine VC.intro ?_ ?_
      · (rw [u32_wrap]; omega)
      exact ⟨[], ⟨ownerOf_val (by omega) (by omega) (by omega) (by omega), rfl⟩, (.le fun a => by (try simp only [setR, List.cons_append, List.nil_append]); simp only [List.flatten_append, List.flatten_cons, List.flatten_nil, List.count_append, List.count_nil, List.append_nil, List.nil_append]; omega)⟩
end Go.Proofs.YtjgehblllhkdbaaGreat

namespace Go.Proofs.YtjgehblllhkdbaaGreat
open Go.SX Go.Proofs
set_option linter.unusedSimpArgs false
set_option linter.unusedVariables false
set_option maxHeartbeats 4000000
attribute [local irreducible] IntKind.wrap
--@ct impl.isVert val isVert_ct _
theorem isVert_ct (n : Int) : Ct Tryz.prog 75 [.int .i64 n] [] (fun _ => True) (fun v A => v = .bool (inR 0 11 n) ∧ A = []) := by
  refine Ct.intro0 G_ok Tryz.func75 rfl rfl rfl fun E H hp => ?_
  refine VCsplit.intro (fun q0 => ?_) (fun q0 => ?_)
  ·
    simp at q0
    exact ⟨[], ⟨congrArg Value.bool (by unfold inR; rw [Bool.eq_iff_iff]; simp; omega), rfl⟩, (.le fun a => by (try simp only [setR, List.cons_append, List.nil_append]); simp only [List.flatten_append, List.flatten_cons, List.flatten_nil, List.count_append, List.count_nil, List.append_nil, List.nil_append]; omega)⟩
  ·
    simp at q0
    exact ⟨[], ⟨congrArg Value.bool (by unfold inR; rw [Bool.eq_iff_iff]; simp; omega), rfl⟩, (.le fun a => by (try simp only [setR, List.cons_append, List.nil_append]); simp only [List.flatten_append, List.flatten_cons, List.flatten_nil, List.count_append, List.count_nil, List.append_nil, List.nil_append]; omega)⟩
/-! the columns of an atom -/
def colsM (a : Atom) : List ByteArray := if a.from' = a.to then [a.from'] else [a.from', a.to]
theorem cols_1 {a : Atom} (h : a.from' = a.to) : colsM a = [a.from'] := if_pos h
theorem cols_2 {a : Atom} (h : ¬ a.from' = a.to) : colsM a = [a.from', a.to] := if_neg h
theorem lit1_ow {x : Nat} {a : ByteArray} (h1 : a.size ≤ 9223372036854775807) : (gSl 9 gS).ow [.slice (some ⟨x, 0, none⟩) 1 1] [a] [(x, Obj.cells ⟨[.string a]⟩ 9)] :=
  ow_fl (Ow.lit (f := flStr) (T := 9) (b := x) (xs := [a]) (fun y hy => by rw [List.mem_singleton.1 hy]; exact h1) (by simp))
--@ct impl.ColsOf new implColsOf_ct _ $1 | %1 | obtain ⟨b#, c#, rfl, o#⟩ := o#
--@ct spec.ColsOf new specColsOf_ct _ $1 | %1 | obtain ⟨b#, c#, rfl, o#⟩ := o#
theorem implColsOf_ct (l : List Value) (a : Atom) : Ct Tryz.prog 131 [.agg ⟨l⟩] [] (fun H => gAtom.rd H l a) (fun v A => ∃ b c, v = .slice b (colsM a).length c ∧ (gSl 9 gS).ow [.slice b (colsM a).length c] (colsM a) A) := by
  refine Ct.intro0 G_ok Tryz.func131 rfl rfl rfl fun E H hp => ?_
  obtain ⟨rfl, w0p, w1p, w2p⟩ := gAtom_rd.1 hp
  refine VCnew.intro fun x0 => ?_
  refine VCsplit.intro (fun q1 => ?_) (fun q1 => ?_)
  ·
    simp at q1
    simp only [str_inj, u8_inj, u8_wrap] at q1
    refine VCnew.intro fun x2 => ?_
    try dsimp only
    (have hz : List.append ([] : List Value) (zeros 0 [Value.string ByteArray.empty]) = [] := rfl; simp only [hz]; rw [cols_1 (by assumption)]; exact ⟨_, ⟨_, _, rfl, lit1_ow (by assumption)⟩, (.le fun a => by (try simp only [setR, List.cons_append, List.nil_append]); simp [List.count_cons, Blk.ent, idOf]; try omega)⟩)
  ·
    simp at q1
    simp only [str_inj, u8_inj, u8_wrap] at q1
    refine VCnew.intro fun x3 => ?_
    try dsimp only
    (have hz : List.append ([] : List Value) (zeros 0 [Value.string ByteArray.empty]) = [] := rfl; simp only [hz]; rw [cols_2 (by assumption)]; exact ⟨_, ⟨_, _, rfl, lit2_ow (by assumption) (by assumption)⟩, (.le fun a => by (try simp only [setR, List.cons_append, List.nil_append]); simp [List.count_cons, Blk.ent, idOf]; try omega)⟩)
theorem specColsOf_ct (l : List Value) (a : Atom) : Ct Tryz.prog 64 [.agg ⟨l⟩] [] (fun H => gAtom.rd H l a) (fun v A => ∃ b c, v = .slice b (colsM a).length c ∧ (gSl 9 gS).ow [.slice b (colsM a).length c] (colsM a) A) := by
  refine Ct.intro0 G_ok Tryz.func64 rfl rfl rfl fun E H hp => ?_
  obtain ⟨rfl, w0p, w1p, w2p⟩ := gAtom_rd.1 hp
  refine VCnew.intro fun x0 => ?_
  refine VCsplit.intro (fun q1 => ?_) (fun q1 => ?_)
  ·
    simp at q1
    simp only [str_inj, u8_inj, u8_wrap] at q1
    refine VCnew.intro fun x2 => ?_
    try dsimp only
    (have hz : List.append ([] : List Value) (zeros 0 [Value.string ByteArray.empty]) = [] := rfl; simp only [hz]; rw [cols_1 (by assumption)]; exact ⟨_, ⟨_, _, rfl, lit1_ow (by assumption)⟩, (.le fun a => by (try simp only [setR, List.cons_append, List.nil_append]); simp [List.count_cons, Blk.ent, idOf]; try omega)⟩)
  ·
    simp at q1
    simp only [str_inj, u8_inj, u8_wrap] at q1
    refine VCnew.intro fun x3 => ?_
    try dsimp only
    (have hz : List.append ([] : List Value) (zeros 0 [Value.string ByteArray.empty]) = [] := rfl; simp only [hz]; rw [cols_2 (by assumption)]; exact ⟨_, ⟨_, _, rfl, lit2_ow (by assumption) (by assumption)⟩, (.le fun a => by (try simp only [setR, List.cons_append, List.nil_append]); simp [List.count_cons, Blk.ent, idOf]; try omega)⟩)
/-! where a text stands among texts -/
def idxS (l : List ByteArray) (s : ByteArray) : Int := if hasS l s = true then (l.findIdx fun x => decide (x = s) : Nat) else -1
theorem allK_of9 {p : Nat → Bool} : ∀ {n : Nat}, (∀ i, i < n → p i = true) → allK p n = true
  | 0, _ => rfl
  | n + 1, h => allK_step (allK_of9 fun i hi => h i (by omega)) (h n (by omega))
theorem idx_at {l : List ByteArray} {s : ByteArray} {k : Nat} (hk : k < l.length) (h : (l[k]?.getD ByteArray.empty) = s) (ha : allK (fun i => !decide ((l[i]?.getD ByteArray.empty).toList = s.toList)) k = true) : idxS l s = k := by
  unfold idxS
  rw [if_pos (hasS_at hk (congrArg ByteArray.toList h))]
  congr 1
  refine (List.findIdx_eq hk).2 ⟨?_, fun j hj => ?_⟩
  · rw [List.getElem?_eq_getElem hk] at h
    exact decide_eq_true h
  · have h1 := allK_at ha j hj
    rw [List.getElem?_eq_getElem (by omega), Bool.not_eq_true', decide_eq_false_iff_not, str_inj] at h1
    exact decide_eq_false h1
theorem idx_none {l : List ByteArray} {s : ByteArray} (h : allK (fun i => !decide ((l[i]?.getD ByteArray.empty).toList = s.toList)) l.length = true) : idxS l s = -1 := by
  unfold idxS; rw [hasS_none h]; rfl
theorem idx_rng {l : List ByteArray} {s : ByteArray} (h : hasS l s = true) : 0 ≤ idxS l s ∧ idxS l s < l.length := by
  unfold idxS
  rw [if_pos h]
  refine ⟨by omega, ?_⟩
  have h1 : l.findIdx (fun x => decide (x = s)) < l.length := by
    rw [List.findIdx_lt_length]
    apply Classical.byContradiction
    intro hn
    have : hasS l s = false := hasS_none (allK_of9 fun i hi => by
      rw [Bool.not_eq_true', decide_eq_false_iff_not, str_inj]
      intro e
      refine hn ⟨l[i], List.getElem_mem hi, ?_⟩
      rw [List.getElem?_eq_getElem hi] at e
      exact decide_eq_true e)
    rw [h] at this; cases this
  omega
theorem sIndexS2_ct (b : Option Addr) (m c : Nat) (xs : List ByteArray) (v : ByteArray) :
    Ct Tryz.prog 252 [.slice b m c, .string v] [] (fun H => (gSl 9 gS).rd H [.slice b m c] xs)
      (fun w A => w = .int .i64 (idxS xs v) ∧ A = []) := by
  refine Ct.intro0 G_ok Tryz.func252 rfl rfl rfl fun E H hp => ?_
  obtain ⟨rfl, hcl, hl⟩ := sl_len hp
  apply loop_mod (α := (Nat) × (Int)) G_ok [9, 10, 5, 11, 12, 13, 14, 15, 16, 17, 4, 18, 8] (fun z => [(8, .v (.int .i64 z.1)), (4, .v (.int .i64 z.2))]) (fun z => []) (fun z => [H]) (fun z => xs.length - z.1) (fun z => z.1 ≤ xs.length ∧ allK (fun i => !decide ((xs[i]?.getD ByteArray.empty).toList = v.toList)) z.1 = true) ((0, 0))
  · repeat' (first | exact trivial | refine ⟨⟨_, rfl, by first | rfl | exact inc_eq _ (by omega) | (refine sl_eq ?_; simp; done), by first | exact trivial | simp [SV.ok]⟩, ?_⟩)
  · exact trivial
  · try dsimp only
    exact ⟨Nat.zero_le _, rfl⟩
  · exact .refl _
  rintro ⟨k, j⟩ hI
  obtain ⟨hk, ha⟩ : k ≤ xs.length ∧ allK (fun i => !decide ((xs[i]?.getD ByteArray.empty).toList = v.toList)) k = true := hI
  try dsimp only
  refine VCsplit.intro (fun q0 => ?_) (fun q0 => ?_)
  ·
    simp at q0
    refine idx_rd hp ?_ ?_ fun b1 o1 hb1 => ?_
    · omega
    · omega
    refine load_allN ByteArray.empty (k) rfl hp ?_ ?_ hb1 rfl (mem_at 0 rfl) fun l2 hl2 => ?_
    · omega
    · omega
    obtain ⟨rfl, hw2⟩ := hl2; simp only [flStr, flInt, okI] at hw2
    refine VCsplit.intro (fun q3 => ?_) (fun q3 => ?_)
    ·
      simp at q3
      simp only [str_inj, u8_inj, u8_wrap] at q3
      exact ⟨[], ⟨by rw [idx_at (k := k) (by omega) (by first | assumption | exact Eq.symm (by assumption)) ha], rfl⟩, .refl _⟩
    ·
      simp at q3
      simp only [str_inj, u8_inj, u8_wrap] at q3
      apply loop_stepA (k + 1, _)
      · exact .refl _
      · repeat' (first | exact trivial | refine ⟨⟨_, rfl, by first | rfl | exact inc_eq _ (by omega) | (refine sl_eq ?_; simp; done), by first | exact trivial | simp [SV.ok]⟩, ?_⟩)
      · exact trivial
      · try dsimp only
        exact ⟨by omega, allK_step ha (not_in (by first | assumption | exact fun e => absurd e.symm (by assumption)))⟩
      · try dsimp only
        omega
  ·
    simp at q0
    (have hke : k = xs.length := (by omega); subst hke; exact ⟨[], ⟨by rw [idx_none ha], rfl⟩, .refl _⟩)
--@ct spec.l09Place val l09Place_ct _ _ _ $1 _ | %1
theorem l09Place_ct (b : Option Addr) (m c : Nat) (xs : List ByteArray) (v : ByteArray) :
    Ct Tryz.prog 153 [.slice b m c, .string v] [] (fun H => (gSl 9 gS).rd H [.slice b m c] xs)
      (fun w A => w = .int .i64 (idxS xs v) ∧ A = []) := by
  refine Ct.intro0 G_ok Tryz.func153 rfl rfl rfl fun E H hp => ?_
  obtain ⟨rfl, hcl, hl⟩ := sl_len hp
  apply loop_mod (α := (Nat)) G_ok [6, 7, 8, 9, 12, 13, 14, 15, 16, 17, 18, 4, 10, 11, 5] (fun z => [(5, .v (.int .i64 z))]) (fun z => []) (fun z => [H]) (fun z => xs.length - z) (fun z => z ≤ xs.length ∧ allK (fun i => !decide ((xs[i]?.getD ByteArray.empty).toList = v.toList)) z = true) ((0))
  · repeat' (first | exact trivial | refine ⟨⟨_, rfl, by first | rfl | exact inc_eq _ (by omega) | (refine sl_eq ?_; simp; done), by first | exact trivial | simp [SV.ok]⟩, ?_⟩)
  · exact trivial
  · exact ⟨Nat.zero_le _, rfl⟩
  · exact .refl _
  rintro k hI
  obtain ⟨hk, ha⟩ : k ≤ xs.length ∧ allK (fun i => !decide ((xs[i]?.getD ByteArray.empty).toList = v.toList)) k = true := hI
  try dsimp only
  refine VCsplit.intro (fun q0 => ?_) (fun q0 => ?_)
  ·
    simp at q0
    refine idx_rd hp ?_ ?_ fun b1 o1 hb1 => ?_
    · omega
    · omega
    refine load_allN ByteArray.empty (k) rfl hp ?_ ?_ hb1 rfl (mem_at 0 rfl) fun l2 hl2 => ?_
    · omega
    · omega
    obtain ⟨rfl, hw2⟩ := hl2; simp only [flStr, flInt, okI] at hw2
    refine VCsplit.intro (fun q3 => ?_) (fun q3 => ?_)
    ·
      simp at q3
      simp only [str_inj, u8_inj, u8_wrap] at q3
      exact ⟨[], ⟨by rw [idx_at (k := k) (by omega) (by first | assumption | exact Eq.symm (by assumption)) ha], rfl⟩, .refl _⟩
    ·
      simp at q3
      simp only [str_inj, u8_inj, u8_wrap] at q3
      apply loop_stepA (k + 1)
      · exact .refl _
      · repeat' (first | exact trivial | refine ⟨⟨_, rfl, by first | rfl | exact inc_eq _ (by omega) | (refine sl_eq ?_; simp; done), by first | exact trivial | simp [SV.ok]⟩, ?_⟩)
      · exact trivial
      · exact ⟨by omega, allK_step ha (not_in (by first | assumption | exact fun e => absurd e.symm (by assumption)))⟩
      · omega
  ·
    simp at q0
    (have hke : k = xs.length := (by omega); subst hke; exact ⟨[], ⟨by rw [idx_none ha], rfl⟩, .refl _⟩)
/-! the digits of a cell, the last first -/
/-- what is left after j digits -/
def rstK (s : List Int) (c : Int) : Nat → Int
  | 0 => c
  | j + 1 => rstK s c j / (s[s.length - 1 - j]?.getD 0)
def digAt (s : List Int) (c : Int) (i : Nat) : Int := rstK s c (s.length - 1 - i) % (s[i]?.getD 0)
def digM (s : List Int) (c : Int) : List Int := (List.range s.length).map (digAt s c)
theorem dig_get {s : List Int} {c : Int} {i : Nat} (h : i < s.length) : (digM s c)[i]?.getD 0 = digAt s c i := by
  unfold digM
  rw [List.getElem?_map, List.getElem?_range h]; rfl
theorem rst_rng {s : List Int} {c : Int} (hs : shK s s.length = true) (h : 0 ≤ c ∧ c ≤ 8) : ∀ j, j ≤ s.length → 0 ≤ rstK s c j ∧ rstK s c j ≤ 8
  | 0, _ => h
  | j + 1, hj => by
    have ih := rst_rng hs h j (by omega)
    have h1 := inR_iff.1 (allK_at hs (s.length - 1 - j) (by omega))
    unfold rstK
    refine ⟨Int.ediv_nonneg ih.1 (by omega), Int.le_trans (Int.ediv_le_self _ ih.1) ih.2⟩
end Go.Proofs.YtjgehblllhkdbaaGreat

namespace Go.SX
section
variable {P : Program} {E : World} {Γ : Ty} {n : Nat} {α : Type} {f : Fl α}
theorem allOne_flat (f : Fl α) : ∀ l : List α, allOne (l.flatMap f.enc) = true := by
  intro l
  induction l with
  | nil => rfl
  | cons x r ih =>
    rw [List.flatMap_cons]
    exact allOne_append _ _ (f.one x) ih
theorem rd_pre {H : Hp} {b : Option Addr} {k c : Nat} {ys : List α} (h : (rpSl f.rp).rd H [.slice b k c] ys) (q : Nat) (hq : q ≤ k) : (rpSl f.rp).rd H [.slice b q c] (ys.take q) := by
  obtain ⟨b', c', e, h1, h2⟩ := h
  cases e
  refine ⟨b, c, by rw [List.length_take, Nat.min_eq_left hq], ⟨by rw [List.length_take]; omega, by rw [List.length_take]; omega⟩, fun i hi => ?_⟩
  rw [List.length_take] at hi
  obtain ⟨b', o, l', h3, h4, h5⟩ := h2 i (by omega)
  exact ⟨b', o, l', h3, h4, by rw [List.getElem_take]; exact h5⟩
theorem first_len {size q : Nat} {b : Option Addr} {k k' c c' : Nat} : Builtin.firstCells size q (.slice b k c) = Builtin.firstCells size q (.slice b k' c') := by cases b <;> rfl
/-- copy into a part of an owned slice -/
theorem copy_ow (hΓ : TyOk P Γ) {dst : Option Nat} {d s : Operand} {dT sT e ty : TypeId} {pos : String} {after : Array Edge} {guard : Option (Nat × Bool)} {fr : Fr} {bl : List Blk} {R : List Hp} {K : St → Prop} {ti : TI}
    (i : Nat) {A : Hp} {base b2 : Option Addr} {m cap l dl dc k c2 : Nat} {xs ys : List α} (hi : nthR R i = some A) (ho : Ow f e (.slice base m cap) xs A)
    (hd1 : getK fr d fun sv => sv = .v (.slice (subBase cap l base f.size) dl dc)) (hs1 : getK fr s fun sv => sv = .v (.slice b2 k c2))
    (hr2 : (rpSl f.rp).rd (St.hall ⟨[], bl, R⟩) [.slice b2 k c2] ys) (hy : ∀ y ∈ ys, f.wf y) (hl : l + dl ≤ m)
    (hsT : undOf Γ dT = some (.slice e)) (ht : tyOf Γ e = some ti) (hsz : ti.size = f.size)
    (hk : ∀ A', Ow f e (.slice base m cap) (xs.take l ++ (ys.take (min k dl) ++ xs.drop (l + min k dl))) A' → putK n fr dst (.v (.int .i64 ((min k dl : Nat) : Int))) fun fr => K ⟨fr, bl, setR R i A'⟩) :
    VCraw P E n ⟨dst, .call ⟨.builtin .copy, #[d, s], #[dT, sT]⟩, ty, pos, after, guard⟩ ⟨fr, bl, R⟩ K := by
  refine ⟨fun a w hr Q => ?_⟩
  obtain ⟨sv, g1, _, rfl⟩ := getK_sound hr hd1
  obtain ⟨sv, g2, _, rfl⟩ := getK_sound hr hs1
  obtain ⟨pre, post, e1, e2'⟩ := nthR_split hi
  have perm : ∀ C : Hp, (St.hall ⟨[], bl, pre ++ C :: post⟩).Perm (C ++ St.hall ⟨[], bl, pre ++ post⟩) := by
    intro C
    simp only [St.hall, List.flatten_append, List.flatten_cons]
    have := List.perm_append_comm (l₁ := List.map Blk.ent bl ++ pre.flatten) (l₂ := C)
    have := this.append_right post.flatten
    simpa only [List.append_assoc] using this
  have hk2 : k = ys.length := by obtain ⟨_, _, e, _⟩ := hr2; cases e; rfl
  have hpre := rd_pre hr2 (min k dl) (Nat.min_le_left _ _)
  have hrow := (rd_row (f := f) hpre (P := P) hr.sat).2
  subst e1
  have hsat : Sat E (A ++ St.hall ⟨[], bl, pre ++ post⟩) w := hr.sat.perm (perm A)
  have key : ∃ A' w', (Builtin.copy_ #[dT, sT] ty #[.slice (if cap = l then base else base.map (·.add (l * f.size))) dl dc, .slice b2 k c2]).run P w = .ok (.int .i64 ((min k dl : Nat) : Int)) w' ∧ Ow f e (.slice base m cap) (xs.take l ++ (ys.take (min k dl) ++ xs.drop (l + min k dl))) A' ∧ Sat E (A' ++ St.hall ⟨[], bl, pre ++ post⟩) w' := by
    have hu := undOf_ok hΓ hsT
    obtain ⟨hw, hlen, base0, cap0, e0, h2⟩ := ho
    cases e0
    have hwf : ∀ x ∈ xs.take l ++ (ys.take (min k dl) ++ xs.drop (l + min k dl)), f.wf x := by
      intro x hx
      rcases List.mem_append.1 hx with hx | hx
      · exact hw x (List.mem_of_mem_take hx)
      · rcases List.mem_append.1 hx with hx | hx
        · exact hy x (List.mem_of_mem_take hx)
        · exact hw x (List.mem_of_mem_drop hx)
    have hln : (xs.take l ++ (ys.take (min k dl) ++ xs.drop (l + min k dl))).length = xs.length := by
      simp only [List.length_append, List.length_take, List.length_drop]; omega
    unfold Builtin.copy_
    simp only [List.getElem?_toArray, List.getElem?_cons_zero, List.getElem?_cons_succ, Sem.run_bind, run_underlying hu, Result.andThen_ok, ty_size hΓ ht, hsz, Sem.run_pure, Builtin.lenOf]
    rw [show Nat.min k dl = min k dl from rfl]
    rw [first_len (k' := min k dl) (c' := c2), hrow]
    simp only [Result.andThen_ok]
    rcases h2 with ⟨rfl, rfl, rfl⟩ | ⟨b, sp, rfl, rfl, h3, h4⟩
    · have h0 : min k dl = 0 := by simp at hl; omega
      have hl0 : l = 0 := by simp at hl; omega
      refine ⟨[], w, ?_, ?_, hsat⟩
      · rw [h0, hl0]
        cases base with
        | none => rfl
        | some a => rfl
      · rw [h0, hl0]
        exact ⟨fun x hx => (by simp at hx), by simp, base, 0, rfl, .inl ⟨rfl, rfl, rfl⟩⟩
    · by_cases h0 : min k dl = 0
      · refine ⟨_, w, ?_, ?_, hsat⟩
        · rw [h0]
          generalize (if cap = l then some (Addr.mk b 0 none) else (some (Addr.mk b 0 none)).map (·.add (l * f.size))) = q
          cases q <;> rfl
        · rw [h0]
          simp only [List.take_zero, List.nil_append, Nat.add_zero, List.take_append_drop]
          exact ⟨hw, hlen, _, _, rfl, .inr ⟨b, sp, rfl, rfl, h3, h4⟩⟩
      · have hfl := flat_length f xs
        have hfy := flat_length f (ys.take (min k dl))
        rw [List.length_take, Nat.min_eq_left (show min k dl ≤ ys.length by omega)] at hfy
        have hm1 := Nat.mul_le_mul_right f.size (show l + min k dl ≤ xs.length by omega)
        have hm2 : (l + min k dl) * f.size = l * f.size + min k dl * f.size := Nat.add_mul _ _ _
        have hbound : l * f.size + ((ys.take (min k dl)).flatMap f.enc).length ≤ (xs.flatMap f.enc ++ sp).length := by
          rw [List.length_append, hfl, hfy]; omega
        obtain ⟨w', h5, h6⟩ := run_storeCells_wr (P := P) (A := []) (o := l * f.size) (l := (ys.take (min k dl)).flatMap f.enc) hsat hbound (allOne_flat f _)
        refine ⟨[(b, Obj.cells ⟨setAt (xs.flatMap f.enc ++ sp) (l * f.size) ((ys.take (min k dl)).flatMap f.enc)⟩ e)], w', ?_, ?_, h6⟩
        · rw [if_neg (by omega)]
          simp only [Option.map_some, addr_add, Nat.zero_add, Sem.run_bind, h5, Result.andThen_ok, Sem.run_pure]
          rfl
        · refine ⟨hwf, by rw [hln]; exact hlen, some ⟨b, 0, none⟩, cap, by rw [hln], .inr ⟨b, sp, rfl, ?_, by rw [hln]; exact h3, by rw [hln]; exact h4⟩⟩
          have e3 : setAt (xs.flatMap f.enc ++ sp) (l * f.size) ((ys.take (min k dl)).flatMap f.enc) = (xs.take l ++ (ys.take (min k dl) ++ xs.drop (l + min k dl))).flatMap f.enc ++ sp := by
            have hx : xs = xs.take l ++ ((xs.drop l).take (min k dl) ++ xs.drop (l + min k dl)) := by
              rw [← List.drop_drop, List.take_append_drop, List.take_append_drop]
            have h7 := flat_length f (xs.take l)
            rw [List.length_take, show min l xs.length = l by omega] at h7
            have h8 := flat_length f ((xs.drop l).take (min k dl))
            rw [List.length_take, List.length_drop, show min (min k dl) (xs.length - l) = min k dl by omega] at h8
            rw [setAt_eq _ _ _ hbound, hfy]
            conv => lhs; rw [hx]
            simp only [List.flatMap_append, List.append_assoc]
            have e9 : ∀ (A B C : List Value), List.drop (A ++ B).length (A ++ (B ++ C)) = C := fun A B C => by rw [← List.append_assoc, List.drop_left]
            rw [← h7, List.take_left, ← h8, ← List.length_append, e9]
          rw [← e3]
  obtain ⟨A', w', h1, h2, h3⟩ := key
  have hr' : Rel E n ⟨fr, bl, setR (pre ++ A :: post) i A'⟩ a w' := by
    rw [e2']
    exact hr.ids rfl (h3.perm (perm A').symm)
  refine wp_value (s := .v _) (v := .int .i64 ((min k dl : Nat) : Int)) ?_ hr' rfl trivial (hk A' h2)
  simp only [execOp, resolve, invoke, builtin, Sem.run_bind, Sem.run_pure, Result.andThen_ok]
  rw [show (#[d, s] : Array Operand).map a.eval = #[a.eval d, a.eval s] from by simp, g1, g2]
  simp only [SV.den, subBase_eq]
  rw [h1]; rfl
/-- copy into the end of an owned slice, and its spare room -/
theorem copy_end (hΓ : TyOk P Γ) {dst : Option Nat} {d s : Operand} {dT sT e ty : TypeId} {pos : String} {after : Array Edge} {guard : Option (Nat × Bool)} {fr : Fr} {bl : List Blk} {R : List Hp} {K : St → Prop} {ti : TI}
    (i : Nat) {A : Hp} {base b2 : Option Addr} {m cap l dl dc k c2 q : Nat} {xs ys : List α} (hi : nthR R i = some A) (ho : Ow f e (.slice base m cap) xs A)
    (hd1 : getK fr d fun sv => sv = .v (.slice (subBase cap l base f.size) dl dc)) (hs1 : getK fr s fun sv => sv = .v (.slice b2 k c2))
    (hr2 : (rpSl f.rp).rd (St.hall ⟨[], bl, R⟩) [.slice b2 q c2] ys) (hq : q = min k dl) (hy : ∀ y ∈ ys, f.wf y) (hl : l ≤ m) (hlc : l + q ≤ cap) (hmq : m ≤ l + q) (hq0 : 0 < q) (hlen2 : l + q ≤ 9223372036854775807)
    (hsT : undOf Γ dT = some (.slice e)) (ht : tyOf Γ e = some ti) (hsz : ti.size = f.size)
    (hk : ∀ A', Ow f e (.slice base (l + q) cap) (xs.take l ++ ys) A' → putK n fr dst (.v (.int .i64 ((min k dl : Nat) : Int))) fun fr => K ⟨fr, bl, setR R i A'⟩) :
    VCraw P E n ⟨dst, .call ⟨.builtin .copy, #[d, s], #[dT, sT]⟩, ty, pos, after, guard⟩ ⟨fr, bl, R⟩ K := by
  refine ⟨fun a w hr Q => ?_⟩
  obtain ⟨sv, g1, _, rfl⟩ := getK_sound hr hd1
  obtain ⟨sv, g2, _, rfl⟩ := getK_sound hr hs1
  obtain ⟨pre, post, e1, e2'⟩ := nthR_split hi
  have perm : ∀ C : Hp, (St.hall ⟨[], bl, pre ++ C :: post⟩).Perm (C ++ St.hall ⟨[], bl, pre ++ post⟩) := by
    intro C
    simp only [St.hall, List.flatten_append, List.flatten_cons]
    have := List.perm_append_comm (l₁ := List.map Blk.ent bl ++ pre.flatten) (l₂ := C)
    have := this.append_right post.flatten
    simpa only [List.append_assoc] using this
  obtain ⟨hk2, hrow⟩ := rd_row (f := f) hr2 (P := P) hr.sat
  subst hk2
  subst e1
  have hsat : Sat E (A ++ St.hall ⟨[], bl, pre ++ post⟩) w := hr.sat.perm (perm A)
  have key : ∃ A' w', (Builtin.copy_ #[dT, sT] ty #[.slice (if cap = l then base else base.map (·.add (l * f.size))) dl dc, .slice b2 k c2]).run P w = .ok (.int .i64 ((min k dl : Nat) : Int)) w' ∧ Ow f e (.slice base (l + ys.length) cap) (xs.take l ++ ys) A' ∧ Sat E (A' ++ St.hall ⟨[], bl, pre ++ post⟩) w' := by
    have hu := undOf_ok hΓ hsT
    obtain ⟨hw, hlen, base0, cap0, e0, h2⟩ := ho
    cases e0
    have hwf : ∀ x ∈ xs.take l ++ ys, f.wf x := by
      intro x hx
      rcases List.mem_append.1 hx with hx | hx
      · exact hw x (List.mem_of_mem_take hx)
      · exact hy x hx
    have hln : (xs.take l ++ ys).length = l + ys.length := by
      simp only [List.length_append, List.length_take]; omega
    unfold Builtin.copy_
    simp only [List.getElem?_toArray, List.getElem?_cons_zero, List.getElem?_cons_succ, Sem.run_bind, run_underlying hu, Result.andThen_ok, ty_size hΓ ht, hsz, Sem.run_pure, Builtin.lenOf]
    rw [show Nat.min k dl = min k dl from rfl, ← hq]
    rw [first_len (k' := ys.length) (c' := c2), hrow]
    simp only [Result.andThen_ok]
    rcases h2 with ⟨rfl, rfl, rfl⟩ | ⟨b, sp, rfl, rfl, h3, h4⟩
    · omega
    · have hfl := flat_length f xs
      have hfy := flat_length f ys
      have hfx := flat_length f (xs.take l)
      rw [List.length_take, show min l xs.length = l by omega] at hfx
      have hm1 := Nat.mul_le_mul_right f.size (show l + ys.length ≤ cap by omega)
      have hm2 : (l + ys.length) * f.size = l * f.size + ys.length * f.size := Nat.add_mul _ _ _
      have hm4 : xs.length * f.size + (cap - xs.length) * f.size = cap * f.size := by rw [← Nat.add_mul]; congr 1; omega
      have hm5 := Nat.mul_le_mul_right f.size (show xs.length ≤ l + ys.length by omega)
      have hm6 := Nat.mul_le_mul_right f.size (show l ≤ xs.length by omega)
      have hbound : l * f.size + (ys.flatMap f.enc).length ≤ (xs.flatMap f.enc ++ sp).length := by
        rw [List.length_append, hfl, hfy]; omega
      obtain ⟨w', h5, h6⟩ := run_storeCells_wr (P := P) (A := []) (o := l * f.size) (l := ys.flatMap f.enc) hsat hbound (allOne_flat f _)
      refine ⟨[(b, Obj.cells ⟨setAt (xs.flatMap f.enc ++ sp) (l * f.size) (ys.flatMap f.enc)⟩ e)], w', ?_, ?_, h6⟩
      · rw [if_neg (by omega)]
        simp only [Option.map_some, addr_add, Nat.zero_add, Sem.run_bind, h5, Result.andThen_ok, Sem.run_pure]
        rfl
      · refine ⟨hwf, by rw [hln]; exact hlen2, some ⟨b, 0, none⟩, cap, by rw [hln], .inr ⟨b, (xs.flatMap f.enc ++ sp).drop (l * f.size + ys.length * f.size), rfl, ?_, by rw [hln]; omega, ?_⟩⟩
        · have e3 : setAt (xs.flatMap f.enc ++ sp) (l * f.size) (ys.flatMap f.enc) = (xs.take l ++ ys).flatMap f.enc ++ (xs.flatMap f.enc ++ sp).drop (l * f.size + ys.length * f.size) := by
            rw [setAt_eq _ _ _ hbound, hfy, List.flatMap_append]
            congr 2
            have : xs.flatMap f.enc = (xs.take l).flatMap f.enc ++ (xs.drop l).flatMap f.enc := by rw [← List.flatMap_append, List.take_append_drop]
            rw [this, List.append_assoc, ← hfx, List.take_left]
          rw [← e3]
        · have hm7 : (cap - (l + ys.length)) * f.size = cap * f.size - (l + ys.length) * f.size := Nat.sub_mul _ _ _
          rw [hln, List.length_drop, List.length_append, hfl]
          omega
  obtain ⟨A', w', h1, h2, h3⟩ := key
  have hr' : Rel E n ⟨fr, bl, setR (pre ++ A :: post) i A'⟩ a w' := by
    rw [e2']
    exact hr.ids rfl (h3.perm (perm A').symm)
  refine wp_value (s := .v _) (v := .int .i64 ((min k dl : Nat) : Int)) ?_ hr' rfl trivial (hk A' h2)
  simp only [execOp, resolve, invoke, builtin, Sem.run_bind, Sem.run_pure, Result.andThen_ok]
  rw [show (#[d, s] : Array Operand).map a.eval = #[a.eval d, a.eval s] from by simp, g1, g2]
  simp only [SV.den, subBase_eq]
  rw [h1]; rfl
end
end Go.SX
namespace Go.SX
section
variable {P : Program} {E : World} {Γ : Ty} {n : Nat} {α : Type} {f : Fl α}
/-- the run of append of so many zeros, where they do not fit -/
theorem run_append_zeros (hΓ : TyOk P Γ) {sT xT e ty : TypeId} {ti : TI} {kn : IntKind} (hsT : P.underlying sT = some (.slice e)) (hxT : P.underlying xT = some (.int kn)) (ht : tyOf Γ e = some ti) (hsz : ti.size = f.size)
    {z : α} (hz : ti.zero.cells.toList = f.enc z) (hzw : f.wf z)
    {H : Hp} {w : World} {base : Option Addr} {m cap k : Nat} {xs : List α} (hs : Sat E H w) (hx : (rpSl f.rp).rd H [.slice base m cap] xs) (hw : ∀ x ∈ xs, f.wf x)
    (hk : 0 < k) (hfit : cap < m + k) (hlen : m + k ≤ 1073741824) (hby : ti.bytes ≤ 65536) :
    ∃ base' cap' A' w', (Builtin.append_ #[sT, xT] ty #[.slice base m cap, .int .i64 (k : Int)]).run P w = .ok (.slice base' (xs ++ List.replicate k z).length cap') w' ∧ Ow f e (.slice base' (xs ++ List.replicate k z).length cap') (xs ++ List.replicate k z) A' ∧ Sat E (A' ++ H) w' := by
  obtain ⟨hmx, hrow⟩ := rd_row (f := f) hx (P := P) hs
  subst hmx
  obtain ⟨i, hi, hib, _, _⟩ := ty_bytes hΓ ht
  have hwr : IntKind.i64.wrap (k : Int) = (k : Int) := wrap_ok (by unfold okI; omega)
  have hkb : k * ti.bytes ≤ 1073741824 * 65536 := Nat.mul_le_mul (by omega) hby
  have hcap : Builtin.nextslicecap (xs.length + k) cap * ti.bytes ≤ 281474976710656 := by
    have h7 := nextcap_le (xs.length + k) cap (by omega)
    have h8 := Nat.mul_le_mul h7 hby
    omega
  have hdrew : ∀ {H : Hp}, Sat E H w → Sat E H { w with drawn := w.drawn + 1 } := fun h => ⟨h.os, h.out, h.tape, h.mem, h.nodup, Nat.le_trans h.dr (Nat.le_succ _)⟩
  have hrow' := (rd_row (f := f) hx (P := P) (hdrew hs)).2
  have hmax : IntKind.i64.max = 9223372036854775807 := rfl
  have hkb' : ¬ ((k : Int) * (ti.bytes : Int) > 2 ^ 48) := by
    rw [← Int.natCast_mul]; omega
  have hneg : ¬ ((k : Int) < 0) := by omega
  have hns : ¬ (k * f.size = 0) := Nat.mul_ne_zero (by omega) (by have := f.pos; omega)
  have hfit' : ¬ (xs.length + k ≤ cap) := by omega
  have hif : ¬ (Builtin.nextslicecap (xs.length + k) cap * ti.bytes > 2 ^ 48) := by omega
  unfold Builtin.append_
  simp only [List.getElem?_toArray, List.getElem?_cons_zero, List.getElem?_cons_succ, Sem.run_bind, run_underlying hsT, run_underlying hxT, Result.andThen_ok, ty_size hΓ ht, hsz, Sem.run_pure, if_true, asInt, asIntOf, hwr, hneg, if_false, typeInfo, run_program, hi, hib, hkb', Int.toNat_natCast, hfit', Bool.not_true, Bool.false_eq_true, hns]
  rw [if_neg (by rw [hmax]; rintro ⟨h10, _⟩; omega)]
  simp only [Sem.run_bind, run_program, Result.andThen_ok, hi, Sem.run_pure, hib]
  rw [if_neg hif]
  simp only [Sem.run_bind, run_program, Result.andThen_ok, hi, Sem.run_pure, run_choose, Question.forced, Bool.false_eq_true, if_false, run_askRoom, hrow', ty_zero hΓ ht, newRow, run_newObj]
  have hq : xs.length + k ≤ (Question.appendCap (xs.length + k) cap e).cut (w.tape w.drawn (.appendCap (xs.length + k) cap e)) := by
    simp only [Question.cut]; omega
  generalize (Question.appendCap (xs.length + k) cap e).cut (w.tape w.drawn (.appendCap (xs.length + k) cap e)) = c at hq
  rw [zeroCells_eq, zeroCells_eq]
  have hlenz : (xs ++ List.replicate k z).length = xs.length + k := by simp
  have hzz : ∀ j, zeros j ti.zero.cells.toList = (List.replicate j z).flatMap f.enc := by
    intro j
    induction j with
    | zero => rfl
    | succ j ih => rw [zeros, ih, List.replicate_succ, List.flatMap_cons, hz]
  refine ⟨some ⟨w.heap.size, 0, none⟩, c, [(w.heap.size, Obj.cells ⟨(xs ++ List.replicate k z).flatMap f.enc ++ zeros (c - (xs.length + k)) ti.zero.cells.toList⟩ e)], _, by rw [hlenz], ?_, ?_⟩
  · refine ⟨?_, by rw [hlenz]; omega, some ⟨w.heap.size, 0, none⟩, c, rfl, .inr ⟨w.heap.size, _, rfl, rfl, by rw [hlenz]; exact hq, ?_⟩⟩
    · intro x hx
      rcases List.mem_append.1 hx with hx | hx
      · exact hw x hx
      · rw [List.eq_of_mem_replicate hx]; exact hzw
    · rw [zeros_length, hz, hlenz]
      refine Nat.le_of_eq (Eq.symm ?_)
      congr 1
      have := flat_length f [z]
      simpa using this
  · have h11 := (hdrew hs).push (Obj.cells ⟨(xs ++ List.replicate k z).flatMap f.enc ++ zeros (c - (xs.length + k)) ti.zero.cells.toList⟩ e)
    have e1 : ((⟨xs.flatMap f.enc⟩ : Array Value) ++ (⟨zeros k ti.zero.cells.toList⟩ : Array Value) ++ (⟨zeros (c - (xs.length + k)) ti.zero.cells.toList⟩ : Array Value)) = ⟨(xs ++ List.replicate k z).flatMap f.enc ++ zeros (c - (xs.length + k)) ti.zero.cells.toList⟩ := by
      apply Array.ext'
      simp [hzz]
    rw [e1]
    exact h11
/-- so many zeros are appended, where they do not fit: a new row -/
theorem append_zeros (hΓ : TyOk P Γ) {dst : Option Nat} {s x : Operand} {sT xT e ty : TypeId} {pos : String} {after : Array Edge} {guard : Option (Nat × Bool)} {fr : Fr} {bl : List Blk} {R : List Hp} {K : St → Prop} {ti : TI} {kn : IntKind}
    {z : α} {base : Option Addr} {m cap k : Nat} {xs : List α}
    (hs1 : getK fr s fun sv => sv = .v (.slice base m cap)) (hx1 : getK fr x fun sv => sv = .v (.int .i64 (k : Int)))
    (hr2 : (rpSl f.rp).rd (St.hall ⟨[], bl, R⟩) [.slice base m cap] xs) (hw : ∀ x ∈ xs, f.wf x)
    (hsT : undOf Γ sT = some (.slice e)) (hxT : undOf Γ xT = some (.int kn)) (ht : tyOf Γ e = some ti) (hsz : ti.size = f.size) (hz : ti.zero.cells.toList = f.enc z) (hzw : f.wf z)
    (hby : Nat.ble ti.bytes 65536 = true) (hk0 : 0 < k) (hfit : cap < m + k) (hlen : m + k ≤ 1073741824)
    (hk : ∀ base' cap' A', Ow f e (.slice base' (xs ++ List.replicate k z).length cap') (xs ++ List.replicate k z) A' → putK n fr dst (.v (.slice base' (xs ++ List.replicate k z).length cap')) fun fr => K ⟨fr, bl, A' :: R⟩) :
    VCraw P E n ⟨dst, .call ⟨.builtin .append, #[s, x], #[sT, xT]⟩, ty, pos, after, guard⟩ ⟨fr, bl, R⟩ K := by
  refine ⟨fun a w hr Q => ?_⟩
  obtain ⟨sv, g1, _, rfl⟩ := getK_sound hr hs1
  obtain ⟨sv, g2, _, rfl⟩ := getK_sound hr hx1
  obtain ⟨base', cap', A', w', h1, h2, h3⟩ := run_append_zeros (E := E) (ty := ty) hΓ (undOf_ok hΓ hsT) (undOf_ok hΓ hxT) ht hsz hz hzw hr.sat hr2 hw hk0 hfit hlen (Nat.le_of_ble_eq_true hby)
  have hr' : Rel E n ⟨fr, bl, A' :: R⟩ a w' := by
    refine hr.ids rfl (h3.perm ?_)
    simp only [St.hall, List.flatten_cons]
    rw [← List.append_assoc, ← List.append_assoc]
    exact List.perm_append_comm.append_right _
  refine wp_value (s := .v _) (v := .slice base' (xs ++ List.replicate k z).length cap') ?_ hr' rfl trivial (hk _ _ A' h2)
  simp only [execOp, resolve, invoke, builtin, Sem.run_bind, Sem.run_pure, Result.andThen_ok]
  rw [show (#[s, x] : Array Operand).map a.eval = #[a.eval s, a.eval x] from by simp, g1, g2]
  simp only [SV.den]
  rw [h1]; rfl
/-- the model's entry for slices.overlaps, at two slices of two blocks -/
theorem call_overlaps {fi : FuncId} {fn : Func} {tS tR e : TypeId} {size : Nat} {bl : List Blk} {R : List Hp} {K : Value → List Blk → List Hp → Prop}
    (hf : P.funcs[fi]? = some fn) (hname : (fn.name == "runtime.NumGoroutine") = false) (hb : fn.body.isNone = true) (hn : Extern.findNext fn = none) (he : Extern.find fn = some (Extern.SlicesOverlaps.overlaps #[tS, tS] #[tR]))
    (ht : P.underlying tS = some (.slice e)) (hz : ∀ w, (Go.sizeOf e).run P w = .ok size w) {a b : Addr} {la ca lb cb : Nat} {c1 c2 : Array Value} {t1 t2 : TypeId} {H : Hp}
    (hsp : (St.hall ⟨[], bl, R⟩).Perm ((b.block, Obj.cells c2 t2) :: H)) (m1 : (a.block, Obj.cells c1 t1) ∈ H) (h0 : c2.size ≠ 0) (hk : K (.bool false) bl R) :
    VCcall P E fi [.slice (some a) la ca, .slice (some b) lb cb] ⟨[], bl, R⟩ K := by
  refine .ext fun w hs => ⟨.bool false, w, bl, R, ?_, hs, rfl, hk⟩
  have hs2 := hs.perm hsp
  have e1 := hs2.mem _ _ (List.mem_cons_of_mem _ m1)
  have e2 := hs2.mem _ _ (List.mem_cons_self ..)
  have hne : a.block ≠ b.block := by
    have h1 := hs2.nodup
    rw [List.map_cons, List.nodup_cons] at h1
    intro e
    exact h1.1 (List.mem_map.2 ⟨_, m1, e⟩)
  rw [run_callFunc_extern hf hname hb hn he, show (⟨[.slice (some a) la ca, .slice (some b) lb cb]⟩ : Array Value) = #[.slice (some a) la ca, .slice (some b) lb cb] from rfl,
    Lib.run_overlaps_apart w tS tR e ht size hz a b la ca lb cb hne t1 t2 c1.size c2.size (by simp [World.shape?, e1]) (by simp [World.shape?, e2]) h0 (by simp [World.frozen?, e1]) (by simp [World.frozen?, e1])]
  rfl
end
end Go.SX

namespace Go.Proofs.YtjgehblllhkdbaaGreat
open Go.SX Go.Proofs
set_option maxHeartbeats 4000000
theorem ins_grow {α : Type} {ls : List α} {y z : α} {i L k m1 m2 : Nat} (hi : i < ls.length) (hk : k = ls.length + 1 - i) (hm1 : m1 = 1) (hL : L = i + 1) (hm2 : m2 = ls.length - i) :
    ((ls.take i ++ List.replicate k z).take i ++ ([y].take m1 ++ (ls.take i ++ List.replicate k z).drop (i + m1))).take L ++ (((ls.take ls.length).drop i).take m2 ++ ((ls.take i ++ List.replicate k z).take i ++ ([y].take m1 ++ (ls.take i ++ List.replicate k z).drop (i + m1))).drop (L + m2)) = ls.take i ++ ([y] ++ ls.drop i) := by
  subst hk hm1 hL hm2
  have h1 : (ls.take i).length = i := by rw [List.length_take]; omega
  have e1 : (ls.take i ++ List.replicate (ls.length + 1 - i) z).take i = ls.take i := by
    conv => lhs; arg 1; rw [← h1]
    rw [List.take_left]
  rw [e1, List.take_length, show [y].take 1 = [y] from rfl]
  rw [List.take_of_length_le (show (ls.drop i).length ≤ ls.length - i by rw [List.length_drop]; omega)]
  have e2 : (ls.take i ++ ([y] ++ (ls.take i ++ List.replicate (ls.length + 1 - i) z).drop (i + 1))).take (i + 1) = ls.take i ++ [y] := by
    rw [← List.append_assoc, show i + 1 = (ls.take i ++ [y]).length by rw [List.length_append, h1]; rfl, List.take_left]
  have e3 : (ls.take i ++ ([y] ++ (ls.take i ++ List.replicate (ls.length + 1 - i) z).drop (i + 1))).drop (i + 1 + (ls.length - i)) = [] :=
    List.drop_eq_nil_of_le (by simp only [List.length_append, h1, List.length_drop, List.length_replicate, List.length_cons, List.length_nil]; omega)
  rw [e2, e3, List.append_nil, List.append_assoc]
theorem ins_room {α : Type} {ls : List α} {y : α} {i L m1 : Nat} (hi : i < ls.length) (hm1 : m1 = 1) (hL : L = i + 1) :
    (ls.take L ++ (ls.take ls.length).drop i).take i ++ ([y].take m1 ++ (ls.take L ++ (ls.take ls.length).drop i).drop (i + m1)) = ls.take i ++ ([y] ++ ls.drop i) := by
  subst hm1 hL
  have h1 : (ls.take (i + 1)).length = i + 1 := by rw [List.length_take]; omega
  rw [List.take_append_of_le_length (by omega), List.take_take, Nat.min_eq_left (by omega), List.take_length, show [y].take 1 = [y] from rfl]
  congr 2
  conv => lhs; arg 1; rw [← h1]
  rw [List.drop_left]
theorem ow_some {α : Type} {f : Fl α} {T : TypeId} {b : Option Addr} {m c : Nat} {xs : List α} {A : Hp} (h : Ow f T (.slice b m c) xs A) (h0 : 0 < xs.length) : ∃ bb cs, b = some ⟨bb, 0, none⟩ ∧ A = [(bb, Obj.cells ⟨cs⟩ T)] ∧ cs.length ≠ 0 := by
  obtain ⟨_, _, b0, c0, e, h2⟩ := h
  cases e
  rcases h2 with ⟨rfl, rfl, rfl⟩ | ⟨bb, sp, rfl, rfl, _, _⟩
  · exact absurd h0 (Nat.lt_irrefl 0)
  · refine ⟨bb, _, rfl, rfl, ?_⟩
    rw [List.length_append, flat_length]
    have h3 : 0 < f.size := f.pos
    have := Nat.mul_le_mul h0 h3
    simp at this; omega
theorem sb_two {c l bb sz : Nat} (h : l < c) : subBase (c - 0) l (subBase c 0 (some ⟨bb, 0, none⟩) sz) sz = some ⟨bb, 0 + l * sz, none⟩ := by
  have h0 : subBase c 0 (some ⟨bb, 0, none⟩) sz = some ⟨bb, 0, none⟩ := by
    rw [subBase_eq]; split
    · rfl
    · rw [Option.map_some, addr_add]; simp
  rw [h0, subBase_eq, if_neg (by omega), Option.map_some, addr_add]
end Go.Proofs.YtjgehblllhkdbaaGreat

namespace Go.Proofs.YtjgehblllhkdbaaGreat
open Go.SX Go.Proofs
set_option linter.unusedSimpArgs false
set_option linter.unusedVariables false
set_option maxHeartbeats 4000000
attribute [local irreducible] IntKind.wrap
theorem ovItem {E : World} {bl : List Blk} {R : List Hp} {K : Value → List Blk → List Hp → Prop} {a b : Addr} {la ca lb cb : Nat} {c1 c2 : Array Value} {t1 t2 : TypeId} {H : Hp}
    (hsp : (St.hall ⟨[], bl, R⟩).Perm ((b.block, Obj.cells c2 t2) :: H)) (m1 : (a.block, Obj.cells c1 t1) ∈ H) (h0 : c2.size ≠ 0) (hk : K (.bool false) bl R) :
    VCcall Tryz.prog E 257 [.slice (some a) la ca, .slice (some b) lb cb] ⟨[], bl, R⟩ K :=
  call_overlaps (tS := 31) (tR := 4) Tryz.func257 (by kernel_rfl) (by kernel_rfl) (by kernel_rfl) (by kernel_rfl) Tryz.underlying31 Tryz.sizeOf218 hsp m1 h0 hk
theorem ovItem2 {E : World} {bl : List Blk} {R : List Hp} {K : Value → List Blk → List Hp → Prop} {x bb c l sz la ca lb cb : Nat} {c1 c2 : Array Value} {t1 t2 : TypeId} {H : Hp} (hl : l < c)
    (hsp : (St.hall ⟨[], bl, R⟩).Perm ((bb, Obj.cells c2 t2) :: H)) (m1 : (x, Obj.cells c1 t1) ∈ H) (h0 : c2.size ≠ 0) (hk : K (.bool false) bl R) :
    VCcall Tryz.prog E 257 [.slice (some ⟨x, 0, none⟩) la ca, .slice (subBase (c - 0) l (subBase c 0 (some ⟨bb, 0, none⟩) sz) sz) lb cb] ⟨[], bl, R⟩ K := by
  rw [sb_two hl]
  exact ovItem (b := ⟨bb, 0 + l * sz, none⟩) (a := ⟨x, 0, none⟩) hsp m1 h0 hk
--@ct slices.overlaps[impl.Item] raw refine ovItem2 (H := H ++ []) ?_ (.refl _) (List.mem_append_left _ hmem) (by simpa using hcs) ?_
theorem insRawItem_ct (b : Option Addr) (m c i x : Nat) (ls : List (RawC gItem.size)) (y : RawC gItem.size) (A : Hp) (hA : Ow (flRaw gItem.size gItem.pos) 218 (.slice b m c) ls A) (hi : i ≤ m) (hm : m ≤ 1000000) :
    CtR Tryz.prog 167 [.slice b m c, .int .i64 (i : Int), .slice (some ⟨x, 0, none⟩) 1 1] A (fun H => (rpSl (flRaw gItem.size gItem.pos).rp).rd H [.slice (some ⟨x, 0, none⟩) 1 1] [y] ∧ (x, Obj.cells ⟨y.1⟩ 218) ∈ H)
      (fun v A => ∃ b c, v = .slice b (m + 1) c ∧ Ow (flRaw gItem.size gItem.pos) 218 (.slice b (m + 1) c) (ls.take i ++ ([y] ++ ls.drop i)) A) := by
  refine CtR.intro G_ok [A] Tryz.func167 rfl rfl rfl (by simp) fun E H hp => ?_
  obtain ⟨hp, hmem⟩ := hp
  obtain ⟨rfl, hlm⟩ := rd_len hA.rd
  have hcl := rd_cap hA.rd
  have hwA : IntKind.i64.wrap (IntKind.i64.wrap ((ls.length : Int) + ((1 : Nat) : Int)) - (i : Int)) = ((ls.length + 1 - i : Nat) : Int) := by
    have e1 : IntKind.i64.wrap ((ls.length : Int) + ((1 : Nat) : Int)) = (ls.length : Int) + 1 := wrap_of (by omega) (by omega)
    rw [e1, wrap_of (by omega) (by omega)]; omega
  have hwB : (IntKind.i64.wrap ((i : Int) + ((1 : Nat) : Int))).toNat = i + 1 := by
    have e1 : IntKind.i64.wrap ((i : Int) + ((1 : Nat) : Int)) = (i : Int) + 1 := wrap_of (by omega) (by omega)
    rw [e1]; exact Int.toNat_natCast (i + 1)
  have hwC : (IntKind.i64.wrap ((ls.length : Int) + ((1 : Nat) : Int))).toNat = ls.length + 1 := by
    have e1 : IntKind.i64.wrap ((ls.length : Int) + ((1 : Nat) : Int)) = (ls.length : Int) + 1 := wrap_of (by omega) (by omega)
    rw [e1]; exact Int.toNat_natCast (ls.length + 1)
  refine VC.intro ?_ ?_
  · omega
  refine VCsplit.intro (fun q0 => ?_) (fun q0 => ?_)
  ·
    simp at q0
  ·
    simp at q0
    refine VCsplit.intro (fun q1 => ?_) (fun q1 => ?_)
    ·
      simp at q1
      refine append_ow (f := flRaw gItem.size gItem.pos) G_ok 0 rfl hA (Rp.mono _ (mem_at 1 rfl) hp) (fun _ _ => trivial) rfl rfl rfl rfl rfl rfl rfl rfl ?_ fun b' c' A' o' hc' => ?_
      · simp; omega
      (have hi0 : i = ls.length := (by omega); subst hi0; rw [show ls.take ls.length ++ ([y] ++ ls.drop ls.length) = ls ++ [y] by simp]; exact ⟨_, ⟨_, _, rfl, o'⟩, (.le fun a => by (try simp only [setR, List.cons_append, List.nil_append]); simp only [List.flatten_append, List.flatten_cons, List.flatten_nil, List.count_append, List.count_nil, List.append_nil, List.nil_append]; omega)⟩)
    ·
      simp at q1
      refine VCsplit.intro (fun q2 => ?_) (fun q2 => ?_)
      ·
        simp at q2
        simp (disch := omega) only [wrap_of] at q2
        refine VC.intro ?_ ?_
        · omega
        refine append_zeros (f := flRaw gItem.size gItem.pos) (z := (⟨_, raw_of (gItem.owrd zItem_ow)⟩ : RawC gItem.size)) (xs := ls.take i) (base := b) (m := i) (cap := c) (k := ls.length + 1 - i) G_ok rfl (congrArg (fun v => SV.v (Value.int .i64 v)) hwA) (rd_pre (Rp.mono _ (mem_at 0 rfl) (Ow.rd hA)) i hi) (fun _ _ => trivial) rfl rfl rfl rfl rfl trivial rfl ?_ ?_ ?_ fun b' c' A' o' => ?_
        · omega
        · omega
        · omega
        refine VC.intro ?_ ?_
        · simp; omega
        refine copy_ow (f := flRaw gItem.size gItem.pos) (l := i) G_ok 0 rfl o' rfl rfl (Rp.mono _ (mem_at 2 rfl) hp) (fun _ _ => trivial) ?_ rfl rfl rfl fun A2 o2 => ?_
        · simp; omega
        refine draw G_ok mixed (some 8) (.q 0 (.q 1 (.q 2 (.q 3 (.q 4 (.q 5 (.q 6 (.q 7 (.tl 8 (.nil)))))))))) (by decide +kernel) ?_
        refine VC.intro ?_ ?_
        · simp_all; omega
        refine VC.intro ?_ ?_
        · omega
        refine copy_ow (f := flRaw gItem.size gItem.pos) G_ok 0 rfl o2 rfl rfl (rd_sub (l := i) (h := ls.length) (Rp.mono _ (mem_at 1 rfl) (Ow.rd hA)) hi (Nat.le_refl _)) (fun _ _ => trivial) ?_ rfl rfl rfl fun A3 o3 => ?_
        · simp_all; omega
        (have hlz : (ls.take i ++ List.replicate (ls.length + 1 - i) (⟨_, raw_of (gItem.owrd zItem_ow)⟩ : RawC gItem.size)).length = ls.length + 1 := (by simp only [List.length_append, List.length_take, List.length_replicate]; omega); rw [ins_grow (by omega) rfl (by simp only [List.length_append, List.length_take, List.length_replicate]; omega) hwB (by simp only [hwB, List.length_append, List.length_take, List.length_replicate, List.length_drop, List.length_cons, List.length_nil]; omega)] at o3; rw [hlz] at o3 ⊢; exact ⟨_, ⟨_, _, rfl, o3⟩, (.le fun a => by (try simp only [setR, List.cons_append, List.nil_append]); simp only [List.flatten_append, List.flatten_cons, List.flatten_nil, List.count_append, List.count_nil, List.append_nil, List.nil_append]; omega)⟩)
      ·
        simp at q2
        simp (disch := omega) only [wrap_of] at q2
        obtain ⟨bb, cs, rfl, rfl, hcs⟩ := ow_some hA (by omega)
        refine VC.intro ?_ ?_
        · (simp (disch := omega) only [wrap_of]; omega)
        refine VC.intro ?_ ?_
        · (simp (disch := omega) only [wrap_of]; omega)
        refine ovItem2 (H := H ++ []) ?_ (.refl _) (List.mem_append_left _ hmem) (by simpa using hcs) ?_
        · (simp (disch := omega) only [wrap_of]; omega)
        refine VCsplit.intro (fun q4 => ?_) (fun q4 => ?_)
        ·
          simp at q4
          refine draw G_ok mixed (some 8) (.q 0 (.q 1 (.q 2 (.q 3 (.q 4 (.q 5 (.q 6 (.q 7 (.tl 8 (.nil)))))))))) (by decide +kernel) ?_
          refine VC.intro ?_ ?_
          · (simp (disch := omega) only [wrap_of]; omega)
          refine VC.intro ?_ ?_
          · (simp (disch := omega) only [wrap_of]; omega)
          refine copy_end (f := flRaw gItem.size gItem.pos) (l := (IntKind.i64.wrap ((i : Int) + ((1 : Nat) : Int))).toNat) (q := ls.length - i) (ys := (ls.take ls.length).drop i) G_ok 0 rfl hA rfl rfl (rd_sub (l := i) (h := ls.length) (Rp.mono _ (mem_at 0 rfl) (Ow.rd hA)) hi (Nat.le_refl _)) ?_ (fun _ _ => trivial) ?_ ?_ ?_ ?_ ?_ rfl rfl rfl fun A2 o2 => ?_
          · (simp (disch := omega) only [wrap_of]; omega)
          · (simp (disch := omega) only [wrap_of]; omega)
          · (simp (disch := omega) only [wrap_of]; omega)
          · (simp (disch := omega) only [wrap_of]; omega)
          · omega
          · (simp (disch := omega) only [wrap_of]; omega)
          refine VC.intro ?_ ?_
          · (simp (disch := omega) only [wrap_of]; omega)
          refine copy_ow (f := flRaw gItem.size gItem.pos) (l := i) G_ok 0 rfl o2 rfl rfl (Rp.mono _ (mem_at 1 rfl) hp) (fun _ _ => trivial) ?_ rfl rfl rfl fun A3 o3 => ?_
          · (simp (disch := omega) only [wrap_of]; omega)
          (have hlz : (IntKind.i64.wrap ((i : Int) + ((1 : Nat) : Int))).toNat + (ls.length - i) = ls.length + 1 := (by rw [hwB]; omega); rw [ins_room (by omega) (by simp only [hwC]; omega) hwB] at o3; rw [hlz] at o3; rw [hwC]; exact ⟨_, ⟨_, _, rfl, o3⟩, (.le fun a => by (try simp only [setR, List.cons_append, List.nil_append]); simp only [List.flatten_append, List.flatten_cons, List.flatten_nil, List.count_append, List.count_nil, List.append_nil, List.nil_append]; omega)⟩)
        ·
          simp at q4
theorem OwL_dropI {α : Type} {g : Gt α} {ls : List (RawC g.size)} {xs : List α} {As : List Hp} (h : OwL g ls xs As) : ∀ i : Nat, OwL g (ls.drop i) (xs.drop i) (As.drop i) := by
  induction h with
  | nil => intro i; simp; exact .nil
  | cons h hr ih =>
    intro i
    cases i with
    | zero => exact .cons h hr
    | succ i => exact ih i
theorem insItem_ct (b : Option Addr) (m c i x : Nat) (xs : List Item) (e : Item) (l : List Value) (A B : Hp) (hA : (gSl 218 gItem).ow [.slice b m c] xs A) (hl : gItem.ow l e B) (hi : i ≤ m) (hm : m ≤ 1000000) :
    CtR Tryz.prog 167 [.slice b m c, .int .i64 (i : Int), .slice (some ⟨x, 0, none⟩) 1 1] (A ++ B) (fun H => (x, Obj.cells ⟨l⟩ 218) ∈ H)
      (fun v A => ∃ b c, v = .slice b (xs.take i ++ ([e] ++ xs.drop i)).length c ∧ (gSl 218 gItem).ow [.slice b (xs.take i ++ ([e] ++ xs.drop i)).length c] (xs.take i ++ ([e] ++ xs.drop i)) A) := by
  obtain ⟨v, ls, A0, As, ev, ho, hp, hL⟩ := hA
  cases ev
  have hlen := hL.len
  have hm0 : m = ls.length := by obtain ⟨_, _, _, _, e0, _⟩ := ho; cases e0; rfl
  have hr := insRawItem_ct b m c i x ls ⟨l, raw_of (gItem.owrd hl)⟩ A0 ho hi hm
  refine ⟨hr.1, fun E H w hs hpre => ?_⟩
  have hs' : Sat E (A0 ++ (As.flatten ++ (B ++ H))) w := by
    refine hs.perm ?_
    have := hp.append_right (B ++ H)
    simpa [List.append_assoc] using this
  refine (hr.2 E (As.flatten ++ (B ++ H)) w hs' ⟨?_, List.mem_append_right _ (List.mem_append_right _ hpre)⟩).mono ?_
  · exact lit_rd (f := flRaw gItem.size gItem.pos) (List.mem_append_right _ (List.mem_append_right _ hpre)) rfl trivial
  · rintro e' w' ⟨v, A1, h1, ⟨b', c', h2, h3⟩, h4⟩
    have hlx : (xs.take i ++ ([e] ++ xs.drop i)).length = m + 1 := by
      simp only [List.length_append, List.length_take, List.length_drop, List.length_cons, List.length_nil]; omega
    refine ⟨v, A1 ++ (As.flatten ++ B), h1, ⟨b', c', by rw [hlx]; exact h2, ?_⟩, by simpa [List.append_assoc] using h4⟩
    rw [hlx]
    refine ⟨_, _, A1, As.take i ++ ([B] ++ As.drop i), rfl, h3, ?_, (hL.take i).append (OwL.append (.cons hl .nil) (OwL_dropI hL i))⟩
    refine List.Perm.append_left _ ?_
    conv => lhs; arg 1; rw [← List.take_append_drop i As]
    simp only [List.flatten_append, List.flatten_cons, List.flatten_nil, List.append_nil, List.append_assoc]
    refine List.Perm.append_left _ ?_
    exact List.perm_append_comm
end Go.Proofs.YtjgehblllhkdbaaGreat

namespace Go.Proofs.YtjgehblllhkdbaaGreat
open Go.SX Go.Proofs
set_option maxHeartbeats 1000000
/-! the cells that the reference finds -/
def digsT (s : List Int) (al : Nat → Int → Bool) (k : Nat) : List Int := ((List.range (s[k]?.getD 0).toNat).map fun i => ((i : Nat) : Int)).filter (al k)
def outT (s : List Int) (al : Nat → Int → Bool) : Nat → List Int
  | 0 => [0]
  | k + 1 => (outT s al k).flatMap fun o => (digsT s al k).map fun d => o * (s[k]?.getD 0) + d
theorem mem_digs {s : List Int} {al : Nat → Int → Bool} {k : Nat} {d : Int} : d ∈ digsT s al k ↔ (0 ≤ d ∧ d < (s[k]?.getD 0)) ∧ al k d = true := by
  unfold digsT
  rw [List.mem_filter, List.mem_map]
  constructor
  · rintro ⟨⟨i, h1, rfl⟩, h2⟩
    rw [List.mem_range] at h1
    exact ⟨⟨by omega, by omega⟩, h2⟩
  · rintro ⟨⟨h1, h2⟩, h3⟩
    exact ⟨⟨d.toNat, List.mem_range.2 (by omega), by omega⟩, h3⟩
theorem mem_outT {s : List Int} {al : Nat → Int → Bool} {k : Nat} {c : Int} (hs : 1 ≤ (s[k]?.getD 0)) : c ∈ outT s al (k + 1) ↔ al k (c % (s[k]?.getD 0)) = true ∧ c / (s[k]?.getD 0) ∈ outT s al k := by
  show c ∈ (outT s al k).flatMap _ ↔ _
  rw [List.mem_flatMap]
  constructor
  · rintro ⟨o, h1, h2⟩
    obtain ⟨d, h3, rfl⟩ := List.mem_map.1 h2
    obtain ⟨⟨h4, h5⟩, h6⟩ := mem_digs.1 h3
    have e1 : (o * (s[k]?.getD 0) + d) % (s[k]?.getD 0) = d := by
      rw [Int.add_comm, Int.add_mul_emod_self_right]; exact Int.emod_eq_of_lt h4 h5
    have e2 : (o * (s[k]?.getD 0) + d) / (s[k]?.getD 0) = o := by
      rw [Int.add_comm, Int.add_mul_ediv_right _ _ (by omega), Int.ediv_eq_zero_of_lt h4 h5]; omega
    rw [e1, e2]; exact ⟨h6, h1⟩
  · rintro ⟨h1, h2⟩
    refine ⟨_, h2, List.mem_map.2 ⟨c % (s[k]?.getD 0), mem_digs.2 ⟨⟨Int.emod_nonneg _ (by omega), Int.emod_lt_of_pos _ (by omega)⟩, h1⟩, ?_⟩⟩
    rw [Int.mul_comm]; exact Int.mul_ediv_add_emod c _
theorem rst_lt {s : List Int} {c : Int} (hs : shK s s.length = true) (h : 0 ≤ c ∧ c < prodK s s.length) : ∀ j, j ≤ s.length → 0 ≤ rstK s c j ∧ rstK s c j < prodK s (s.length - j)
  | 0, _ => h
  | j + 1, hj => by
    have ih := rst_lt hs h j (by omega)
    have h1 := inR_iff.1 (allK_at hs (s.length - 1 - j) (by omega))
    have e : s.length - j = (s.length - 1 - j) + 1 := by omega
    have e2 : s.length - (j + 1) = s.length - 1 - j := by omega
    rw [e] at ih
    rw [e2]
    show 0 ≤ rstK s c j / _ ∧ rstK s c j / _ < _
    exact ⟨Int.ediv_nonneg ih.1 (by omega), Int.ediv_lt_of_lt_mul (by omega) ih.2⟩
/-- both sides find the same cells -/
theorem fits_outT {s : List Int} {al : Nat → Int → Bool} {c : Int} (hs : shK s s.length = true) (h : 0 ≤ c ∧ c < prodK s s.length) : c ∈ outT s al s.length ↔ allK (fun i => al i (digAt s c i)) s.length = true := by
  have key : ∀ j, j ≤ s.length → (c ∈ outT s al s.length ↔ (∀ i, s.length - j ≤ i → i < s.length → al i (digAt s c i) = true) ∧ rstK s c j ∈ outT s al (s.length - j)) := by
    intro j
    induction j with
    | zero => intro _; exact ⟨fun h => ⟨fun i h1 h2 => by omega, h⟩, fun h => h.2⟩
    | succ j ih =>
      intro hj
      rw [ih (by omega)]
      have e : s.length - j = (s.length - 1 - j) + 1 := by omega
      have e2 : s.length - (j + 1) = s.length - 1 - j := by omega
      have h1 := inR_iff.1 (allK_at hs (s.length - 1 - j) (by omega))
      have ed : digAt s c (s.length - 1 - j) = rstK s c j % (s[s.length - 1 - j]?.getD 0) := by
        unfold digAt; rw [show s.length - 1 - (s.length - 1 - j) = j by omega]
      rw [e, mem_outT h1.1, e2]
      constructor
      · rintro ⟨h2, h3, h4⟩
        refine ⟨fun i h5 h6 => ?_, h4⟩
        rcases (by omega : i = s.length - 1 - j ∨ (s.length - 1 - j) + 1 ≤ i) with rfl | h7
        · rw [ed]; exact h3
        · exact h2 i h7 h6
      · rintro ⟨h2, h3⟩
        exact ⟨fun i h5 h6 => h2 i (by omega) h6, by rw [← ed]; exact h2 _ (Nat.le_refl _) (by omega), h3⟩
  rw [key s.length (Nat.le_refl _)]
  have hr := rst_lt hs h s.length (Nat.le_refl _)
  rw [Nat.sub_self] at hr
  have hr0 : rstK s c s.length = 0 := by
    have : prodK s 0 = 1 := rfl
    omega
  rw [Nat.sub_self]
  have hall : allK (fun i => al i (digAt s c i)) s.length = true ↔ ∀ i, i < s.length → al i (digAt s c i) = true := by
    constructor
    · intro h2 i hi; exact allK_at h2 i hi
    · intro h2
      have : ∀ n, n ≤ s.length → allK (fun i => al i (digAt s c i)) n = true := by
        intro n
        induction n with
        | zero => intro _; rfl
        | succ n ih =>
          intro hn
          show (allK _ n && al n (digAt s c n)) = true
          rw [ih (by omega), h2 n (by omega)]; rfl
      exact this _ (Nat.le_refl _)
  rw [hall]
  constructor
  · rintro ⟨h2, _⟩ i hi; exact h2 i (by omega) hi
  · intro h2
    refine ⟨fun i _ hi => h2 i hi, ?_⟩
    show rstK s c s.length ∈ [0]
    rw [hr0]; exact List.mem_singleton.2 rfl
end Go.Proofs.YtjgehblllhkdbaaGreat

namespace Go.Proofs.YtjgehblllhkdbaaGreat
open Go.SX Go.Proofs
set_option linter.unusedSimpArgs false
set_option linter.unusedVariables false
set_option maxHeartbeats 4000000
attribute [local irreducible] IntKind.wrap
/-! the digits of a cell, the last j of them -/
def digJ (s : List Int) (c : Int) (j : Nat) : List Int := (List.range s.length).map fun i => if s.length - j ≤ i then digAt s c i else 0
theorem digJ_len (s : List Int) (c : Int) (j : Nat) : (digJ s c j).length = s.length := by unfold digJ; simp
theorem digJ_zero (s : List Int) (c : Int) : digJ s c 0 = List.replicate s.length 0 := by
  apply List.ext_getElem?
  intro i
  unfold digJ
  rcases Nat.lt_or_ge i s.length with h | h
  · rw [List.getElem?_map, List.getElem?_range h, List.getElem?_replicate, if_pos h]
    show some (if s.length - 0 ≤ i then _ else (0 : Int)) = _
    rw [if_neg (by omega)]
  · rw [List.getElem?_eq_none (by simpa using h), List.getElem?_eq_none (by simpa using h)]
theorem digJ_all (s : List Int) (c : Int) : digJ s c s.length = digM s c := by
  unfold digJ digM
  refine List.map_congr_left fun i hi => ?_
  rw [if_pos (by omega)]
theorem digJ_step {s : List Int} {c : Int} {j : Nat} (h : j < s.length) : (digJ s c j).set (s.length - 1 - j) (rstK s c j % (s[s.length - 1 - j]?.getD 0)) = digJ s c (j + 1) := by
  have e : rstK s c j % (s[s.length - 1 - j]?.getD 0) = digAt s c (s.length - 1 - j) := by
    unfold digAt; rw [show s.length - 1 - (s.length - 1 - j) = j by omega]
  rw [e]
  apply List.ext_getElem?
  intro i
  rcases Nat.lt_or_ge i s.length with hi | hi
  · unfold digJ
    rw [List.getElem?_set, List.getElem?_map, List.getElem?_map, List.getElem?_range hi]
    by_cases h1 : s.length - 1 - j = i
    · rw [if_pos h1, if_pos (by simp; omega), ← h1]
      show _ = some (if s.length - (j + 1) ≤ s.length - 1 - j then _ else _)
      rw [if_pos (by omega)]
    · rw [if_neg h1]
      show some (if s.length - j ≤ i then _ else _) = some (if s.length - (j + 1) ≤ i then _ else _)
      by_cases h2 : s.length - j ≤ i
      · rw [if_pos h2, if_pos (by omega)]
      · rw [if_neg h2, if_neg (by omega)]
  · rw [List.getElem?_eq_none (by rw [List.length_set, digJ_len]; exact hi), List.getElem?_eq_none (by rw [digJ_len]; exact hi)]
theorem digM_len (s : List Int) (c : Int) : (digM s c).length = s.length := by unfold digM; simp
theorem dig_mod {s : List Int} {n : Int} {j : Nat} (hs : shK s s.length = true) (hn : 0 ≤ n ∧ n ≤ 8) (hj : j < s.length) :
    (rstK s n j).tmod (s[((s.length : Int) - 1 - j).toNat]?.getD 0) = rstK s n j % (s[s.length - 1 - j]?.getD 0) ∧ (0 ≤ (rstK s n j).tmod (s[((s.length : Int) - 1 - j).toNat]?.getD 0) ∧ (rstK s n j).tmod (s[((s.length : Int) - 1 - j).toNat]?.getD 0) ≤ 8) ∧
    (rstK s n j).tdiv (s[((s.length : Int) - 1 - j).toNat]?.getD 0) = rstK s n (j + 1) := by
  have hei : ((s.length : Int) - 1 - j).toNat = s.length - 1 - j := by omega
  have hv := inR_iff.1 (allK_at hs (s.length - 1 - j) (by omega))
  have hr := rst_rng hs hn j (by omega)
  rw [hei, Int.tmod_eq_emod_of_nonneg hr.1, Int.tdiv_eq_ediv_of_nonneg hr.1]
  have h1 := Int.emod_nonneg (rstK s n j) (show (s[s.length - 1 - j]?.getD 0) ≠ 0 by omega)
  have h2 := Int.emod_lt_of_pos (rstK s n j) (show 0 < (s[s.length - 1 - j]?.getD 0) by omega)
  exact ⟨rfl, ⟨h1, by omega⟩, rfl⟩
--@ct impl.digitsOf new digitsOf_ct _ _ _ $1 _ ?_ ?_ ?_ | %1 | obtain ⟨b#, c#, rfl, o#⟩ := o#
theorem digitsOf_ct (b : Option Addr) (m c : Nat) (s : List Int) (n : Int) (hs : shK s s.length = true) (hn : 0 ≤ n ∧ n ≤ 8) (hl4 : s.length ≤ 4) :
    Ct Tryz.prog 161 [.slice b m c, .int .i64 n] [] (fun H => (gSl 3 gI).rd H [.slice b m c] s) (fun v A => ∃ b c, v = .slice b (digM s n).length c ∧ (gSl 3 gI).ow [.slice b (digM s n).length c] (digM s n) A) := by
  refine Ct.intro0 G_ok Tryz.func161 rfl rfl rfl fun E H hp => ?_
  obtain ⟨rfl, hcl, hl⟩ := sl_len hp
  refine VCmake.intro ?_ ?_ ?_ ?_ fun x0 => ?_
  · omega
  · omega
  · omega
  · omega
  apply loop_mod (α := (Nat) × (Hp)) G_ok [13, 14, 17, 18, 19, 20, 21, 22, 23, 24, 25, 26, 27, 28, 29, 30, 31, 1, 15, 16, 6] (fun z => [(6, .v (.int .i64 ((s.length : Int) - 1 - z.1))), (1, .v (.int .i64 (rstK s n z.1)))]) (fun z => []) (fun z => [z.2, H]) (fun z => s.length - z.1) (fun z => z.1 ≤ s.length ∧ (gSl 3 gI).ow [.slice (some ⟨x0, 0, none⟩) ((s.length : Nat) : Int).toNat ((s.length : Nat) : Int).toNat] (digJ s n z.1) z.2) ((0, _))
  · repeat' (first | exact trivial | refine ⟨⟨_, rfl, by first | rfl | exact inc_eq _ (by omega) | (refine sl_eq ?_; simp; done) | exact svi_eq (by rw [wrap_of (x := (s.length : Int) - 1) (by omega) (by omega)]; (try dsimp only); omega) | exact svi_eq (by rw [wrap_of (x := (s.length : Int) - 1 - j - 1) (by omega) (by omega)]; (try dsimp only); omega) | exact svi_eq (by rw [hd.2.2, wrap_of (by omega) (by omega)]), by first | exact trivial | simp [SV.ok]⟩, ?_⟩)
  · exact trivial
  · try dsimp only
    exact ⟨Nat.zero_le _, by rw [digJ_zero]; exact gmake (gI_ow (x := 0) (by unfold okI; omega)) (Nat.le_refl _) (by omega)⟩
  · exact .refl _
  rintro ⟨j, V⟩ hI
  obtain ⟨hj, oV⟩ : j ≤ s.length ∧ (gSl 3 gI).ow [.slice (some ⟨x0, 0, none⟩) ((s.length : Nat) : Int).toNat ((s.length : Nat) : Int).toNat] (digJ s n j) V := hI
  try dsimp only
  refine VCsplit.intro (fun q1 => ?_) (fun q1 => ?_)
  ·
    simp at q1
    have hei : ((s.length : Int) - 1 - j).toNat = s.length - 1 - j := (by omega)
    have hv := inR_iff.1 (allK_at hs (s.length - 1 - j) (by omega))
    have hr := rst_rng hs hn j (by omega)
    have hdl := digJ_len s n j
    have hd := dig_mod hs hn (by omega : j < s.length)
    have hr2 := rst_rng hs hn (j + 1) (by omega)
    rw [← hei] at hv
    refine idx_rd hp ?_ ?_ fun b2 o2 hb2 => ?_
    · omega
    · omega
    refine load_all 0 hp ?_ ?_ hb2 rfl (mem_at 1 rfl) fun l3 hl3 => ?_
    · omega
    · omega
    obtain ⟨rfl, hw3⟩ := hl3; simp only [flStr, flInt, okI] at hw3
    refine VC.intro ?_ ?_
    · omega
    refine idx_rd (Gt.owrd _ oV) ?_ ?_ fun b4 o4 hb4 => ?_
    · omega
    · omega
    refine gstoreN (Fld.id _) 0 (Int.toNat ((↑s.length : Int) - (1 : Int) - (↑j : Int))) 0 rfl (Int.toNat_of_nonneg ?_).symm oV ?_ ?_ hb4 rfl gI_pl _ (gI_ow ?_) fun A5 o5 => ?_
    · omega
    · omega
    · omega
    · unfold okI; omega
    refine idx_rd hp ?_ ?_ fun b6 o6 hb6 => ?_
    · omega
    · omega
    refine load_all 0 hp ?_ ?_ hb6 rfl (mem_at 1 rfl) fun l7 hl7 => ?_
    · omega
    · omega
    obtain ⟨rfl, hw7⟩ := hl7; simp only [flStr, flInt, okI] at hw7
    refine VC.intro ?_ ?_
    · omega
    apply loop_stepA (j + 1, _)
    · exact .refl _
    · repeat' (first | exact trivial | refine ⟨⟨_, rfl, by first | rfl | exact inc_eq _ (by omega) | (refine sl_eq ?_; simp; done) | exact svi_eq (by rw [wrap_of (x := (s.length : Int) - 1) (by omega) (by omega)]; (try dsimp only); omega) | exact svi_eq (by rw [wrap_of (x := (s.length : Int) - 1 - j - 1) (by omega) (by omega)]; (try dsimp only); omega) | exact svi_eq (by rw [hd.2.2, wrap_of (by omega) (by omega)]), by first | exact trivial | simp [SV.ok]⟩, ?_⟩)
    · exact trivial
    · try dsimp only
      exact ⟨by omega, by rw [← digJ_step (by omega), ← hd.1, ← hei]; assumption⟩
    · try dsimp only
      omega
  ·
    simp at q1
    (have hje : j = s.length := (by omega); subst hje; rw [digJ_all] at oV; exact ⟨_, ⟨some ⟨x0, 0, none⟩, _, by rw [digM_len]; rfl, by rw [digM_len]; exact oV⟩, (.le fun a => by (try simp only [setR, List.cons_append, List.nil_append]); simp [List.count_cons, Blk.ent, idOf]; try omega)⟩)
--@ct (impl.lookup).of val lookupOf_ct
theorem lookupOf_ct (b1 b2 : Option Addr) (m1 c1 m2 c2 : Nat) (ns : List ByteArray) (vs : List Int) (v : ByteArray) (hh : hasS ns v = true) (hl : ns.length ≤ vs.length) :
    Ct Tryz.prog 164 [.agg ⟨[.slice b1 m1 c1, .slice b2 m2 c2]⟩, .string v] [] (fun H => (gSl 9 gS).rd H [.slice b1 m1 c1] ns ∧ (gSl 3 gI).rd H [.slice b2 m2 c2] vs) (fun w A => w = .int .i64 (vs[(idxS ns v).toNat]?.getD 0) ∧ A = []) := by
  refine Ct.intro0 G_ok Tryz.func164 rfl rfl rfl fun E H hp => ?_
  obtain ⟨hp, hq⟩ := hp
  obtain ⟨rfl, hcl, hl1⟩ := sl_len hp
  obtain ⟨rfl, hcl2, hl2⟩ := sl_len hq
  have hi := idx_rng hh
  refine VCnew.intro fun x0 => ?_
  refine draw G_ok mixed none (.q 0 (.q 1 (.q 2 (.q 3 (.q 4 (.f 5 (.q 6 (.q 7 (.q 8 (.nil)))))))))) (by decide +kernel) ?_
  refine call_val (sIndexS2_ct _ _ _ (ns) _) (Rp.mono _ (mem_at 0 rfl) hp) ?_
  rintro _ rfl
  refine VC.intro ?_ ?_
  · exact fun _ h => h
  refine idx_rd hq ?_ ?_ fun b2 o2 hb2 => ?_
  · omega
  · omega
  refine load_all 0 hq ?_ ?_ hb2 rfl (mem_at 0 rfl) fun l3 hl3 => ?_
  · omega
  · omega
  obtain ⟨rfl, hw3⟩ := hl3; simp only [flStr, flInt, okI] at hw3
  exact ⟨[], ⟨rfl, rfl⟩, (.le fun a => by (try simp only [setR, List.cons_append, List.nil_append]); simp [List.count_cons, Blk.ent, idOf]; try omega)⟩
end Go.Proofs.YtjgehblllhkdbaaGreat

namespace Go.Proofs.YtjgehblllhkdbaaGreat
open Go.SX Go.Proofs
set_option linter.unusedSimpArgs false
set_option linter.unusedVariables false
set_option maxHeartbeats 4000000
attribute [local irreducible] IntKind.wrap namesM queryM sharesM ownerOf
def alM (ns cols : List ByteArray) (row s : List Int) (i : Nat) (d : Int) : Bool := !hasS cols (ns[i]?.getD ByteArray.empty) || decide (d = ownerOf (row[(idxS cols (ns[i]?.getD ByteArray.empty)).toNat]?.getD 0) (s[i]?.getD 0))
def fitK (s : List Int) (al : Nat → Int → Bool) (c : Int) (k : Nat) : Bool := allK (fun i => al i (digAt s c i)) k
def targK (s : List Int) (al : Nat → Int → Bool) (k : Nat) : List Int := ((List.range k).map fun i => ((i : Nat) : Int)).filter fun c => fitK s al c s.length
theorem targK_yes {s : List Int} {al : Nat → Int → Bool} {k : Nat} (h : fitK s al k s.length = true) : targK s al (k + 1) = targK s al k ++ [(k : Int)] := by
  unfold targK
  rw [List.range_succ, List.map_append, List.filter_append]
  simp [h]
theorem targK_no {s : List Int} {al : Nat → Int → Bool} {k : Nat} (h : fitK s al k s.length = false) : targK s al (k + 1) = targK s al k := by
  unfold targK
  rw [List.range_succ, List.map_append, List.filter_append]
  simp [h]
theorem targK_len (s : List Int) (al : Nat → Int → Bool) (k : Nat) : (targK s al k).length ≤ k := by
  unfold targK
  refine Nat.le_trans (List.length_filter_le _ _) ?_
  simp
theorem shares_all {x : Query} {s : List Int} (h : sharesM x s = true) : shOk s = true ∧ s.length = (namesM x.atoms).length ∧ s.length ≤ 4 := by
  unfold sharesM at h
  simp only [Bool.and_eq_true, decide_eq_true_iff] at h
  have := query_names h.1
  exact ⟨h.2.1, h.2.2, by omega⟩
theorem fit_no {ns cols : List ByteArray} {row s : List Int} {c : Int} {i : Nat} (hi : i < s.length) (h1 : hasS cols (ns[i]?.getD ByteArray.empty) = true) (h2 : ¬ (digM s c)[i]?.getD 0 = ownerOf (row[(idxS cols (ns[i]?.getD ByteArray.empty)).toNat]?.getD 0) (s[i]?.getD 0)) : fitK s (alM ns cols row s) c (i + 1) = false := by
  rw [dig_get hi] at h2
  show (fitK s (alM ns cols row s) c i && alM ns cols row s i (digAt s c i)) = false
  unfold alM
  rw [h1, decide_eq_false h2]; simp
theorem fit_yes {ns cols : List ByteArray} {row s : List Int} {c : Int} {i : Nat} (hi : i < s.length) (h2 : (digM s c)[i]?.getD 0 = ownerOf (row[(idxS cols (ns[i]?.getD ByteArray.empty)).toNat]?.getD 0) (s[i]?.getD 0)) : fitK s (alM ns cols row s) c (i + 1) = fitK s (alM ns cols row s) c i := by
  rw [dig_get hi] at h2
  show (fitK s (alM ns cols row s) c i && alM ns cols row s i (digAt s c i)) = _
  conv => lhs; arg 2; unfold alM
  rw [decide_eq_true h2]; simp
theorem fit_out {ns cols : List ByteArray} {row s : List Int} {c : Int} {i : Nat} (h : hasS cols (ns[i]?.getD ByteArray.empty) = false) : fitK s (alM ns cols row s) c (i + 1) = fitK s (alM ns cols row s) c i := by
  show (fitK s (alM ns cols row s) c i && alM ns cols row s i (digAt s c i)) = _
  conv => lhs; arg 2; unfold alM
  rw [h]; simp
theorem targets_ct (lq la : List Value) (b1 b2 : Option Addr) (m1 c1 m2 c2 : Nat) (x : Query) (s : List Int) (a : Atom) (row : List Int) (hx : gQuery.sz x ≤ 1048576) (hs : sharesM x s = true) (hr : (colsM a).length ≤ row.length) :
    Ct Tryz.prog 78 [.agg ⟨lq⟩, .slice b1 m1 c1, .agg ⟨la⟩, .slice b2 m2 c2] [] (fun H => gQuery.rd H lq x ∧ (gSl 3 gI).rd H [.slice b1 m1 c1] s ∧ gAtom.rd H la a ∧ (gSl 3 gI).rd H [.slice b2 m2 c2] row)
      (fun v A => ∃ b c, v = .slice b (targK s (alM (namesM x.atoms) (colsM a) row s) (cellsM s).toNat).length c ∧ (gSl 3 gI).ow [.slice b (targK s (alM (namesM x.atoms) (colsM a) row s) (cellsM s).toNat).length c] (targK s (alM (namesM x.atoms) (colsM a) row s) (cellsM s).toNat) A) := by
  refine Ct.intro0 G_ok Tryz.func78 rfl rfl rfl fun E H hp => ?_
  obtain ⟨hp, hq, hat, hrow⟩ := hp
  obtain ⟨rfl, hcl, hl⟩ := sl_len hq
  obtain ⟨rfl, hcl2, hl2⟩ := sl_len hrow
  obtain ⟨b1p, c1p, b2p, c2p, b3p, c3p, rfl, h1p, h2p, h3p⟩ := gQuery_rd.1 hp
  obtain ⟨rfl, w0f, w1f, w2f⟩ := gAtom_rd.1 hat
  obtain ⟨hso, hsn, hs4⟩ := shares_all hs
  have hsk := shK_all hso
  have hcr := cells_rng s
  have hal := atoms_len hx
  refine VCnew.intro fun x0 => ?_
  refine VCnew.intro fun x1 => ?_
  refine call_new (implColsOf_ct _ a) (Rp.mono _ (mem_at 0 rfl) hat) ?_
  rintro v2 A2 o2
  obtain ⟨bC, cC, rfl, oC⟩ := o2
  have rC := Gt.owrd _ oC
  refine VCnew.intro fun x3 => ?_
  refine call_val (implCellsOf_ct _ _ _ (s)) (Rp.mono _ (mem_at 1 rfl) hq) ?_
  rintro _ rfl
  apply loop_mod (α := (Nat) × (List Int) × (Hp) × (Option Addr) × (Nat)) G_ok [23, 24, 11, 12, 25, 26, 27, 13, 28, 29, 30, 31, 32, 33, 34, 35, 14, 15, 36, 37, 38, 39, 40, 41, 42, 43, 44, 45, 46, 47, 48, 49, 50, 51, 52, 53, 54, 55, 56, 57, 58, 59, 60, 10, 61, 22] (fun z => [(22, .v (.int .i64 z.1)), (10, .v (.slice z.2.2.2.1 z.2.1.length z.2.2.2.2))]) (fun z => [{ id := x0, cs := [Value.bool x.each, Value.slice b1p x.out.length c1p, Value.slice b2p x.atoms.length c2p, Value.slice b3p x.filters.length c3p], ty := (39 : Nat) }, { id := x1, cs := [Value.string a.from', Value.string a.path, Value.string a.to], ty := (118 : Nat) }, { id := x3, cs := [Value.slice bC (colsM a).length cC, Value.slice b2 row.length c2], ty := (223 : Nat) }]) (fun z => [z.2.2.1, A2, H]) (fun z => (cellsM s).toNat - z.1) (fun z => z.1 ≤ (cellsM s).toNat ∧ z.2.1 = targK s (alM (namesM x.atoms) (colsM a) row s) z.1 ∧ (gSl 3 gI).ow [.slice z.2.2.2.1 z.2.1.length z.2.2.2.2] z.2.1 z.2.2.1) ((0, [], [], _, 0))
  · repeat' (first | exact trivial | refine ⟨⟨_, rfl, by first | rfl | exact inc_eq _ (by omega) | (refine sl_eq ?_; simp; done), by first | exact trivial | simp [SV.ok]⟩, ?_⟩)
  · exact ⟨rfl, rfl, rfl, trivial⟩
  · try dsimp only
    exact ⟨Nat.zero_le _, rfl, sl_nil _ _ _⟩
  · exact .refl _
  rintro ⟨k, o, A, lb, lc⟩ hI
  obtain ⟨hk, ho, oA⟩ : k ≤ (cellsM s).toNat ∧ o = targK s (alM (namesM x.atoms) (colsM a) row s) k ∧ (gSl 3 gI).ow [.slice lb o.length lc] o A := hI
  try dsimp only
  refine VCsplit.intro (fun q5 => ?_) (fun q5 => ?_)
  ·
    simp at q5
    have hol : o.length ≤ k := (by rw [ho]; exact targK_len _ _ _)
    refine call_new (digitsOf_ct _ _ _ (s) _ hsk ?_ hs4) (Rp.mono _ (mem_at 2 rfl) hq) ?_
    · omega
    rintro v6 A6 o6
    obtain ⟨bD, cD, rfl, oD⟩ := o6
    have rD := Gt.owrd _ oD
    refine call_new (implNamesOf_ct _ x ?_) (Rp.mono _ (mem_at 3 rfl) hp) ?_
    · trivial
    rintro v7 A7 o7
    obtain ⟨bN, cN, rfl, oN⟩ := o7
    have rN := Gt.owrd _ oN
    apply loop_mod (α := (Nat) × (Bool)) G_ok [32, 33, 34, 35, 14, 15, 36, 37, 38, 39, 40, 41, 42, 43, 44, 45, 46, 47, 48, 49, 50, 51, 52, 53, 54, 12, 55, 31] (fun z => [(31, .v (.int .i64 z.1)), (12, .v (.bool z.2))]) (fun z => [{ id := x0, cs := [Value.bool x.each, Value.slice b1p x.out.length c1p, Value.slice b2p x.atoms.length c2p, Value.slice b3p x.filters.length c3p], ty := (39 : Nat) }, { id := x1, cs := [Value.string a.from', Value.string a.path, Value.string a.to], ty := (118 : Nat) }, { id := x3, cs := [Value.slice bC (colsM a).length cC, Value.slice b2 row.length c2], ty := (223 : Nat) }]) (fun z => [A7, A6, A, A2, H]) (fun z => (namesM x.atoms).length - z.1) (fun z => z.1 ≤ (namesM x.atoms).length ∧ z.2 = fitK s (alM (namesM x.atoms) (colsM a) row s) (k : Int) z.1) ((0, true))
    · repeat' (first | exact trivial | refine ⟨⟨_, rfl, by first | rfl | exact inc_eq _ (by omega) | (refine sl_eq ?_; simp; done), by first | exact trivial | simp [SV.ok]⟩, ?_⟩)
    · exact ⟨rfl, rfl, rfl, trivial⟩
    · try dsimp only
      exact ⟨Nat.zero_le _, rfl⟩
    · exact .refl _
    rintro ⟨i, f⟩ hI
    obtain ⟨hi, hf⟩ : i ≤ (namesM x.atoms).length ∧ f = fitK s (alM (namesM x.atoms) (colsM a) row s) (k : Int) i := hI
    try dsimp only
    refine VCsplit.intro (fun q8 => ?_) (fun q8 => ?_)
    ·
      simp at q8
      refine idx_rd rN ?_ ?_ fun b9 o9 hb9 => ?_
      · omega
      · omega
      refine load_allN ByteArray.empty (i) rfl rN ?_ ?_ hb9 rfl (mem_at 0 rfl) fun l10 hl10 => ?_
      · omega
      · omega
      obtain ⟨rfl, hw10⟩ := hl10; simp only [flStr, flInt, okI] at hw10
      refine draw G_ok mixed none (.q 0 (.q 1 (.q 2 (.f 3 (.q 4 (.q 5 (.q 6 (.q 7 (.q 8 (.q 9 (.q 10 (.q 12 (.q 13 (.q 14 (.q 15 (.f 11 (.f 16 (.q 17 (.q 18 (.nil)))))))))))))))))))) (by decide +kernel) ?_
      refine call_val (sContainsS_ct _ _ _ (colsM a) _) (Rp.mono _ (mem_at 3 rfl) rC) ?_
      rintro _ rfl
      refine VC.intro ?_ ?_
      · exact fun _ h => h
      refine VCsplit.intro (fun q12 => ?_) (fun q12 => ?_)
      ·
        refine idx_rd rD ?_ ?_ fun b13 o13 hb13 => ?_
        · omega
        · (rw [digM_len]; omega)
        refine load_allN 0 (i) rfl rD ?_ ?_ hb13 rfl (mem_at 1 rfl) fun l14 hl14 => ?_
        · omega
        · (rw [digM_len]; omega)
        obtain ⟨rfl, hw14⟩ := hl14; simp only [flStr, flInt, okI] at hw14
        refine idx_rd hq ?_ ?_ fun b15 o15 hb15 => ?_
        · omega
        · omega
        refine load_allN 0 (i) rfl hq ?_ ?_ hb15 rfl (mem_at 4 rfl) fun l16 hl16 => ?_
        · omega
        · omega
        obtain ⟨rfl, hw16⟩ := hl16; simp only [flStr, flInt, okI] at hw16
        refine call_val (lookupOf_ct _ _ _ _ _ _ (colsM a) row _ (by assumption) hr) ⟨Rp.mono _ (sub_hall (by simp)) rC, Rp.mono _ (sub_hall (by simp)) hrow⟩ ?_
        rintro _ rfl
        refine VC.intro ?_ ?_
        · exact fun _ h => h
        refine call_val (implOwnerOf_ct _ _) trivial ?_
        rintro _ rfl
        refine VC.intro ?_ ?_
        · exact fun _ h => h
        refine VCsplit.intro (fun q19 => ?_) (fun q19 => ?_)
        ·
          simp at q19
          apply loop_stepA (i + 1, _)
          · exact .refl _
          · repeat' (first | exact trivial | refine ⟨⟨_, rfl, by first | rfl | exact inc_eq _ (by omega) | (refine sl_eq ?_; simp; done), by first | exact trivial | simp [SV.ok]⟩, ?_⟩)
          · exact ⟨rfl, rfl, rfl, trivial⟩
          · try dsimp only
            exact ⟨by omega, (fit_no (by omega) (by assumption) (by assumption)).symm⟩
          · try dsimp only
            omega
        ·
          simp at q19
          apply loop_stepA (i + 1, _)
          · exact .refl _
          · repeat' (first | exact trivial | refine ⟨⟨_, rfl, by first | rfl | exact inc_eq _ (by omega) | (refine sl_eq ?_; simp; done), by first | exact trivial | simp [SV.ok]⟩, ?_⟩)
          · exact ⟨rfl, rfl, rfl, trivial⟩
          · try dsimp only
            exact ⟨by omega, by rw [fit_yes (by omega) (by assumption)]; exact hf⟩
          · try dsimp only
            omega
      ·
        apply loop_stepA (i + 1, _)
        · exact .refl _
        · repeat' (first | exact trivial | refine ⟨⟨_, rfl, by first | rfl | exact inc_eq _ (by omega) | (refine sl_eq ?_; simp; done), by first | exact trivial | simp [SV.ok]⟩, ?_⟩)
        · exact ⟨rfl, rfl, rfl, trivial⟩
        · try dsimp only
          exact ⟨by omega, by rw [fit_out (by assumption)]; exact hf⟩
        · try dsimp only
          omega
    ·
      simp at q8
      have hie : i = s.length := (by omega)
      rw [hie] at hf
      refine VCsplit.intro (fun q20 => ?_) (fun q20 => ?_)
      ·
        refine VCnew.intro fun x21 => ?_
        refine gappend1 (g := gI) (T := (3 : TypeId)) G_ok A [] [A7, A6, A2, H] ?_ oA (gI_ow ?_) (List.mem_of_getElem? (i := 0) rfl) rfl rfl rfl rfl rfl rfl rfl rfl ?_ fun b22 c22 A22 o22 => ?_
        · exact .le fun a => by (try simp only [setR, List.cons_append, List.nil_append]); simp only [List.flatten_append, List.flatten_cons, List.flatten_nil, List.count_append, List.count_nil, List.append_nil, List.nil_append]; omega
        · unfold okI; omega
        · omega
        apply loop_stepI (k + 1, _, _, _, _)
        · repeat' (first | exact trivial | refine ⟨⟨_, rfl, by first | rfl | exact inc_eq _ (by omega) | (refine sl_eq ?_; simp; done), by first | exact trivial | simp [SV.ok]⟩, ?_⟩)
        · exact ⟨rfl, rfl, rfl, trivial⟩
        · try dsimp only
          exact ⟨by omega, by rw [targK_yes (by rw [← hf]; assumption), ← ho], by assumption⟩
        · exact .le fun a => by (try simp only [setR, List.cons_append, List.nil_append]); simp only [List.flatten_append, List.flatten_cons, List.flatten_nil, List.count_append, List.count_nil, List.append_nil, List.nil_append]; omega
        · try dsimp only
          omega
      ·
        apply loop_stepI (k + 1, _, _, _, _)
        · repeat' (first | exact trivial | refine ⟨⟨_, rfl, by first | rfl | exact inc_eq _ (by omega) | (refine sl_eq ?_; simp; done), by first | exact trivial | simp [SV.ok]⟩, ?_⟩)
        · exact ⟨rfl, rfl, rfl, trivial⟩
        · try dsimp only
          exact ⟨by omega, by rw [targK_no (by rw [← hf]; assumption), ← ho], by assumption⟩
        · exact .le fun a => by (try simp only [setR, List.cons_append, List.nil_append]); simp only [List.flatten_append, List.flatten_cons, List.flatten_nil, List.count_append, List.count_nil, List.append_nil, List.nil_append]; omega
        · try dsimp only
          omega
  ·
    simp at q5
    (have hke : k = (cellsM s).toNat := (by omega); subst hke; subst ho; exact ⟨_, ⟨_, _, rfl, by assumption⟩, (.le fun a => by (try simp only [setR, List.cons_append, List.nil_append]); simp [List.count_cons, Blk.ent, idOf]; try omega)⟩)
end Go.Proofs.YtjgehblllhkdbaaGreat

namespace Go.Proofs.YtjgehblllhkdbaaGreat
open Go.SX Go.Proofs
set_option linter.unusedSimpArgs false
set_option linter.unusedVariables false
set_option maxHeartbeats 4000000
def digsK (al : Nat → Int → Bool) (i n : Nat) : List Int := ((List.range n).map fun j => ((j : Nat) : Int)).filter (al i)
theorem digsK_yes {al : Nat → Int → Bool} {i n : Nat} (h : al i (n : Int) = true) : digsK al i (n + 1) = digsK al i n ++ [(n : Int)] := by
  unfold digsK
  rw [List.range_succ, List.map_append, List.filter_append]
  simp [h]
theorem digsK_no {al : Nat → Int → Bool} {i n : Nat} (h : al i (n : Int) = false) : digsK al i (n + 1) = digsK al i n := by
  unfold digsK
  rw [List.range_succ, List.map_append, List.filter_append]
  simp [h]
theorem digsK_len (al : Nat → Int → Bool) (i n : Nat) : (digsK al i n).length ≤ n := by
  unfold digsK
  refine Nat.le_trans (List.length_filter_le _ _) ?_
  simp
/-- o with each of the first n digits -/
def withK (s : List Int) (al : Nat → Int → Bool) (i : Nat) (o : Int) (n : Nat) : List Int := (digsK al i n).map fun d => o * (s[i]?.getD 0) + d
theorem withK_yes {s : List Int} {al : Nat → Int → Bool} {i : Nat} {o : Int} {n : Nat} (h : al i (n : Int) = true) : withK s al i o (n + 1) = withK s al i o n ++ [o * (s[i]?.getD 0) + (n : Int)] := by
  unfold withK; rw [digsK_yes h, List.map_append]; rfl
theorem withK_no {s : List Int} {al : Nat → Int → Bool} {i : Nat} {o : Int} {n : Nat} (h : al i (n : Int) = false) : withK s al i o (n + 1) = withK s al i o n := by
  unfold withK; rw [digsK_no h]
theorem withK_len (s : List Int) (al : Nat → Int → Bool) (i : Nat) (o : Int) (n : Nat) : (withK s al i o n).length ≤ n := by
  unfold withK; rw [List.length_map]; exact digsK_len _ _ _
def nextK (s : List Int) (al : Nat → Int → Bool) (i : Nat) (out : List Int) (k : Nat) : List Int := (out.take k).flatMap fun o => withK s al i o (s[i]?.getD 0).toNat
theorem nextK_step {s : List Int} {al : Nat → Int → Bool} {i : Nat} {out : List Int} {k : Nat} (h : k < out.length) : nextK s al i out (k + 1) = nextK s al i out k ++ withK s al i (out[k]?.getD 0) (s[i]?.getD 0).toNat := by
  unfold nextK
  rw [← List.take_append_getElem h, List.flatMap_append, List.getElem?_eq_getElem h]; simp
theorem outT_next {s : List Int} {al : Nat → Int → Bool} {i : Nat} : outT s al (i + 1) = nextK s al i (outT s al i) (outT s al i).length := by
  unfold nextK
  rw [List.take_length]; rfl
theorem nextK_len {s : List Int} {al : Nat → Int → Bool} {i : Nat} {out : List Int} : ∀ k, k ≤ out.length → (nextK s al i out k).length ≤ k * (s[i]?.getD 0).toNat
  | 0, _ => by unfold nextK; simp
  | k + 1, h => by
    have h1 := nextK_len (s := s) (al := al) (i := i) k (by omega : k ≤ out.length)
    have h2 := withK_len s al i (out[k]?.getD 0) (s[i]?.getD 0).toNat
    rw [nextK_step (by omega), List.length_append, Nat.add_mul, Nat.one_mul]; omega
theorem outT_len {s : List Int} {al : Nat → Int → Bool} (hs : shK s s.length = true) : ∀ k, k ≤ s.length → ((outT s al k).length : Int) ≤ prodK s k
  | 0, _ => by show ((([0] : List Int).length : Nat) : Int) ≤ 1; decide
  | k + 1, h => by
    have ih := outT_len (al := al) hs k (by omega)
    have hv := inR_iff.1 (allK_at hs k (by omega))
    have h1 := nextK_len (s := s) (al := al) (i := k) (outT s al k).length (Nat.le_refl _)
    rw [← outT_next] at h1
    show ((outT s al (k + 1)).length : Int) ≤ prodK s k * (s[k]?.getD 0)
    have h2 : ((outT s al (k + 1)).length : Int) ≤ ((outT s al k).length : Int) * (s[k]?.getD 0) := by
      have e : (((s[k]?.getD 0).toNat : Nat) : Int) = (s[k]?.getD 0) := by omega
      have := Int.ofNat_le.2 h1
      rw [Int.natCast_mul, e] at this
      exact this
    exact Int.le_trans h2 (Int.mul_le_mul_of_nonneg_right ih (by omega))
theorem outT_rng {s : List Int} {al : Nat → Int → Bool} (hs : shK s s.length = true) : ∀ k, k ≤ s.length → ∀ c ∈ outT s al k, 0 ≤ c ∧ c < prodK s k
  | 0, _, c, hc => by rw [List.mem_singleton.1 hc]; show (0 : Int) ≤ 0 ∧ (0 : Int) < 1; decide
  | k + 1, h, c, hc => by
    have hv := inR_iff.1 (allK_at hs k (by omega))
    have h1 : c ∈ nextK s al k (outT s al k) (outT s al k).length := by rw [← outT_next]; exact hc
    unfold nextK at h1
    rw [List.take_length] at h1
    obtain ⟨o, h2, h3⟩ := List.mem_flatMap.1 h1
    have ih := outT_rng (al := al) hs k (by omega) o h2
    obtain ⟨d, h4, rfl⟩ := List.mem_map.1 h3
    have h5 := (mem_digs (s := s) (al := al) (k := k) (d := d)).1 h4
    show 0 ≤ o * (s[k]?.getD 0) + d ∧ o * (s[k]?.getD 0) + d < prodK s k * (s[k]?.getD 0)
    have h6 := Int.mul_nonneg ih.1 (show (0 : Int) ≤ (s[k]?.getD 0) by omega)
    have h7 := Int.mul_le_mul_of_nonneg_right (show o + 1 ≤ prodK s k by omega) (show (0 : Int) ≤ (s[k]?.getD 0) by omega)
    rw [Int.add_mul, Int.one_mul] at h7
    omega
theorem al_out {ns cols : List ByteArray} {row s : List Int} {i : Nat} {d : Int} (h : hasS cols (ns[i]?.getD ByteArray.empty) = false) : alM ns cols row s i d = true := by unfold alM; rw [h]; rfl
theorem al_in {ns cols : List ByteArray} {row s : List Int} {i : Nat} {d : Int} (h : hasS cols (ns[i]?.getD ByteArray.empty) = true) : alM ns cols row s i d = decide (d = ownerOf (row[(idxS cols (ns[i]?.getD ByteArray.empty)).toNat]?.getD 0) (s[i]?.getD 0)) := by unfold alM; rw [h]; rfl
theorem idx_neg {l : List ByteArray} {s : ByteArray} (h : idxS l s < 0) : hasS l s = false := by
  cases e : hasS l s with
  | false => rfl
  | true => have := idx_rng e; omega
theorem idx_lt (l : List ByteArray) (s : ByteArray) : idxS l s < l.length := by
  cases e : hasS l s with
  | true => exact (idx_rng e).2
  | false => unfold idxS; rw [e]; show (-1 : Int) < _; omega
theorem idx_pos {l : List ByteArray} {s : ByteArray} (h : ¬ idxS l s < 0) : hasS l s = true := by
  cases e : hasS l s with
  | true => rfl
  | false => unfold idxS at h; rw [e] at h; exact absurd (by show (-1 : Int) < 0; decide) h
theorem outT_zero {s : List Int} {al : Nat → Int → Bool} : outT s al 0 = [0] := rfl
attribute [local irreducible] IntKind.wrap namesM queryM sharesM ownerOf outT alM idxS
--@ct spec.l13In val l13In_ct _ _ _ $1 _ | %1
def hasI (l : List Int) (v : Int) : Bool := decide (v ∈ l)
theorem hasI_at {l : List Int} {v : Int} {k : Nat} (hk : k < l.length) (h : l[k]?.getD 0 = v) : hasI l v = true := by
  rw [List.getElem?_eq_getElem hk] at h
  exact decide_eq_true (h ▸ List.getElem_mem hk)
theorem hasI_none {l : List Int} {v : Int} (h : allK (fun i => !decide (l[i]?.getD 0 = v)) l.length = true) : hasI l v = false := by
  refine decide_eq_false fun hm => ?_
  obtain ⟨i, hi, e⟩ := List.getElem_of_mem hm
  have := allK_at h i hi
  rw [List.getElem?_eq_getElem hi] at this
  simp [e] at this
theorem l13In_ct (b : Option Addr) (m c : Nat) (xs : List Int) (v : Int) :
    Ct Tryz.prog 65 [.slice b m c, .int .i64 v] [] (fun H => (gSl 3 gI).rd H [.slice b m c] xs)
      (fun w A => w = .bool (hasI xs v) ∧ A = []) := by
  refine Ct.intro0 G_ok Tryz.func65 rfl rfl rfl fun E H hp => ?_
  obtain ⟨rfl, hcl, hl⟩ := sl_len hp
  apply loop_mod (α := (Nat)) G_ok [6, 7, 8, 9, 12, 13, 14, 15, 16, 17, 4, 10, 11, 5] (fun z => [(5, .v (.int .i64 z))]) (fun z => []) (fun z => [H]) (fun z => xs.length - z) (fun z => z ≤ xs.length ∧ allK (fun i => !decide (xs[i]?.getD 0 = v)) z = true) ((0))
  · repeat' (first | exact trivial | refine ⟨⟨_, rfl, by first | rfl | exact inc_eq _ (by omega) | (refine sl_eq ?_; simp; done), by first | exact trivial | simp [SV.ok]⟩, ?_⟩)
  · exact trivial
  · exact ⟨Nat.zero_le _, rfl⟩
  · exact .refl _
  rintro k hI
  obtain ⟨hk, ha⟩ : k ≤ xs.length ∧ allK (fun i => !decide (xs[i]?.getD 0 = v)) k = true := hI
  try dsimp only
  refine VCsplit.intro (fun q0 => ?_) (fun q0 => ?_)
  ·
    simp at q0
    refine idx_rd hp ?_ ?_ fun b1 o1 hb1 => ?_
    · omega
    · omega
    refine load_allN 0 (k) rfl hp ?_ ?_ hb1 rfl (mem_at 0 rfl) fun l2 hl2 => ?_
    · omega
    · omega
    obtain ⟨rfl, hw2⟩ := hl2; simp only [flStr, flInt, okI] at hw2
    refine VCsplit.intro (fun q3 => ?_) (fun q3 => ?_)
    ·
      simp at q3
      exact ⟨[], ⟨by rw [hasI_at (k := k) (by omega) (by first | assumption | omega)], rfl⟩, .refl _⟩
    ·
      simp at q3
      apply loop_stepA (k + 1)
      · exact .refl _
      · repeat' (first | exact trivial | refine ⟨⟨_, rfl, by first | rfl | exact inc_eq _ (by omega) | (refine sl_eq ?_; simp; done), by first | exact trivial | simp [SV.ok]⟩, ?_⟩)
      · exact trivial
      · exact ⟨by omega, allK_step ha (by rw [decide_eq_false (by first | assumption | omega)]; rfl)⟩
      · omega
  ·
    simp at q0
    (have hke : k = xs.length := (by omega); subst hke; exact ⟨[], ⟨by rw [hasI_none ha], rfl⟩, .refl _⟩)
theorem sh_prod {s : List Int} (h : shOk s = true) {k : Nat} (hk : k ≤ s.length) : prodK s k ≤ 8 := by
  have h1 := shK_all h
  unfold shOk at h
  rw [Bool.and_eq_true, decide_eq_true_iff] at h
  exact Int.le_trans (prod_mono h1 hk) h.2
theorem getI_mem {l : List Int} {k : Nat} (h : k < l.length) : l[k]?.getD 0 ∈ l := by
  rw [List.getElem?_eq_getElem h]; exact List.getElem_mem h
theorem mul_64 {o v : Int} (h1 : 0 ≤ o ∧ o ≤ 8) (h2 : 1 ≤ v ∧ v ≤ 8) : 0 ≤ o * v ∧ o * v ≤ 64 :=
  ⟨Int.mul_nonneg h1.1 (by omega), Int.le_trans (Int.mul_le_mul h1.2 h2.2 (by omega) (by decide)) (by decide)⟩
theorem l13Targets_ct (lq : List Value) (bn b1 b2 : Option Addr) (mn cn m1 c1 m2 c2 : Nat) (x : Query) (ns : List ByteArray) (s : List Int) (a : Int) (row : List Int) (ha : 0 ≤ a ∧ a < x.atoms.length) (hso : shOk s = true) (hs4 : s.length ≤ 4) (hn : ns.length = s.length) (hr : (colsM (x.atoms[a.toNat]?.getD default)).length ≤ row.length) :
    Ct Tryz.prog 66 [.agg ⟨lq⟩, .slice bn mn cn, .slice b1 m1 c1, .int .i64 a, .slice b2 m2 c2] [] (fun H => gQuery.rd H lq x ∧ (gSl 9 gS).rd H [.slice bn mn cn] ns ∧ (gSl 3 gI).rd H [.slice b1 m1 c1] s ∧ (gSl 3 gI).rd H [.slice b2 m2 c2] row)
      (fun v A => ∃ b c, v = .slice b (outT s (alM ns (colsM (x.atoms[a.toNat]?.getD default)) row s) s.length).length c ∧ (gSl 3 gI).ow [.slice b (outT s (alM ns (colsM (x.atoms[a.toNat]?.getD default)) row s) s.length).length c] (outT s (alM ns (colsM (x.atoms[a.toNat]?.getD default)) row s) s.length) A) := by
  refine Ct.intro0 G_ok Tryz.func66 rfl rfl rfl fun E H hp => ?_
  obtain ⟨hp, hns, hq, hrow⟩ := hp
  obtain ⟨rfl, hcn, hln⟩ := sl_len hns
  obtain ⟨rfl, hcl, hl⟩ := sl_len hq
  obtain ⟨rfl, hcl2, hl2⟩ := sl_len hrow
  obtain ⟨b1p, c1p, b2p, c2p, b3p, c3p, rfl, h1p, h2p, h3p⟩ := gQuery_rd.1 hp
  have hsk := shK_all hso
  refine VCnew.intro fun x0 => ?_
  refine idx_rd h2p ?_ ?_ fun b1 o1 hb1 => ?_
  · omega
  · omega
  refine load_all default h2p ?_ ?_ hb1 rfl (mem_at 0 rfl) fun l2 hl2 => ?_
  · omega
  · omega
  obtain ⟨rfl, w0x2, w1x2, w2x2⟩ := gAtom_rd.1 hl2
  refine call_new (specColsOf_ct _ (x.atoms[a.toNat]?.getD default)) (Rp.mono _ (mem_at 0 rfl) hl2) ?_
  rintro v3 A3 o3
  obtain ⟨bC, cC, rfl, oC⟩ := o3
  have rC := Gt.owrd _ oC
  refine VCnew.intro fun x4 => ?_
  apply loop_mod (α := (Nat) × (List Int) × (Hp) × (Option Addr) × (Nat)) G_ok [25, 26, 27, 28, 31, 14, 32, 33, 34, 35, 36, 37, 15, 16, 38, 39, 40, 41, 17, 44, 45, 46, 47, 48, 49, 52, 53, 54, 55, 56, 57, 58, 59, 60, 61, 62, 63, 64, 65, 66, 67, 68, 69, 70, 71, 72, 73, 74, 75, 76, 77, 78, 79, 80, 50, 51, 42, 43, 81, 12, 29, 30, 13] (fun z => [(13, .v (.int .i64 z.1)), (12, .v (.slice z.2.2.2.1 z.2.1.length z.2.2.2.2))]) (fun z => [{ id := x0, cs := [Value.bool x.each, Value.slice b1p x.out.length c1p, Value.slice b2p x.atoms.length c2p, Value.slice b3p x.filters.length c3p], ty := (39 : Nat) }]) (fun z => [z.2.2.1, A3, H]) (fun z => ns.length - z.1) (fun z => z.1 ≤ ns.length ∧ z.2.1 = outT s (alM ns (colsM (x.atoms[a.toNat]?.getD default)) row s) z.1 ∧ (gSl 3 gI).ow [.slice z.2.2.2.1 z.2.1.length z.2.2.2.2] z.2.1 z.2.2.1) ((0, [0], _, _, 1))
  · repeat' (first | exact trivial | refine ⟨⟨_, rfl, by first | rfl | exact inc_eq _ (by omega) | (refine sl_eq ?_; simp; done), by first | exact trivial | simp [SV.ok]⟩, ?_⟩)
  · exact ⟨rfl, trivial⟩
  · try dsimp only
    exact ⟨Nat.zero_le _, outT_zero.symm, one_lit (by unfold okI; omega)⟩
  · exact .refl _
  rintro ⟨i, o, A, lb, lc⟩ hI
  obtain ⟨hi, ho, oA⟩ : i ≤ ns.length ∧ o = outT s (alM ns (colsM (x.atoms[a.toNat]?.getD default)) row s) i ∧ (gSl 3 gI).ow [.slice lb o.length lc] o A := hI
  try dsimp only
  refine VCsplit.intro (fun q5 => ?_) (fun q5 => ?_)
  ·
    simp at q5
    have hp8 := sh_prod hso (by omega : i ≤ s.length)
    have hol := outT_len (al := (alM ns (colsM (x.atoms[a.toNat]?.getD default)) row s)) hsk i (by omega)
    rw [← ho] at hol
    have hor := outT_rng (al := (alM ns (colsM (x.atoms[a.toNat]?.getD default)) row s)) hsk i (by omega)
    have hv := inR_iff.1 (allK_at hsk i (by omega))
    refine VCnew.intro fun x6 => ?_
    refine idx_rd hns ?_ ?_ fun b7 o7 hb7 => ?_
    · omega
    · omega
    refine load_allN ByteArray.empty (i) rfl hns ?_ ?_ hb7 rfl (mem_at 3 rfl) fun l8 hl8 => ?_
    · omega
    · omega
    obtain ⟨rfl, hw8⟩ := hl8; simp only [flStr, flInt, okI] at hw8
    refine call_val (l09Place_ct _ _ _ (colsM (x.atoms[a.toNat]?.getD default)) _) (Rp.mono _ (mem_at 2 rfl) rC) ?_
    rintro _ rfl
    apply loop_mod (α := (Nat) × (List Int) × (Hp) × (Option Addr) × (Nat)) G_ok [38, 39, 40, 41, 17, 44, 45, 46, 47, 48, 49, 52, 53, 54, 55, 56, 57, 58, 59, 60, 61, 62, 63, 64, 65, 66, 67, 68, 69, 70, 71, 72, 73, 74, 75, 76, 77, 78, 79, 80, 14, 50, 51, 42, 43, 16] (fun z => [(16, .v (.int .i64 z.1)), (14, .v (.slice z.2.2.2.1 z.2.1.length z.2.2.2.2))]) (fun z => [{ id := x0, cs := [Value.bool x.each, Value.slice b1p x.out.length c1p, Value.slice b2p x.atoms.length c2p, Value.slice b3p x.filters.length c3p], ty := (39 : Nat) }]) (fun z => [z.2.2.1, A, A3, H]) (fun z => o.length - z.1) (fun z => z.1 ≤ o.length ∧ z.2.1 = nextK s (alM ns (colsM (x.atoms[a.toNat]?.getD default)) row s) i o z.1 ∧ (gSl 3 gI).ow [.slice z.2.2.2.1 z.2.1.length z.2.2.2.2] z.2.1 z.2.2.1) ((0, [], [], _, 0))
    · repeat' (first | exact trivial | refine ⟨⟨_, rfl, by first | rfl | exact inc_eq _ (by omega) | (refine sl_eq ?_; simp; done), by first | exact trivial | simp [SV.ok]⟩, ?_⟩)
    · exact ⟨rfl, trivial⟩
    · try dsimp only
      exact ⟨Nat.zero_le _, rfl, sl_nil _ _ _⟩
    · exact .tl
    rintro ⟨k, t, B, tb, tc⟩ hI
    obtain ⟨hk, ht, oB⟩ : k ≤ o.length ∧ t = nextK s (alM ns (colsM (x.atoms[a.toNat]?.getD default)) row s) i o k ∧ (gSl 3 gI).ow [.slice tb t.length tc] t B := hI
    try dsimp only
    refine VCsplit.intro (fun q10 => ?_) (fun q10 => ?_)
    ·
      simp at q10
      have htl := nextK_len (s := s) (al := (alM ns (colsM (x.atoms[a.toNat]?.getD default)) row s)) (i := i) (out := o) k (by omega)
      rw [← ht] at htl
      have hk8 : k * (s[i]?.getD 0).toNat ≤ 64 := Nat.mul_le_mul (by omega : k ≤ 8) (by omega : (s[i]?.getD 0).toNat ≤ 8)
      have hok := hor (o[k]?.getD 0) (by rw [← ho]; exact getI_mem (by omega))
      have hpm := mul_64 (o := (o[k]?.getD 0)) (v := (s[i]?.getD 0)) ⟨hok.1, by omega⟩ hv
      apply loop_mod (α := (Nat) × (List Int) × (Hp) × (Option Addr) × (Nat)) G_ok [44, 45, 46, 47, 48, 49, 52, 53, 54, 55, 56, 57, 58, 59, 60, 61, 62, 63, 64, 65, 66, 67, 68, 69, 70, 71, 72, 73, 74, 75, 76, 77, 78, 79, 80, 14, 50, 51, 17] (fun z => [(17, .v (.int .i64 z.1)), (14, .v (.slice z.2.2.2.1 z.2.1.length z.2.2.2.2))]) (fun z => [{ id := x0, cs := [Value.bool x.each, Value.slice b1p x.out.length c1p, Value.slice b2p x.atoms.length c2p, Value.slice b3p x.filters.length c3p], ty := (39 : Nat) }]) (fun z => [z.2.2.1, A, A3, H]) (fun z => (s[i]?.getD 0).toNat - z.1) (fun z => z.1 ≤ (s[i]?.getD 0).toNat ∧ z.2.1 = t ++ withK s (alM ns (colsM (x.atoms[a.toNat]?.getD default)) row s) i (o[k]?.getD 0) z.1 ∧ (gSl 3 gI).ow [.slice z.2.2.2.1 z.2.1.length z.2.2.2.2] z.2.1 z.2.2.1) ((0, t, B, tb, tc))
      · repeat' (first | exact trivial | refine ⟨⟨_, rfl, by first | rfl | exact inc_eq _ (by omega) | (refine sl_eq ?_; simp; done), by first | exact trivial | simp [SV.ok]⟩, ?_⟩)
      · exact ⟨rfl, trivial⟩
      · try dsimp only
        exact ⟨Nat.zero_le _, (List.append_nil _).symm, oB⟩
      · exact .refl _
      rintro ⟨d, u, C, ub, uc⟩ hI
      obtain ⟨hd, hu, oC2⟩ : d ≤ (s[i]?.getD 0).toNat ∧ u = t ++ withK s (alM ns (colsM (x.atoms[a.toNat]?.getD default)) row s) i (o[k]?.getD 0) d ∧ (gSl 3 gI).ow [.slice ub u.length uc] u C := hI
      try dsimp only
      refine idx_rd hq ?_ ?_ fun b11 o11 hb11 => ?_
      · omega
      · omega
      refine load_allN 0 (i) rfl hq ?_ ?_ hb11 rfl (mem_at 3 rfl) fun l12 hl12 => ?_
      · omega
      · omega
      obtain ⟨rfl, hw12⟩ := hl12; simp only [flStr, flInt, okI] at hw12
      refine VCsplit.intro (fun q13 => ?_) (fun q13 => ?_)
      ·
        simp at q13
        have hwl := withK_len s (alM ns (colsM (x.atoms[a.toNat]?.getD default)) row s) i (o[k]?.getD 0) d
        have hul : u.length ≤ 80 := (by rw [hu, List.length_append]; omega)
        have hw9 : IntKind.i64.wrap (IntKind.i64.wrap ((o[k]?.getD 0) * (s[i]?.getD 0)) + (d : Int)) = (o[k]?.getD 0) * (s[i]?.getD 0) + (d : Int) := (by rw [wrap_of (x := (o[k]?.getD 0) * (s[i]?.getD 0)) (by omega) (by omega), wrap_of (x := (o[k]?.getD 0) * (s[i]?.getD 0) + (d : Int)) (by omega) (by omega)])
        refine draw G_ok mixed none (.q 0 (.q 1 (.q 2 (.q 3 (.q 4 (.q 5 (.q 6 (.q 7 (.q 8 (.q 9 (.q 10 (.q 12 (.f 11 (.q 13 (.q 14 (.nil)))))))))))))))) (by decide +kernel) ?_
        refine VCsplit.intro (fun q14 => ?_) (fun q14 => ?_)
        ·
          simp at q14
          refine draw G_ok mixed (some 13) (.q 0 (.q 1 (.q 2 (.q 3 (.q 4 (.q 5 (.q 6 (.q 7 (.q 8 (.q 9 (.q 10 (.q 11 (.f 12 (.tl 13 (.f 14 (.nil)))))))))))))))) (by decide +kernel) ?_
          refine idx_rd (Gt.owrd _ oA) ?_ ?_ fun b15 o15 hb15 => ?_
          · omega
          · omega
          refine load_allN 0 (k) rfl (Gt.owrd _ oA) ?_ ?_ hb15 rfl (mem_at 1 rfl) fun l16 hl16 => ?_
          · omega
          · omega
          obtain ⟨rfl, hw16⟩ := hl16; simp only [flStr, flInt, okI] at hw16
          refine idx_rd hq ?_ ?_ fun b17 o17 hb17 => ?_
          · omega
          · omega
          refine load_allN 0 (i) rfl hq ?_ ?_ hb17 rfl (mem_at 3 rfl) fun l18 hl18 => ?_
          · omega
          · omega
          obtain ⟨rfl, hw18⟩ := hl18; simp only [flStr, flInt, okI] at hw18
          refine VCnew.intro fun x19 => ?_
          refine VC.intro ?_ ?_
          · exact keep_new
          refine gappend1 (g := gI) (T := (3 : TypeId)) G_ok C [] [A, A3, H] ?_ oC2 (gI_ow ?_) (List.mem_of_getElem? (i := 0) rfl) rfl rfl rfl rfl rfl rfl rfl rfl ?_ fun b20 c20 A20 o20 => ?_
          · exact .tl
          · exact okI_wrap _
          · omega
          apply loop_stepI (d + 1, _, _, _, _)
          · repeat' (first | exact trivial | refine ⟨⟨_, rfl, by first | rfl | exact inc_eq _ (by omega) | (refine sl_eq ?_; simp; done), by first | exact trivial | simp [SV.ok]⟩, ?_⟩)
          · exact ⟨rfl, trivial⟩
          · try dsimp only
            exact ⟨by omega, by rw [withK_yes (al_out (idx_neg (by omega))), ← List.append_assoc, ← hu, hw9], by assumption⟩
          · exact .refl _
          · try dsimp only
            omega
        ·
          simp at q14
          refine idx_rd hrow ?_ ?_ fun b21 o21 hb21 => ?_
          · trivial
          · (have h9 := idx_lt (colsM (x.atoms[a.toNat]?.getD default)) (ns[i]?.getD ByteArray.empty); omega)
          refine load_all 0 hrow ?_ ?_ hb21 rfl (mem_at 3 rfl) fun l22 hl22 => ?_
          · trivial
          · (have h9 := idx_lt (colsM (x.atoms[a.toNat]?.getD default)) (ns[i]?.getD ByteArray.empty); omega)
          obtain ⟨rfl, hw22⟩ := hl22; simp only [flStr, flInt, okI] at hw22
          refine idx_rd hq ?_ ?_ fun b23 o23 hb23 => ?_
          · omega
          · omega
          refine load_allN 0 (i) rfl hq ?_ ?_ hb23 rfl (mem_at 3 rfl) fun l24 hl24 => ?_
          · omega
          · omega
          obtain ⟨rfl, hw24⟩ := hl24; simp only [flStr, flInt, okI] at hw24
          refine call_val (specOwnerOf_ct _ _) trivial ?_
          rintro _ rfl
          refine VC.intro ?_ ?_
          · exact fun _ h => h
          refine VCsplit.intro (fun q26 => ?_) (fun q26 => ?_)
          ·
            simp at q26
            refine draw G_ok mixed (some 13) (.q 0 (.q 1 (.q 2 (.q 3 (.q 4 (.q 5 (.q 6 (.q 7 (.q 8 (.q 9 (.q 10 (.q 11 (.f 12 (.tl 13 (.f 14 (.nil)))))))))))))))) (by decide +kernel) ?_
            refine idx_rd (Gt.owrd _ oA) ?_ ?_ fun b27 o27 hb27 => ?_
            · omega
            · omega
            refine load_allN 0 (k) rfl (Gt.owrd _ oA) ?_ ?_ hb27 rfl (mem_at 1 rfl) fun l28 hl28 => ?_
            · omega
            · omega
            obtain ⟨rfl, hw28⟩ := hl28; simp only [flStr, flInt, okI] at hw28
            refine idx_rd hq ?_ ?_ fun b29 o29 hb29 => ?_
            · omega
            · omega
            refine load_allN 0 (i) rfl hq ?_ ?_ hb29 rfl (mem_at 3 rfl) fun l30 hl30 => ?_
            · omega
            · omega
            obtain ⟨rfl, hw30⟩ := hl30; simp only [flStr, flInt, okI] at hw30
            refine VCnew.intro fun x31 => ?_
            refine VC.intro ?_ ?_
            · exact keep_new
            refine gappend1 (g := gI) (T := (3 : TypeId)) G_ok C [] [A, A3, H] ?_ oC2 (gI_ow ?_) (List.mem_of_getElem? (i := 0) rfl) rfl rfl rfl rfl rfl rfl rfl rfl ?_ fun b32 c32 A32 o32 => ?_
            · exact .tl
            · exact okI_wrap _
            · omega
            apply loop_stepI (d + 1, _, _, _, _)
            · repeat' (first | exact trivial | refine ⟨⟨_, rfl, by first | rfl | exact inc_eq _ (by omega) | (refine sl_eq ?_; simp; done), by first | exact trivial | simp [SV.ok]⟩, ?_⟩)
            · exact ⟨rfl, trivial⟩
            · try dsimp only
              exact ⟨by omega, by rw [withK_yes (by rw [al_in (idx_pos (by omega))]; exact decide_eq_true (by first | assumption | omega)), ← List.append_assoc, ← hu, hw9], by assumption⟩
            · exact .refl _
            · try dsimp only
              omega
          ·
            simp at q26
            apply loop_stepI (d + 1, _, _, _, _)
            · repeat' (first | exact trivial | refine ⟨⟨_, rfl, by first | rfl | exact inc_eq _ (by omega) | (refine sl_eq ?_; simp; done), by first | exact trivial | simp [SV.ok]⟩, ?_⟩)
            · exact ⟨rfl, trivial⟩
            · try dsimp only
              exact ⟨by omega, by rw [withK_no (by rw [al_in (idx_pos (by omega))]; exact decide_eq_false (by first | assumption | omega)), ← hu], by assumption⟩
            · exact .refl _
            · try dsimp only
              omega
      ·
        simp at q13
        apply loop_stepI (k + 1, _, _, _, _)
        · repeat' (first | exact trivial | refine ⟨⟨_, rfl, by first | rfl | exact inc_eq _ (by omega) | (refine sl_eq ?_; simp; done), by first | exact trivial | simp [SV.ok]⟩, ?_⟩)
        · exact ⟨rfl, trivial⟩
        · try dsimp only
          (have hde : d = (s[i]?.getD 0).toNat := (by omega); rw [hde] at hu; exact ⟨by omega, by rw [nextK_step (by omega), ← ht, ← hu], by assumption⟩)
        · exact .refl _
        · try dsimp only
          omega
    ·
      simp at q10
      apply loop_stepI (i + 1, _, _, _, _)
      · repeat' (first | exact trivial | refine ⟨⟨_, rfl, by first | rfl | exact inc_eq _ (by omega) | (refine sl_eq ?_; simp; done), by first | exact trivial | simp [SV.ok]⟩, ?_⟩)
      · exact ⟨rfl, trivial⟩
      · try dsimp only
        (have hke : k = o.length := (by omega); rw [hke] at ht; exact ⟨by omega, by rw [outT_next, ← ho, ← ht], by assumption⟩)
      · exact .le fun a => by (try simp only [setR, List.cons_append, List.nil_append]); simp only [List.flatten_append, List.flatten_cons, List.flatten_nil, List.count_append, List.count_nil, List.append_nil, List.nil_append]; omega
      · try dsimp only
        omega
  ·
    simp at q5
    (have hie : i = s.length := (by omega); rw [hie] at ho; subst ho; exact ⟨_, ⟨_, _, rfl, by assumption⟩, (.le fun a => by (try simp only [setR, List.cons_append, List.nil_append]); simp [List.count_cons, Blk.ent, idOf]; try omega)⟩)
end Go.Proofs.YtjgehblllhkdbaaGreat

namespace Go.Proofs.YtjgehblllhkdbaaGreat
open Go.SX Go.Proofs
set_option linter.unusedSimpArgs false
set_option linter.unusedVariables false
set_option maxHeartbeats 4000000
attribute [local irreducible] IntKind.wrap
theorem rows_eq {a b : List Int} (h : a.length = b.length) (ha : allK (fun i => decide ((a[i]?.getD 0) = (b[i]?.getD 0))) a.length = true) : a = b := by
  apply List.ext_getElem h
  intro i h1 h2
  have := of_decide_eq_true (allK_at ha i h1)
  rw [List.getElem?_eq_getElem h1, List.getElem?_eq_getElem h2] at this
  exact this
--@ct spec.l03Same val l03Same_ct _ _ _ _ _ _ $1 $2 | ⟨%1, %2⟩
theorem l03Same_ct (b1 : Option Addr) (m1 c1 : Nat) (b2 : Option Addr) (m2 c2 : Nat) (a b : List Int) : Ct Tryz.prog 154 [.slice b1 m1 c1, .slice b2 m2 c2] [] (fun H => (gSl 3 gI).rd H [.slice b1 m1 c1] a ∧ (gSl 3 gI).rd H [.slice b2 m2 c2] b) (fun v A => v = .bool (decide (a = b)) ∧ A = []) := by
  refine Ct.intro0 G_ok Tryz.func154 rfl rfl rfl fun E H hp => ?_
  obtain ⟨hp, hq⟩ := hp
  obtain ⟨rfl, hc1, hl1⟩ := sl_len hp
  obtain ⟨rfl, hc2, hl2⟩ := sl_len hq
  refine VCsplit.intro (fun q0 => ?_) (fun q0 => ?_)
  ·
    simp at q0
    exact ⟨[], ⟨by rw [decide_eq_false (fun e => by subst e; exact absurd rfl (by assumption))], rfl⟩, .refl _⟩
  ·
    simp at q0
    apply loop_mod (α := (Nat)) G_ok [11, 12, 13, 14, 17, 18, 19, 20, 21, 22, 23, 24, 25, 4, 15, 16, 5] (fun z => [(5, .v (.int .i64 z))]) (fun z => []) (fun z => [H]) (fun z => a.length - z) (fun z => z ≤ a.length ∧ allK (fun i => decide ((a[i]?.getD 0) = (b[i]?.getD 0))) z = true) ((0))
    · repeat' (first | exact trivial | refine ⟨⟨_, rfl, by first | rfl | exact inc_eq _ (by omega) | (refine sl_eq ?_; simp; done), by first | exact trivial | simp [SV.ok]⟩, ?_⟩)
    · exact trivial
    · exact ⟨Nat.zero_le _, rfl⟩
    · exact .refl _
    rintro k hI
    obtain ⟨hk, ha⟩ : k ≤ a.length ∧ allK (fun i => decide ((a[i]?.getD 0) = (b[i]?.getD 0))) k = true := hI
    try dsimp only
    refine VCsplit.intro (fun q1 => ?_) (fun q1 => ?_)
    ·
      simp at q1
      refine draw G_ok mixed none (.q 0 (.q 1 (.q 2 (.q 3 (.q 4 (.q 5 (.q 6 (.q 7 (.q 8 (.nil)))))))))) (by decide +kernel) ?_
      refine idx_rd hp ?_ ?_ fun b2 o2 hb2 => ?_
      · omega
      · omega
      refine load_allN 0 (k) rfl hp ?_ ?_ hb2 rfl (mem_at 0 rfl) fun l3 hl3 => ?_
      · omega
      · omega
      obtain ⟨rfl, hw3⟩ := hl3; simp only [flStr, flInt, okI] at hw3
      refine idx_rd hq ?_ ?_ fun b4 o4 hb4 => ?_
      · omega
      · omega
      refine load_allN 0 (k) rfl hq ?_ ?_ hb4 rfl (mem_at 0 rfl) fun l5 hl5 => ?_
      · omega
      · omega
      obtain ⟨rfl, hw5⟩ := hl5; simp only [flStr, flInt, okI] at hw5
      refine VCsplit.intro (fun q6 => ?_) (fun q6 => ?_)
      ·
        simp at q6
        exact ⟨[], ⟨by rw [decide_eq_false (fun e => by subst e; exact absurd rfl (by assumption))], rfl⟩, .refl _⟩
      ·
        simp at q6
        apply loop_stepA (k + 1)
        · exact .refl _
        · repeat' (first | exact trivial | refine ⟨⟨_, rfl, by first | rfl | exact inc_eq _ (by omega) | (refine sl_eq ?_; simp; done), by first | exact trivial | simp [SV.ok]⟩, ?_⟩)
        · exact trivial
        · exact ⟨by omega, allK_step ha (decide_eq_true (by assumption))⟩
        · omega
    ·
      simp at q1
      (have hke : k = a.length := (by omega); subst hke; exact ⟨[], ⟨by rw [decide_eq_true (rows_eq (by omega) ha)], rfl⟩, .refl _⟩)
/-! how often a row is in a bag -/
def tmM : List Item → List Int → Int
  | [], _ => 0
  | x :: t, r => if x.row = r then x.times else tmM t r
theorem tm_at : ∀ {xs : List Item} {r : List Int} {k : Nat}, k < xs.length → (xs[k]?.getD default).row = r → allK (fun i => !decide ((xs[i]?.getD default).row = r)) k = true → tmM xs r = (xs[k]?.getD default).times
  | [], _, k, h, _, _ => absurd h (by simp)
  | x :: t, r, 0, _, h, _ => if_pos h
  | x :: t, r, k + 1, hk, h, ha => by
    have h0 := allK_at ha 0 (by omega)
    have h1 : ¬ x.row = r := fun e => by
      have : (!decide (x.row = r)) = true := h0
      rw [decide_eq_true e] at this; cases this
    show (if x.row = r then x.times else tmM t r) = _
    rw [if_neg h1]
    exact tm_at (by simpa using hk) h (allK_of9 fun i hi => allK_at ha (i + 1) (by omega))
theorem tm_none : ∀ {xs : List Item} {r : List Int}, allK (fun i => !decide ((xs[i]?.getD default).row = r)) xs.length = true → tmM xs r = 0
  | [], _, _ => rfl
  | x :: t, r, ha => by
    have h0 := allK_at ha 0 (by simp)
    have h1 : ¬ x.row = r := fun e => by
      have : (!decide (x.row = r)) = true := h0
      rw [decide_eq_true e] at this; cases this
    show (if x.row = r then x.times else tmM t r) = _
    rw [if_neg h1]
    exact tm_none (allK_of9 fun i hi => allK_at ha (i + 1) (by rw [List.length_cons]; omega))
--@ct spec.BagTimes val specBagTimes_ct _ _ _ _ $1 $2 | ⟨%1, %2⟩
theorem specBagTimes_ct (l : List Value) (b2 : Option Addr) (m2 c2 : Nat) (x : Bag) (r : List Int) : Ct Tryz.prog 67 [.agg ⟨l⟩, .slice b2 m2 c2] [] (fun H => gBag.rd H l x ∧ (gSl 3 gI).rd H [.slice b2 m2 c2] r) (fun v A => v = .int .i64 (tmM x.items r) ∧ A = []) := by
  refine Ct.intro0 G_ok Tryz.func67 rfl rfl rfl fun E H hp => ?_
  obtain ⟨hp, hq⟩ := hp
  obtain ⟨b0p, c0p, rfl, h0p⟩ := gBag_rd.1 hp
  obtain ⟨rfl, hc2, hl2⟩ := sl_len hq
  have hl := (rd_len h0p).2
  refine VCnew.intro fun x0 => ?_
  apply loop_mod (α := (Nat)) G_ok [6, 7, 8, 9, 10, 13, 14, 15, 16, 17, 18, 19, 20, 21, 22, 23, 24, 25, 26, 4, 11, 12, 5] (fun z => [(5, .v (.int .i64 z))]) (fun z => [{ id := x0, cs := [Value.slice b0p x.items.length c0p], ty := (33 : Nat) }]) (fun z => [H]) (fun z => x.items.length - z) (fun z => z ≤ x.items.length ∧ allK (fun i => !decide ((x.items[i]?.getD default).row = r)) z = true) ((0))
  · repeat' (first | exact trivial | refine ⟨⟨_, rfl, by first | rfl | exact inc_eq _ (by omega) | (refine sl_eq ?_; simp; done), by first | exact trivial | simp [SV.ok]⟩, ?_⟩)
  · exact ⟨rfl, trivial⟩
  · exact ⟨Nat.zero_le _, rfl⟩
  · exact .refl _
  rintro k hI
  obtain ⟨hk, ha⟩ : k ≤ x.items.length ∧ allK (fun i => !decide ((x.items[i]?.getD default).row = r)) k = true := hI
  try dsimp only
  refine VCsplit.intro (fun q1 => ?_) (fun q1 => ?_)
  ·
    simp at q1
    refine idx_rd h0p ?_ ?_ fun b2 o2 hb2 => ?_
    · omega
    · omega
    refine load_partN default (k) 0 rfl h0p ?_ ?_ hb2 rfl (by decide) (mem_at 0 rfl) fun l3 hl3 => ?_
    · omega
    · omega
    obtain ⟨b0x3, c0x3, rfl, h0x3, w1x3⟩ := gItem_rd.1 hl3
    refine call_val (l03Same_ct _ _ _ _ _ _ ((x.items[k]?.getD default).row) (r)) ⟨(Rp.mono _ (mem_at 0 rfl) h0x3), (Rp.mono _ (mem_at 0 rfl) hq)⟩ ?_
    rintro _ rfl
    refine VCsplit.intro (fun q5 => ?_) (fun q5 => ?_)
    ·
      simp at q5
      refine idx_rd h0p ?_ ?_ fun b6 o6 hb6 => ?_
      · omega
      · omega
      refine load_partN default (k) 1 rfl h0p ?_ ?_ hb6 rfl (by decide) (mem_at 0 rfl) fun l7 hl7 => ?_
      · omega
      · omega
      obtain ⟨b0x7, c0x7, rfl, h0x7, w1x7⟩ := gItem_rd.1 hl7
      exact ⟨[], ⟨by rw [tm_at (k := k) (by omega) (by assumption) ha], rfl⟩, (.le fun a => by (try simp only [setR, List.cons_append, List.nil_append]); simp [List.count_cons, Blk.ent, idOf]; try omega)⟩
    ·
      simp at q5
      apply loop_stepA (k + 1)
      · exact .refl _
      · repeat' (first | exact trivial | refine ⟨⟨_, rfl, by first | rfl | exact inc_eq _ (by omega) | (refine sl_eq ?_; simp; done), by first | exact trivial | simp [SV.ok]⟩, ?_⟩)
      · exact ⟨rfl, trivial⟩
      · exact ⟨by omega, allK_step ha (by rw [decide_eq_false (by assumption)]; rfl)⟩
      · omega
  ·
    simp at q1
    (have hke : k = x.items.length := (by omega); subst hke; exact ⟨[], ⟨by rw [tm_none ha], rfl⟩, (.le fun a => by (try simp only [setR, List.cons_append, List.nil_append]); simp [List.count_cons, Blk.ent, idOf]; try omega)⟩)
end Go.Proofs.YtjgehblllhkdbaaGreat

namespace Go.Proofs.YtjgehblllhkdbaaGreat
open Go.SX Go.Proofs
theorem u64_wrap (x : Int) : IntKind.u64.wrap x = x % 18446744073709551616 := by
  unfold IntKind.wrap; simp [IntKind.bits, IntKind.signed]
theorem half_64 (B : Int) : B.fdiv (2 ^ min (Int.toNat 1) IntKind.u64.bits) = B / 2 := by
  have : (2 : Int) ^ min (Int.toNat 1) IntKind.u64.bits = 2 := by decide
  rw [this, Int.fdiv_eq_ediv_of_nonneg _ (by decide)]
theorem mid_eq (i j : Nat) (h : i + j ≤ 1000000000) : IntKind.i64.wrap ((IntKind.u64.wrap (IntKind.i64.wrap ((i : Int) + (j : Int)))).fdiv (2 ^ min (Int.toNat 1) IntKind.u64.bits)) = (((i + j) / 2 : Nat) : Int) := by
  have e1 : IntKind.i64.wrap ((i : Int) + (j : Int)) = (i : Int) + (j : Int) := wrap_of (by omega) (by omega)
  rw [e1, u64_wrap, half_64, wrap_of (by omega) (by omega)]
  omega
end Go.Proofs.YtjgehblllhkdbaaGreat

namespace Go.Proofs.YtjgehblllhkdbaaGreat
open Go.SX Go.Proofs
set_option linter.unusedSimpArgs false
set_option linter.unusedVariables false
set_option maxHeartbeats 4000000
theorem cmpL_zero : ∀ {a b : List Int}, cmpL a b = 0 ↔ a = b
  | [], [] => by simp [cmpL]
  | [], _ :: _ => by simp [cmpL]
  | _ :: _, [] => by simp [cmpL]
  | a :: r, b :: s => by
    have ih := cmpL_zero (a := r) (b := s)
    simp only [cmpL]
    by_cases h1 : a < b
    · rw [if_pos h1]; constructor
      · intro h; exact absurd h (by decide)
      · intro h; cases h; omega
    · rw [if_neg h1]
      by_cases h2 : b < a
      · rw [if_pos h2]; constructor
        · intro h; exact absurd h (by decide)
        · intro h; cases h; omega
      · rw [if_neg h2, ih]
        obtain rfl : a = b := by omega
        constructor
        · rintro rfl; rfl
        · intro h; cases h; rfl
theorem cmpL_tr : ∀ {a b c : List Int}, cmpL a b < 0 → cmpL b c < 0 → cmpL a c < 0
  | [], [], c, h, _ => by simp [cmpL] at h
  | [], b :: s, [], _, h => by simp [cmpL] at h
  | [], b :: s, c :: t, _, _ => by simp [cmpL]
  | a :: r, [], c, h, _ => by simp [cmpL] at h
  | a :: r, b :: s, [], _, h => by simp [cmpL] at h
  | a :: r, b :: s, c :: t, h1, h2 => by
    simp only [cmpL] at h1 h2 ⊢
    split at h1
    · split at h2
      · rw [if_pos (by omega)]; decide
      · split at h2
        · exact absurd h2 (by decide)
        · rw [if_pos (by omega)]; decide
    · split at h1
      · exact absurd h1 (by decide)
      · split at h2
        · rw [if_pos (by omega)]; decide
        · split at h2
          · exact absurd h2 (by decide)
          · rw [if_neg (by omega), if_neg (by omega)]
            exact cmpL_tr h1 h2
theorem cmpL_sw : ∀ {a b : List Int}, cmpL a b < 0 ↔ 0 < cmpL b a
  | [], [] => by simp [cmpL]
  | [], _ :: _ => by simp [cmpL]
  | _ :: _, [] => by simp [cmpL]
  | a :: r, b :: s => by
    have ih := cmpL_sw (a := r) (b := s)
    simp only [cmpL]
    by_cases h1 : a < b
    · rw [if_pos h1, if_neg (by omega), if_pos h1]; decide
    · rw [if_neg h1]
      by_cases h2 : b < a
      · rw [if_pos h2, if_pos h2]; decide
      · rw [if_neg h2, if_neg h2, if_neg h1]; exact ih
def rowI (xs : List Item) (i : Nat) : List Int := (xs[i]?.getD default).row
def sortedR (xs : List Item) : Prop := ∀ i j, i < j → j < xs.length → cmpL (rowI xs i) (rowI xs j) < 0
/-- k is the place of r -/
def atR (xs : List Item) (r : List Int) (k : Nat) : Prop := k ≤ xs.length ∧ (∀ q, q < k → cmpL (rowI xs q) r < 0) ∧ (∀ q, k ≤ q → q < xs.length → ¬ cmpL (rowI xs q) r < 0)
theorem belowR {xs : List Item} {r : List Int} {m : Nat} (hs : sortedR xs) (hm : m < xs.length) (h : cmpL (rowI xs m) r < 0) (q : Nat) (hq : q < m + 1) : cmpL (rowI xs q) r < 0 := by
  rcases Nat.lt_or_ge q m with h1 | h1
  · exact cmpL_tr (hs q m h1 hm) h
  · rw [show q = m by omega]; exact h
theorem aboveR {xs : List Item} {r : List Int} {m : Nat} (hs : sortedR xs) (h : ¬ cmpL (rowI xs m) r < 0) (q : Nat) (h1 : m ≤ q) (hq : q < xs.length) : ¬ cmpL (rowI xs q) r < 0 := by
  rcases Nat.lt_or_ge m q with h2 | h2
  · intro h3; exact h (cmpL_tr (hs m q h2 hq) h3)
  · rw [show q = m by omega]; exact h
attribute [local irreducible] IntKind.wrap
--@ct impl.placeOf$1 val placeCmp_ct _ _ _ _ $1 $2 | ⟨%1, %2⟩
theorem placeCmp_ct (l : List Value) (b : Option Addr) (m c : Nat) (x : Item) (r : List Int) : Ct Tryz.prog 256 [.agg ⟨l⟩, .slice b m c] [] (fun H => gItem.rd H l x ∧ (gSl 3 gI).rd H [.slice b m c] r) (fun v A => v = .int .i64 (cmpL x.row r) ∧ A = []) := by
  refine Ct.intro0 G_ok Tryz.func256 rfl rfl rfl fun E H hp => ?_
  obtain ⟨hp, hq⟩ := hp
  obtain ⟨b0p, c0p, rfl, h0p, w1p⟩ := gItem_rd.1 hp
  refine VCnew.intro fun x0 => ?_
  refine call_val (sCompare_ct _ _ _ _ _ _ (x.row) (r)) ⟨(Rp.mono _ (mem_at 0 rfl) h0p), (Rp.mono _ (mem_at 0 rfl) hq)⟩ ?_
  rintro _ rfl
  exact ⟨[], ⟨rfl, rfl⟩, (.le fun a => by (try simp only [setR, List.cons_append, List.nil_append]); simp [List.count_cons, Blk.ent, idOf]; try omega)⟩
--@ct slices.BinarySearchFunc[[]impl.Item,impl.Item,[]int] raw refine call_val (bsItem_ct _ _ _ _ _ _ $1 $2 ?_ ?_) ⟨%1, %2⟩ ?_ | | rintro _ ⟨k#, hk#, rfl⟩
theorem bsItem_ct (b : Option Addr) (m c : Nat) (b2 : Option Addr) (m2 c2 : Nat) (xs : List Item) (r : List Int) (hs : sortedR xs) (hm : xs.length ≤ 1000000) :
    Ct Tryz.prog 255 [.slice b m c, .slice b2 m2 c2, .func (.func 256) ⟨[]⟩ ⟨[]⟩] [] (fun H => (gSl 218 gItem).rd H [.slice b m c] xs ∧ (gSl 3 gI).rd H [.slice b2 m2 c2] r)
      (fun v A => (∃ k : Nat, atR xs r k ∧ v = .tuple #[.int .i64 (k : Int), .bool (decide (k < xs.length ∧ rowI xs k = r))]) ∧ A = []) := by
  refine Ct.intro0 G_ok Tryz.func255 rfl rfl rfl fun E H hp => ?_
  obtain ⟨hp, hp2⟩ := hp
  obtain ⟨rfl, hcl, hl⟩ := sl_len hp
  obtain ⟨rfl, hcl2, hl2⟩ := sl_len hp2
  apply loop_mod (α := (Nat) × (Nat)) G_ok [15, 16, 17, 18, 19, 20, 21, 22, 23, 11, 24, 25, 26, 27, 28, 29, 30, 31, 32, 33, 9, 34, 10] (fun z => [(9, .v (.int .i64 z.1)), (10, .v (.int .i64 z.2))]) (fun z => []) (fun z => [H]) (fun z => z.2 - z.1) (fun z => z.1 ≤ z.2 ∧ z.2 ≤ xs.length ∧ (∀ q, q < z.1 → cmpL (rowI xs q) r < 0) ∧ (∀ q, z.2 ≤ q → q < xs.length → ¬ cmpL (rowI xs q) r < 0)) ((0, xs.length))
  · repeat' (first | exact trivial | refine ⟨⟨_, rfl, by first | rfl | exact inc_eq _ (by omega) | (refine sl_eq ?_; simp; done) | (rw [hh]; exact inc_eq _ (by omega)) | (rw [hh]), by first | exact trivial | simp [SV.ok]⟩, ?_⟩)
  · exact trivial
  · try dsimp only
    exact ⟨by omega, by omega, fun q hq => absurd hq (by omega), fun q hq hq2 => absurd hq2 (by omega)⟩
  · exact .refl _
  rintro ⟨i, j⟩ hI
  obtain ⟨hij, hj, h1, h2⟩ : i ≤ j ∧ j ≤ xs.length ∧ (∀ q, q < i → cmpL (rowI xs q) r < 0) ∧ (∀ q, j ≤ q → q < xs.length → ¬ cmpL (rowI xs q) r < 0) := hI
  try dsimp only
  refine VCsplit.intro (fun q0 => ?_) (fun q0 => ?_)
  ·
    simp at q0
    have hh := mid_eq i j (by omega)
    refine VC.intro ?_ ?_
    · trivial
    refine idx_rd hp ?_ ?_ fun b1 o1 hb1 => ?_
    · omega
    · omega
    refine load_all default hp ?_ ?_ hb1 rfl (mem_at 0 rfl) fun l2 hl2 => ?_
    · omega
    · omega
    obtain ⟨b0x2, c0x2, rfl, h0x2, w1x2⟩ := gItem_rd.1 hl2
    refine call_val (placeCmp_ct _ _ _ _ (xs[(IntKind.i64.wrap ((IntKind.u64.wrap (IntKind.i64.wrap ((↑i : Int) + (↑j : Int)))).fdiv ((2 : Int) ^ min (Int.toNat (1 : Int)) IntKind.u64.bits))).toNat]?.getD default) (r)) ⟨(Rp.mono _ (mem_at 0 rfl) hl2), (Rp.mono _ (mem_at 0 rfl) hp2)⟩ ?_
    rintro _ rfl
    refine VCsplit.intro (fun q4 => ?_) (fun q4 => ?_)
    ·
      rw [hh, Int.toNat_natCast] at q4
      simp at q4
      apply loop_stepA ((i + j) / 2 + 1, j)
      · exact .refl _
      · repeat' (first | exact trivial | refine ⟨⟨_, rfl, by first | rfl | exact inc_eq _ (by omega) | (refine sl_eq ?_; simp; done) | (rw [hh]; exact inc_eq _ (by omega)) | (rw [hh]), by first | exact trivial | simp [SV.ok]⟩, ?_⟩)
      · exact trivial
      · try dsimp only
        exact ⟨by omega, by omega, belowR hs (by omega) ‹cmpL _ _ < 0›, h2⟩
      · try dsimp only
        omega
    ·
      rw [hh, Int.toNat_natCast] at q4
      simp at q4
      apply loop_stepA (i, (i + j) / 2)
      · exact .refl _
      · repeat' (first | exact trivial | refine ⟨⟨_, rfl, by first | rfl | exact inc_eq _ (by omega) | (refine sl_eq ?_; simp; done) | (rw [hh]; exact inc_eq _ (by omega)) | (rw [hh]), by first | exact trivial | simp [SV.ok]⟩, ?_⟩)
      · exact trivial
      · try dsimp only
        exact ⟨by omega, by omega, h1, aboveR hs (by show ¬ cmpL (xs[(i + j) / 2]?.getD default).row r < 0; omega)⟩
      · try dsimp only
        omega
  ·
    simp at q0
    obtain rfl : i = j := by omega
    refine VCsplit.intro (fun q5 => ?_) (fun q5 => ?_)
    ·
      simp at q5
      refine idx_rd hp ?_ ?_ fun b6 o6 hb6 => ?_
      · omega
      · omega
      refine load_allN default (i) rfl hp ?_ ?_ hb6 rfl (mem_at 0 rfl) fun l7 hl7 => ?_
      · omega
      · omega
      obtain ⟨b0x7, c0x7, rfl, h0x7, w1x7⟩ := gItem_rd.1 hl7
      refine call_val (placeCmp_ct _ _ _ _ (xs[i]?.getD default) (r)) ⟨(Rp.mono _ (mem_at 0 rfl) hl7), (Rp.mono _ (mem_at 0 rfl) hp2)⟩ ?_
      rintro _ rfl
      exact ⟨[], ⟨⟨i, ⟨by omega, h1, h2⟩, by (congr 2; rw [← decide_eq_decide.2 (show (cmpL (xs[i]?.getD default).row r = 0) ↔ (i < xs.length ∧ rowI xs i = r) from cmpL_zero.trans ⟨fun h => ⟨by omega, h⟩, fun h => h.2⟩)]; rfl)⟩, rfl⟩, (.le fun a => by (try simp only [setR, List.cons_append, List.nil_append]); simp [List.count_cons, Blk.ent, idOf]; try omega)⟩
    ·
      simp at q5
      exact ⟨[], ⟨⟨i, ⟨by omega, h1, h2⟩, by rw [decide_eq_false (by omega)]⟩, rfl⟩, (.le fun a => by (try simp only [setR, List.cons_append, List.nil_append]); simp [List.count_cons, Blk.ent, idOf]; try omega)⟩
--@ct impl.placeOf raw refine call_val (placeOf_ct _ _ _ _ _ _ $1 $2 ?_ ?_) ⟨%1, %2⟩ ?_ | | rintro _ ⟨k#, hk#, rfl⟩
theorem placeOf_ct (b : Option Addr) (m c : Nat) (b2 : Option Addr) (m2 c2 : Nat) (xs : List Item) (r : List Int) (hs : sortedR xs) (hm : xs.length ≤ 1000000) :
    Ct Tryz.prog 166 [.slice b m c, .slice b2 m2 c2] [] (fun H => (gSl 218 gItem).rd H [.slice b m c] xs ∧ (gSl 3 gI).rd H [.slice b2 m2 c2] r)
      (fun v A => (∃ k : Nat, atR xs r k ∧ v = .tuple #[.int .i64 (k : Int), .bool (decide (k < xs.length ∧ rowI xs k = r))]) ∧ A = []) := by
  refine Ct.intro0 G_ok Tryz.func166 rfl rfl rfl fun E H hp => ?_
  obtain ⟨hp, hp2⟩ := hp
  refine call_val (bsItem_ct _ _ _ _ _ _ (xs) (r) ?_ ?_) ⟨(Rp.mono _ (mem_at 0 rfl) hp), (Rp.mono _ (mem_at 0 rfl) hp2)⟩ ?_
  · trivial
  · trivial
  rintro _ ⟨k0, hk0, rfl⟩
  exact ⟨[], ⟨⟨_, by assumption, rfl⟩, rfl⟩, (.le fun a => by (try simp only [setR, List.cons_append, List.nil_append]); simp [List.count_cons, Blk.ent, idOf]; try omega)⟩
end Go.Proofs.YtjgehblllhkdbaaGreat

namespace Go.Proofs.YtjgehblllhkdbaaGreat
open Go.SX Go.Proofs
set_option linter.unusedSimpArgs false
set_option linter.unusedVariables false
set_option maxHeartbeats 4000000
attribute [local irreducible] IntKind.wrap
/-- r put at its place k -/
def putB (xs : List Item) (r : List Int) (t : Int) (k : Nat) : List Item × Bool :=
  if rowM r = true ∧ (0 < xs.length → (rowI xs 0).length = r.length) then
    if k < xs.length ∧ rowI xs k = r then (xs.set k ⟨(xs[k]?.getD default).row, min ((xs[k]?.getD default).times + t) 1000000⟩, true)
    else if xs.length = 300 then (xs, false) else (xs.take k ++ ([⟨r, t⟩] ++ xs.drop k), true)
  else (xs, false)
theorem putB_no1 {xs : List Item} {r : List Int} {t : Int} {k : Nat} (h : rowM r = false) : putB xs r t k = (xs, false) := if_neg fun e => by rw [h] at e; cases e.1
theorem putB_no2 {xs : List Item} {r : List Int} {t : Int} {k : Nat} (h0 : 0 < xs.length) (h : ¬ (rowI xs 0).length = r.length) : putB xs r t k = (xs, false) := if_neg fun e => h (e.2 h0)
theorem putB_hit {xs : List Item} {r : List Int} {t : Int} {k : Nat} (h : rowM r = true) (h1 : 0 < xs.length → (rowI xs 0).length = r.length) (h2 : k < xs.length ∧ rowI xs k = r) : putB xs r t k = (xs.set k ⟨(xs[k]?.getD default).row, min ((xs[k]?.getD default).times + t) 1000000⟩, true) := by
  unfold putB; rw [if_pos ⟨h, h1⟩, if_pos h2]
theorem putB_full {xs : List Item} {r : List Int} {t : Int} {k : Nat} (h : rowM r = true) (h1 : 0 < xs.length → (rowI xs 0).length = r.length) (h2 : ¬ (k < xs.length ∧ rowI xs k = r)) (h3 : xs.length = 300) : putB xs r t k = (xs, false) := by
  unfold putB; rw [if_pos ⟨h, h1⟩, if_neg h2, if_pos h3]
theorem putB_new {xs : List Item} {r : List Int} {t : Int} {k : Nat} (h : rowM r = true) (h1 : 0 < xs.length → (rowI xs 0).length = r.length) (h2 : ¬ (k < xs.length ∧ rowI xs k = r)) (h3 : ¬ xs.length = 300) : putB xs r t k = (xs.take k ++ ([⟨r, t⟩] ++ xs.drop k), true) := by
  unfold putB; rw [if_pos ⟨h, h1⟩, if_neg h2, if_neg h3]
theorem szI9 : ∀ xs : List Int, szL gI xs = xs.length
  | [] => rfl
  | x :: r => by
    have := szI9 r
    show 1 + 0 + szL gI r = _
    rw [this, List.length_cons]; omega
theorem rowM_len {r : List Int} (h : rowM r = true) : r.length ≤ 4 := by
  unfold rowM at h
  rw [Bool.and_eq_true, decide_eq_true_iff] at h
  exact h.1
theorem min_eq9 {a : Int} (h1 : 1 ≤ a ∧ a ≤ 2000000) : (if 1000000 < IntKind.i64.wrap a then 1000000 else IntKind.i64.wrap a) = min a 1000000 := by
  rw [wrap_of (x := a) (by omega) (by omega)]
  split <;> omega
theorem min_ok9 {a : Int} (h1 : 1 ≤ a ∧ a ≤ 2000000) : okI (if 1000000 < IntKind.i64.wrap a then 1000000 else IntKind.i64.wrap a) := by
  rw [min_eq9 h1]; unfold okI; omega
theorem item_ow9 {b : Option Addr} {c : Nat} {r : List Int} {t : Int} {A : Hp} (h : (gSl 3 gI).ow [.slice b r.length c] r A) (ht : 1 ≤ t ∧ t ≤ 1000000) : gItem.ow (.slice b r.length c :: .int .i64 t :: List.append [] (zeros 0 [.slice none 0 0, .int .i64 0])) ⟨r, t⟩ A :=
  gItem_ow.2 ⟨b, c, A, rfl, .refl _, h, by unfold okI; dsimp only; omega⟩
theorem put_fin {xs ys : List Item} {r : List Int} {t : Int} {k q n : Nat} {w : Bool} {b : Option Addr} {c : Nat} {A : Hp} (e : putB xs r t k = (ys, w)) (hk : rowM r = true ∧ (0 < xs.length → (rowI xs 0).length = r.length) → atR xs r k) (hn : n = ys.length) (o : (gSl 218 gItem).ow [.slice b n c] ys A) :
    ∃ k b' c' A', (rowM r = true ∧ (0 < xs.length → (rowI xs 0).length = r.length) → atR xs r k) ∧ Value.bool w = .bool (putB xs r t k).2 ∧ (q, Obj.cells ⟨[.slice b n c]⟩ 33) :: A = (q, Obj.cells ⟨[.slice b' (putB xs r t k).1.length c']⟩ 33) :: A' ∧ (gSl 218 gItem).ow [.slice b' (putB xs r t k).1.length c'] (putB xs r t k).1 A' := by
  subst hn
  exact ⟨k, b, c, A, hk, by rw [e], by rw [e], by rw [e]; exact o⟩
theorem bagPut_ct (q : Nat) (b : Option Addr) (c : Nat) (xs : List Item) (A : Hp) (b2 : Option Addr) (m2 c2 : Nat) (r : List Int) (t : Int) (ho : (gSl 218 gItem).ow [.slice b xs.length c] xs A) (hs : sortedR xs) (hx : xs.length ≤ 300) (ht : 1 ≤ t ∧ t ≤ 1000000) (hxt : ∀ i, i < xs.length → 1 ≤ (xs[i]?.getD default).times ∧ (xs[i]?.getD default).times ≤ 1000000) :
    CtR Tryz.prog 79 [.pointer (some ⟨q, 0, none⟩), .slice b2 m2 c2, .int .i64 t] ((q, Obj.cells ⟨[.slice b xs.length c]⟩ 33) :: A) (fun H => (gSl 3 gI).rd H [.slice b2 m2 c2] r)
      (fun v D => ∃ k b c A, (rowM r = true ∧ (0 < xs.length → (rowI xs 0).length = r.length) → atR xs r k) ∧ v = .bool (putB xs r t k).2 ∧ D = (q, Obj.cells ⟨[.slice b (putB xs r t k).1.length c]⟩ 33) :: A ∧ (gSl 218 gItem).ow [.slice b (putB xs r t k).1.length c] (putB xs r t k).1 A) := by
  refine CtR.introB G_ok [.p 0 0, .v (.slice b2 m2 c2), .v (.int .i64 t)] [⟨q, [.slice b xs.length c], 33⟩] [A] Tryz.func79 rfl rfl rfl rfl (by simp [SV.ok]) (by simp [Blk.ent]) fun E H hp => ?_
  obtain ⟨rfl, hcl2, hl2⟩ := sl_len hp
  have hrd := Gt.owrd _ ho
  refine call_val (implRowOk_ct _ _ _ (r)) (Rp.mono _ (mem_at 1 rfl) hp) ?_
  rintro _ rfl
  refine VCsplit.intro (fun q1 => ?_) (fun q1 => ?_)
  ·
    simp at q1
    exact ⟨_, put_fin (k := 0) (putB_no1 (by assumption)) (fun e => by rw [‹rowM r = false›] at e; cases e.1) rfl ho, (.le fun a => by (try simp only [setR, List.cons_append, List.nil_append]); simp [List.count_cons, Blk.ent, idOf]; try omega)⟩
  ·
    simp at q1
    refine VCsplit.intro (fun q2 => ?_) (fun q2 => ?_)
    ·
      simp at q2
      refine idx_rd hrd ?_ ?_ fun b3 o3 hb3 => ?_
      · trivial
      · omega
      refine load_partN default (0) 0 rfl hrd ?_ ?_ hb3 rfl (by decide) (mem_at 0 rfl) fun l4 hl4 => ?_
      · trivial
      · omega
      obtain ⟨b0x4, c0x4, rfl, h0x4, w1x4⟩ := gItem_rd.1 hl4
      refine VCsplit.intro (fun q5 => ?_) (fun q5 => ?_)
      ·
        simp at q5
        exact ⟨_, put_fin (k := 0) (putB_no2 (by omega) (by show ¬ (xs[0]?.getD default).row.length = r.length; omega)) (fun e => absurd (e.2 (by omega)) (by show ¬ (xs[0]?.getD default).row.length = r.length; omega)) rfl ho, (.le fun a => by (try simp only [setR, List.cons_append, List.nil_append]); simp [List.count_cons, Blk.ent, idOf]; try omega)⟩
      ·
        simp at q5
        refine call_val (placeOf_ct _ _ _ _ _ _ xs r hs (by omega)) ⟨(Rp.mono _ (mem_at 0 rfl) hrd), (Rp.mono _ (mem_at 1 rfl) hp)⟩ ?_
        rintro _ ⟨kk, hkk, rfl⟩
        refine VCsplit.intro (fun q7 => ?_) (fun q7 => ?_)
        ·
          simp at q7
          refine draw G_ok mixed (some 18) (.q 0 (.q 1 (.q 2 (.q 3 (.q 4 (.q 5 (.q 6 (.q 7 (.q 8 (.q 9 (.q 10 (.q 11 (.q 12 (.q 13 (.q 14 (.f 15 (.q 16 (.q 17 (.tl 18 (.nil)))))))))))))))))))) (by decide +kernel) ?_
          refine idx_rd hrd ?_ ?_ fun b8 o8 hb8 => ?_
          · omega
          · omega
          refine load_partN default (kk) 1 rfl hrd ?_ ?_ hb8 rfl (by decide) (mem_at 0 rfl) fun l9 hl9 => ?_
          · omega
          · omega
          obtain ⟨b0x9, c0x9, rfl, h0x9, w1x9⟩ := gItem_rd.1 hl9
          refine VC.intro ?_ ?_
          · exact fun _ h => h
          refine idx_rd hrd ?_ ?_ fun b10 o10 hb10 => ?_
          · omega
          · omega
          refine gstoreN gItem_times default (kk) 0 rfl rfl ho ?_ ?_ hb10 rfl gI_pl _ (gI_ow ?_) fun A11 o11 => ?_
          · omega
          · omega
          · exact min_ok9 (by have := hxt _ (‹_ ∧ rowI xs _ = r›).1; omega)
          exact ⟨_, put_fin (k := kk) (putB_hit (by assumption) (fun _ => by show (xs[0]?.getD default).row.length = r.length; omega) (by assumption)) (fun _ => hkk) (by rw [List.length_set]) (by rw [← min_eq9 (by have := hxt kk (‹_ ∧ rowI xs kk = r›).1; omega)]; assumption), (.le fun a => by (try simp only [setR, List.cons_append, List.nil_append]); simp [List.count_cons, Blk.ent, idOf]; try omega)⟩
        ·
          simp at q7
          refine VCsplit.intro (fun q12 => ?_) (fun q12 => ?_)
          ·
            simp at q12
            exact ⟨_, put_fin (k := kk) (putB_full (by assumption) (fun h0 => by show (xs[0]?.getD default).row.length = r.length; omega) (by first | assumption | (exact fun e => absurd e.1 (by omega)) | (rintro ⟨h8, h9⟩; exact absurd h9 (by simp_all))) (by omega)) (fun _ => hkk) rfl ho, (.le fun a => by (try simp only [setR, List.cons_append, List.nil_append]); simp [List.count_cons, Blk.ent, idOf]; try omega)⟩
          ·
            simp at q12
            refine draw G_ok mixed (some 11) (.q 0 (.q 1 (.q 2 (.q 3 (.q 4 (.q 5 (.q 6 (.q 8 (.f 7 (.q 9 (.f 10 (.tl 11 (.f 12 (.f 13 (.f 14 (.nil)))))))))))))))) (by decide +kernel) ?_
            refine call_new (cloneI_ct _ _ _ (r) ?_) (Rp.mono _ (mem_at 1 rfl) hp) ?_
            · (rw [szI9]; have := rowM_len ‹rowM r = true›; omega)
            rintro v13 A13 o13
            obtain ⟨bR, cR, rfl, oR⟩ := o13
            generalize A13 = AR at *
            refine VC.intro ?_ ?_
            · exact keep_new
            refine VCnew.intro fun x14 => ?_
            refine VC.intro ?_ ?_
            · exact keep_new
            refine callR_part (A ++ AR) [[(_, Obj.cells ⟨.slice bR r.length cR :: .int .i64 t :: List.append [] (zeros 0 [.slice none 0 0, .int .i64 0])⟩ 218)], H] (insItem_ct _ _ _ _ _ xs ⟨r, t⟩ _ A AR ho (item_ow9 oR ht) ?_ ?_) ?_ (mem_at 0 rfl _ (List.mem_singleton.2 rfl)) ?_
            · exact hkk.1
            · omega
            · exact .le fun a => by (try simp only [setR, List.cons_append, List.nil_append]); simp only [List.flatten_append, List.flatten_cons, List.flatten_nil, List.count_append, List.count_nil, List.append_nil, List.nil_append]; omega
            rintro _ AI ⟨bI, cI, rfl, oI⟩
            refine ⟨[AI], by simp, ?_⟩
            exact ⟨_, put_fin (k := kk) (putB_new (by assumption) (fun h0 => by show (xs[0]?.getD default).row.length = r.length; omega) (by first | assumption | (exact fun e => absurd e.1 (by omega)) | (rintro ⟨h8, h9⟩; exact absurd h9 (by simp_all))) (by omega)) (fun _ => hkk) rfl oI, (.le fun a => by (try simp only [setR, List.cons_append, List.nil_append]); simp [List.count_cons, Blk.ent, idOf]; try omega)⟩
    ·
      simp at q2
      have hlz : xs.length = 0 := (congrArg List.length q2)
      refine call_val (placeOf_ct _ _ _ _ _ _ xs r hs (by omega)) ⟨(Rp.mono _ (mem_at 0 rfl) hrd), (Rp.mono _ (mem_at 1 rfl) hp)⟩ ?_
      rintro _ ⟨kk, hkk, rfl⟩
      refine VCsplit.intro (fun q17 => ?_) (fun q17 => ?_)
      ·
        simp at q17
        exfalso; omega
      ·
        simp at q17
        refine VCsplit.intro (fun q18 => ?_) (fun q18 => ?_)
        ·
          simp at q18
          exfalso; omega
        ·
          simp at q18
          refine draw G_ok mixed (some 11) (.q 0 (.q 1 (.q 2 (.q 3 (.q 4 (.q 5 (.q 6 (.q 8 (.f 7 (.q 9 (.f 10 (.tl 11 (.f 12 (.f 13 (.f 14 (.nil)))))))))))))))) (by decide +kernel) ?_
          refine call_new (cloneI_ct _ _ _ (r) ?_) (Rp.mono _ (mem_at 1 rfl) hp) ?_
          · (rw [szI9]; have := rowM_len ‹rowM r = true›; omega)
          rintro v19 A19 o19
          obtain ⟨bR, cR, rfl, oR⟩ := o19
          generalize A19 = AR at *
          refine VC.intro ?_ ?_
          · exact keep_new
          refine VCnew.intro fun x20 => ?_
          refine VC.intro ?_ ?_
          · exact keep_new
          refine callR_part (A ++ AR) [[(_, Obj.cells ⟨.slice bR r.length cR :: .int .i64 t :: List.append [] (zeros 0 [.slice none 0 0, .int .i64 0])⟩ 218)], H] (insItem_ct _ _ _ _ _ xs ⟨r, t⟩ _ A AR ho (item_ow9 oR ht) ?_ ?_) ?_ (mem_at 0 rfl _ (List.mem_singleton.2 rfl)) ?_
          · exact hkk.1
          · omega
          · exact .le fun a => by (try simp only [setR, List.cons_append, List.nil_append]); simp only [List.flatten_append, List.flatten_cons, List.flatten_nil, List.count_append, List.count_nil, List.append_nil, List.nil_append]; omega
          rintro _ AI ⟨bI, cI, rfl, oI⟩
          refine ⟨[AI], by simp, ?_⟩
          exact ⟨_, put_fin (k := kk) (putB_new (by assumption) (fun h0 => by show (xs[0]?.getD default).row.length = r.length; omega) (by first | assumption | (exact fun e => absurd e.1 (by omega)) | (rintro ⟨h8, h9⟩; exact absurd h9 (by simp_all))) (by omega)) (fun _ => hkk) rfl oI, (.le fun a => by (try simp only [setR, List.cons_append, List.nil_append]); simp [List.count_cons, Blk.ent, idOf]; try omega)⟩
end Go.Proofs.YtjgehblllhkdbaaGreat

namespace Go.Proofs.YtjgehblllhkdbaaGreat
open Go.SX Go.Proofs
set_option linter.unusedSimpArgs false
set_option linter.unusedVariables false
set_option maxHeartbeats 4000000
attribute [local irreducible] IntKind.wrap
def onceI (x : Item) : Item := ⟨x.row, 1⟩
def eachK (xs : List Item) (k : Nat) : List Item := (xs.take k).map onceI ++ xs.drop k
theorem eachK_len (xs : List Item) (k : Nat) : (eachK xs k).length = xs.length := by
  unfold eachK
  rw [List.length_append, List.length_map, List.length_take, List.length_drop]; omega
theorem eachK_at {xs : List Item} {k : Nat} (h : k < xs.length) : (eachK xs k)[k]?.getD default = xs[k]?.getD default := by
  unfold eachK
  rw [List.getElem?_append_right (by rw [List.length_map, List.length_take]; omega), List.length_map, List.length_take, List.getElem?_drop]
  congr 2; omega
theorem eachK_step {xs : List Item} {k : Nat} (h : k < xs.length) : (eachK xs k).set k ⟨(xs[k]?.getD default).row, 1⟩ = eachK xs (k + 1) := by
  unfold eachK
  have e1 : xs.drop k = xs[k] :: xs.drop (k + 1) := List.drop_eq_getElem_cons h
  have e2 : (xs.take (k + 1)) = xs.take k ++ [xs[k]] := (List.take_append_getElem h).symm
  have e3 : ((xs.take k).map onceI).length = k := by rw [List.length_map, List.length_take]; omega
  rw [List.set_append_right _ _ (by omega), e3, Nat.sub_self, e1, e2, List.map_append, List.append_assoc, List.getElem?_eq_getElem h]
  rfl
theorem eachK_all (xs : List Item) : eachK xs xs.length = xs.map onceI := by
  unfold eachK; rw [List.take_length, List.drop_length, List.append_nil]
--@ct impl.BagEach new implBagEach_ct _ $1 ?_ | %1 | obtain ⟨b#, c#, rfl, o#⟩ := o#
theorem implBagEach_ct (l : List Value) (x : Bag) (hx : gBag.sz x ≤ 1048576) : Ct Tryz.prog 80 [.agg ⟨l⟩] [] (fun H => gBag.rd H l x) (fun v A => ∃ b c, v = .agg ⟨[.slice b (x.items.map onceI).length c]⟩ ∧ (gSl 218 gItem).ow [.slice b (x.items.map onceI).length c] (x.items.map onceI) A) := by
  refine Ct.intro0 G_ok Tryz.func80 rfl rfl rfl fun E H hp => ?_
  obtain ⟨b0p, c0p, rfl, h0p⟩ := gBag_rd.1 hp
  have hl := (rd_len h0p).2
  refine VCnew.intro fun x0 => ?_
  refine VCnew.intro fun x1 => ?_
  refine call_newP (copyBag_ct _ (x) ?_) (Rp.mono _ (mem_at 0 rfl) hp) ?_
  · trivial
  rintro v2 A2 o2
  obtain ⟨l2, rfl, o2⟩ := o2
  obtain ⟨bs, cs, As, rfl, hpm, os⟩ := gBag_ow.1 o2
  refine ⟨[As], by simpa using hpm, ?_⟩
  refine VCnew.intro fun x3 => ?_
  apply loop_mod (α := (Nat) × (Hp)) G_ok [11, 12, 4, 13, 14, 15, 16, 17, 18, 10] (fun z => [(10, .v (.int .i64 z.1))]) (fun z => [{ id := x0, cs := [Value.slice b0p x.items.length c0p], ty := (33 : Nat) }, { id := x1, cs := [Value.slice none (0 : Nat) (0 : Nat)], ty := (33 : Nat) }, { id := x3, cs := [Value.slice bs x.items.length cs], ty := (33 : Nat) }]) (fun z => [z.2, H]) (fun z => x.items.length - z.1) (fun z => z.1 ≤ x.items.length ∧ (gSl 218 gItem).ow [.slice bs x.items.length cs] (eachK x.items z.1) z.2) ((0, As))
  · repeat' (first | exact trivial | refine ⟨⟨_, rfl, by first | rfl | exact inc_eq _ (by omega) | (refine sl_eq ?_; simp; done), by first | exact trivial | simp [SV.ok]⟩, ?_⟩)
  · exact ⟨rfl, rfl, rfl, trivial⟩
  · try dsimp only
    exact ⟨Nat.zero_le _, os⟩
  · exact .refl _
  rintro ⟨k, V⟩ hI
  obtain ⟨hk, oV⟩ : k ≤ x.items.length ∧ (gSl 218 gItem).ow [.slice bs x.items.length cs] (eachK x.items k) V := hI
  try dsimp only
  refine VCsplit.intro (fun q4 => ?_) (fun q4 => ?_)
  ·
    simp at q4
    have hel := eachK_len x.items k
    have hea := eachK_at (by omega : k < x.items.length)
    refine idx_rd (Gt.owrd _ oV) ?_ ?_ fun b5 o5 hb5 => ?_
    · omega
    · omega
    refine gstoreN gItem_times default (k) 0 rfl rfl oV ?_ ?_ hb5 rfl gI_pl _ (gI_ow ?_) fun A6 o6 => ?_
    · omega
    · omega
    · trivial
    apply loop_stepA (k + 1, _)
    · exact .refl _
    · repeat' (first | exact trivial | refine ⟨⟨_, rfl, by first | rfl | exact inc_eq _ (by omega) | (refine sl_eq ?_; simp; done), by first | exact trivial | simp [SV.ok]⟩, ?_⟩)
    · exact ⟨rfl, rfl, rfl, trivial⟩
    · try dsimp only
      exact ⟨by omega, by rw [← eachK_step (by omega), ← hea]; assumption⟩
    · try dsimp only
      omega
  ·
    simp at q4
    (have hke : k = x.items.length := (by omega); rw [hke, eachK_all] at oV; exact ⟨_, ⟨bs, cs, by rw [List.length_map], by rw [List.length_map]; exact oV⟩, (.le fun a => by (try simp only [setR, List.cons_append, List.nil_append]); simp [List.count_cons, Blk.ent, idOf]; try omega)⟩)
end Go.Proofs.YtjgehblllhkdbaaGreat

namespace Go.Proofs.YtjgehblllhkdbaaGreat
open Go.SX Go.Proofs
set_option linter.unusedSimpArgs false
set_option linter.unusedVariables false
set_option maxHeartbeats 4000000
attribute [local irreducible] IntKind.wrap
/-- the row of an atom for a pair, and whether it has one -/
def pairRow (a : Atom) (p : List Int) : List Int := if a.from' = a.to then p.take 1 else p
def pairOk (a : Atom) (p : List Int) : Bool := if a.from' = a.to then decide ((p[0]?.getD 0) = (p[1]?.getD 0)) else true
theorem pair_2 {a : Atom} {p : List Int} (h : ¬ a.from' = a.to) : pairRow a p = p ∧ pairOk a p = true := by
  unfold pairRow pairOk; rw [if_neg h, if_neg h]; exact ⟨rfl, rfl⟩
theorem pair_1 {a : Atom} {p : List Int} (h : a.from' = a.to) : pairRow a p = p.take 1 ∧ pairOk a p = ((p[0]?.getD 0) == (p[1]?.getD 0)) := by
  unfold pairRow pairOk; rw [if_pos h, if_pos h, beq_dec]; exact ⟨rfl, rfl⟩
theorem pair_rd {b : Option Addr} {n c : Nat} {p : List Int} {H : Hp} (h2 : p.length = 2) (h : (gSl 3 gI).rd H [.slice b n c] p) : (gSl 3 gI).rd H [.slice (subBase c 0 b ty3.size) ((1 : Int).toNat - 0) (c - 0)] (p.take 1) := by
  have hc := (sl_len h).2.1
  exact rd_sub (r := gI.toRp) (l := 0) (h := (1 : Int).toNat) h (by omega) (by show 1 ≤ p.length; omega)
theorem atomRow_ct (l : List Value) (b : Option Addr) (m c : Nat) (a : Atom) (p : List Int) (h2 : p.length = 2) :
    Ct Tryz.prog 76 [.agg ⟨l⟩, .slice b m c] [] (fun H => gAtom.rd H l a ∧ (gSl 3 gI).rd H [.slice b m c] p)
      (fun v A => (∃ b' c', v = .tuple #[.slice b' (pairRow a p).length c', .bool (pairOk a p)] ∧ ∀ H, (gSl 3 gI).rd H [.slice b m c] p → (gSl 3 gI).rd H [.slice b' (pairRow a p).length c'] (pairRow a p)) ∧ A = []) := by
  refine Ct.intro0 G_ok Tryz.func76 rfl rfl rfl fun E H hp => ?_
  obtain ⟨hp, hq⟩ := hp
  obtain ⟨rfl, hcl, hl⟩ := sl_len hq
  obtain ⟨rfl, w0f, w1f, w2f⟩ := gAtom_rd.1 hp
  refine VCnew.intro fun x0 => ?_
  refine VCsplit.intro (fun q1 => ?_) (fun q1 => ?_)
  ·
    simp at q1
    simp only [str_inj, u8_inj, u8_wrap] at q1
    (obtain ⟨e1, e2⟩ := pair_2 (p := p) ‹¬ a.from' = a.to›; rw [e1, e2]; exact ⟨[], ⟨⟨_, _, rfl, fun H h => h⟩, rfl⟩, (.le fun a => by (try simp only [setR, List.cons_append, List.nil_append]); simp [List.count_cons, Blk.ent, idOf]; try omega)⟩)
  ·
    simp at q1
    simp only [str_inj, u8_inj, u8_wrap] at q1
    refine draw G_ok mixed none (.q 0 (.q 1 (.q 2 (.q 3 (.q 4 (.q 5 (.q 6 (.q 7 (.q 8 (.q 9 (.q 10 (.nil)))))))))))) (by decide +kernel) ?_
    refine VC.intro ?_ ?_
    · omega
    refine idx_rd hq ?_ ?_ fun b2 o2 hb2 => ?_
    · trivial
    · omega
    refine load_allN 0 (0) rfl hq ?_ ?_ hb2 rfl (mem_at 0 rfl) fun l3 hl3 => ?_
    · trivial
    · omega
    obtain ⟨rfl, hw3⟩ := hl3; simp only [flStr, flInt, okI] at hw3
    refine idx_rd hq ?_ ?_ fun b4 o4 hb4 => ?_
    · trivial
    · omega
    refine load_allN 0 (1) rfl hq ?_ ?_ hb4 rfl (mem_at 0 rfl) fun l5 hl5 => ?_
    · trivial
    · omega
    obtain ⟨rfl, hw5⟩ := hl5; simp only [flStr, flInt, okI] at hw5
    (obtain ⟨e1, e2⟩ := pair_1 (p := p) ‹a.from' = a.to›; have hl1 : (p.take 1).length = 1 := (by rw [List.length_take]; omega); rw [e1, e2, hl1]; exact ⟨[], ⟨⟨_, _, rfl, fun H h => pair_rd h2 h⟩, rfl⟩, (.le fun a => by (try simp only [setR, List.cons_append, List.nil_append]); simp [List.count_cons, Blk.ent, idOf]; try omega)⟩)
end Go.Proofs.YtjgehblllhkdbaaGreat

namespace Go.Proofs.YtjgehblllhkdbaaGreat
open Go.SX Go.Proofs
set_option linter.unusedSimpArgs false
set_option linter.unusedVariables false
set_option maxHeartbeats 4000000
attribute [local irreducible] IntKind.wrap
theorem not_inI {a b : Int} (h : ¬ a = b) : (!decide (a = b)) = true := by rw [decide_eq_false h]; rfl
--@ct slices.Index[[]int,int] val sIndexI_ct _ _ _ $1 _ | %1
theorem sIndexI_ct (b : Option Addr) (m c : Nat) (xs : List Int) (v : Int) :
    Ct Tryz.prog 160 [.slice b m c, .int .i64 v] [] (fun H => (gSl 3 gI).rd H [.slice b m c] xs)
      (fun w A => (∃ k : Int, w = .int .i64 k ∧ (decide (k ≥ 0)) = hasI xs v) ∧ A = []) := by
  refine Ct.intro0 G_ok Tryz.func160 rfl rfl rfl fun E H hp => ?_
  obtain ⟨rfl, hcl, hl⟩ := sl_len hp
  apply loop_mod (α := (Nat) × (Int)) G_ok [9, 10, 5, 11, 12, 13, 14, 15, 16, 17, 4, 18, 8] (fun z => [(8, .v (.int .i64 z.1)), (4, .v (.int .i64 z.2))]) (fun z => []) (fun z => [H]) (fun z => xs.length - z.1) (fun z => z.1 ≤ xs.length ∧ allK (fun i => !decide (xs[i]?.getD 0 = v)) z.1 = true) ((0, 0))
  · repeat' (first | exact trivial | refine ⟨⟨_, rfl, by first | rfl | exact inc_eq _ (by omega) | (refine sl_eq ?_; simp; done), by first | exact trivial | simp [SV.ok]⟩, ?_⟩)
  · exact trivial
  · try dsimp only
    exact ⟨Nat.zero_le _, rfl⟩
  · exact .refl _
  rintro ⟨k, j⟩ hI
  obtain ⟨hk, ha⟩ : k ≤ xs.length ∧ allK (fun i => !decide (xs[i]?.getD 0 = v)) k = true := hI
  try dsimp only
  refine VCsplit.intro (fun q0 => ?_) (fun q0 => ?_)
  ·
    simp at q0
    refine idx_rd hp ?_ ?_ fun b1 o1 hb1 => ?_
    · omega
    · omega
    refine load_allN 0 (k) rfl hp ?_ ?_ hb1 rfl (mem_at 0 rfl) fun l2 hl2 => ?_
    · omega
    · omega
    obtain ⟨rfl, hw2⟩ := hl2; simp only [flStr, flInt, okI] at hw2
    refine VCsplit.intro (fun q3 => ?_) (fun q3 => ?_)
    ·
      simp at q3
      exact ⟨[], ⟨⟨_, rfl, by rw [hasI_at (k := k) (by omega) (by first | assumption | exact Eq.symm (by assumption))]; simp⟩, rfl⟩, .refl _⟩
    ·
      simp at q3
      apply loop_stepA (k + 1, _)
      · exact .refl _
      · repeat' (first | exact trivial | refine ⟨⟨_, rfl, by first | rfl | exact inc_eq _ (by omega) | (refine sl_eq ?_; simp; done), by first | exact trivial | simp [SV.ok]⟩, ?_⟩)
      · exact trivial
      · try dsimp only
        exact ⟨by omega, allK_step ha (not_inI (by first | assumption | exact fun e => absurd e.symm (by assumption)))⟩
      · try dsimp only
        omega
  ·
    simp at q0
    (have hke : k = xs.length := (by omega); subst hke; exact ⟨[], ⟨⟨_, rfl, by rw [hasI_none ha]; decide⟩, rfl⟩, .refl _⟩)
--@ct slices.Contains[[]int,int] val sContainsI_ct _ _ _ $1 _ | %1
theorem sContainsI_ct (b : Option Addr) (m c : Nat) (xs : List Int) (v : Int) :
    Ct Tryz.prog 77 [.slice b m c, .int .i64 v] [] (fun H => (gSl 3 gI).rd H [.slice b m c] xs)
      (fun w A => w = .bool (hasI xs v) ∧ A = []) := by
  refine Ct.intro0 G_ok Tryz.func77 rfl rfl rfl fun E H hp => ?_
  refine call_val (sIndexI_ct _ _ _ (xs) _) (Rp.mono _ (mem_at 0 rfl) hp) ?_
  rintro _ ⟨k, rfl, hk⟩
  exact ⟨[], ⟨by rw [← hk], rfl⟩, .refl _⟩
/-! both sides find a row's cells alike -/
theorem hasI_same {s : List Int} {al : Nat → Int → Bool} {c : Int} (hs : shOk s = true) (h4 : 1 ≤ s.length ∧ s.length ≤ 4) (h : 0 ≤ c ∧ c < cellsM s) : hasI (targK s al (cellsM s).toNat) c = hasI (outT s al s.length) c := by
  have hp : c < prodK s s.length := by rw [cells_yes h4 hs] at h; exact h.2
  have h1 := fits_outT (al := al) (shK_all hs) ⟨h.1, hp⟩
  unfold hasI
  rw [decide_eq_decide, h1]
  unfold targK
  rw [List.mem_filter, List.mem_map]
  constructor
  · rintro ⟨_, h2⟩; exact h2
  · intro h2
    exact ⟨⟨c.toNat, List.mem_range.2 (by omega), by omega⟩, h2⟩
end Go.Proofs.YtjgehblllhkdbaaGreat

--@dev import Derived.Test.YtjgehblllhkdbaaGreatSxWalk
namespace Go.SX
section
variable {α β : Type}
def zRaw (s : Nat) : RawC s := ⟨List.replicate s (.bool false), by simp, by
  induction s with
  | zero => rfl
  | succ s ih => rw [List.replicate_succ]; exact ih⟩
/-- elements as raw cells -/
def gRaw (s : Nat) (hs : 0 < s) : Gt (RawC s) := (flRaw s hs).gt fun _ => zRaw s
def pickL (p : α → Bool) : List β → List α → List β
  | l :: ls, x :: xs => if p x then l :: pickL p ls xs else pickL p ls xs
  | _, _ => []
theorem OwL.pick {g : Gt α} {ls : List (RawC g.size)} {xs : List α} {As : List Hp} (h : OwL g ls xs As) (p : α → Bool) : OwL g (pickL p ls xs) (xs.filter p) (pickL p As xs) := by
  induction h with
  | nil => exact .nil
  | cons h hr ih =>
    rename_i l x A ls xs As
    unfold pickL
    cases e : p x with
    | true => rw [List.filter_cons_of_pos (by simpa using e)]; exact .cons h ih
    | false => rw [List.filter_cons_of_neg (by simp [e])]; exact ih
/-- an element as raw cells, beside what it stands for -/
def rpZip (g : Gt α) : Rp (RawC g.size × α) where
  size := g.size
  rd H l z := l = z.1.1 ∧ g.rd H l z.2
  mono hh h := ⟨h.1, g.mono hh h.2⟩
  len h := g.len h.2
instance (s : Nat) : Inhabited (RawC s) := ⟨⟨List.replicate s (.bool false), by simp, by
  induction s with
  | zero => rfl
  | succ s ih => rw [List.replicate_succ]; exact ih⟩⟩
theorem zip_rd {g : Gt α} {T : TypeId} {v : Value} {ls : List (RawC g.size)} {xs : List α} {A A0 : Hp} {As : List Hp} (ho : Ow (flRaw g.size g.pos) T v ls A0) (hp : A.Perm (A0 ++ As.flatten)) (hl : OwL g ls xs As) : (rpSl (rpZip g)).rd A [v] (ls.zip xs) := by
  obtain ⟨base, cap, e, h1, h2⟩ := ho.rd
  obtain ⟨e1, e2⟩ := hl.len
  have e3 : (ls.zip xs).length = ls.length := by rw [List.length_zip]; omega
  refine ⟨base, cap, by rw [e3]; exact e, by rw [e3]; exact h1, fun i hi => ?_⟩
  obtain ⟨b, o, l', h3, h4, h5⟩ := h2 i (by omega)
  have hsub : ∀ p ∈ A0, p ∈ A := fun p hp' => hp.mem_iff.2 (List.mem_append_left _ hp')
  refine ⟨b, o, l', h3, h4.mono hsub, ?_⟩
  have h6 : l' = (ls[i]'(by omega)).1 := h5.1
  rw [List.getElem_zip]
  refine ⟨h6, ?_⟩
  rw [h6]
  refine g.mono (fun p hp' => hp.mem_iff.2 (List.mem_append_right _ ?_)) (g.owrd (hl.get i (by omega) (by omega) (by omega)))
  exact List.mem_flatten.2 ⟨_, List.getElem_mem _, hp'⟩
end
end Go.SX

namespace Go.Proofs.YtjgehblllhkdbaaGreat
open Go.SX Go.Proofs
set_option linter.unusedSimpArgs false
set_option linter.unusedVariables false
set_option maxHeartbeats 4000000
attribute [local irreducible] IntKind.wrap
abbrev ZI := RawC gItem.size × Item
abbrev gRI : Gt (RawC gItem.size) := gRaw gItem.size gItem.pos
def lsZ (zs : List ZI) : List (RawC gItem.size) := zs.map (·.1)
def rowZ (zs : List ZI) (i : Nat) : List Int := (zs[i]?.getD default).2.row
/-- the row is there already -/
def hitZ (zs : List ZI) (r : List Int) (k : Nat) : Bool := decide (k < zs.length ∧ rowZ zs k = r)
/-- what is copied by the place i; y: what stands at the place k -/
def midZ (zs : List ZI) (r : List Int) (k : Nat) (y : RawC gItem.size) (i : Nat) : List (RawC gItem.size) :=
  if i ≤ k then (lsZ zs).take i else (lsZ zs).take k ++ ([y] ++ ((lsZ zs).take i).drop (if hitZ zs r k then k + 1 else k))
theorem raw_appI {l : List Value} (h : l.length = gItem.size ∧ allOne l = true) : gRI.ow l ⟨l, h⟩ [] := ⟨rfl, trivial, rfl⟩
/-- what stands at the place k -/
def yOk (zs : List ZI) (r : List Int) (t : Int) (k : Nat) (y : RawC gItem.size) (B : Hp) : Prop :=
  if hitZ zs r k then y.1 = (zs[k]?.getD default).1.1.set 1 (.int .i64 (min ((zs[k]?.getD default).2.times + t) 1000000)) ∧ B = [] else gItem.ow y.1 ⟨r, t⟩ B
theorem midZ_zero (zs : List ZI) (r : List Int) (k : Nat) (y : RawC gItem.size) : midZ zs r k y 0 = [] := by unfold midZ; rw [if_pos (Nat.zero_le _)]; rfl
theorem mid_init (zs : List ZI) (r : List Int) (t : Int) (k : Nat) : 0 ≤ zs.length ∧ (0 ≤ k → ([] : Hp) = []) ∧ (k < 0 → yOk zs r t k default []) ∧ (gSl 218 gRI).ow [.slice none (midZ zs r k default 0).length 0] (midZ zs r k default 0) [] := by
  rw [midZ_zero]
  exact ⟨Nat.zero_le _, fun _ => rfl, fun h => absurd h (by omega), sl_nil _ _ _⟩
theorem lsZ_at {zs : List ZI} {i : Nat} {l : List Value} {hr : l.length = gItem.size ∧ allOne l = true} (h : i < zs.length) (e : l = (zs[i]?.getD default).1.1) : (lsZ zs).take (i + 1) = (lsZ zs).take i ++ [⟨l, hr⟩] := by
  have h1 : i < (lsZ zs).length := by unfold lsZ; rw [List.length_map]; exact h
  have h2 : (lsZ zs)[i] = ⟨l, hr⟩ := by
    have h3 : (lsZ zs)[i] = (zs[i]'h).1 := List.getElem_map ..
    rw [h3]
    refine Subtype.ext ?_
    rw [List.getElem?_eq_getElem h] at e
    exact e.symm
  rw [← List.take_append_getElem h1, h2]
theorem lsZ_len (zs : List ZI) : (lsZ zs).length = zs.length := by unfold lsZ; exact List.length_map ..
theorem mid_pre {zs : List ZI} {r : List Int} {k i : Nat} {y : RawC gItem.size} {l : List Value} {hr : l.length = gItem.size ∧ allOne l = true} (hik : i < k) (h : i < zs.length) (e : l = (zs[i]?.getD default).1.1) : midZ zs r k y (i + 1) = midZ zs r k y i ++ [⟨l, hr⟩] := by
  unfold midZ
  rw [if_pos (by omega), if_pos (by omega), lsZ_at (hr := hr) h e]
theorem mid_post {zs : List ZI} {r : List Int} {k i : Nat} {y : RawC gItem.size} {l : List Value} {hr : l.length = gItem.size ∧ allOne l = true} (hik : k < i) (h : i < zs.length) (e : l = (zs[i]?.getD default).1.1) : midZ zs r k y (i + 1) = midZ zs r k y i ++ [⟨l, hr⟩] := by
  unfold midZ
  have h1 : ((lsZ zs).take i).length = i := by rw [List.length_take, lsZ_len]; omega
  have h2 : (if hitZ zs r k then k + 1 else k) ≤ ((lsZ zs).take i).length := by rw [h1]; split <;> omega
  rw [if_neg (show ¬ i + 1 ≤ k by omega), if_neg (show ¬ i ≤ k by omega), lsZ_at (hr := hr) h e, List.drop_append_of_le_length h2]
  simp
theorem mid_hit {zs : List ZI} {r : List Int} {k : Nat} {y y2 : RawC gItem.size} (h : hitZ zs r k = true) : midZ zs r k y2 (k + 1) = midZ zs r k y k ++ [y2] := by
  unfold midZ
  rw [if_neg (by omega), if_pos (Nat.le_refl _), h, if_pos rfl, List.drop_eq_nil_of_le (by rw [List.length_take]; omega)]
  simp
theorem mid_new {zs : List ZI} {r : List Int} {k : Nat} {y y2 : RawC gItem.size} {l : List Value} {hr : l.length = gItem.size ∧ allOne l = true} (h : hitZ zs r k = false) (hk : k < zs.length) (e : l = (zs[k]?.getD default).1.1) : midZ zs r k y2 (k + 1) = midZ zs r k y k ++ [y2] ++ [⟨l, hr⟩] := by
  unfold midZ
  have h1 : ((lsZ zs).take k).length = k := by rw [List.length_take, lsZ_len]; omega
  rw [if_neg (by omega), if_pos (Nat.le_refl _), h, if_neg (by simp), lsZ_at (hr := hr) hk e, List.drop_append_of_le_length (by omega), List.drop_eq_nil_of_le (by omega)]
  simp
theorem mid_end {zs : List ZI} {r : List Int} {k : Nat} {y : RawC gItem.size} (hk : k < zs.length) : midZ zs r k y (zs.length + 1) = midZ zs r k y zs.length := by
  unfold midZ
  rw [if_neg (show ¬ zs.length + 1 ≤ k by omega), if_neg (show ¬ zs.length ≤ k by omega), List.take_of_length_le (i := zs.length + 1) (by rw [lsZ_len]; omega), List.take_of_length_le (i := zs.length) (by rw [lsZ_len]; omega)]
theorem hit_end (zs : List ZI) (r : List Int) : hitZ zs r zs.length = false := by unfold hitZ; rw [decide_eq_false (by omega)]
theorem mid_last {zs : List ZI} {r : List Int} {y y2 : RawC gItem.size} : midZ zs r zs.length y2 (zs.length + 1) = midZ zs r zs.length y zs.length ++ [y2] := by
  unfold midZ
  rw [if_neg (by omega), if_pos (Nat.le_refl _), hit_end, if_neg (by simp), List.drop_eq_nil_of_le (by rw [List.length_take, lsZ_len]; omega)]
  simp
theorem mid_len (zs : List ZI) (r : List Int) (k : Nat) (y : RawC gItem.size) (i : Nat) : (midZ zs r k y i).length ≤ zs.length + 1 := by
  unfold midZ
  split
  · rw [List.length_take, lsZ_len]; omega
  · simp only [List.length_append, List.length_take, List.length_drop, List.length_cons, List.length_nil, lsZ_len]
    split <;> omega
theorem mid_le1 {zs : List ZI} {r : List Int} {k : Nat} {y : RawC gItem.size} {i : Nat} (hx : zs.length ≤ 1000000) : (midZ zs r k y i).length + 1 ≤ 1073741824 := by have := mid_len zs r k y i; omega
theorem mid_le2 {zs : List ZI} {r : List Int} {k : Nat} {y y2 : RawC gItem.size} {i : Nat} (hx : zs.length ≤ 1000000) : (midZ zs r k y i ++ [y2]).length + 1 ≤ 1073741824 := by have := mid_len zs r k y i; rw [List.length_append]; simp only [List.length_cons, List.length_nil]; omega
theorem bool_t {k i : Nat} (h : k < i) : Value.bool true = Value.bool (decide (k < i)) := by rw [decide_eq_true h]
theorem bool_t2 {k i j : Nat} (h : k < i) (h2 : k < j) : Value.bool (decide (k < i)) = Value.bool (decide (k < j)) := by rw [decide_eq_true h, decide_eq_true h2]
theorem bool_t3 {k i j : Nat} (h : ¬ k < i) (h2 : ¬ k < j) : Value.bool (decide (k < i)) = Value.bool (decide (k < j)) := by rw [decide_eq_false h, decide_eq_false h2]
theorem yOk_hit {zs : List ZI} {r : List Int} {t v w : Int} {k n c : Nat} {b : Option Addr} {hr : ([Value.slice b n c, .int .i64 v]).length = gItem.size ∧ allOne [Value.slice b n c, .int .i64 v] = true} (hh : hitZ zs r k = true) (e : [Value.slice b n c, .int .i64 w] = (zs[k]?.getD default).1.1) (h : v = min ((zs[k]?.getD default).2.times + t) 1000000) : yOk zs r t k ⟨[.slice b n c, .int .i64 v], hr⟩ [] := by
  unfold yOk; rw [hh, if_pos rfl, ← e, h]; exact ⟨rfl, rfl⟩
theorem yOk_new {zs : List ZI} {r : List Int} {t : Int} {k c : Nat} {b : Option Addr} {A : Hp} {hr : ([Value.slice b r.length c, .int .i64 t]).length = gItem.size ∧ allOne [Value.slice b r.length c, .int .i64 t] = true} (hh : hitZ zs r k = false) (o : (gSl 3 gI).ow [.slice b r.length c] r A) (ht : 1 ≤ t ∧ t ≤ 1000000) : yOk zs r t k ⟨[.slice b r.length c, .int .i64 t], hr⟩ A := by
  unfold yOk; rw [hh, if_neg (by simp)]; exact item_ow9 o ht
theorem cap1 {a : Int} (h : 1 ≤ a ∧ a ≤ 2000000) (h2 : 1000000 < IntKind.i64.wrap a) : 1000000 = min a 1000000 := by rw [wrap_of (x := a) (by omega) (by omega)] at h2; omega
theorem cap2 {a : Int} (h : 1 ≤ a ∧ a ≤ 2000000) (h2 : IntKind.i64.wrap a ≤ 1000000) : IntKind.i64.wrap a = min a 1000000 := by rw [wrap_of (x := a) (by omega) (by omega)] at *; omega
theorem low_ne {a r : List Int} (h : cmpL a r < 0) : ¬ a = r := fun e => by rw [cmpL_zero.2 e] at h; omega
theorem low_less {a r : List Int} (h : cmpL a r < 0) : rowLess r a = false := by
  unfold rowLess; rw [decide_eq_false_iff_not]; intro h2; have := cmpL_sw.1 h2; omega
theorem hi_less {a r : List Int} (h : ¬ cmpL a r < 0) (h2 : ¬ a = r) : rowLess r a = true := by
  unfold rowLess; rw [decide_eq_true_iff, cmpL_sw]
  have : ¬ cmpL a r = 0 := fun e => h2 (cmpL_zero.1 e)
  omega
theorem at_hit {zs : List ZI} {r : List Int} {k i : Nat} (hlo : ∀ i, i < k → cmpL (rowZ zs i) r < 0) (hik : i ≤ k) (h : i < zs.length) (e : (zs[i]?.getD default).2.row = r) : k = i ∧ hitZ zs r k = true := by
  have hk : k = i := by
    rcases Nat.lt_or_ge i k with h1 | h1
    · exact absurd e (low_ne (hlo i h1))
    · omega
  subst hk
  exact ⟨rfl, decide_eq_true ⟨h, e⟩⟩
theorem at_new {zs : List ZI} {r : List Int} {k i : Nat} (hlo : ∀ i, i < k → cmpL (rowZ zs i) r < 0) (hik : i ≤ k) (e : ¬ (zs[i]?.getD default).2.row = r) (h2 : rowLess r (zs[i]?.getD default).2.row = true) : k = i ∧ hitZ zs r k = false := by
  have hk : k = i := by
    rcases Nat.lt_or_ge i k with h1 | h1
    · have := low_less (hlo i h1); unfold rowZ at this; rw [h2] at this; cases this
    · omega
  subst hk
  exact ⟨rfl, decide_eq_false fun h => e h.2⟩
theorem at_low {zs : List ZI} {r : List Int} {k i : Nat} (hhi : ∀ i, k ≤ i → i < zs.length → ¬ cmpL (rowZ zs i) r < 0) (hik : i ≤ k) (h : i < zs.length) (e : ¬ (zs[i]?.getD default).2.row = r) (h2 : rowLess r (zs[i]?.getD default).2.row = false) : i < k := by
  rcases Nat.lt_or_ge i k with h1 | h1
  · exact h1
  · have h3 : rowLess r (zs[i]?.getD default).2.row = true := hi_less (hhi i h1 h) e
    rw [h2] at h3; cases h3
theorem l03PutRaw_ct (b : Option Addr) (m c : Nat) (b2 : Option Addr) (m2 c2 : Nat) (zs : List ZI) (r : List Int) (t : Int) (k : Nat) (hx : zs.length ≤ 1000000) (hr : r.length ≤ 1000) (ht : 1 ≤ t ∧ t ≤ 1000000)
    (hxt : ∀ i, i < zs.length → 1 ≤ (zs[i]?.getD default).2.times ∧ (zs[i]?.getD default).2.times ≤ 1000000)
    (hk : k ≤ zs.length) (hlo : ∀ i, i < k → cmpL (rowZ zs i) r < 0) (hhi : ∀ i, k ≤ i → i < zs.length → ¬ cmpL (rowZ zs i) r < 0) :
    Ct Tryz.prog 68 [.agg ⟨[.slice b m c]⟩, .slice b2 m2 c2, .int .i64 t] [] (fun H => (rpSl (rpZip gItem)).rd H [.slice b m c] zs ∧ (gSl 3 gI).rd H [.slice b2 m2 c2] r)
      (fun v A => ∃ b' c' y A1 B, v = .agg ⟨[.slice b' (midZ zs r k y (zs.length + 1)).length c']⟩ ∧ A = A1 ++ B ∧ yOk zs r t k y B ∧ (gSl 218 gRI).ow [.slice b' (midZ zs r k y (zs.length + 1)).length c'] (midZ zs r k y (zs.length + 1)) A1) := by
  refine Ct.intro0 G_ok Tryz.func68 rfl rfl rfl fun E H hp => ?_
  obtain ⟨hp, hp2⟩ := hp
  obtain ⟨rfl, hl⟩ := rd_len hp
  have hcl := rd_cap hp
  refine VCnew.intro fun x0 => ?_
  refine VCnew.intro fun x1 => ?_
  refine VCnew.intro fun x2 => ?_
  apply loop_mod (α := (Nat) × (RawC gItem.size) × (Hp) × (Hp) × (Option Addr) × (Nat)) G_ok [12, 13, 14, 15, 16, 19, 20, 21, 22, 23, 10, 24, 25, 26, 27, 28, 29, 30, 31, 32, 33, 34, 35, 36, 37, 38, 39, 40, 8, 41, 42, 43, 44, 45, 46, 47, 48, 49, 50, 51, 52, 53, 54, 55, 56, 57, 58, 59, 60, 61, 62, 63, 64, 17, 18, 9] (fun z => [(9, .v (.int .i64 z.1)), (8, .v (.bool (decide (k < z.1))))]) (fun z => [⟨x0, [Value.slice b zs.length c], (33 : Nat)⟩, ⟨x1, [Value.slice none (0 : Nat) (0 : Nat)], (33 : Nat)⟩, ⟨x2, [.slice z.2.2.2.2.1 (midZ zs r k z.2.1 z.1).length z.2.2.2.2.2], (33 : Nat)⟩]) (fun z => [z.2.2.2.1, z.2.2.1, H]) (fun z => zs.length - z.1) (fun z => z.1 ≤ zs.length ∧ (z.1 ≤ k → z.2.2.1 = []) ∧ (k < z.1 → yOk zs r t k z.2.1 z.2.2.1) ∧ (gSl 218 gRI).ow [.slice z.2.2.2.2.1 (midZ zs r k z.2.1 z.1).length z.2.2.2.2.2] (midZ zs r k z.2.1 z.1) z.2.2.2.1) ((0, default, [], [], none, 0))
  · repeat' (first | exact trivial | refine ⟨⟨_, rfl, by first | rfl | exact inc_eq _ (by omega) | (refine sl_eq ?_; simp; done) | (exact sl_eq (congrArg List.length (mid_hit (by assumption)))) | (exact sl_eq (congrArg List.length (mid_new (by assumption) (by omega) (by assumption)))) | exact bool_t (Nat.lt_succ_self _) | exact bool_t2 (by omega) (by omega) | exact bool_t3 (by omega) (by omega) | (exact sl_eq (congrArg List.length (mid_pre ‹i < k› (by omega) (by assumption)))) | (exact sl_eq (congrArg List.length (mid_post ‹k < i› (by omega) (by assumption)))), by first | exact trivial | simp [SV.ok]⟩, ?_⟩)
  · exact ⟨rfl, rfl, rfl, trivial⟩
  · try dsimp only
    exact mid_init zs r t k
  · exact .refl _
  rintro ⟨i, y, B, A, lb, lc⟩ hI
  obtain ⟨hi, hB, hy, oA⟩ : i ≤ zs.length ∧ (i ≤ k → B = []) ∧ (k < i → yOk zs r t k y B) ∧ (gSl 218 gRI).ow [.slice lb (midZ zs r k y i).length lc] (midZ zs r k y i) A := hI
  try dsimp only
  refine VCsplit.intro (fun q3 => ?_) (fun q3 => ?_)
  ·
    simp at q3
    refine idx_rd hp ?_ ?_ fun b4 o4 hb4 => ?_
    · omega
    · omega
    refine load_allN default (i) rfl hp ?_ ?_ hb4 rfl (mem_at 2 rfl) fun l5 hl5 => ?_
    · omega
    · omega
    obtain ⟨e5, hl5⟩ := hl5
    obtain ⟨b0x5, c0x5, rfl, h0x5, w1x5⟩ := gItem_rd.1 hl5
    refine VCnew.intro fun x6 => ?_
    refine VCsplit.intro (fun q7 => ?_) (fun q7 => ?_)
    ·
      simp at q7
      refine call_val (l03Same_ct _ _ _ _ _ _ ((zs[i]?.getD default).snd.row) (r)) ⟨(Rp.mono _ (mem_at 2 rfl) h0x5), (Rp.mono _ (mem_at 2 rfl) hp2)⟩ ?_
      rintro _ rfl
      refine VCsplit.intro (fun q9 => ?_) (fun q9 => ?_)
      ·
        simp at q9
        refine VCsplit.intro (fun q10 => ?_) (fun q10 => ?_)
        ·
          simp at q10
          obtain ⟨hik, hht⟩ := at_hit hlo ‹i ≤ k› (by assumption) (by assumption)
          subst hik
          refine VCnew.intro fun x11 => ?_
          refine gappend1 (g := gRI) (T := (218 : TypeId)) G_ok A [] [B, H] ?_ oA (raw_appI (by first | exact raw_of ‹gItem.rd _ _ _› | exact ⟨rfl, rfl⟩)) (List.mem_of_getElem? (i := 0) rfl) rfl rfl rfl rfl rfl rfl rfl rfl ?_ fun b12 c12 A12 o12 => ?_
          · exact .tl
          · exact mid_le1 hx
          apply loop_stepI (k + 1, ⟨[Value.slice b0x5 (zs[k]?.getD default).snd.row.length c0x5, Value.int .i64 1000000], ⟨rfl, rfl⟩⟩, [], _, _, _)
          · repeat' (first | exact trivial | refine ⟨⟨_, rfl, by first | rfl | exact inc_eq _ (by omega) | (refine sl_eq ?_; simp; done) | (exact sl_eq (congrArg List.length (mid_hit (by assumption)))) | (exact sl_eq (congrArg List.length (mid_new (by assumption) (by omega) (by assumption)))) | exact bool_t (Nat.lt_succ_self _) | exact bool_t2 (by omega) (by omega) | exact bool_t3 (by omega) (by omega) | (exact sl_eq (congrArg List.length (mid_pre ‹i < k› (by omega) (by assumption)))) | (exact sl_eq (congrArg List.length (mid_post ‹k < i› (by omega) (by assumption)))), by first | exact trivial | simp [SV.ok]⟩, ?_⟩)
          · ((first | rw [mid_hit (by assumption)] | rw [mid_new (hr := ⟨rfl, rfl⟩) (by assumption) (by omega) (by assumption)] | rw [mid_pre (hr := ⟨rfl, rfl⟩) ‹i < k› (by omega) (by assumption)] | rw [mid_post (hr := ⟨rfl, rfl⟩) ‹k < i› (by omega) (by assumption)]); repeat' (first | exact trivial | refine ⟨by first | rfl | simp [Blk.ent], ?_⟩))
          · try dsimp only
            (have h9 := hxt k (by assumption); exact ⟨by omega, fun h => absurd h (by omega), fun _ => yOk_hit hht (by assumption) (cap1 (by omega) (by assumption)), by rw [mid_hit hht]; assumption⟩)
          · exact .le fun a => by (try simp only [setR, List.cons_append, List.nil_append]); simp only [List.flatten_append, List.flatten_cons, List.flatten_nil, List.count_append, List.count_nil, List.append_nil, List.nil_append]; omega
          · try dsimp only
            omega
        ·
          simp at q10
          obtain ⟨hik, hht⟩ := at_hit hlo ‹i ≤ k› (by assumption) (by assumption)
          subst hik
          refine VCnew.intro fun x13 => ?_
          refine gappend1 (g := gRI) (T := (218 : TypeId)) G_ok A [] [B, H] ?_ oA (raw_appI (by first | exact raw_of ‹gItem.rd _ _ _› | exact ⟨rfl, rfl⟩)) (List.mem_of_getElem? (i := 0) rfl) rfl rfl rfl rfl rfl rfl rfl rfl ?_ fun b14 c14 A14 o14 => ?_
          · exact .tl
          · exact mid_le1 hx
          apply loop_stepI (k + 1, ⟨[Value.slice b0x5 (zs[k]?.getD default).snd.row.length c0x5, Value.int .i64 (IntKind.i64.wrap ((zs[k]?.getD default).snd.times + t))], ⟨rfl, rfl⟩⟩, [], _, _, _)
          · repeat' (first | exact trivial | refine ⟨⟨_, rfl, by first | rfl | exact inc_eq _ (by omega) | (refine sl_eq ?_; simp; done) | (exact sl_eq (congrArg List.length (mid_hit (by assumption)))) | (exact sl_eq (congrArg List.length (mid_new (by assumption) (by omega) (by assumption)))) | exact bool_t (Nat.lt_succ_self _) | exact bool_t2 (by omega) (by omega) | exact bool_t3 (by omega) (by omega) | (exact sl_eq (congrArg List.length (mid_pre ‹i < k› (by omega) (by assumption)))) | (exact sl_eq (congrArg List.length (mid_post ‹k < i› (by omega) (by assumption)))), by first | exact trivial | simp [SV.ok]⟩, ?_⟩)
          · ((first | rw [mid_hit (by assumption)] | rw [mid_new (hr := ⟨rfl, rfl⟩) (by assumption) (by omega) (by assumption)] | rw [mid_pre (hr := ⟨rfl, rfl⟩) ‹i < k› (by omega) (by assumption)] | rw [mid_post (hr := ⟨rfl, rfl⟩) ‹k < i› (by omega) (by assumption)]); repeat' (first | exact trivial | refine ⟨by first | rfl | simp [Blk.ent], ?_⟩))
          · try dsimp only
            (have h9 := hxt k (by assumption); exact ⟨by omega, fun h => absurd h (by omega), fun _ => yOk_hit hht (by assumption) (cap2 (by omega) (by assumption)), by rw [mid_hit hht]; assumption⟩)
          · exact .le fun a => by (try simp only [setR, List.cons_append, List.nil_append]); simp only [List.flatten_append, List.flatten_cons, List.flatten_nil, List.count_append, List.count_nil, List.append_nil, List.nil_append]; omega
          · try dsimp only
            omega
      ·
        simp at q9
        refine VCsplit.intro (fun q15 => ?_) (fun q15 => ?_)
        ·
          simp at q15
          refine call_val (specRowLess_ct _ _ _ _ _ _ (r) ((zs[i]?.getD default).snd.row)) ⟨(Rp.mono _ (mem_at 2 rfl) hp2), (Rp.mono _ (mem_at 2 rfl) h0x5)⟩ ?_
          rintro _ rfl
          refine VCsplit.intro (fun q17 => ?_) (fun q17 => ?_)
          ·
            obtain ⟨hik, hht⟩ := at_new hlo ‹i ≤ k› (by assumption) (by assumption)
            subst hik
            refine draw G_ok mixed (some 8) (.q 0 (.q 1 (.q 3 (.q 5 (.f 2 (.f 4 (.q 6 (.f 7 (.tl 8 (.f 9 (.f 10 (.nil)))))))))))) (by decide +kernel) ?_
            refine VCnew.intro fun x18 => ?_
            refine VC.intro ?_ ?_
            · exact keep_new
            refine append_allN (g := gI) (T := (3 : TypeId)) G_ok (by repeat (first | exact fl_plain | apply plain_iso | apply plain_pair)) [] [[(x18, Obj.cells { toList := zeros (0 : Nat) [Value.int IntKind.i64 (0 : Int)] } (3 : TypeId))], A, B, H] 3 ?_ (sl_nil _ _ _) rfl hp2 rfl rfl rfl rfl rfl rfl rfl rfl ?_ fun b19 c19 A19 o19 => ?_
            · exact .refl _
            · simp; omega
            refine VC.intro ?_ ?_
            · exact keep_sub (by simp) (by simp)
            refine VCnew.intro fun x20 => ?_
            refine VC.intro ?_ ?_
            · exact keep_new
            refine gappend1 (g := gRI) (T := (218 : TypeId)) G_ok A [] [A19, [(x18, Obj.cells { toList := zeros (0 : Nat) [Value.int IntKind.i64 (0 : Int)] } (3 : TypeId))], B, H] ?_ oA (raw_appI (by first | exact raw_of ‹gItem.rd _ _ _› | exact ⟨rfl, rfl⟩)) (List.mem_of_getElem? (i := 0) rfl) rfl rfl rfl rfl rfl rfl rfl rfl ?_ fun b21 c21 A21 o21 => ?_
            · exact .le fun a => by (try simp only [setR, List.cons_append, List.nil_append]); simp only [List.flatten_append, List.flatten_cons, List.flatten_nil, List.count_append, List.count_nil, List.append_nil, List.nil_append]; omega
            · exact mid_le1 hx
            refine VCnew.intro fun x22 => ?_
            refine gappend1 (g := gRI) (T := (218 : TypeId)) G_ok A21 [] [A19, [(x18, Obj.cells { toList := zeros (0 : Nat) [Value.int IntKind.i64 (0 : Int)] } (3 : TypeId))], B, H] ?_ o21 (raw_appI (by first | exact raw_of ‹gItem.rd _ _ _› | exact ⟨rfl, rfl⟩)) (List.mem_of_getElem? (i := 0) rfl) rfl rfl rfl rfl rfl rfl rfl rfl ?_ fun b23 c23 A23 o23 => ?_
            · exact .tl
            · exact mid_le2 hx
            apply loop_stepA (k + 1, ⟨[Value.slice b19 ([] ++ r).length c19, Value.int .i64 t], ⟨rfl, rfl⟩⟩, _, _, _, _)
            · exact .sub (by repeat (first | exact .slnil | apply List.Sublist.cons_cons | apply List.Sublist.cons))
            · repeat' (first | exact trivial | refine ⟨⟨_, rfl, by first | rfl | exact inc_eq _ (by omega) | (refine sl_eq ?_; simp; done) | (exact sl_eq (congrArg List.length (mid_hit (by assumption)))) | (exact sl_eq (congrArg List.length (mid_new (by assumption) (by omega) (by assumption)))) | exact bool_t (Nat.lt_succ_self _) | exact bool_t2 (by omega) (by omega) | exact bool_t3 (by omega) (by omega) | (exact sl_eq (congrArg List.length (mid_pre ‹i < k› (by omega) (by assumption)))) | (exact sl_eq (congrArg List.length (mid_post ‹k < i› (by omega) (by assumption)))), by first | exact trivial | simp [SV.ok]⟩, ?_⟩)
            · ((first | rw [mid_hit (by assumption)] | rw [mid_new (hr := ⟨rfl, rfl⟩) (by assumption) (by omega) (by assumption)] | rw [mid_pre (hr := ⟨rfl, rfl⟩) ‹i < k› (by omega) (by assumption)] | rw [mid_post (hr := ⟨rfl, rfl⟩) ‹k < i› (by omega) (by assumption)]); repeat' (first | exact trivial | refine ⟨by first | rfl | simp [Blk.ent], ?_⟩))
            · try dsimp only
              exact ⟨by omega, fun h => absurd h (by omega), fun _ => yOk_new hht (by assumption) ht, by rw [mid_new hht (by omega) (by assumption)]; assumption⟩
            · try dsimp only
              omega
          ·
            have hik := at_low hhi ‹i ≤ k› (by omega) (by assumption) (by assumption)
            refine VCnew.intro fun x24 => ?_
            refine gappend1 (g := gRI) (T := (218 : TypeId)) G_ok A [] [B, H] ?_ oA (raw_appI (by first | exact raw_of ‹gItem.rd _ _ _› | exact ⟨rfl, rfl⟩)) (List.mem_of_getElem? (i := 0) rfl) rfl rfl rfl rfl rfl rfl rfl rfl ?_ fun b25 c25 A25 o25 => ?_
            · exact .tl
            · exact mid_le1 hx
            apply loop_stepA (i + 1, y, B, _, _, _)
            · exact .refl _
            · repeat' (first | exact trivial | refine ⟨⟨_, rfl, by first | rfl | exact inc_eq _ (by omega) | (refine sl_eq ?_; simp; done) | (exact sl_eq (congrArg List.length (mid_hit (by assumption)))) | (exact sl_eq (congrArg List.length (mid_new (by assumption) (by omega) (by assumption)))) | exact bool_t (Nat.lt_succ_self _) | exact bool_t2 (by omega) (by omega) | exact bool_t3 (by omega) (by omega) | (exact sl_eq (congrArg List.length (mid_pre ‹i < k› (by omega) (by assumption)))) | (exact sl_eq (congrArg List.length (mid_post ‹k < i› (by omega) (by assumption)))), by first | exact trivial | simp [SV.ok]⟩, ?_⟩)
            · ((first | rw [mid_hit (by assumption)] | rw [mid_new (hr := ⟨rfl, rfl⟩) (by assumption) (by omega) (by assumption)] | rw [mid_pre (hr := ⟨rfl, rfl⟩) ‹i < k› (by omega) (by assumption)] | rw [mid_post (hr := ⟨rfl, rfl⟩) ‹k < i› (by omega) (by assumption)]); repeat' (first | exact trivial | refine ⟨by first | rfl | simp [Blk.ent], ?_⟩))
            · try dsimp only
              exact ⟨by omega, fun _ => hB (by omega), fun h => absurd h (by omega), by rw [mid_pre ‹i < k› (by omega) (by assumption)]; assumption⟩
            · try dsimp only
              omega
        ·
          simp at q15
          exfalso; omega
    ·
      simp at q7
      refine VCsplit.intro (fun q26 => ?_) (fun q26 => ?_)
      ·
        simp at q26
        exfalso; omega
      ·
        simp at q26
        refine VCnew.intro fun x27 => ?_
        refine gappend1 (g := gRI) (T := (218 : TypeId)) G_ok A [] [B, H] ?_ oA (raw_appI (by first | exact raw_of ‹gItem.rd _ _ _› | exact ⟨rfl, rfl⟩)) (List.mem_of_getElem? (i := 0) rfl) rfl rfl rfl rfl rfl rfl rfl rfl ?_ fun b28 c28 A28 o28 => ?_
        · exact .tl
        · exact mid_le1 hx
        apply loop_stepA (i + 1, y, B, _, _, _)
        · exact .refl _
        · repeat' (first | exact trivial | refine ⟨⟨_, rfl, by first | rfl | exact inc_eq _ (by omega) | (refine sl_eq ?_; simp; done) | (exact sl_eq (congrArg List.length (mid_hit (by assumption)))) | (exact sl_eq (congrArg List.length (mid_new (by assumption) (by omega) (by assumption)))) | exact bool_t (Nat.lt_succ_self _) | exact bool_t2 (by omega) (by omega) | exact bool_t3 (by omega) (by omega) | (exact sl_eq (congrArg List.length (mid_pre ‹i < k› (by omega) (by assumption)))) | (exact sl_eq (congrArg List.length (mid_post ‹k < i› (by omega) (by assumption)))), by first | exact trivial | simp [SV.ok]⟩, ?_⟩)
        · ((first | rw [mid_hit (by assumption)] | rw [mid_new (hr := ⟨rfl, rfl⟩) (by assumption) (by omega) (by assumption)] | rw [mid_pre (hr := ⟨rfl, rfl⟩) ‹i < k› (by omega) (by assumption)] | rw [mid_post (hr := ⟨rfl, rfl⟩) ‹k < i› (by omega) (by assumption)]); repeat' (first | exact trivial | refine ⟨by first | rfl | simp [Blk.ent], ?_⟩))
        · try dsimp only
          exact ⟨by omega, fun _ => absurd ‹k < i› (by omega), fun _ => hy (by omega), by rw [mid_post ‹k < i› (by omega) (by assumption)]; assumption⟩
        · try dsimp only
          omega
  ·
    simp at q3
    refine VCsplit.intro (fun q29 => ?_) (fun q29 => ?_)
    ·
      simp at q29
      have hke : k = zs.length := by omega
      have hie : i = zs.length := by omega
      subst hke
      subst hie
      refine draw G_ok mixed (some 8) (.q 0 (.q 1 (.q 3 (.q 5 (.f 2 (.f 4 (.q 6 (.f 7 (.tl 8 (.f 9 (.f 10 (.nil)))))))))))) (by decide +kernel) ?_
      refine VCnew.intro fun x30 => ?_
      refine VC.intro ?_ ?_
      · exact keep_new
      refine append_allN (g := gI) (T := (3 : TypeId)) G_ok (by repeat (first | exact fl_plain | apply plain_iso | apply plain_pair)) [] [[(x30, Obj.cells { toList := zeros (0 : Nat) [Value.int IntKind.i64 (0 : Int)] } (3 : TypeId))], A, B, H] 3 ?_ (sl_nil _ _ _) rfl hp2 rfl rfl rfl rfl rfl rfl rfl rfl ?_ fun b31 c31 A31 o31 => ?_
      · exact .refl _
      · simp; omega
      refine VC.intro ?_ ?_
      · exact keep_sub (by simp) (by simp)
      refine VCnew.intro fun x32 => ?_
      refine VC.intro ?_ ?_
      · exact keep_new
      refine gappend1 (g := gRI) (T := (218 : TypeId)) G_ok A [] [A31, [(x30, Obj.cells { toList := zeros (0 : Nat) [Value.int IntKind.i64 (0 : Int)] } (3 : TypeId))], B, H] ?_ oA (raw_appI (by first | exact raw_of ‹gItem.rd _ _ _› | exact ⟨rfl, rfl⟩)) (List.mem_of_getElem? (i := 0) rfl) rfl rfl rfl rfl rfl rfl rfl rfl ?_ fun b33 c33 A33 o33 => ?_
      · exact .le fun a => by (try simp only [setR, List.cons_append, List.nil_append]); simp only [List.flatten_append, List.flatten_cons, List.flatten_nil, List.count_append, List.count_nil, List.append_nil, List.nil_append]; omega
      · exact mid_le1 hx
      try dsimp only
      exact ⟨_, ⟨b33, c33, ⟨[Value.slice b31 ([] ++ r).length c31, Value.int .i64 t], ⟨rfl, rfl⟩⟩, A33, A31, congrArg (fun n => Value.agg ⟨[.slice b33 n c33]⟩) (congrArg List.length (mid_last (y := y)).symm), rfl, yOk_new (hit_end zs r) (by assumption) ht, (by rw [mid_last (y := y)]; exact o33)⟩, (.le fun a => by (try simp only [setR, List.cons_append, List.nil_append]); simp [List.count_cons, Blk.ent, idOf]; try omega)⟩
    ·
      simp at q29
      have hie : i = zs.length := by omega
      subst hie
      have hme := mid_end (r := r) (y := y) ‹k < zs.length›
      exact ⟨_, ⟨_, _, y, A, B, (by rw [hme]), rfl, hy (by omega), (by rw [hme]; exact oA)⟩, (.le fun a => by (try simp only [setR, List.cons_append, List.nil_append]); simp [List.count_cons, Blk.ent, idOf]; try omega)⟩
end Go.Proofs.YtjgehblllhkdbaaGreat

--@dev import Derived.Test.YtjgehblllhkdbaaGreatSxWalk
namespace Go.Proofs.YtjgehblllhkdbaaGreat
open Go.SX Go.Proofs
set_option maxHeartbeats 4000000
attribute [local irreducible] IntKind.wrap
/-- r put at its place k -/
def putZ (xs : List Item) (r : List Int) (t : Int) (k : Nat) : List Item :=
  if k < xs.length ∧ rowI xs k = r then xs.take k ++ ([⟨(xs[k]?.getD default).row, min ((xs[k]?.getD default).times + t) 1000000⟩] ++ xs.drop (k + 1)) else xs.take k ++ ([⟨r, t⟩] ++ xs.drop k)
theorem zip_at2 {ls : List (RawC gItem.size)} {xs : List Item} (h : ls.length = xs.length) (i : Nat) (hi : i < xs.length) : ((ls.zip xs)[i]?.getD default) = (ls[i]'(by omega), xs[i]'hi) := by
  have h1 : i < (ls.zip xs).length := by rw [List.length_zip]; omega
  rw [List.getElem?_eq_getElem h1, Option.getD_some, List.getElem_zip]
theorem zip_row {ls : List (RawC gItem.size)} {xs : List Item} (h : ls.length = xs.length) (i : Nat) (hi : i < xs.length) : rowZ (ls.zip xs) i = rowI xs i := by
  unfold rowZ rowI
  rw [zip_at2 h i hi, List.getElem?_eq_getElem hi]; rfl
theorem lsZ_zip {ls : List (RawC gItem.size)} {xs : List Item} (h : ls.length = xs.length) : lsZ (ls.zip xs) = ls := by
  unfold lsZ; exact List.map_fst_zip (by omega)
theorem zip_hit {ls : List (RawC gItem.size)} {xs : List Item} (h : ls.length = xs.length) (r : List Int) (k : Nat) : hitZ (ls.zip xs) r k = decide (k < xs.length ∧ rowI xs k = r) := by
  unfold hitZ
  have hz : (ls.zip xs).length = xs.length := by rw [List.length_zip]; omega
  rw [decide_eq_decide, hz]
  constructor
  · rintro ⟨h1, h2⟩; rw [zip_row h k h1] at h2; exact ⟨h1, h2⟩
  · rintro ⟨h1, h2⟩; rw [← zip_row h k h1] at h2; exact ⟨h1, h2⟩
theorem item_cap {l : List Value} {x : Item} {A : Hp} {v : Int} (h : gItem.ow l x A) (hv : okI v) : gItem.ow (l.set 1 (.int .i64 v)) ⟨x.row, v⟩ A := by
  obtain ⟨b0, c0, A0, rfl, hp, ho, _⟩ := gItem_ow.1 h
  exact gItem_ow.2 ⟨b0, c0, A0, rfl, hp, ho, hv⟩
/-- the new row owns what its items own -/
theorem mid_ow {ls : List (RawC gItem.size)} {xs : List Item} {As : List Hp} {r : List Int} {t : Int} {k : Nat} {y : RawC gItem.size} {B : Hp} (hL : OwL gItem ls xs As) (hk : k ≤ xs.length) (ht : 1 ≤ t ∧ t ≤ 1000000)
    (hxt : ∀ i, i < xs.length → 1 ≤ (xs[i]?.getD default).times ∧ (xs[i]?.getD default).times ≤ 1000000) (hy : yOk (ls.zip xs) r t k y B) :
    ∃ Bs L, OwL gItem (midZ (ls.zip xs) r k y (xs.length + 1)) (putZ xs r t k) Bs ∧ (B ++ As.flatten).Perm (Bs.flatten ++ L) := by
  obtain ⟨e1, e2⟩ := hL.len
  unfold midZ
  rw [if_neg (show ¬ xs.length + 1 ≤ k by omega), lsZ_zip e1, List.take_of_length_le (show ls.length ≤ xs.length + 1 by omega)]
  unfold yOk at hy
  rw [zip_hit e1] at *
  unfold putZ
  by_cases hh : k < xs.length ∧ rowI xs k = r
  · rw [decide_eq_true hh] at *
    rw [if_pos rfl] at *
    rw [if_pos hh]
    obtain ⟨hy, rfl⟩ := hy
    have hg := hL.get k (by omega) (by omega) (by omega)
    have hb := hxt k hh.1
    rw [zip_at2 e1 k hh.1] at hy
    have e3 : xs[k]?.getD default = xs[k]'hh.1 := by rw [List.getElem?_eq_getElem hh.1]; rfl
    rw [e3] at hb ⊢
    have hB := item_cap (v := min ((xs[k]'hh.1).times + t) 1000000) hg (by unfold okI; omega)
    have hy2 : y.val = (ls[k]'(by omega)).val.set 1 (.int .i64 (min ((xs[k]'hh.1).times + t) 1000000)) := hy
    rw [← hy2] at hB
    refine ⟨As.take k ++ ([As[k]'(by omega)] ++ As.drop (k + 1)), [], (hL.take k).append (OwL.append (.cons ?_ .nil) (OwL_dropI hL (k + 1))), ?_⟩
    · exact hB
    · rw [List.nil_append, List.append_nil]
      conv => lhs; rw [← List.take_append_drop k As]
      rw [List.drop_eq_getElem_cons (show k < As.length by omega)]
      exact .refl _
  · rw [decide_eq_false hh] at *
    rw [if_neg (by simp)] at *
    rw [if_neg hh]
    refine ⟨As.take k ++ ([B] ++ As.drop k), [], (hL.take k).append (OwL.append (.cons hy .nil) (OwL_dropI hL k)), ?_⟩
    rw [List.append_nil]
    conv => lhs; rw [← List.take_append_drop k As]
    simp only [List.flatten_append, List.flatten_cons, List.flatten_nil, List.append_nil]
    rw [← List.append_assoc, ← List.append_assoc]
    exact List.perm_append_comm.append_right _
--@ct spec.l03Put own+1 l03Put_ct _ _ _ _ _ _ _ _ _ _ !1o | %2 | rintro _ A# ⟨b#, c#, rfl, o#⟩ ;; refine ⟨[A#], by simp, ?_⟩
theorem l03Put_ct (b : Option Addr) (m c : Nat) (b2 : Option Addr) (m2 c2 : Nat) (xs : List Item) (A : Hp) (r : List Int) (t : Int) (k : Nat) (hA : (gSl 218 gItem).ow [.slice b m c] xs A) (hx : xs.length ≤ 1000000) (hr : r.length ≤ 1000) (ht : 1 ≤ t ∧ t ≤ 1000000)
    (hxt : ∀ i, i < xs.length → 1 ≤ (xs[i]?.getD default).times ∧ (xs[i]?.getD default).times ≤ 1000000) (hk : atR xs r k) :
    CtR Tryz.prog 68 [.agg ⟨[.slice b m c]⟩, .slice b2 m2 c2, .int .i64 t] A (fun H => (gSl 3 gI).rd H [.slice b2 m2 c2] r) (fun v D => ∃ b' c', v = .agg ⟨[.slice b' (putZ xs r t k).length c']⟩ ∧ (gSl 218 gItem).ow [.slice b' (putZ xs r t k).length c'] (putZ xs r t k) D) := by
  obtain ⟨v, ls, A0, As, ev, ho, hp, hL⟩ := hA
  cases ev
  obtain ⟨e1, e2⟩ := hL.len
  have hz : (ls.zip xs).length = xs.length := by rw [List.length_zip]; omega
  have hc := l03PutRaw_ct b m c b2 m2 c2 (ls.zip xs) r t k (by omega) hr ht (fun i hi => by rw [zip_at2 e1 i (by omega)]; have := hxt i (by omega); rw [List.getElem?_eq_getElem (by omega : i < xs.length)] at this; exact this) (by have := hk.1; omega)
    (fun i hi => by have := hk.1; rw [zip_row e1 i (by omega)]; exact hk.2.1 i hi) (fun i h1 h2 => by rw [zip_row e1 i (by omega)]; exact hk.2.2 i h1 (by omega))
  refine ⟨hc.1, fun E H w hs hpre => ?_⟩
  have hsub1 : ∀ p ∈ A, p ∈ [] ++ (A ++ H) := fun p h => List.mem_append_right [] (List.mem_append_left _ h)
  have hsub2 : ∀ p ∈ H, p ∈ [] ++ (A ++ H) := fun p h => List.mem_append_right [] (List.mem_append_right _ h)
  refine (hc.2 E (A ++ H) w hs ⟨Rp.mono _ hsub1 (zip_rd ho hp hL), Rp.mono _ hsub2 hpre⟩).mono ?_
  rintro e' w' ⟨v, A2, h1, ⟨b', c', y, A1, B, rfl, rfl, hy, h4⟩, h3⟩
  obtain ⟨Bs, L, h5, h6⟩ := mid_ow hL hk.1 ht hxt hy
  rw [hz] at h1 h4
  have h7 := h5.len.1
  refine ⟨_, A1 ++ Bs.flatten, h1, ⟨b', c', by rw [h7], ?_⟩, ?_⟩
  · rw [← h7]; exact ⟨_, _, A1, Bs, rfl, fl_ow h4, .refl _, h5⟩
  · refine Sat.drop (B := A0 ++ L) (h3.perm ?_)
    classical
    rw [List.perm_iff_count]
    intro a
    have h8 := hp.count_eq a
    have h9 := h6.count_eq a
    simp only [List.count_append] at *; omega
theorem atR_uniq {xs : List Item} {r : List Int} {k j : Nat} (h1 : atR xs r k) (h2 : atR xs r j) : k = j := by
  rcases Nat.lt_trichotomy k j with h | h | h
  · exact absurd (h2.2.1 k h) (h1.2.2 k (Nat.le_refl _) (by have := h2.1; omega))
  · exact h
  · exact absurd (h1.2.1 j h) (h2.2.2 j (Nat.le_refl _) (by have := h1.1; omega))
theorem atR_ex {xs : List Item} {r : List Int} (hs : sortedR xs) : ∀ n, n ≤ xs.length → (∀ q, q < xs.length - n → cmpL (rowI xs q) r < 0) ∨ ∃ k, k ≤ xs.length ∧ (∀ q, q < k → cmpL (rowI xs q) r < 0) ∧ (∀ q, k ≤ q → q < xs.length → ¬ cmpL (rowI xs q) r < 0) := by
  intro n hn
  by_cases h : ∃ k, k ≤ xs.length ∧ (∀ q, q < k → cmpL (rowI xs q) r < 0) ∧ (∀ q, k ≤ q → q < xs.length → ¬ cmpL (rowI xs q) r < 0)
  · exact .inr h
  · left
    have key : ∀ m, m ≤ xs.length → ∀ q, q < m → cmpL (rowI xs q) r < 0 := by
      intro m
      induction m with
      | zero => intro _ q hq; omega
      | succ m ih =>
        intro hm q hq
        have h0 := ih (by omega)
        rcases Nat.lt_or_ge q m with h1 | h1
        · exact h0 q h1
        · rw [show q = m by omega]
          by_cases h2 : cmpL (rowI xs m) r < 0
          · exact h2
          · exact absurd ⟨m, by omega, h0, fun q h3 h4 => aboveR hs h2 q h3 h4⟩ h
    intro q hq
    exact key xs.length (Nat.le_refl _) q (by omega)
theorem atR_some {xs : List Item} {r : List Int} (hs : sortedR xs) : ∃ k, atR xs r k := by
  rcases atR_ex (r := r) hs 0 (by omega) with h | h
  · exact ⟨xs.length, Nat.le_refl _, fun q hq => h q (by omega), fun q h1 h2 => absurd h2 (by omega)⟩
  · exact h
/-- the place (any, where the rows are not sorted) -/
noncomputable def plR (xs : List Item) (r : List Int) : Nat := Classical.epsilon fun k => atR xs r k
theorem plR_at {xs : List Item} {r : List Int} (hs : sortedR xs) : atR xs r (plR xs r) := Classical.epsilon_spec (atR_some hs)
end Go.Proofs.YtjgehblllhkdbaaGreat

--@dev import Derived.Test.YtjgehblllhkdbaaGreatSxWalk
namespace Go.Proofs.YtjgehblllhkdbaaGreat
open Go.SX Go.Proofs
set_option maxHeartbeats 4000000
attribute [local irreducible] IntKind.wrap namesM queryM sharesM ownerOf
def pairV (p : List Int) : Bool := decide (p.length = 2) && (inR 0 11 (p[0]?.getD 0) && inR 0 11 (p[1]?.getD 0))
theorem pairV_iff {p : List Int} : pairV p = true ↔ p.length = 2 ∧ ((0 : Int) ≤ p[0]?.getD 0 ∧ p[0]?.getD 0 ≤ 11) ∧ ((0 : Int) ≤ p[1]?.getD 0 ∧ p[1]?.getD 0 ≤ 11) := by
  unfold pairV; rw [Bool.and_eq_true, Bool.and_eq_true, decide_eq_true_iff, inR_iff, inR_iff]
/-- the row goes to the cell -/
def fitP (x : Query) (s : List Int) (a : Atom) (c : Int) (row : List Int) : Bool := hasI (outT s (alM (namesM x.atoms) (colsM a) row s) s.length) c
noncomputable def stepR (x : Query) (s : List Int) (a : Atom) (c : Int) (ys : List Item) (p : List Int) : List Item :=
  if pairOk a p = true ∧ fitP x s a c (pairRow a p) = true ∧ tmM ys (pairRow a p) = 0 then putZ ys (pairRow a p) 1 (plR ys (pairRow a p)) else ys
noncomputable def rowsK (x : Query) (s : List Int) (a : Atom) (c : Int) (ps : List (List Int)) : List Item := ps.foldl (stepR x s a c) []
theorem rowsK_step {x : Query} {s : List Int} {a : Atom} {c : Int} {ps : List (List Int)} {k : Nat} (h : k < ps.length) : rowsK x s a c (ps.take (k + 1)) = stepR x s a c (rowsK x s a c (ps.take k)) (ps[k]?.getD []) := by
  unfold rowsK
  rw [← List.take_append_getElem h, List.foldl_append, List.getElem?_eq_getElem h]; rfl
theorem stepR_no1 {x : Query} {s : List Int} {a : Atom} {c : Int} {ys : List Item} {p : List Int} (h : pairOk a p = false) : stepR x s a c ys p = ys := if_neg fun e => by rw [h] at e; cases e.1
theorem stepR_no2 {x : Query} {s : List Int} {a : Atom} {c : Int} {ys : List Item} {p : List Int} (h : fitP x s a c (pairRow a p) = false) : stepR x s a c ys p = ys := if_neg fun e => by rw [h] at e; cases e.2.1
theorem stepR_no3 {x : Query} {s : List Int} {a : Atom} {c : Int} {ys : List Item} {p : List Int} (h : ¬ tmM ys (pairRow a p) = 0) : stepR x s a c ys p = ys := if_neg fun e => h e.2.2
theorem stepR_yes {x : Query} {s : List Int} {a : Atom} {c : Int} {ys : List Item} {p : List Int} (h1 : pairOk a p = true) (h2 : fitP x s a c (pairRow a p) = true) (h3 : tmM ys (pairRow a p) = 0) : stepR x s a c ys p = putZ ys (pairRow a p) 1 (plR ys (pairRow a p)) := if_pos ⟨h1, h2, h3⟩
def rowIn (w : Nat) (r : List Int) : Prop := r.length = w ∧ ∀ j, j < w → 0 ≤ (r[j]?.getD 0) ∧ (r[j]?.getD 0) ≤ 11
def InvB (w : Nat) (ys : List Item) : Prop := sortedR ys ∧ ∀ i, i < ys.length → rowIn w (rowI ys i) ∧ (ys[i]?.getD default).times = 1
theorem tm_hit : ∀ {ys : List Item} {r : List Int}, (∀ i, i < ys.length → 1 ≤ (ys[i]?.getD default).times) → (tmM ys r = 0 ↔ ∀ i, i < ys.length → ¬ rowI ys i = r)
  | [], r, _ => ⟨fun _ i hi => absurd hi (by simp), fun _ => rfl⟩
  | x :: t, r, h => by
    have ih := tm_hit (ys := t) (r := r) fun i hi => h (i + 1) (by simpa using hi)
    have h0 : 1 ≤ x.times := h 0 (by simp)
    unfold tmM
    by_cases he : x.row = r
    · rw [if_pos he]
      constructor
      · intro h1; omega
      · intro h1; exact absurd he (h1 0 (by simp))
    · rw [if_neg he, ih]
      constructor
      · intro h1 i hi
        cases i with
        | zero => exact he
        | succ i => exact h1 i (by simpa using hi)
      · intro h1 i hi
        exact h1 (i + 1) (by simpa using hi)
theorem at_place {ys : List Item} {r : List Int} {k : Nat} (hs : sortedR ys) (hk : atR ys r k) {i : Nat} (hi : i < ys.length) (e : rowI ys i = r) : i = k := by
  rcases Nat.lt_trichotomy i k with h | h | h
  · exact absurd e (low_ne (hk.2.1 i h))
  · exact h
  · have := hs k i h hi
    rw [e] at this
    exact absurd this (hk.2.2 k (Nat.le_refl _) (by omega))
theorem tm_place {ys : List Item} {r : List Int} {k : Nat} (hs : sortedR ys) (ht : ∀ i, i < ys.length → 1 ≤ (ys[i]?.getD default).times) (hk : atR ys r k) : tmM ys r = 0 ↔ ¬ (k < ys.length ∧ rowI ys k = r) := by
  rw [tm_hit ht]
  constructor
  · rintro h ⟨h1, h2⟩; exact h k h1 h2
  · intro h i hi e
    have := at_place hs hk hi e
    subst this
    exact h ⟨hi, e⟩
theorem ins_at {ys : List Item} {x : Item} {k : Nat} (hk : k ≤ ys.length) (i : Nat) : (ys.take k ++ ([x] ++ ys.drop k))[i]? = if i < k then ys[i]? else if i = k then some x else ys[i - 1]? := by
  have h1 : (ys.take k).length = k := by rw [List.length_take]; omega
  rcases Nat.lt_trichotomy i k with h | h | h
  · rw [if_pos h, List.getElem?_append_left (by omega), List.getElem?_take_of_lt h]
  · subst h
    rw [if_neg (by omega), if_pos rfl, List.getElem?_append_right (by omega), h1, Nat.sub_self]; rfl
  · rw [if_neg (by omega), if_neg (by omega), List.getElem?_append_right (by omega), h1]
    obtain ⟨j, hj⟩ : ∃ j, i = k + 1 + j := ⟨i - k - 1, by omega⟩
    subst hj
    rw [show k + 1 + j - k = j + 1 by omega, show k + 1 + j - 1 = k + j by omega]
    show (x :: ys.drop k)[j + 1]? = _
    rw [List.getElem?_cons_succ, List.getElem?_drop]
theorem ins_len {ys : List Item} {x : Item} {k : Nat} (hk : k ≤ ys.length) : (ys.take k ++ ([x] ++ ys.drop k)).length = ys.length + 1 := by
  simp only [List.length_append, List.length_take, List.length_drop, List.length_cons, List.length_nil]; omega
theorem ins_row {ys : List Item} {r : List Int} {t : Int} {k : Nat} (hk : k ≤ ys.length) (i : Nat) : rowI (ys.take k ++ ([⟨r, t⟩] ++ ys.drop k)) i = if i < k then rowI ys i else if i = k then r else rowI ys (i - 1) := by
  unfold rowI
  rw [ins_at hk]
  split
  · rfl
  · split <;> rfl
theorem up_place {ys : List Item} {r : List Int} {k : Nat} (hk : atR ys r k) (hn : ¬ (k < ys.length ∧ rowI ys k = r)) (hs : sortedR ys) {i : Nat} (h1 : k ≤ i) (h2 : i < ys.length) : cmpL r (rowI ys i) < 0 := by
  rw [cmpL_sw]
  have h3 := hk.2.2 i h1 h2
  have h4 : ¬ cmpL (rowI ys i) r = 0 := fun e => by
    have h5 := cmpL_zero.1 e
    have h6 := at_place hs hk h2 h5
    subst h6
    exact hn ⟨h2, h5⟩
  omega
theorem ins_sorted {ys : List Item} {r : List Int} {t : Int} {k : Nat} (hs : sortedR ys) (hk : atR ys r k) (hn : ¬ (k < ys.length ∧ rowI ys k = r)) : sortedR (ys.take k ++ ([⟨r, t⟩] ++ ys.drop k)) := by
  intro i j hij hj
  rw [ins_len hk.1] at hj
  rw [ins_row hk.1, ins_row hk.1]
  rcases Nat.lt_trichotomy i k with h | h | h
  · rw [if_pos h]
    rcases Nat.lt_trichotomy j k with h2 | h2 | h2
    · rw [if_pos h2]; exact hs i j hij (by have := hk.1; omega)
    · rw [if_neg (by omega), if_pos h2]; exact hk.2.1 i h
    · rw [if_neg (by omega), if_neg (by omega)]; exact hs i (j - 1) (by omega) (by omega)
  · rw [if_neg (by omega), if_pos h, if_neg (by omega), if_neg (by omega)]
    exact up_place hk hn hs (by omega) (by omega)
  · rw [if_neg (by omega), if_neg (by omega), if_neg (by omega), if_neg (by omega)]
    exact hs (i - 1) (j - 1) (by omega) (by omega)
theorem ins_inv {w : Nat} {ys : List Item} {r : List Int} {k : Nat} (h : InvB w ys) (hr : rowIn w r) (hk : atR ys r k) (hn : ¬ (k < ys.length ∧ rowI ys k = r)) : InvB w (ys.take k ++ ([⟨r, 1⟩] ++ ys.drop k)) := by
  refine ⟨ins_sorted h.1 hk hn, fun i hi => ?_⟩
  rw [ins_len hk.1] at hi
  rw [ins_row hk.1, ins_at hk.1]
  rcases Nat.lt_trichotomy i k with h2 | h2 | h2
  · rw [if_pos h2, if_pos h2]; exact h.2 i (by have := hk.1; omega)
  · rw [if_neg (by omega), if_pos h2, if_neg (by omega), if_pos h2]; exact ⟨hr, rfl⟩
  · rw [if_neg (by omega), if_neg (by omega), if_neg (by omega), if_neg (by omega)]; exact h.2 (i - 1) (by omega)
theorem putZ_new {xs : List Item} {r : List Int} {t : Int} {k : Nat} (h : ¬ (k < xs.length ∧ rowI xs k = r)) : putZ xs r t k = xs.take k ++ ([⟨r, t⟩] ++ xs.drop k) := if_neg h
/-- rows as numbers -/
def codeR (r : List Int) : Int := (r[0]?.getD 0) * 12 + (r[1]?.getD 0)
theorem code_lt {w : Nat} {a b : List Int} (hw : w ≤ 2) (ha : rowIn w a) (hb : rowIn w b) (h : cmpL a b < 0) : codeR a < codeR b := by
  obtain ⟨ha1, ha2⟩ := ha
  obtain ⟨hb1, hb2⟩ := hb
  unfold codeR
  match a, b, ha1, hb1 with
  | [], [], _, _ => simp [cmpL] at h
  | [], _ :: _, h1, h2 => simp at h1 h2; omega
  | _ :: _, [], h1, h2 => simp at h1 h2; omega
  | [x], [y], h1, h2 =>
    simp only [cmpL] at h
    simp at h1
    have := ha2 0 (by omega)
    have := hb2 0 (by omega)
    simp at *
    split at h
    · omega
    · split at h <;> omega
  | [x], _ :: _ :: _, h1, h2 => simp at h1 h2; omega
  | _ :: _ :: _, [y], h1, h2 => simp at h1 h2; omega
  | [x, x2], [y, y2], h1, h2 =>
    simp only [cmpL] at h
    simp at h1
    have a0 := ha2 0 (by omega)
    have b0 := hb2 0 (by omega)
    have a1 := ha2 1 (by omega)
    have b1 := hb2 1 (by omega)
    simp at a0 b0 a1 b1 ⊢
    split at h
    · omega
    · split at h
      · omega
      · split at h
        · omega
        · split at h <;> omega
  | _ :: _ :: _ :: _, _, h1, h2 => simp at h1; omega
  | [_, _], _ :: _ :: _ :: _, h1, h2 => simp at h1 h2; omega
theorem code_rng {w : Nat} {a : List Int} (_ : w ≤ 2) (ha : rowIn w a) : 0 ≤ codeR a ∧ codeR a < 144 := by
  obtain ⟨h1, h2⟩ := ha
  unfold codeR
  have h3 : ∀ j : Nat, 0 ≤ (a[j]?.getD 0) ∧ (a[j]?.getD 0) ≤ 11 := fun j => by
    rcases Nat.lt_or_ge j w with h | h
    · exact h2 j h
    · rw [List.getElem?_eq_none (by omega)]; simp
  have := h3 0
  have := h3 1
  omega
theorem inv_code {w : Nat} {ys : List Item} (hw : w ≤ 2) (h : InvB w ys) : ∀ i : Nat, i < ys.length → (i : Int) ≤ codeR (rowI ys i)
  | 0, hi => (code_rng hw (h.2 0 hi).1).1
  | i + 1, hi => by
    have ih := inv_code hw h i (by omega)
    have := code_lt hw (h.2 i (by omega)).1 (h.2 (i + 1) hi).1 (h.1 i (i + 1) (by omega) hi)
    omega
theorem inv_len {w : Nat} {ys : List Item} (hw : w ≤ 2) (h : InvB w ys) : ys.length ≤ 144 := by
  rcases Nat.lt_or_ge 144 ys.length with h1 | h1
  · have h2 := inv_code hw h 144 h1
    have h3 := code_rng hw (h.2 144 h1).1
    omega
  · exact h1
theorem inv_nil (w : Nat) : InvB w [] := ⟨fun i j _ h => absurd h (by simp), fun i h => absurd h (by simp)⟩
theorem pair_row {a : Atom} {p : List Int} (h : pairV p = true) : rowIn (colsM a).length (pairRow a p) := by
  obtain ⟨h1, h2, h3⟩ := pairV_iff.1 h
  unfold pairRow colsM
  match p, h1 with
  | [x, y], _ =>
    simp at h2 h3
    split
    · refine ⟨rfl, fun j hj => ?_⟩
      have : j = 0 := by simp at hj; omega
      subst this
      simpa using h2
    · refine ⟨rfl, fun j hj => ?_⟩
      have h4 : j = 0 ∨ j = 1 := by simp at hj; omega
      rcases h4 with rfl | rfl
      · simpa using h2
      · simpa using h3
theorem cols_le (a : Atom) : 1 ≤ (colsM a).length ∧ (colsM a).length ≤ 2 := by unfold colsM; split <;> simp
theorem stepR_inv {x : Query} {s : List Int} {a : Atom} {c : Int} {ys : List Item} {p : List Int} (h : InvB (colsM a).length ys) (hp : pairV p = true) : InvB (colsM a).length (stepR x s a c ys p) := by
  unfold stepR
  split
  · rename_i hh
    have hk := plR_at (r := pairRow a p) h.1
    have hn := (tm_place h.1 (fun i hi => by have := (h.2 i hi).2; omega) hk).1 hh.2.2
    rw [putZ_new hn]
    exact ins_inv h (pair_row hp) hk hn
  · exact h
theorem rowsK_inv {x : Query} {s : List Int} {a : Atom} {c : Int} {ps : List (List Int)} : ∀ k, k ≤ ps.length → allK (fun i => pairV (ps[i]?.getD [])) k = true → InvB (colsM a).length (rowsK x s a c (ps.take k))
  | 0, _, _ => by rw [List.take_zero]; exact inv_nil _
  | k + 1, hk, ha => by
    rw [rowsK_step (by omega)]
    exact stepR_inv (rowsK_inv k (by omega) (allK_of9 fun i hi => allK_at ha i (by omega))) (allK_at ha k (by omega))
/-! the program's bag beside the reference's -/
def RelX (xs ys : List Item) : Prop := xs.map onceI = ys ∧ ∀ i, i < xs.length → 1 ≤ (xs[i]?.getD default).times ∧ (xs[i]?.getD default).times ≤ 1000000
theorem relX_len {xs ys : List Item} (h : RelX xs ys) : xs.length = ys.length := by rw [← h.1, List.length_map]
theorem relX_row {xs ys : List Item} (h : RelX xs ys) (i : Nat) : rowI ys i = rowI xs i := by
  unfold rowI
  rw [← h.1, List.getElem?_map]
  cases xs[i]? <;> rfl
theorem relX_sorted {xs ys : List Item} (h : RelX xs ys) (hs : sortedR ys) : sortedR xs := fun i j hij hj => by
  rw [← relX_row h, ← relX_row h]; exact hs i j hij (by rw [← relX_len h]; exact hj)
theorem relX_at {xs ys : List Item} {r : List Int} {k : Nat} (h : RelX xs ys) (hk : atR xs r k) : atR ys r k :=
  ⟨by rw [← relX_len h]; exact hk.1, fun q hq => by rw [relX_row h]; exact hk.2.1 q hq, fun q h1 h2 => by rw [relX_row h]; exact hk.2.2 q h1 (by rw [relX_len h]; exact h2)⟩
theorem rowM_in {w : Nat} {r : List Int} (hw : w ≤ 2) (h : rowIn w r) : rowM r = true := rowM_yes (by rw [h.1]; omega) (allK_of9 fun i hi => inR_iff.2 (by have := h.2 i (by rw [← h.1]; exact hi); omega))
theorem inv_one {w : Nat} {ys : List Item} (h : InvB w ys) (i : Nat) (hi : i < ys.length) : 1 ≤ (ys[i]?.getD default).times := by rw [(h.2 i hi).2]; omega
theorem rel_pre {w : Nat} {xs ys : List Item} {r : List Int} (h : RelX xs ys) (hi : InvB w ys) (hw : w ≤ 2) (hr : rowIn w r) : rowM r = true ∧ (0 < xs.length → (rowI xs 0).length = r.length) :=
  ⟨rowM_in hw hr, fun h0 => by rw [← relX_row h, (hi.2 0 (by rw [← relX_len h]; exact h0)).1.1, hr.1]⟩
theorem rel_put {w : Nat} {xs ys : List Item} {r : List Int} {k : Nat} (h : RelX xs ys) (hi : InvB w ys) (hw : w ≤ 2) (hr : rowIn w r) (hk : atR xs r k) : RelX (putB xs r 1 k).1 (if tmM ys r = 0 then putZ ys r 1 (plR ys r) else ys) := by
  have hky := relX_at h hk
  have hpl := atR_uniq (plR_at (r := r) hi.1) hky
  have hpre := rel_pre h hi hw hr
  have hl := inv_len hw hi
  have hlx := relX_len h
  rw [hpl]
  have ht := tm_place hi.1 (inv_one hi) hky
  by_cases hh : k < xs.length ∧ rowI xs k = r
  · rw [if_neg (by rw [ht, Classical.not_not, relX_row h]; exact ⟨by omega, hh.2⟩), putB_hit hpre.1 hpre.2 hh]
    have e3 : xs[k]?.getD default = xs[k]'hh.1 := by rw [List.getElem?_eq_getElem hh.1]; rfl
    refine ⟨?_, fun i hi2 => ?_⟩
    · rw [← h.1, List.map_set]
      show (xs.map onceI).set k (onceI (xs[k]?.getD default)) = _
      rw [e3]
      apply List.ext_getElem (by simp)
      intro i h1 h2
      rw [List.getElem_set]
      split
      · rename_i he; subst he; rw [List.getElem_map]
      · rfl
    · have hi3 : i < xs.length := by simpa using hi2
      show 1 ≤ ((xs.set k _)[i]?.getD default).times ∧ ((xs.set k _)[i]?.getD default).times ≤ 1000000
      have hb := h.2 k hh.1
      rw [List.getElem?_set]
      split
      · rename_i he
        subst he
        rw [if_pos hh.1]
        show 1 ≤ min ((xs[k]?.getD default).times + 1) 1000000 ∧ min ((xs[k]?.getD default).times + 1) 1000000 ≤ 1000000
        omega
      · exact h.2 i hi3
  · have hn : ¬ (k < ys.length ∧ rowI ys k = r) := by rw [← hlx, relX_row h]; exact hh
    rw [if_pos (ht.2 hn), putB_new hpre.1 hpre.2 hh (by omega), putZ_new hn]
    refine ⟨?_, fun i hi2 => ?_⟩
    · rw [← h.1]
      simp only [List.map_append, List.map_take, List.map_drop, List.map_cons, List.map_nil]
      rfl
    · have hi2' : i < xs.length + 1 := by rw [← ins_len (x := ⟨r, 1⟩) hk.1]; exact hi2
      rw [ins_at hk.1]
      rcases Nat.lt_trichotomy i k with h2 | h2 | h2
      · rw [if_pos h2]; exact h.2 i (by have := hk.1; omega)
      · rw [if_neg (by omega), if_pos h2]
        show (1 : Int) ≤ 1 ∧ (1 : Int) ≤ 1000000
        omega
      · rw [if_neg (by omega), if_neg (by omega)]; exact h.2 (i - 1) (by omega)
theorem rel_no {x : Query} {s : List Int} {a : Atom} {c : Int} {xs ys : List Item} {p : List Int} (h : RelX xs ys) (hn : pairOk a p = false ∨ fitP x s a c (pairRow a p) = false) : RelX xs (stepR x s a c ys p) := by
  rcases hn with hn | hn
  · rw [stepR_no1 hn]; exact h
  · rw [stepR_no2 hn]; exact h
theorem rel_yes {x : Query} {s : List Int} {a : Atom} {c : Int} {xs ys : List Item} {p : List Int} {k : Nat} (h : RelX xs ys) (hi : InvB (colsM a).length ys) (hp : pairV p = true) (h1 : pairOk a p = true) (h2 : fitP x s a c (pairRow a p) = true) (hk : atR xs (pairRow a p) k) : RelX (putB xs (pairRow a p) 1 k).1 (stepR x s a c ys p) := by
  have := rel_put h hi (cols_le a).2 (pair_row hp) hk
  unfold stepR
  by_cases ht : tmM ys (pairRow a p) = 0
  · rw [if_pos ⟨h1, h2, ht⟩]; rw [if_pos ht] at this; exact this
  · rw [if_neg (fun e => ht e.2.2)]; rw [if_neg ht] at this; exact this
end Go.Proofs.YtjgehblllhkdbaaGreat

namespace Go.Proofs.YtjgehblllhkdbaaGreat
open Go.SX Go.Proofs
set_option linter.unusedSimpArgs false
set_option linter.unusedVariables false
set_option maxHeartbeats 4000000
attribute [local irreducible] IntKind.wrap queryM namesM sharesM
theorem szI : ∀ xs : List Int, szL gI xs = xs.length
  | [] => rfl
  | x :: r => by
    have := szI r
    show 1 + 0 + szL gI r = _
    rw [this, List.length_cons]; omega
end Go.Proofs.YtjgehblllhkdbaaGreat

namespace Go.Proofs.YtjgehblllhkdbaaGreat
open Go.SX Go.Proofs
set_option linter.unusedSimpArgs false
set_option linter.unusedVariables false
set_option maxHeartbeats 4000000
attribute [local irreducible] IntKind.wrap namesM queryM sharesM ownerOf
noncomputable def rowsTo (x : Query) (s : List Int) (at' : Int) (ps : List (List Int)) (c : Int) : List Item × Bool :=
  if sharesM x s = true ∧ inR 0 ((x.atoms.length : Int) - 1) at' = true ∧ inR 0 (cellsM s - 1) c = true ∧ allK (fun i => pairV (ps[i]?.getD [])) ps.length = true then (rowsK x s (x.atoms[at'.toNat]?.getD default) c ps, true) else ([], false)
theorem rowsTo_no1 {x : Query} {s : List Int} {at' : Int} {ps : List (List Int)} {c : Int} (h : sharesM x s = false) : rowsTo x s at' ps c = ([], false) := if_neg fun e => by rw [h] at e; cases e.1
theorem rowsTo_no2 {x : Query} {s : List Int} {at' : Int} {ps : List (List Int)} {c : Int} (h : inR 0 ((x.atoms.length : Int) - 1) at' = false) : rowsTo x s at' ps c = ([], false) := if_neg fun e => by rw [h] at e; cases e.2.1
theorem rowsTo_no3 {x : Query} {s : List Int} {at' : Int} {ps : List (List Int)} {c : Int} (h : inR 0 (cellsM s - 1) c = false) : rowsTo x s at' ps c = ([], false) := if_neg fun e => by rw [h] at e; cases e.2.2.1
theorem rowsTo_no4 {x : Query} {s : List Int} {at' : Int} {ps : List (List Int)} {c : Int} {k : Nat} (hk : k < ps.length) (h : pairV (ps[k]?.getD []) = false) : rowsTo x s at' ps c = ([], false) := if_neg fun e => by
  have := allK_at e.2.2.2 k hk
  simp only [h] at this; cases this
theorem rowsTo_yes {x : Query} {s : List Int} {at' : Int} {ps : List (List Int)} {c : Int} (h1 : sharesM x s = true) (h2 : inR 0 ((x.atoms.length : Int) - 1) at' = true) (h3 : inR 0 (cellsM s - 1) c = true) (h4 : allK (fun i => pairV (ps[i]?.getD [])) ps.length = true) : rowsTo x s at' ps c = (rowsK x s (x.atoms[at'.toNat]?.getD default) c ps, true) := if_pos ⟨h1, h2, h3, h4⟩
theorem relX_nil {x : Query} {s : List Int} {a : Atom} {c : Int} {ps : List (List Int)} : RelX [] (rowsK x s a c (ps.take 0)) := by
  rw [List.take_zero]; exact ⟨rfl, fun i h => absurd h (by simp)⟩
theorem pv_no1 {p : List Int} (h : ¬ ((p.length : Nat) : Int) = 2) : pairV p = false := by unfold pairV; rw [decide_eq_false (by omega)]; rfl
theorem pv_no2 {p : List Int} (h : inR 0 11 (p[0]?.getD 0) = false) : pairV p = false := by unfold pairV; rw [h]; simp
theorem pv_no3 {p : List Int} (h : inR 0 11 (p[1]?.getD 0) = false) : pairV p = false := by unfold pairV; rw [h]; simp
theorem pv_yes {p : List Int} (h : ((p.length : Nat) : Int) = 2) (h1 : inR 0 11 (p[0]?.getD 0) = true) (h2 : inR 0 11 (p[1]?.getD 0) = true) : pairV p = true := by unfold pairV; rw [h1, h2, decide_eq_true (by omega)]; rfl
theorem fit_targ {x : Query} {s : List Int} {a : Atom} {c : Int} {row : List Int} (hs : sharesM x s = true) (hc : inR 0 (cellsM s - 1) c = true) : hasI (targK s (alM (namesM x.atoms) (colsM a) row s) (cellsM s).toNat) c = fitP x s a c row := by
  obtain ⟨h1, h2, h3⟩ := shares_all hs
  have h4 := inR_iff.1 hc
  have h5 : 1 ≤ s.length := by
    unfold sharesM at hs
    rw [Bool.and_eq_true] at hs
    have := query_names hs.1
    omega
  exact hasI_same h1 ⟨h5, h3⟩ ⟨h4.1, by omega⟩
theorem rowsP_yes {x : Query} {s : List Int} {a : Atom} {c : Int} {xs : List Item} {ps : List (List Int)} {k j : Nat} (hk : k < ps.length) (hs : sharesM x s = true) (hc : inR 0 (cellsM s - 1) c = true) (h : RelX xs (rowsK x s a c (ps.take k))) (hi : InvB (colsM a).length (rowsK x s a c (ps.take k))) (hp : pairV (ps[k]?.getD []) = true) (h1 : pairOk a (ps[k]?.getD []) = true)
    (h2 : hasI (targK s (alM (namesM x.atoms) (colsM a) (pairRow a (ps[k]?.getD [])) s) (cellsM s).toNat) c = true) (hj : rowM (pairRow a (ps[k]?.getD [])) = true ∧ (0 < xs.length → (rowI xs 0).length = (pairRow a (ps[k]?.getD [])).length) → atR xs (pairRow a (ps[k]?.getD [])) j) : RelX (putB xs (pairRow a (ps[k]?.getD [])) 1 j).1 (rowsK x s a c (ps.take (k + 1))) := by
  rw [rowsK_step hk]
  rw [fit_targ hs hc] at h2
  exact rel_yes h hi hp h1 h2 (hj (rel_pre h hi (cols_le a).2 (pair_row hp)))
theorem rowsP_no1 {x : Query} {s : List Int} {a : Atom} {c : Int} {xs : List Item} {ps : List (List Int)} {k : Nat} (hk : k < ps.length) (h : RelX xs (rowsK x s a c (ps.take k))) (h1 : pairOk a (ps[k]?.getD []) = false) : RelX xs (rowsK x s a c (ps.take (k + 1))) := by
  rw [rowsK_step hk]; exact rel_no h (.inl h1)
theorem rowsP_no2 {x : Query} {s : List Int} {a : Atom} {c : Int} {xs : List Item} {ps : List (List Int)} {k : Nat} (hk : k < ps.length) (hs : sharesM x s = true) (hc : inR 0 (cellsM s - 1) c = true) (h : RelX xs (rowsK x s a c (ps.take k)))
    (h2 : hasI (targK s (alM (namesM x.atoms) (colsM a) (pairRow a (ps[k]?.getD [])) s) (cellsM s).toNat) c = false) : RelX xs (rowsK x s a c (ps.take (k + 1))) := by
  rw [rowsK_step hk]
  rw [fit_targ hs hc] at h2
  exact rel_no h (.inr h2)
theorem szItems : ∀ xs : List Item, (∀ i, i < xs.length → (xs[i]?.getD default).row.length ≤ 4) → szL gItem xs ≤ 5 * xs.length
  | [], _ => Nat.le_refl _
  | x :: t, h => by
    have ih := szItems t fun i hi => h (i + 1) (by simpa using hi)
    have h0 : x.row.length ≤ 4 := h 0 (by simp)
    show 1 + gItem.sz x + szL gItem t ≤ _
    rw [gItem_sz, szI9, List.length_cons]; omega
theorem bag_small {w : Nat} {xs ys : List Item} (h : RelX xs ys) (hi : InvB w ys) (hw : w ≤ 2) : gBag.sz ⟨xs⟩ ≤ 1048576 := by
  have h1 := relX_len h
  have h2 := inv_len hw hi
  have h3 := szItems xs fun i hi2 => by
    have h4 := (hi.2 i (by omega)).1.1
    rw [relX_row h] at h4
    unfold rowI at h4; omega
  have h5 := gBag_sz ⟨xs⟩
  show gBag.sz ⟨xs⟩ ≤ _
  rw [h5]
  show szL gItem xs ≤ 1048576
  omega
theorem rowsTo_end {x : Query} {s : List Int} {at' : Int} {ps : List (List Int)} {c : Int} {xs : List Item} (h1 : sharesM x s = true) (h2 : inR 0 ((x.atoms.length : Int) - 1) at' = true) (h3 : inR 0 (cellsM s - 1) c = true) (h4 : allK (fun i => pairV (ps[i]?.getD [])) ps.length = true) (h : RelX xs (rowsK x s (x.atoms[at'.toNat]?.getD default) c (ps.take ps.length))) : rowsTo x s at' ps c = (xs.map onceI, true) := by
  rw [rowsTo_yes h1 h2 h3 h4, h.1, List.take_length]
--@ct impl.isAtom val isAtom_ct _ $1 _ | %1
theorem isAtom_ct (l : List Value) (q : Query) (i : Int) : Ct Tryz.prog 73 [.agg ⟨l⟩, .int .i64 i] [] (fun H => gQuery.rd H l q) (fun v A => v = .bool (inR 0 ((q.atoms.length : Int) - 1) i) ∧ A = []) := by
  refine Ct.intro0 G_ok Tryz.func73 rfl rfl rfl fun E H hp => ?_
  obtain ⟨b1p, c1p, b2p, c2p, b3p, c3p, rfl, h1p, h2p, h3p⟩ := gQuery_rd.1 hp
  refine VCnew.intro fun x0 => ?_
  refine VCsplit.intro (fun q1 => ?_) (fun q1 => ?_)
  ·
    simp at q1
    exact ⟨[], ⟨by unfold inR; rw [decide_eq_true (by omega : (0 : Int) ≤ i), Bool.true_and]; congr 1; rw [decide_eq_decide]; omega, rfl⟩, (.le fun a => by (try simp only [setR, List.cons_append, List.nil_append]); simp [List.count_cons, Blk.ent, idOf]; try omega)⟩
  ·
    simp at q1
    exact ⟨[], ⟨by unfold inR; rw [decide_eq_false (by omega : ¬ (0 : Int) ≤ i), Bool.false_and], rfl⟩, (.le fun a => by (try simp only [setR, List.cons_append, List.nil_append]); simp [List.count_cons, Blk.ent, idOf]; try omega)⟩
theorem implRowsTo_ct (l : List Value) (b : Option Addr) (m c : Nat) (bp : Option Addr) (mp cp : Nat) (x : Query) (s : List Int) (at' : Int) (ps : List (List Int)) (cell : Int) (hx : gQuery.sz x ≤ 1048576) (hps : ps.length ≤ 1048576) :
    Ct Tryz.prog 15 [.agg ⟨l⟩, .slice b m c, .int .i64 at', .slice bp mp cp, .int .i64 cell] [] (fun H => gQuery.rd H l x ∧ (gSl 3 gI).rd H [.slice b m c] s ∧ (gSl 27 (gSl 3 gI)).rd H [.slice bp mp cp] ps)
      (fun v A => ∃ b c, v = .tuple #[.agg ⟨[.slice b (rowsTo x s at' ps cell).1.length c]⟩, .bool (rowsTo x s at' ps cell).2] ∧ (gSl 218 gItem).ow [.slice b (rowsTo x s at' ps cell).1.length c] (rowsTo x s at' ps cell).1 A) := by
  refine Ct.intro0 G_ok Tryz.func15 rfl rfl rfl fun E H hp => ?_
  obtain ⟨hp, hq, hpr⟩ := hp
  obtain ⟨rfl, hcl, hl⟩ := sl_len hq
  obtain ⟨rfl, hcp⟩ := rd_len hpr
  obtain ⟨b1p, c1p, b2p, c2p, b3p, c3p, rfl, h1p, h2p, h3p⟩ := gQuery_rd.1 hp
  have hcr := cells_rng s
  refine VCnew.intro fun x0 => ?_
  refine VCnew.intro fun x1 => ?_
  refine call_val (implSharesOk_ct _ _ _ _ (x) (s) ?_) ⟨(Rp.mono _ (mem_at 0 rfl) hp), (Rp.mono _ (mem_at 0 rfl) hq)⟩ ?_
  · trivial
  rintro _ rfl
  refine VCsplit.intro (fun q3 => ?_) (fun q3 => ?_)
  ·
    simp at q3
    (rw [rowsTo_no1 (by assumption)]; exact ⟨[], ⟨_, _, rfl, sl_nil _ _ _⟩, (.le fun a => by (try simp only [setR, List.cons_append, List.nil_append]); simp [List.count_cons, Blk.ent, idOf]; try omega)⟩)
  ·
    simp at q3
    refine call_val (isAtom_ct _ (x) _) (Rp.mono _ (mem_at 0 rfl) hp) ?_
    rintro _ rfl
    refine VCsplit.intro (fun q5 => ?_) (fun q5 => ?_)
    ·
      simp at q5
      (rw [rowsTo_no2 (by assumption)]; exact ⟨[], ⟨_, _, rfl, sl_nil _ _ _⟩, (.le fun a => by (try simp only [setR, List.cons_append, List.nil_append]); simp [List.count_cons, Blk.ent, idOf]; try omega)⟩)
    ·
      simp at q5
      have hai := inR_iff.1 ‹inR 0 _ at' = true›
      refine call_val (isCell_ct _ _ _ (s) _) (Rp.mono _ (mem_at 0 rfl) hq) ?_
      rintro _ rfl
      refine VCsplit.intro (fun q7 => ?_) (fun q7 => ?_)
      ·
        simp at q7
        (rw [rowsTo_no3 (by assumption)]; exact ⟨[], ⟨_, _, rfl, sl_nil _ _ _⟩, (.le fun a => by (try simp only [setR, List.cons_append, List.nil_append]); simp [List.count_cons, Blk.ent, idOf]; try omega)⟩)
      ·
        simp at q7
        refine idx_rd h2p ?_ ?_ fun b8 o8 hb8 => ?_
        · omega
        · omega
        refine load_all default h2p ?_ ?_ hb8 rfl (mem_at 0 rfl) fun l9 hl9 => ?_
        · omega
        · omega
        obtain ⟨rfl, w0x9, w1x9, w2x9⟩ := gAtom_rd.1 hl9
        refine VCnew.intro fun x10 => ?_
        refine VCnew.intro fun x11 => ?_
        apply loop_mod (α := (Nat) × (List Item) × (Hp) × (Option Addr) × (Nat)) G_ok [43, 44, 45, 15, 46, 47, 48, 49, 50, 51, 52, 53, 54, 55, 56, 57, 58, 59, 60, 61, 62, 63, 11, 65, 66, 67, 64, 68, 69, 16, 17, 70, 71, 72, 73, 74, 75, 76, 77, 78, 79, 80, 81, 82, 42] (fun z => [(42, .v (.int .i64 z.1)), (11, .v (.bool false))]) (fun z => [⟨x0, [Value.bool x.each, Value.slice b1p x.out.length c1p, Value.slice b2p x.atoms.length c2p, Value.slice b3p x.filters.length c3p], (39 : Nat)⟩, ⟨x1, [Value.slice none (0 : Nat) (0 : Nat)], (33 : Nat)⟩, ⟨x10, [Value.string (x.atoms[at'.toNat]?.getD default).from', Value.string (x.atoms[at'.toNat]?.getD default).path, Value.string (x.atoms[at'.toNat]?.getD default).to], (118 : Nat)⟩, ⟨x11, [.slice z.2.2.2.1 z.2.1.length z.2.2.2.2], (33 : Nat)⟩]) (fun z => [z.2.2.1, H]) (fun z => ps.length - z.1) (fun z => z.1 ≤ ps.length ∧ allK (fun i => pairV (ps[i]?.getD [])) z.1 = true ∧ RelX z.2.1 (rowsK x s (x.atoms[at'.toNat]?.getD default) cell (ps.take z.1)) ∧ (gSl 218 gItem).ow [.slice z.2.2.2.1 z.2.1.length z.2.2.2.2] z.2.1 z.2.2.1) ((0, [], [], none, 0))
        · repeat' (first | exact trivial | refine ⟨⟨_, rfl, by first | rfl | exact inc_eq _ (by omega) | (refine sl_eq ?_; simp; done), by first | exact trivial | simp [SV.ok]⟩, ?_⟩)
        · exact ⟨rfl, rfl, rfl, rfl, trivial⟩
        · try dsimp only
          exact ⟨Nat.zero_le _, rfl, relX_nil, sl_nil _ _ _⟩
        · exact .refl _
        rintro ⟨k, xs, A, lb, lc⟩ hI
        obtain ⟨hk, hpa, hR, oA⟩ : k ≤ ps.length ∧ allK (fun i => pairV (ps[i]?.getD [])) k = true ∧ RelX xs (rowsK x s (x.atoms[at'.toNat]?.getD default) cell (ps.take k)) ∧ (gSl 218 gItem).ow [.slice lb xs.length lc] xs A := hI
        try dsimp only
        refine VCsplit.intro (fun q12 => ?_) (fun q12 => ?_)
        ·
          simp at q12
          refine idx_rd hpr ?_ ?_ fun b13 o13 hb13 => ?_
          · omega
          · omega
          refine load_allN [] (k) rfl hpr ?_ ?_ hb13 rfl (mem_at 1 rfl) fun l14 hl14 => ?_
          · omega
          · omega
          obtain ⟨u14, w14, rfl, hl14⟩ := sl_rd hl14
          refine VCsplit.intro (fun q15 => ?_) (fun q15 => ?_)
          ·
            simp at q15
            (rw [rowsTo_no4 (k := k) (by omega) (pv_no1 (by assumption))]; exact ⟨[], ⟨_, _, rfl, sl_nil _ _ _⟩, (.le fun a => by (try simp only [setR, List.cons_append, List.nil_append]); simp [List.count_cons, Blk.ent, idOf]; try omega)⟩)
          ·
            simp at q15
            refine idx_rd hl14 ?_ ?_ fun b16 o16 hb16 => ?_
            · trivial
            · omega
            refine load_allN 0 (0) rfl hl14 ?_ ?_ hb16 rfl (mem_at 1 rfl) fun l17 hl17 => ?_
            · trivial
            · omega
            obtain ⟨rfl, hw17⟩ := hl17; simp only [flStr, flInt, okI] at hw17
            refine call_val (isVert_ct _) trivial ?_
            rintro _ rfl
            refine VCsplit.intro (fun q19 => ?_) (fun q19 => ?_)
            ·
              simp at q19
              (rw [rowsTo_no4 (k := k) (by omega) (pv_no2 (by assumption))]; exact ⟨[], ⟨_, _, rfl, sl_nil _ _ _⟩, (.le fun a => by (try simp only [setR, List.cons_append, List.nil_append]); simp [List.count_cons, Blk.ent, idOf]; try omega)⟩)
            ·
              simp at q19
              refine idx_rd hl14 ?_ ?_ fun b20 o20 hb20 => ?_
              · trivial
              · omega
              refine load_allN 0 (1) rfl hl14 ?_ ?_ hb20 rfl (mem_at 1 rfl) fun l21 hl21 => ?_
              · trivial
              · omega
              obtain ⟨rfl, hw21⟩ := hl21; simp only [flStr, flInt, okI] at hw21
              refine call_val (isVert_ct _) trivial ?_
              rintro _ rfl
              refine VCsplit.intro (fun q23 => ?_) (fun q23 => ?_)
              ·
                simp at q23
                (rw [rowsTo_no4 (k := k) (by omega) (pv_no3 (by assumption))]; exact ⟨[], ⟨_, _, rfl, sl_nil _ _ _⟩, (.le fun a => by (try simp only [setR, List.cons_append, List.nil_append]); simp [List.count_cons, Blk.ent, idOf]; try omega)⟩)
              ·
                simp at q23
                have hV := pv_yes (by assumption) ‹inR 0 11 ((ps[k]?.getD [])[0]?.getD 0) = true› ‹inR 0 11 ((ps[k]?.getD [])[1]?.getD 0) = true›
                have hInv := rowsK_inv (x := x) (s := s) (a := (x.atoms[at'.toNat]?.getD default)) (c := cell) k hk hpa
                refine call_val (atomRow_ct _ _ _ _ _ (ps[k]?.getD []) ?_) ⟨(Rp.mono _ (mem_at 1 rfl) hl9), (Rp.mono _ (mem_at 1 rfl) hl14)⟩ ?_
                · omega
                rintro _ ⟨bR, cR, rfl, hRR⟩
                have rR := hRR _ ‹(gSl 3 gI).rd H _ (ps[k]?.getD [])›
                refine VCsplit.intro (fun q25 => ?_) (fun q25 => ?_)
                ·
                  refine call_new (targets_ct _ _ _ _ _ _ _ _ x s (x.atoms[at'.toNat]?.getD default) (pairRow (x.atoms[at'.toNat]?.getD default) (ps[k]?.getD [])) ?_ ?_ ?_) ⟨(Rp.mono _ (mem_at 1 rfl) hp), (Rp.mono _ (mem_at 1 rfl) hq), (Rp.mono _ (mem_at 1 rfl) hl9), (Rp.mono _ (mem_at 1 rfl) rR)⟩ ?_
                  · trivial
                  · trivial
                  · exact Nat.le_of_eq (pair_row hV).1.symm
                  rintro v26 A26 o26
                  obtain ⟨bT, cT, rfl, oT⟩ := o26
                  have rT := Gt.owrd _ oT
                  refine call_val (sContainsI_ct _ _ _ (targK s (alM (namesM x.atoms) (colsM (x.atoms[at'.toNat]?.getD default)) (pairRow (x.atoms[at'.toNat]?.getD default) (ps[k]?.getD [])) s) (cellsM s).toNat) _) (Rp.mono _ (mem_at 0 rfl) rT) ?_
                  rintro _ rfl
                  refine VCsplit.intro (fun q28 => ?_) (fun q28 => ?_)
                  ·
                    refine callR_blk 3 (A) [A26, H] rfl ?_ (bagPut_ct _ _ _ xs _ _ _ _ (pairRow (x.atoms[at'.toNat]?.getD default) (ps[k]?.getD [])) _ oA ?_ ?_ ?_ ?_) (Rp.mono _ (mem_at 1 rfl) rR) ?_
                    · exact .le fun a => by (try simp only [setR, List.cons_append, List.nil_append]); simp only [List.flatten_append, List.flatten_cons, List.flatten_nil, List.count_append, List.count_nil, List.append_nil, List.nil_append]; omega
                    · exact relX_sorted hR hInv.1
                    · (rw [relX_len hR]; have := inv_len (cols_le _).2 hInv; omega)
                    · trivial
                    · exact hR.2
                    rintro _ A29 ⟨kp, bP, cP, AP, hat, rfl, rfl, oP⟩
                    refine ⟨_, _, [AP], rfl, perm1, ?_⟩
                    apply loop_stepA (k + 1, _, _, _, _)
                    · exact .sub (by repeat (first | exact .slnil | apply List.Sublist.cons_cons | apply List.Sublist.cons))
                    · repeat' (first | exact trivial | refine ⟨⟨_, rfl, by first | rfl | exact inc_eq _ (by omega) | (refine sl_eq ?_; simp; done), by first | exact trivial | simp [SV.ok]⟩, ?_⟩)
                    · exact ⟨rfl, rfl, rfl, rfl, trivial⟩
                    · try dsimp only
                      exact ⟨by omega, allK_step hpa hV, rowsP_yes (by omega) (by assumption) (by assumption) hR hInv hV (by assumption) (by assumption) hat, by assumption⟩
                    · try dsimp only
                      omega
                  ·
                    apply loop_stepA (k + 1, xs, A, lb, lc)
                    · exact .sub (by repeat (first | exact .slnil | apply List.Sublist.cons_cons | apply List.Sublist.cons))
                    · repeat' (first | exact trivial | refine ⟨⟨_, rfl, by first | rfl | exact inc_eq _ (by omega) | (refine sl_eq ?_; simp; done), by first | exact trivial | simp [SV.ok]⟩, ?_⟩)
                    · exact ⟨rfl, rfl, rfl, rfl, trivial⟩
                    · try dsimp only
                      exact ⟨by omega, allK_step hpa hV, rowsP_no2 (by omega) (by assumption) (by assumption) hR (by assumption), by assumption⟩
                    · try dsimp only
                      omega
                ·
                  apply loop_stepA (k + 1, _, _, _, _)
                  · exact .refl _
                  · repeat' (first | exact trivial | refine ⟨⟨_, rfl, by first | rfl | exact inc_eq _ (by omega) | (refine sl_eq ?_; simp; done), by first | exact trivial | simp [SV.ok]⟩, ?_⟩)
                  · exact ⟨rfl, rfl, rfl, rfl, trivial⟩
                  · try dsimp only
                    exact ⟨by omega, allK_step hpa hV, rowsP_no1 (by omega) hR (by assumption), by assumption⟩
                  · try dsimp only
                    omega
        ·
          simp at q12
          have hke : k = ps.length := by omega
          subst hke
          have hInv := rowsK_inv (x := x) (s := s) (a := (x.atoms[at'.toNat]?.getD default)) (c := cell) ps.length hk hpa
          have hbr : gBag.rd A [.slice lb xs.length lc] ⟨xs⟩ := gBag_rd.2 ⟨lb, lc, rfl, Gt.owrd _ oA⟩
          refine call_new (implBagEach_ct _ ({ items := xs }) ?_) (Rp.mono _ (mem_at 0 rfl) hbr) ?_
          · exact bag_small hR hInv (cols_le _).2
          rintro v30 A30 o30
          obtain ⟨b30, c30, rfl, o30⟩ := o30
          try dsimp only
          (rw [rowsTo_end (by assumption) (by assumption) (by assumption) hpa hR]; exact ⟨_, ⟨_, _, rfl, by assumption⟩, (.le fun a => by (try simp only [setR, List.cons_append, List.nil_append]); simp [List.count_cons, Blk.ent, idOf]; try omega)⟩)
end Go.Proofs.YtjgehblllhkdbaaGreat
