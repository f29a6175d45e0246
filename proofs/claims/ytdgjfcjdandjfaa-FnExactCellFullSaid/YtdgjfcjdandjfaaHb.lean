/-
  Whether a cell is full, on both sides; the law. Conditions: none.
-/
import Derived.Test.YtdgjfcjdandjfaaHa
namespace Go.Proofs.Ytdgjfcjdandjfaa
open Go.SX Go.Proofs
set_option linter.unusedSimpArgs false
set_option linter.unusedVariables false
set_option maxHeartbeats 4000000

def cellFull (c : Cell) : Bool := inR 1 8 c.n && ((c.gots.length : Int) == c.n * c.query.atoms.length)

theorem cellFull_len {c : Cell} (h : gCell.sz c ≤ 1048576) : c.query.atoms.length ≤ 1048576 := by
  have h1 := gCell_sz c
  have h2 := gQuery_sz c.query
  have h3 := len_szL gAtom c.query.atoms
  omega

--@ct impl.CellFull val implCellFull_ct _ $1 ?_ | %1
theorem implCellFull_ct (l : List Value) (c : Cell) (hc : gCell.sz c ≤ 1048576) :
    Ct Try.prog 9 [.agg ⟨l⟩] [] (fun H => gCell.rd H l c) (fun v A => v = .bool (cellFull c) ∧ A = []) := by
  refine Ct.intro0 G_ok Try.func9 rfl rfl rfl fun E H hp => ?_
  have hl := cellFull_len hc
  obtain ⟨l0, b1, c1, b4, c4, rfl, h0, h1, w2, w3, h4⟩ := gCell_rd.1 hp
  obtain ⟨b1_0, c1_0, b2_0, c2_0, b3_0, c3_0, rfl, h1_0, h2_0, h3_0⟩ := gQuery_rd.1 h0
  have hb : inR 1 8 c.n = true → IntKind.i64.wrap (c.n * c.query.atoms.length) = c.n * c.query.atoms.length := by
    intro h
    rw [inR_iff] at h
    have h5 : 0 ≤ c.n * c.query.atoms.length := Int.mul_nonneg (by omega) (by omega)
    have h6 : c.n * c.query.atoms.length ≤ 8 * 1048576 := Int.mul_le_mul (by omega) (by omega) (by omega) (by omega)
    exact wrap_of (by omega) (by omega)
  refine VCnew.intro fun x0 => ?_
  refine call_val (isWorkers_ct _) trivial ?_
  rintro _ rfl
  refine VCsplit.intro (fun q2 => ?_) (fun q2 => ?_)
  ·
    exact ⟨[], ⟨by unfold cellFull; first | (rw [hb ‹_›, show inR 1 8 c.n = true by assumption, Bool.true_and]) | (rw [show inR 1 8 c.n = false by simpa using ‹_›, Bool.false_and]), rfl⟩, (.le fun a => by (try simp only [setR, List.cons_append, List.nil_append]); simp only [List.flatten_append, List.flatten_cons, List.flatten_nil, List.count_append, List.count_nil, List.append_nil, List.nil_append]; omega)⟩
  ·
    exact ⟨[], ⟨by unfold cellFull; first | (rw [hb ‹_›, show inR 1 8 c.n = true by assumption, Bool.true_and]) | (rw [show inR 1 8 c.n = false by simpa using ‹_›, Bool.false_and]), rfl⟩, (.le fun a => by (try simp only [setR, List.cons_append, List.nil_append]); simp only [List.flatten_append, List.flatten_cons, List.flatten_nil, List.count_append, List.count_nil, List.append_nil, List.nil_append]; omega)⟩

--@ct spec.CellFull val specCellFull_ct _ $1 ?_ | %1
theorem specCellFull_ct (l : List Value) (c : Cell) (hc : gCell.sz c ≤ 1048576) :
    Ct Try.prog 7 [.agg ⟨l⟩] [] (fun H => gCell.rd H l c) (fun v A => v = .bool (cellFull c) ∧ A = []) := by
  refine Ct.intro0 G_ok Try.func7 rfl rfl rfl fun E H hp => ?_
  have hl := cellFull_len hc
  obtain ⟨l0, b1, c1, b4, c4, rfl, h0, h1, w2, w3, h4⟩ := gCell_rd.1 hp
  obtain ⟨b1_0, c1_0, b2_0, c2_0, b3_0, c3_0, rfl, h1_0, h2_0, h3_0⟩ := gQuery_rd.1 h0
  have hb : inR 1 8 c.n = true → IntKind.i64.wrap (c.n * c.query.atoms.length) = c.n * c.query.atoms.length := by
    intro h
    rw [inR_iff] at h
    have h5 : 0 ≤ c.n * c.query.atoms.length := Int.mul_nonneg (by omega) (by omega)
    have h6 : c.n * c.query.atoms.length ≤ 8 * 1048576 := Int.mul_le_mul (by omega) (by omega) (by omega) (by omega)
    exact wrap_of (by omega) (by omega)
  refine VCnew.intro fun x0 => ?_
  refine call_val (l01In_ct _ _ _) trivial ?_
  rintro _ rfl
  refine VCsplit.intro (fun q2 => ?_) (fun q2 => ?_)
  ·
    exact ⟨[], ⟨by unfold cellFull; first | (rw [hb ‹_›, show inR 1 8 c.n = true by assumption, Bool.true_and]) | (rw [show inR 1 8 c.n = false by simpa using ‹_›, Bool.false_and]), rfl⟩, (.le fun a => by (try simp only [setR, List.cons_append, List.nil_append]); simp only [List.flatten_append, List.flatten_cons, List.flatten_nil, List.count_append, List.count_nil, List.append_nil, List.nil_append]; omega)⟩
  ·
    exact ⟨[], ⟨by unfold cellFull; first | (rw [hb ‹_›, show inR 1 8 c.n = true by assumption, Bool.true_and]) | (rw [show inR 1 8 c.n = false by simpa using ‹_›, Bool.false_and]), rfl⟩, (.le fun a => by (try simp only [setR, List.cons_append, List.nil_append]); simp only [List.flatten_append, List.flatten_cons, List.flatten_nil, List.count_append, List.count_nil, List.append_nil, List.nil_append]; omega)⟩

theorem fnExactCellFull_ct (v0 : Value) :
    Ct Try.prog 3 [v0] [] (fun H => (∃ x, rdV true gCell.toRp H v0 x)) (fun v A => v = .bool true ∧ A = []) := by
  refine Ct.intro0 G_ok Try.func3 rfl rfl rfl fun E H hp => ?_
  obtain ⟨xa0, hp0⟩ := hp
  obtain ⟨la0, rfl, hp0⟩ := hp0
  obtain ⟨l0a0, b1a0, c1a0, b4a0, c4a0, rfl, h0a0, h1a0, w2a0, w3a0, h4a0⟩ := gCell_rd.1 hp0
  obtain ⟨b1_0a0, c1_0a0, b2_0a0, c2_0a0, b3_0a0, c3_0a0, rfl, h1_0a0, h2_0a0, h3_0a0⟩ := gQuery_rd.1 h0a0
  refine VCnew.intro fun x0 => ?_
  refine call_q (szCell_ct _ (xa0) _ ?_ ?_) (Rp.mono _ (mem_at 0 rfl) hp0) ?_
  · trivial
  · trivial
  rintro _ ⟨r1, rfl, hr1⟩
  refine VCsplit.intro (fun q2 => ?_) (fun q2 => ?_)
  ·
    simp at q2
    exact ⟨[], ⟨rfl, rfl⟩, (.le fun a => by (try simp only [setR, List.cons_append, List.nil_append]); simp only [List.flatten_append, List.flatten_cons, List.flatten_nil, List.count_append, List.count_nil, List.append_nil, List.nil_append]; omega)⟩
  ·
    simp at q2
    refine call_new (toCell_ct _ (xa0) ?_) (Rp.mono _ (mem_at 0 rfl) hp0) ?_
    · omega
    rintro v3 A3 o3
    obtain ⟨l3, rfl, o3⟩ := o3
    have r3 := Gt.owrd _ o3
    obtain ⟨l03, b13, c13, b43, c43, rfl, h03, h13, w23, w33, h43⟩ := gCell_rd.1 r3
    obtain ⟨b1_03, c1_03, b2_03, c2_03, b3_03, c3_03, rfl, h1_03, h2_03, h3_03⟩ := gQuery_rd.1 h03
    refine call_val (specCellFull_ct _ (xa0) ?_) (Rp.mono _ (mem_at 0 rfl) r3) ?_
    · omega
    rintro _ rfl
    refine call_new (toCell_ct _ (xa0) ?_) (Rp.mono _ (mem_at 1 rfl) hp0) ?_
    · omega
    rintro v5 A5 o5
    obtain ⟨l5, rfl, o5⟩ := o5
    have r5 := Gt.owrd _ o5
    obtain ⟨l05, b15, c15, b45, c45, rfl, h05, h15, w25, w35, h45⟩ := gCell_rd.1 r5
    obtain ⟨b1_05, c1_05, b2_05, c2_05, b3_05, c3_05, rfl, h1_05, h2_05, h3_05⟩ := gQuery_rd.1 h05
    refine VCnew.intro fun x6 => ?_
    refine call_val (implCellFull_ct _ (xa0) ?_) (Rp.mono _ (mem_at 0 rfl) r5) ?_
    · omega
    rintro _ rfl
    refine VCsplit.intro (fun q8 => ?_) (fun q8 => ?_)
    ·
      simp at q8
    ·
      simp at q8
      refine draw G_ok mixed none (.q 0 (.q 1 (.f 2 (.f 3 (.q 4 (.nil)))))) (by decide +kernel) ?_
      refine call_new (toCell_ct _ (xa0) ?_) (Rp.mono _ (mem_at 2 rfl) hp0) ?_
      · omega
      rintro v9 A9 o9
      obtain ⟨l9, rfl, o9⟩ := o9
      have r9 := Gt.owrd _ o9
      obtain ⟨l09, b19, c19, b49, c49, rfl, h09, h19, w29, w39, h49⟩ := gCell_rd.1 r9
      obtain ⟨b1_09, c1_09, b2_09, c2_09, b3_09, c3_09, rfl, h1_09, h2_09, h3_09⟩ := gQuery_rd.1 h09
      refine VC.intro ?_ ?_
      · exact keep_new
      refine call_val (eqCell_ct _ _ (xa0) (xa0)) ⟨(Rp.mono _ (mem_at 1 rfl) r5), (Rp.mono _ (mem_at 0 rfl) r9)⟩ ?_
      rintro _ rfl
      refine VC.intro ?_ ?_
      · exact fun _ h => h
      refine VCsplit.intro (fun q11 => ?_) (fun q11 => ?_)
      ·
        simp at q11
      ·
        simp at q11
        exact ⟨[], ⟨rfl, rfl⟩, (.le fun a => by (try simp only [setR, List.cons_append, List.nil_append]); simp only [List.flatten_append, List.flatten_cons, List.flatten_nil, List.count_append, List.count_nil, List.append_nil, List.nil_append]; omega)⟩

end Go.Proofs.Ytdgjfcjdandjfaa
