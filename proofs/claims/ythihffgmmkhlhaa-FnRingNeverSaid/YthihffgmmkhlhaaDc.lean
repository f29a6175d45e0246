/-
  Calm of a ring: what it is. Conditions: none.
-/
import Derived.Test.YthihffgmmkhlhaaCy
namespace Go.Proofs.Ythihffgmmkhlhaa
open Go.SX Go.Proofs

theorem step_cells (r : Ring) (t : Turn) (h : r.cells ≤ 1048576) : (ringStep r t).1.cells ≤ 1048576 := by
  unfold ringStep
  split
  · rename_i h1
    have := ringOk_len h1.2.2.2
    unfold Ring.cells
    simp only
    omega
  · exact h
theorem step_len (r : Ring) (t : Turn) : (ringStep r t).1.actives.length = r.actives.length := by
  unfold ringStep
  split
  · simp only [turnT]
    split
    · rfl
    · split
      · simp [takeT]
      · split
        · simp [restT]
        · simp only [passT]; split <;> rfl
  · rfl
theorem step_bad (r : Ring) (t : Turn) (h : ringOk r = false) : (ringStep r t).1 = r := by
  unfold ringStep; rw [if_neg (by simp [h])]
theorem step_ok (r : Ring) (t : Turn) (h : ringOk r = true) : ringOk (ringStep r t).1 = true := by
  unfold ringStep
  split
  · rename_i h1; exact h1.2.2.2
  · exact h

def stepN (f : Nat → Turn) : Nat → Ring → Ring
  | 0, r => r
  | k + 1, r => (ringStep (stepN f k r) (f k)).1
theorem stepN_cells (f : Nat → Turn) (r : Ring) (h : r.cells ≤ 1048576) : ∀ k, (stepN f k r).cells ≤ 1048576
  | 0 => h
  | k + 1 => step_cells _ _ (stepN_cells f r h k)
theorem stepN_len (f : Nat → Turn) (r : Ring) : ∀ k, (stepN f k r).actives.length = r.actives.length
  | 0 => rfl
  | k + 1 => (step_len _ _).trans (stepN_len f r k)
theorem stepN_bad (f : Nat → Turn) (r : Ring) (h : ringOk r = false) : ∀ k, stepN f k r = r
  | 0 => rfl
  | k + 1 => by show (ringStep (stepN f k r) (f k)).1 = r; rw [stepN_bad f r h k, step_bad _ _ h]
theorem stepN_ok (f : Nat → Turn) (r : Ring) (h : ringOk r = true) : ∀ k, ringOk (stepN f k r) = true
  | 0 => h
  | k + 1 => step_ok _ _ (stepN_ok f r h k)

def tTake : Turn := ⟨2, 0, 0⟩
def tRest (i : Nat) : Turn := ⟨3, i, 0⟩
def tPass : Turn := ⟨4, 0, 0⟩
theorem take_stay (r : Ring) (h : r.flying = []) : (ringStep r tTake).1 = r := by
  unfold ringStep; rw [if_neg]
  rintro ⟨_, _, h1, _⟩
  simp [turnOk, tTake, inR, h] at h1
theorem takes_stay (r : Ring) (k : Nat) (h : (stepN (fun _ => tTake) k r).flying = []) : ∀ j, stepN (fun _ => tTake) (k + j) r = stepN (fun _ => tTake) k r
  | 0 => rfl
  | j + 1 => by
    show (ringStep (stepN (fun _ => tTake) (k + j) r) tTake).1 = _
    rw [takes_stay r k h j, take_stay _ h]

def calmA (r : Ring) : Ring := stepN (fun _ => tTake) 110 r
def calmB (r : Ring) : Ring := stepN tRest r.actives.length (calmA r)
def calm (r : Ring) : Ring := stepN (fun _ => tPass) (4 + 4 * r.actives.length) (calmB r)
theorem calm_bad (r : Ring) (h : ringOk r = false) : calm r = r := by
  have h1 : calmA r = r := stepN_bad _ _ h _
  have h2 : calmB r = r := by unfold calmB; rw [h1]; exact stepN_bad _ _ h _
  unfold calm; rw [h2]; exact stepN_bad _ _ h _

theorem implCalmRing_ct (v : Value) (r : Ring) (hc : r.cells ≤ 1048576) :
    Ct Try.prog 23 [v] [] (fun H => rdV true rpRing H v r) (fun v A => OwR v (calm r) A) := by
  refine Ct.intro0 G_ok Try.func23 rfl rfl rfl fun E H hp => ?_
  have hp0 := hp
  obtain ⟨_, rfl, b1, b2, b3, b4, c1, c2, c3, c4, rfl, h1, h2, h3, h4, h5, h6⟩ := hp
  refine VCnew.intro fun bb => VCnew.intro fun bz => ?_
  refine call_new (copyRing_ct _ r hc) (rdV_mono (mem_at 0 rfl) hp0) ?_
  rintro v1 A1 o1
  obtain ⟨d1, d2, d3, d4, g1, g2, g3, g4, B1, B2, B3, B4, rfl, -, -⟩ := id o1
  refine VCnew.intro fun bo => ?_
  refine call_val (implRingOk_ct _ r) (rdV_mono (mem_at 1 rfl) hp0) ?_
  rintro _ rfl
  refine VCsplit.intro (fun q1 => ?_) (fun q1 => ?_)
  · rw [calm_bad r (by simpa using q1)]
    exact ⟨_, o1, .tl⟩
  have q1 : ringOk r = true := by simpa using q1
  have hlen := ringOk_len q1
  refine loop_intro (α := Nat × List Value × Hp) G_ok (fun z => ⟨[(2, .p 1 0), (3, .p 2 0), (4, .v (.int .i64 z.1))], [⟨bb, ringCells r b1 b2 b3 b4 c1 c2 c3 c4, 34⟩, ⟨bz, ringCells ⟨[], [], [], [], 0, 0, false, false⟩ none none none none 0 0 0 0, 34⟩, ⟨bo, z.2.1, 34⟩], [z.2.2, H]⟩)
    (fun z => 110 - z.1) (fun z => z.1 ≤ 110 ∧ OwR (.agg ⟨z.2.1⟩) (stepN (fun _ => tTake) z.1 (r)) z.2.2) (0, _, A1) ⟨by omega, o1⟩
    ⟨⟨⟨_, rfl, rfl, by simp [SV.ok]⟩, ⟨_, rfl, rfl, by simp [SV.ok]⟩, ⟨_, rfl, rfl, trivial⟩, trivial⟩, ⟨rfl, rfl, rfl, trivial⟩, .refl _⟩ ?_
  rintro ⟨i, l, A⟩ hI
  obtain ⟨hi, ho⟩ : i ≤ 110 ∧ OwR (.agg ⟨l⟩) (stepN (fun _ => tTake) i (r)) A := hI
  obtain ⟨d1, d2, d3, d4, g1, g2, g3, g4, B1, B2, B3, B4, el, -, -⟩ := id ho
  cases el
  have hend : (stepN (fun _ => tTake) i r).flying = [] ∨ i = 110 → stepN (fun _ => tTake) i r = calmA r := by
    rintro (h | rfl)
    · have := takes_stay r i h (110 - i)
      rw [show i + (110 - i) = 110 by omega] at this
      exact this.symm
    · rfl
  refine VCsplit.intro (fun q2 => ?_) (fun q2 => ?_)
  · refine VCsplit.intro (fun q3 => ?_) (fun q3 => ?_)
    · have hb : i + 1 ≤ 110 := by simp at q2; omega
      refine call_new (implRingStep_ct _ (stepN (fun _ => tTake) i (r)) ((fun _ => tTake) i) (stepN_cells _ _ hc i) (by unfold okI tTake; simp)) (rdV_mono (mem_at 0 rfl) ho.rd) ?_
      rintro _ A2 ⟨w, rfl, o2⟩
      obtain ⟨_, _, _, _, _, _, _, _, _, _, _, _, rfl, -, -⟩ := id o2
      refine ⟨(i + 1, _, A2), ⟨hb, o2⟩, by simp only; omega, ⟨⟨_, rfl, rfl, by simp [SV.ok]⟩, ⟨_, rfl, rfl, by simp [SV.ok]⟩, ⟨_, rfl, inc_eq i (by omega), trivial⟩, trivial⟩, ⟨rfl, rfl, rfl, trivial⟩, .le fun a => by simp⟩
    · have hA0 := hend (.inl (by simp at q3; exact q3))
      have hA : OwR (.agg ⟨ringCells (stepN (fun _ => tTake) i r) d1 d2 d3 d4 g1 g2 g3 g4⟩) (calmA r) A := by rw [hA0] at ho ⊢; exact ho
      have hn : (stepN (fun _ => tTake) i r).actives.length = r.actives.length := stepN_len _ _ _
      have hcA : (calmA r).cells ≤ 1048576 := stepN_cells _ _ hc _
      refine loop_intro (α := Nat × List Value × Hp) G_ok (fun z => ⟨[(2, .p 1 0), (3, .p 2 0), (31, .v (.int .i64 z.1)), (30, .v (.int .i64 r.actives.length))], [⟨bb, ringCells r b1 b2 b3 b4 c1 c2 c3 c4, 34⟩, ⟨bz, ringCells ⟨[], [], [], [], 0, 0, false, false⟩ none none none none 0 0 0 0, 34⟩, ⟨bo, z.2.1, 34⟩], [z.2.2, H]⟩)
        (fun z => r.actives.length - z.1) (fun z => z.1 ≤ r.actives.length ∧ OwR (.agg ⟨z.2.1⟩) (stepN (tRest) z.1 (calmA r)) z.2.2) (0, _, A) ⟨by omega, hA⟩
        ⟨⟨⟨_, rfl, rfl, by simp [SV.ok]⟩, ⟨_, rfl, rfl, by simp [SV.ok]⟩, ⟨_, rfl, rfl, trivial⟩, ⟨_, rfl, by rw [hn]; rfl, trivial⟩, trivial⟩, ⟨rfl, rfl, rfl, trivial⟩, .refl _⟩ ?_
      rintro ⟨i, l, A⟩ hI
      obtain ⟨hi, ho⟩ : i ≤ r.actives.length ∧ OwR (.agg ⟨l⟩) (stepN (tRest) i (calmA r)) A := hI
      obtain ⟨d1, d2, d3, d4, g1, g2, g3, g4, B1, B2, B3, B4, el, -, -⟩ := id ho
      cases el
      refine VCsplit.intro (fun q2 => ?_) (fun q2 => ?_)
      · have hb : i + 1 ≤ r.actives.length := by simp at q2; omega
        refine call_new (implRingStep_ct _ (stepN (tRest) i (calmA r)) ((tRest) i) (stepN_cells _ _ hcA i) (by unfold okI tRest; simp)) (rdV_mono (mem_at 0 rfl) ho.rd) ?_
        rintro _ A2 ⟨w, rfl, o2⟩
        obtain ⟨_, _, _, _, _, _, _, _, _, _, _, _, rfl, -, -⟩ := id o2
        refine ⟨(i + 1, _, A2), ⟨hb, o2⟩, by simp only; omega, ⟨⟨_, rfl, rfl, by simp [SV.ok]⟩, ⟨_, rfl, rfl, by simp [SV.ok]⟩, ⟨_, rfl, inc_eq i (by omega), trivial⟩, ⟨_, rfl, rfl, trivial⟩, trivial⟩, ⟨rfl, rfl, rfl, trivial⟩, .le fun a => by simp⟩
      · have hi2 : i = r.actives.length := by simp at q2; omega
        have hB : OwR (.agg ⟨ringCells (stepN tRest i (calmA r)) d1 d2 d3 d4 g1 g2 g3 g4⟩) (calmB r) A := by
          have : stepN tRest i (calmA r) = calmB r := by rw [hi2]; rfl
          rw [this] at ho ⊢; exact ho
        have hn2 : (stepN tRest i (calmA r)).actives.length = r.actives.length := by rw [stepN_len]; exact stepN_len _ _ _
        have hcB : (calmB r).cells ≤ 1048576 := stepN_cells _ _ hcA _
        have e4 : IntKind.i64.wrap (4 + IntKind.i64.wrap (4 * ((stepN tRest i (calmA r)).actives.length : Int))) = ((4 + 4 * r.actives.length : Nat) : Int) := by
          rw [hn2, wrap_ok (x := 4 * (r.actives.length : Int)) (by unfold okI; omega), wrap_ok (by unfold okI; omega)]; omega
        refine loop_intro (α := Nat × List Value × Hp) G_ok (fun z => ⟨[(2, .p 1 0), (3, .p 2 0), (47, .v (.int .i64 z.1)), (46, .v (.int .i64 (4 + 4 * r.actives.length : Nat)))], [⟨bb, ringCells r b1 b2 b3 b4 c1 c2 c3 c4, 34⟩, ⟨bz, ringCells ⟨[], [], [], [], 0, 0, false, false⟩ none none none none 0 0 0 0, 34⟩, ⟨bo, z.2.1, 34⟩], [z.2.2, H]⟩)
          (fun z => (4 + 4 * r.actives.length) - z.1) (fun z => z.1 ≤ (4 + 4 * r.actives.length) ∧ OwR (.agg ⟨z.2.1⟩) (stepN (fun _ => tPass) z.1 (calmB r)) z.2.2) (0, _, A) ⟨by omega, hB⟩
          ⟨⟨⟨_, rfl, rfl, by simp [SV.ok]⟩, ⟨_, rfl, rfl, by simp [SV.ok]⟩, ⟨_, rfl, rfl, trivial⟩, ⟨_, rfl, by rw [e4]; rfl, trivial⟩, trivial⟩, ⟨rfl, rfl, rfl, trivial⟩, .refl _⟩ ?_
        rintro ⟨i, l, A⟩ hI
        obtain ⟨hi, ho⟩ : i ≤ (4 + 4 * r.actives.length) ∧ OwR (.agg ⟨l⟩) (stepN (fun _ => tPass) i (calmB r)) A := hI
        obtain ⟨d1, d2, d3, d4, g1, g2, g3, g4, B1, B2, B3, B4, el, -, -⟩ := id ho
        cases el
        refine VCsplit.intro (fun q2 => ?_) (fun q2 => ?_)
        · have hb : i + 1 ≤ 4 + 4 * r.actives.length := by simp at q2; omega
          refine call_new (implRingStep_ct _ (stepN (fun _ => tPass) i (calmB r)) ((fun _ => tPass) i) (stepN_cells _ _ hcB i) (by unfold okI tPass; simp)) (rdV_mono (mem_at 0 rfl) ho.rd) ?_
          rintro _ A2 ⟨w, rfl, o2⟩
          obtain ⟨_, _, _, _, _, _, _, _, _, _, _, _, rfl, -, -⟩ := id o2
          refine ⟨(i + 1, _, A2), ⟨hb, o2⟩, by simp only; omega, ⟨⟨_, rfl, rfl, by simp [SV.ok]⟩, ⟨_, rfl, rfl, by simp [SV.ok]⟩, ⟨_, rfl, inc_eq i (by omega), trivial⟩, ⟨_, rfl, rfl, trivial⟩, trivial⟩, ⟨rfl, rfl, rfl, trivial⟩, .le fun a => by simp⟩
        · have hi3 : i = 4 + 4 * r.actives.length := by simp at q2; omega
          have hC : OwR (.agg ⟨ringCells (stepN (fun _ => tPass) i (calmB r)) d1 d2 d3 d4 g1 g2 g3 g4⟩) (calm r) A := by
            have : stepN (fun _ => tPass) i (calmB r) = calm r := by rw [hi3]; rfl
            rw [this] at ho ⊢; exact ho
          exact ⟨_, hC, .tl⟩
  · have hA0 := hend (.inr (by simp at q2; omega))
    have hA : OwR (.agg ⟨ringCells (stepN (fun _ => tTake) i r) d1 d2 d3 d4 g1 g2 g3 g4⟩) (calmA r) A := by rw [hA0] at ho ⊢; exact ho
    have hn : (stepN (fun _ => tTake) i r).actives.length = r.actives.length := stepN_len _ _ _
    have hcA : (calmA r).cells ≤ 1048576 := stepN_cells _ _ hc _
    refine loop_intro (α := Nat × List Value × Hp) G_ok (fun z => ⟨[(2, .p 1 0), (3, .p 2 0), (31, .v (.int .i64 z.1)), (30, .v (.int .i64 r.actives.length))], [⟨bb, ringCells r b1 b2 b3 b4 c1 c2 c3 c4, 34⟩, ⟨bz, ringCells ⟨[], [], [], [], 0, 0, false, false⟩ none none none none 0 0 0 0, 34⟩, ⟨bo, z.2.1, 34⟩], [z.2.2, H]⟩)
      (fun z => r.actives.length - z.1) (fun z => z.1 ≤ r.actives.length ∧ OwR (.agg ⟨z.2.1⟩) (stepN (tRest) z.1 (calmA r)) z.2.2) (0, _, A) ⟨by omega, hA⟩
      ⟨⟨⟨_, rfl, rfl, by simp [SV.ok]⟩, ⟨_, rfl, rfl, by simp [SV.ok]⟩, ⟨_, rfl, rfl, trivial⟩, ⟨_, rfl, by rw [hn]; rfl, trivial⟩, trivial⟩, ⟨rfl, rfl, rfl, trivial⟩, .refl _⟩ ?_
    rintro ⟨i, l, A⟩ hI
    obtain ⟨hi, ho⟩ : i ≤ r.actives.length ∧ OwR (.agg ⟨l⟩) (stepN (tRest) i (calmA r)) A := hI
    obtain ⟨d1, d2, d3, d4, g1, g2, g3, g4, B1, B2, B3, B4, el, -, -⟩ := id ho
    cases el
    refine VCsplit.intro (fun q2 => ?_) (fun q2 => ?_)
    · have hb : i + 1 ≤ r.actives.length := by simp at q2; omega
      refine call_new (implRingStep_ct _ (stepN (tRest) i (calmA r)) ((tRest) i) (stepN_cells _ _ hcA i) (by unfold okI tRest; simp)) (rdV_mono (mem_at 0 rfl) ho.rd) ?_
      rintro _ A2 ⟨w, rfl, o2⟩
      obtain ⟨_, _, _, _, _, _, _, _, _, _, _, _, rfl, -, -⟩ := id o2
      refine ⟨(i + 1, _, A2), ⟨hb, o2⟩, by simp only; omega, ⟨⟨_, rfl, rfl, by simp [SV.ok]⟩, ⟨_, rfl, rfl, by simp [SV.ok]⟩, ⟨_, rfl, inc_eq i (by omega), trivial⟩, ⟨_, rfl, rfl, trivial⟩, trivial⟩, ⟨rfl, rfl, rfl, trivial⟩, .le fun a => by simp⟩
    · have hi2 : i = r.actives.length := by simp at q2; omega
      have hB : OwR (.agg ⟨ringCells (stepN tRest i (calmA r)) d1 d2 d3 d4 g1 g2 g3 g4⟩) (calmB r) A := by
        have : stepN tRest i (calmA r) = calmB r := by rw [hi2]; rfl
        rw [this] at ho ⊢; exact ho
      have hn2 : (stepN tRest i (calmA r)).actives.length = r.actives.length := by rw [stepN_len]; exact stepN_len _ _ _
      have hcB : (calmB r).cells ≤ 1048576 := stepN_cells _ _ hcA _
      have e4 : IntKind.i64.wrap (4 + IntKind.i64.wrap (4 * ((stepN tRest i (calmA r)).actives.length : Int))) = ((4 + 4 * r.actives.length : Nat) : Int) := by
        rw [hn2, wrap_ok (x := 4 * (r.actives.length : Int)) (by unfold okI; omega), wrap_ok (by unfold okI; omega)]; omega
      refine loop_intro (α := Nat × List Value × Hp) G_ok (fun z => ⟨[(2, .p 1 0), (3, .p 2 0), (47, .v (.int .i64 z.1)), (46, .v (.int .i64 (4 + 4 * r.actives.length : Nat)))], [⟨bb, ringCells r b1 b2 b3 b4 c1 c2 c3 c4, 34⟩, ⟨bz, ringCells ⟨[], [], [], [], 0, 0, false, false⟩ none none none none 0 0 0 0, 34⟩, ⟨bo, z.2.1, 34⟩], [z.2.2, H]⟩)
        (fun z => (4 + 4 * r.actives.length) - z.1) (fun z => z.1 ≤ (4 + 4 * r.actives.length) ∧ OwR (.agg ⟨z.2.1⟩) (stepN (fun _ => tPass) z.1 (calmB r)) z.2.2) (0, _, A) ⟨by omega, hB⟩
        ⟨⟨⟨_, rfl, rfl, by simp [SV.ok]⟩, ⟨_, rfl, rfl, by simp [SV.ok]⟩, ⟨_, rfl, rfl, trivial⟩, ⟨_, rfl, by rw [e4]; rfl, trivial⟩, trivial⟩, ⟨rfl, rfl, rfl, trivial⟩, .refl _⟩ ?_
      rintro ⟨i, l, A⟩ hI
      obtain ⟨hi, ho⟩ : i ≤ (4 + 4 * r.actives.length) ∧ OwR (.agg ⟨l⟩) (stepN (fun _ => tPass) i (calmB r)) A := hI
      obtain ⟨d1, d2, d3, d4, g1, g2, g3, g4, B1, B2, B3, B4, el, -, -⟩ := id ho
      cases el
      refine VCsplit.intro (fun q2 => ?_) (fun q2 => ?_)
      · have hb : i + 1 ≤ 4 + 4 * r.actives.length := by simp at q2; omega
        refine call_new (implRingStep_ct _ (stepN (fun _ => tPass) i (calmB r)) ((fun _ => tPass) i) (stepN_cells _ _ hcB i) (by unfold okI tPass; simp)) (rdV_mono (mem_at 0 rfl) ho.rd) ?_
        rintro _ A2 ⟨w, rfl, o2⟩
        obtain ⟨_, _, _, _, _, _, _, _, _, _, _, _, rfl, -, -⟩ := id o2
        refine ⟨(i + 1, _, A2), ⟨hb, o2⟩, by simp only; omega, ⟨⟨_, rfl, rfl, by simp [SV.ok]⟩, ⟨_, rfl, rfl, by simp [SV.ok]⟩, ⟨_, rfl, inc_eq i (by omega), trivial⟩, ⟨_, rfl, rfl, trivial⟩, trivial⟩, ⟨rfl, rfl, rfl, trivial⟩, .le fun a => by simp⟩
      · have hi3 : i = 4 + 4 * r.actives.length := by simp at q2; omega
        have hC : OwR (.agg ⟨ringCells (stepN (fun _ => tPass) i (calmB r)) d1 d2 d3 d4 g1 g2 g3 g4⟩) (calm r) A := by
          have : stepN (fun _ => tPass) i (calmB r) = calm r := by rw [hi3]; rfl
          rw [this] at ho ⊢; exact ho
        exact ⟨_, hC, .tl⟩
theorem specCalmRing_ct (v : Value) (r : Ring) (hc : r.cells ≤ 1048576) :
    Ct Try.prog 40 [v] [] (fun H => rdV true rpRing H v r) (fun v A => OwR v (calm r) A) := by
  refine Ct.intro0 G_ok Try.func40 rfl rfl rfl fun E H hp => ?_
  have hp0 := hp
  obtain ⟨_, rfl, b1, b2, b3, b4, c1, c2, c3, c4, rfl, h1, h2, h3, h4, h5, h6⟩ := hp
  refine VCnew.intro fun bb => VCnew.intro fun bz => ?_
  refine call_new (l22Copy_ct _ r hc) (rdV_mono (mem_at 0 rfl) hp0) ?_
  rintro v1 A1 o1
  obtain ⟨d1, d2, d3, d4, g1, g2, g3, g4, B1, B2, B3, B4, rfl, -, -⟩ := id o1
  refine VCnew.intro fun bo => ?_
  have hla : r.actives.length ≤ 1048576 := by unfold Ring.cells at hc; omega
  refine loop_intro (α := Nat × List Value × Hp) G_ok (fun z => ⟨[(2, .p 1 0), (3, .p 2 0), (4, .v (.int .i64 z.1))], [⟨bb, ringCells r b1 b2 b3 b4 c1 c2 c3 c4, 34⟩, ⟨bz, ringCells ⟨[], [], [], [], 0, 0, false, false⟩ none none none none 0 0 0 0, 34⟩, ⟨bo, z.2.1, 34⟩], [z.2.2, H]⟩)
    (fun z => 110 - z.1) (fun z => z.1 ≤ 110 ∧ OwR (.agg ⟨z.2.1⟩) (stepN (fun _ => tTake) z.1 (r)) z.2.2) (0, _, A1) ⟨by omega, o1⟩
    ⟨⟨⟨_, rfl, rfl, by simp [SV.ok]⟩, ⟨_, rfl, rfl, by simp [SV.ok]⟩, ⟨_, rfl, rfl, trivial⟩, trivial⟩, ⟨rfl, rfl, rfl, trivial⟩, .refl _⟩ ?_
  rintro ⟨i, l, A⟩ hI
  obtain ⟨hi, ho⟩ : i ≤ 110 ∧ OwR (.agg ⟨l⟩) (stepN (fun _ => tTake) i (r)) A := hI
  obtain ⟨d1, d2, d3, d4, g1, g2, g3, g4, B1, B2, B3, B4, el, -, -⟩ := id ho
  cases el
  have hend : (stepN (fun _ => tTake) i r).flying = [] ∨ i = 110 → stepN (fun _ => tTake) i r = calmA r := by
    rintro (h | rfl)
    · have := takes_stay r i h (110 - i)
      rw [show i + (110 - i) = 110 by omega] at this
      exact this.symm
    · rfl
  refine VCsplit.intro (fun q2 => ?_) (fun q2 => ?_)
  · refine VCsplit.intro (fun q3 => ?_) (fun q3 => ?_)
    · have hb : i + 1 ≤ 110 := by simp at q2; omega
      refine call_new (specRingStep_ct _ (stepN (fun _ => tTake) i (r)) ((fun _ => tTake) i) (stepN_cells _ _ hc i) (by unfold okI tTake; simp)) (rdV_mono (mem_at 0 rfl) ho.rd) ?_
      rintro _ A2 ⟨w, rfl, o2⟩
      obtain ⟨_, _, _, _, _, _, _, _, _, _, _, _, rfl, -, -⟩ := id o2
      refine ⟨(i + 1, _, A2), ⟨hb, o2⟩, by simp only; omega, ⟨⟨_, rfl, rfl, by simp [SV.ok]⟩, ⟨_, rfl, rfl, by simp [SV.ok]⟩, ⟨_, rfl, inc_eq i (by omega), trivial⟩, trivial⟩, ⟨rfl, rfl, rfl, trivial⟩, .le fun a => by simp⟩
    · have hA0 := hend (.inl (by simp at q3; exact q3))
      have hA : OwR (.agg ⟨ringCells (stepN (fun _ => tTake) i r) d1 d2 d3 d4 g1 g2 g3 g4⟩) (calmA r) A := by rw [hA0] at ho ⊢; exact ho
      have hcA : (calmA r).cells ≤ 1048576 := stepN_cells _ _ hc _
      refine loop_intro (α := Nat × List Value × Hp) G_ok (fun z => ⟨[(2, .p 1 0), (3, .p 2 0), (5, .v (.int .i64 z.1))], [⟨bb, ringCells r b1 b2 b3 b4 c1 c2 c3 c4, 34⟩, ⟨bz, ringCells ⟨[], [], [], [], 0, 0, false, false⟩ none none none none 0 0 0 0, 34⟩, ⟨bo, z.2.1, 34⟩], [z.2.2, H]⟩)
        (fun z => (min r.actives.length 8) - z.1) (fun z => z.1 ≤ (min r.actives.length 8) ∧ OwR (.agg ⟨z.2.1⟩) (stepN (tRest) z.1 (calmA r)) z.2.2) (0, _, A) ⟨by omega, hA⟩
        ⟨⟨⟨_, rfl, rfl, by simp [SV.ok]⟩, ⟨_, rfl, rfl, by simp [SV.ok]⟩, ⟨_, rfl, rfl, trivial⟩, trivial⟩, ⟨rfl, rfl, rfl, trivial⟩, .refl _⟩ ?_
      rintro ⟨i, l, A⟩ hI
      obtain ⟨hi, ho⟩ : i ≤ (min r.actives.length 8) ∧ OwR (.agg ⟨l⟩) (stepN (tRest) i (calmA r)) A := hI
      obtain ⟨d1, d2, d3, d4, g1, g2, g3, g4, B1, B2, B3, B4, el, -, -⟩ := id ho
      cases el
      have hn : (stepN tRest i (calmA r)).actives.length = r.actives.length := by rw [stepN_len]; exact stepN_len _ _ _
      refine VCsplit.intro (fun q2 => ?_) (fun q2 => ?_)
      · rw [hn] at q2
        refine VCsplit.intro (fun q3 => ?_) (fun q3 => ?_)
        · have hb : i + 1 ≤ min r.actives.length 8 := by simp at q2 q3; omega
          refine call_new (specRingStep_ct _ (stepN (tRest) i (calmA r)) ((tRest) i) (stepN_cells _ _ hcA i) (by unfold okI tRest; simp)) (rdV_mono (mem_at 0 rfl) ho.rd) ?_
          rintro _ A2 ⟨w, rfl, o2⟩
          obtain ⟨_, _, _, _, _, _, _, _, _, _, _, _, rfl, -, -⟩ := id o2
          refine ⟨(i + 1, _, A2), ⟨hb, o2⟩, by simp only; omega, ⟨⟨_, rfl, rfl, by simp [SV.ok]⟩, ⟨_, rfl, rfl, by simp [SV.ok]⟩, ⟨_, rfl, inc_eq i (by omega), trivial⟩, trivial⟩, ⟨rfl, rfl, rfl, trivial⟩, .le fun a => by simp⟩
        · have hi2 : i = min r.actives.length 8 := by simp at q2 q3; omega
          have hB : OwR (.agg ⟨ringCells (stepN tRest i (calmA r)) d1 d2 d3 d4 g1 g2 g3 g4⟩) (calmB r) A := by
            have : stepN tRest i (calmA r) = calmB r := by
              cases hq : ringOk r with
              | true =>
                have := ringOk_len hq
                have : i = r.actives.length := by omega
                rw [this]; rfl
              | false =>
                unfold calmB
                have : calmA r = r := stepN_bad _ _ hq _
                rw [this, stepN_bad _ _ hq, stepN_bad _ _ hq]
            rw [this] at ho ⊢; exact ho
          have hcB : (calmB r).cells ≤ 1048576 := stepN_cells _ _ hcA _
          have hlB : (calmB r).actives.length = r.actives.length := by
            unfold calmB; rw [stepN_len]; exact stepN_len _ _ _
          refine loop_intro (α := Nat × List Value × Hp) G_ok (fun z => ⟨[(2, .p 1 0), (3, .p 2 0), (6, .v (.int .i64 z.1))], [⟨bb, ringCells r b1 b2 b3 b4 c1 c2 c3 c4, 34⟩, ⟨bz, ringCells ⟨[], [], [], [], 0, 0, false, false⟩ none none none none 0 0 0 0, 34⟩, ⟨bo, z.2.1, 34⟩], [z.2.2, H]⟩)
            (fun z => (min (4 * r.actives.length + 4) 40) - z.1) (fun z => z.1 ≤ (min (4 * r.actives.length + 4) 40) ∧ OwR (.agg ⟨z.2.1⟩) (stepN (fun _ => tPass) z.1 (calmB r)) z.2.2) (0, _, A) ⟨by omega, hB⟩
            ⟨⟨⟨_, rfl, rfl, by simp [SV.ok]⟩, ⟨_, rfl, rfl, by simp [SV.ok]⟩, ⟨_, rfl, rfl, trivial⟩, trivial⟩, ⟨rfl, rfl, rfl, trivial⟩, .refl _⟩ ?_
          rintro ⟨i, l, A⟩ hI
          obtain ⟨hi, ho⟩ : i ≤ (min (4 * r.actives.length + 4) 40) ∧ OwR (.agg ⟨l⟩) (stepN (fun _ => tPass) i (calmB r)) A := hI
          obtain ⟨d1, d2, d3, d4, g1, g2, g3, g4, B1, B2, B3, B4, el, -, -⟩ := id ho
          cases el
          have hn : (stepN (fun _ => tPass) i (calmB r)).actives.length = r.actives.length := by rw [stepN_len]; exact hlB
          have e4 : IntKind.i64.wrap (IntKind.i64.wrap (4 * ((stepN (fun _ => tPass) i (calmB r)).actives.length : Int)) + 4) = ((4 * r.actives.length + 4 : Nat) : Int) := by
            rw [hn, wrap_ok (x := 4 * (r.actives.length : Int)) (by unfold okI; omega), wrap_ok (by unfold okI; omega)]; omega
          refine VCsplit.intro (fun q2 => ?_) (fun q2 => ?_)
          · rw [e4] at q2
            refine VCsplit.intro (fun q3 => ?_) (fun q3 => ?_)
            · have hb : i + 1 ≤ min (4 * r.actives.length + 4) 40 := by simp at q2 q3; omega
              refine call_new (specRingStep_ct _ (stepN (fun _ => tPass) i (calmB r)) ((fun _ => tPass) i) (stepN_cells _ _ hcB i) (by unfold okI tPass; simp)) (rdV_mono (mem_at 0 rfl) ho.rd) ?_
              rintro _ A2 ⟨w, rfl, o2⟩
              obtain ⟨_, _, _, _, _, _, _, _, _, _, _, _, rfl, -, -⟩ := id o2
              refine ⟨(i + 1, _, A2), ⟨hb, o2⟩, by simp only; omega, ⟨⟨_, rfl, rfl, by simp [SV.ok]⟩, ⟨_, rfl, rfl, by simp [SV.ok]⟩, ⟨_, rfl, inc_eq i (by omega), trivial⟩, trivial⟩, ⟨rfl, rfl, rfl, trivial⟩, .le fun a => by simp⟩
            · have hi3 : i = min (4 * r.actives.length + 4) 40 := by simp at q2 q3; omega
              have hC : OwR (.agg ⟨ringCells (stepN (fun _ => tPass) i (calmB r)) d1 d2 d3 d4 g1 g2 g3 g4⟩) (calm r) A := by
                have : stepN (fun _ => tPass) i (calmB r) = calm r := by
                  cases hq : ringOk r with
                  | true =>
                    have := ringOk_len hq
                    have : i = 4 + 4 * r.actives.length := by omega
                    rw [this]; rfl
                  | false =>
                    rw [calm_bad r hq]
                    have h1 : calmA r = r := stepN_bad _ _ hq _
                    have h2 : calmB r = r := by unfold calmB; rw [h1]; exact stepN_bad _ _ hq _
                    rw [h2]; exact stepN_bad _ _ hq _
                rw [this] at ho ⊢; exact ho
              exact ⟨_, hC, .tl⟩
          · rw [e4] at q2
            have hi3 : i = min (4 * r.actives.length + 4) 40 := by simp at q2; omega
            have hC : OwR (.agg ⟨ringCells (stepN (fun _ => tPass) i (calmB r)) d1 d2 d3 d4 g1 g2 g3 g4⟩) (calm r) A := by
              have : stepN (fun _ => tPass) i (calmB r) = calm r := by
                cases hq : ringOk r with
                | true =>
                  have := ringOk_len hq
                  have : i = 4 + 4 * r.actives.length := by omega
                  rw [this]; rfl
                | false =>
                  rw [calm_bad r hq]
                  have h1 : calmA r = r := stepN_bad _ _ hq _
                  have h2 : calmB r = r := by unfold calmB; rw [h1]; exact stepN_bad _ _ hq _
                  rw [h2]; exact stepN_bad _ _ hq _
              rw [this] at ho ⊢; exact ho
            exact ⟨_, hC, .tl⟩
      · rw [hn] at q2
        have hi2 : i = min r.actives.length 8 := by simp at q2; omega
        have hB : OwR (.agg ⟨ringCells (stepN tRest i (calmA r)) d1 d2 d3 d4 g1 g2 g3 g4⟩) (calmB r) A := by
          have : stepN tRest i (calmA r) = calmB r := by
            cases hq : ringOk r with
            | true =>
              have := ringOk_len hq
              have : i = r.actives.length := by omega
              rw [this]; rfl
            | false =>
              unfold calmB
              have : calmA r = r := stepN_bad _ _ hq _
              rw [this, stepN_bad _ _ hq, stepN_bad _ _ hq]
          rw [this] at ho ⊢; exact ho
        have hcB : (calmB r).cells ≤ 1048576 := stepN_cells _ _ hcA _
        have hlB : (calmB r).actives.length = r.actives.length := by
          unfold calmB; rw [stepN_len]; exact stepN_len _ _ _
        refine loop_intro (α := Nat × List Value × Hp) G_ok (fun z => ⟨[(2, .p 1 0), (3, .p 2 0), (6, .v (.int .i64 z.1))], [⟨bb, ringCells r b1 b2 b3 b4 c1 c2 c3 c4, 34⟩, ⟨bz, ringCells ⟨[], [], [], [], 0, 0, false, false⟩ none none none none 0 0 0 0, 34⟩, ⟨bo, z.2.1, 34⟩], [z.2.2, H]⟩)
          (fun z => (min (4 * r.actives.length + 4) 40) - z.1) (fun z => z.1 ≤ (min (4 * r.actives.length + 4) 40) ∧ OwR (.agg ⟨z.2.1⟩) (stepN (fun _ => tPass) z.1 (calmB r)) z.2.2) (0, _, A) ⟨by omega, hB⟩
          ⟨⟨⟨_, rfl, rfl, by simp [SV.ok]⟩, ⟨_, rfl, rfl, by simp [SV.ok]⟩, ⟨_, rfl, rfl, trivial⟩, trivial⟩, ⟨rfl, rfl, rfl, trivial⟩, .refl _⟩ ?_
        rintro ⟨i, l, A⟩ hI
        obtain ⟨hi, ho⟩ : i ≤ (min (4 * r.actives.length + 4) 40) ∧ OwR (.agg ⟨l⟩) (stepN (fun _ => tPass) i (calmB r)) A := hI
        obtain ⟨d1, d2, d3, d4, g1, g2, g3, g4, B1, B2, B3, B4, el, -, -⟩ := id ho
        cases el
        have hn : (stepN (fun _ => tPass) i (calmB r)).actives.length = r.actives.length := by rw [stepN_len]; exact hlB
        have e4 : IntKind.i64.wrap (IntKind.i64.wrap (4 * ((stepN (fun _ => tPass) i (calmB r)).actives.length : Int)) + 4) = ((4 * r.actives.length + 4 : Nat) : Int) := by
          rw [hn, wrap_ok (x := 4 * (r.actives.length : Int)) (by unfold okI; omega), wrap_ok (by unfold okI; omega)]; omega
        refine VCsplit.intro (fun q2 => ?_) (fun q2 => ?_)
        · rw [e4] at q2
          refine VCsplit.intro (fun q3 => ?_) (fun q3 => ?_)
          · have hb : i + 1 ≤ min (4 * r.actives.length + 4) 40 := by simp at q2 q3; omega
            refine call_new (specRingStep_ct _ (stepN (fun _ => tPass) i (calmB r)) ((fun _ => tPass) i) (stepN_cells _ _ hcB i) (by unfold okI tPass; simp)) (rdV_mono (mem_at 0 rfl) ho.rd) ?_
            rintro _ A2 ⟨w, rfl, o2⟩
            obtain ⟨_, _, _, _, _, _, _, _, _, _, _, _, rfl, -, -⟩ := id o2
            refine ⟨(i + 1, _, A2), ⟨hb, o2⟩, by simp only; omega, ⟨⟨_, rfl, rfl, by simp [SV.ok]⟩, ⟨_, rfl, rfl, by simp [SV.ok]⟩, ⟨_, rfl, inc_eq i (by omega), trivial⟩, trivial⟩, ⟨rfl, rfl, rfl, trivial⟩, .le fun a => by simp⟩
          · have hi3 : i = min (4 * r.actives.length + 4) 40 := by simp at q2 q3; omega
            have hC : OwR (.agg ⟨ringCells (stepN (fun _ => tPass) i (calmB r)) d1 d2 d3 d4 g1 g2 g3 g4⟩) (calm r) A := by
              have : stepN (fun _ => tPass) i (calmB r) = calm r := by
                cases hq : ringOk r with
                | true =>
                  have := ringOk_len hq
                  have : i = 4 + 4 * r.actives.length := by omega
                  rw [this]; rfl
                | false =>
                  rw [calm_bad r hq]
                  have h1 : calmA r = r := stepN_bad _ _ hq _
                  have h2 : calmB r = r := by unfold calmB; rw [h1]; exact stepN_bad _ _ hq _
                  rw [h2]; exact stepN_bad _ _ hq _
              rw [this] at ho ⊢; exact ho
            exact ⟨_, hC, .tl⟩
        · rw [e4] at q2
          have hi3 : i = min (4 * r.actives.length + 4) 40 := by simp at q2; omega
          have hC : OwR (.agg ⟨ringCells (stepN (fun _ => tPass) i (calmB r)) d1 d2 d3 d4 g1 g2 g3 g4⟩) (calm r) A := by
            have : stepN (fun _ => tPass) i (calmB r) = calm r := by
              cases hq : ringOk r with
              | true =>
                have := ringOk_len hq
                have : i = 4 + 4 * r.actives.length := by omega
                rw [this]; rfl
              | false =>
                rw [calm_bad r hq]
                have h1 : calmA r = r := stepN_bad _ _ hq _
                have h2 : calmB r = r := by unfold calmB; rw [h1]; exact stepN_bad _ _ hq _
                rw [h2]; exact stepN_bad _ _ hq _
            rw [this] at ho ⊢; exact ho
          exact ⟨_, hC, .tl⟩
  · have hA0 := hend (.inr (by simp at q2; omega))
    have hA : OwR (.agg ⟨ringCells (stepN (fun _ => tTake) i r) d1 d2 d3 d4 g1 g2 g3 g4⟩) (calmA r) A := by rw [hA0] at ho ⊢; exact ho
    have hcA : (calmA r).cells ≤ 1048576 := stepN_cells _ _ hc _
    refine loop_intro (α := Nat × List Value × Hp) G_ok (fun z => ⟨[(2, .p 1 0), (3, .p 2 0), (5, .v (.int .i64 z.1))], [⟨bb, ringCells r b1 b2 b3 b4 c1 c2 c3 c4, 34⟩, ⟨bz, ringCells ⟨[], [], [], [], 0, 0, false, false⟩ none none none none 0 0 0 0, 34⟩, ⟨bo, z.2.1, 34⟩], [z.2.2, H]⟩)
      (fun z => (min r.actives.length 8) - z.1) (fun z => z.1 ≤ (min r.actives.length 8) ∧ OwR (.agg ⟨z.2.1⟩) (stepN (tRest) z.1 (calmA r)) z.2.2) (0, _, A) ⟨by omega, hA⟩
      ⟨⟨⟨_, rfl, rfl, by simp [SV.ok]⟩, ⟨_, rfl, rfl, by simp [SV.ok]⟩, ⟨_, rfl, rfl, trivial⟩, trivial⟩, ⟨rfl, rfl, rfl, trivial⟩, .refl _⟩ ?_
    rintro ⟨i, l, A⟩ hI
    obtain ⟨hi, ho⟩ : i ≤ (min r.actives.length 8) ∧ OwR (.agg ⟨l⟩) (stepN (tRest) i (calmA r)) A := hI
    obtain ⟨d1, d2, d3, d4, g1, g2, g3, g4, B1, B2, B3, B4, el, -, -⟩ := id ho
    cases el
    have hn : (stepN tRest i (calmA r)).actives.length = r.actives.length := by rw [stepN_len]; exact stepN_len _ _ _
    refine VCsplit.intro (fun q2 => ?_) (fun q2 => ?_)
    · rw [hn] at q2
      refine VCsplit.intro (fun q3 => ?_) (fun q3 => ?_)
      · have hb : i + 1 ≤ min r.actives.length 8 := by simp at q2 q3; omega
        refine call_new (specRingStep_ct _ (stepN (tRest) i (calmA r)) ((tRest) i) (stepN_cells _ _ hcA i) (by unfold okI tRest; simp)) (rdV_mono (mem_at 0 rfl) ho.rd) ?_
        rintro _ A2 ⟨w, rfl, o2⟩
        obtain ⟨_, _, _, _, _, _, _, _, _, _, _, _, rfl, -, -⟩ := id o2
        refine ⟨(i + 1, _, A2), ⟨hb, o2⟩, by simp only; omega, ⟨⟨_, rfl, rfl, by simp [SV.ok]⟩, ⟨_, rfl, rfl, by simp [SV.ok]⟩, ⟨_, rfl, inc_eq i (by omega), trivial⟩, trivial⟩, ⟨rfl, rfl, rfl, trivial⟩, .le fun a => by simp⟩
      · have hi2 : i = min r.actives.length 8 := by simp at q2 q3; omega
        have hB : OwR (.agg ⟨ringCells (stepN tRest i (calmA r)) d1 d2 d3 d4 g1 g2 g3 g4⟩) (calmB r) A := by
          have : stepN tRest i (calmA r) = calmB r := by
            cases hq : ringOk r with
            | true =>
              have := ringOk_len hq
              have : i = r.actives.length := by omega
              rw [this]; rfl
            | false =>
              unfold calmB
              have : calmA r = r := stepN_bad _ _ hq _
              rw [this, stepN_bad _ _ hq, stepN_bad _ _ hq]
          rw [this] at ho ⊢; exact ho
        have hcB : (calmB r).cells ≤ 1048576 := stepN_cells _ _ hcA _
        have hlB : (calmB r).actives.length = r.actives.length := by
          unfold calmB; rw [stepN_len]; exact stepN_len _ _ _
        refine loop_intro (α := Nat × List Value × Hp) G_ok (fun z => ⟨[(2, .p 1 0), (3, .p 2 0), (6, .v (.int .i64 z.1))], [⟨bb, ringCells r b1 b2 b3 b4 c1 c2 c3 c4, 34⟩, ⟨bz, ringCells ⟨[], [], [], [], 0, 0, false, false⟩ none none none none 0 0 0 0, 34⟩, ⟨bo, z.2.1, 34⟩], [z.2.2, H]⟩)
          (fun z => (min (4 * r.actives.length + 4) 40) - z.1) (fun z => z.1 ≤ (min (4 * r.actives.length + 4) 40) ∧ OwR (.agg ⟨z.2.1⟩) (stepN (fun _ => tPass) z.1 (calmB r)) z.2.2) (0, _, A) ⟨by omega, hB⟩
          ⟨⟨⟨_, rfl, rfl, by simp [SV.ok]⟩, ⟨_, rfl, rfl, by simp [SV.ok]⟩, ⟨_, rfl, rfl, trivial⟩, trivial⟩, ⟨rfl, rfl, rfl, trivial⟩, .refl _⟩ ?_
        rintro ⟨i, l, A⟩ hI
        obtain ⟨hi, ho⟩ : i ≤ (min (4 * r.actives.length + 4) 40) ∧ OwR (.agg ⟨l⟩) (stepN (fun _ => tPass) i (calmB r)) A := hI
        obtain ⟨d1, d2, d3, d4, g1, g2, g3, g4, B1, B2, B3, B4, el, -, -⟩ := id ho
        cases el
        have hn : (stepN (fun _ => tPass) i (calmB r)).actives.length = r.actives.length := by rw [stepN_len]; exact hlB
        have e4 : IntKind.i64.wrap (IntKind.i64.wrap (4 * ((stepN (fun _ => tPass) i (calmB r)).actives.length : Int)) + 4) = ((4 * r.actives.length + 4 : Nat) : Int) := by
          rw [hn, wrap_ok (x := 4 * (r.actives.length : Int)) (by unfold okI; omega), wrap_ok (by unfold okI; omega)]; omega
        refine VCsplit.intro (fun q2 => ?_) (fun q2 => ?_)
        · rw [e4] at q2
          refine VCsplit.intro (fun q3 => ?_) (fun q3 => ?_)
          · have hb : i + 1 ≤ min (4 * r.actives.length + 4) 40 := by simp at q2 q3; omega
            refine call_new (specRingStep_ct _ (stepN (fun _ => tPass) i (calmB r)) ((fun _ => tPass) i) (stepN_cells _ _ hcB i) (by unfold okI tPass; simp)) (rdV_mono (mem_at 0 rfl) ho.rd) ?_
            rintro _ A2 ⟨w, rfl, o2⟩
            obtain ⟨_, _, _, _, _, _, _, _, _, _, _, _, rfl, -, -⟩ := id o2
            refine ⟨(i + 1, _, A2), ⟨hb, o2⟩, by simp only; omega, ⟨⟨_, rfl, rfl, by simp [SV.ok]⟩, ⟨_, rfl, rfl, by simp [SV.ok]⟩, ⟨_, rfl, inc_eq i (by omega), trivial⟩, trivial⟩, ⟨rfl, rfl, rfl, trivial⟩, .le fun a => by simp⟩
          · have hi3 : i = min (4 * r.actives.length + 4) 40 := by simp at q2 q3; omega
            have hC : OwR (.agg ⟨ringCells (stepN (fun _ => tPass) i (calmB r)) d1 d2 d3 d4 g1 g2 g3 g4⟩) (calm r) A := by
              have : stepN (fun _ => tPass) i (calmB r) = calm r := by
                cases hq : ringOk r with
                | true =>
                  have := ringOk_len hq
                  have : i = 4 + 4 * r.actives.length := by omega
                  rw [this]; rfl
                | false =>
                  rw [calm_bad r hq]
                  have h1 : calmA r = r := stepN_bad _ _ hq _
                  have h2 : calmB r = r := by unfold calmB; rw [h1]; exact stepN_bad _ _ hq _
                  rw [h2]; exact stepN_bad _ _ hq _
              rw [this] at ho ⊢; exact ho
            exact ⟨_, hC, .tl⟩
        · rw [e4] at q2
          have hi3 : i = min (4 * r.actives.length + 4) 40 := by simp at q2; omega
          have hC : OwR (.agg ⟨ringCells (stepN (fun _ => tPass) i (calmB r)) d1 d2 d3 d4 g1 g2 g3 g4⟩) (calm r) A := by
            have : stepN (fun _ => tPass) i (calmB r) = calm r := by
              cases hq : ringOk r with
              | true =>
                have := ringOk_len hq
                have : i = 4 + 4 * r.actives.length := by omega
                rw [this]; rfl
              | false =>
                rw [calm_bad r hq]
                have h1 : calmA r = r := stepN_bad _ _ hq _
                have h2 : calmB r = r := by unfold calmB; rw [h1]; exact stepN_bad _ _ hq _
                rw [h2]; exact stepN_bad _ _ hq _
            rw [this] at ho ⊢; exact ho
          exact ⟨_, hC, .tl⟩
    · rw [hn] at q2
      have hi2 : i = min r.actives.length 8 := by simp at q2; omega
      have hB : OwR (.agg ⟨ringCells (stepN tRest i (calmA r)) d1 d2 d3 d4 g1 g2 g3 g4⟩) (calmB r) A := by
        have : stepN tRest i (calmA r) = calmB r := by
          cases hq : ringOk r with
          | true =>
            have := ringOk_len hq
            have : i = r.actives.length := by omega
            rw [this]; rfl
          | false =>
            unfold calmB
            have : calmA r = r := stepN_bad _ _ hq _
            rw [this, stepN_bad _ _ hq, stepN_bad _ _ hq]
        rw [this] at ho ⊢; exact ho
      have hcB : (calmB r).cells ≤ 1048576 := stepN_cells _ _ hcA _
      have hlB : (calmB r).actives.length = r.actives.length := by
        unfold calmB; rw [stepN_len]; exact stepN_len _ _ _
      refine loop_intro (α := Nat × List Value × Hp) G_ok (fun z => ⟨[(2, .p 1 0), (3, .p 2 0), (6, .v (.int .i64 z.1))], [⟨bb, ringCells r b1 b2 b3 b4 c1 c2 c3 c4, 34⟩, ⟨bz, ringCells ⟨[], [], [], [], 0, 0, false, false⟩ none none none none 0 0 0 0, 34⟩, ⟨bo, z.2.1, 34⟩], [z.2.2, H]⟩)
        (fun z => (min (4 * r.actives.length + 4) 40) - z.1) (fun z => z.1 ≤ (min (4 * r.actives.length + 4) 40) ∧ OwR (.agg ⟨z.2.1⟩) (stepN (fun _ => tPass) z.1 (calmB r)) z.2.2) (0, _, A) ⟨by omega, hB⟩
        ⟨⟨⟨_, rfl, rfl, by simp [SV.ok]⟩, ⟨_, rfl, rfl, by simp [SV.ok]⟩, ⟨_, rfl, rfl, trivial⟩, trivial⟩, ⟨rfl, rfl, rfl, trivial⟩, .refl _⟩ ?_
      rintro ⟨i, l, A⟩ hI
      obtain ⟨hi, ho⟩ : i ≤ (min (4 * r.actives.length + 4) 40) ∧ OwR (.agg ⟨l⟩) (stepN (fun _ => tPass) i (calmB r)) A := hI
      obtain ⟨d1, d2, d3, d4, g1, g2, g3, g4, B1, B2, B3, B4, el, -, -⟩ := id ho
      cases el
      have hn : (stepN (fun _ => tPass) i (calmB r)).actives.length = r.actives.length := by rw [stepN_len]; exact hlB
      have e4 : IntKind.i64.wrap (IntKind.i64.wrap (4 * ((stepN (fun _ => tPass) i (calmB r)).actives.length : Int)) + 4) = ((4 * r.actives.length + 4 : Nat) : Int) := by
        rw [hn, wrap_ok (x := 4 * (r.actives.length : Int)) (by unfold okI; omega), wrap_ok (by unfold okI; omega)]; omega
      refine VCsplit.intro (fun q2 => ?_) (fun q2 => ?_)
      · rw [e4] at q2
        refine VCsplit.intro (fun q3 => ?_) (fun q3 => ?_)
        · have hb : i + 1 ≤ min (4 * r.actives.length + 4) 40 := by simp at q2 q3; omega
          refine call_new (specRingStep_ct _ (stepN (fun _ => tPass) i (calmB r)) ((fun _ => tPass) i) (stepN_cells _ _ hcB i) (by unfold okI tPass; simp)) (rdV_mono (mem_at 0 rfl) ho.rd) ?_
          rintro _ A2 ⟨w, rfl, o2⟩
          obtain ⟨_, _, _, _, _, _, _, _, _, _, _, _, rfl, -, -⟩ := id o2
          refine ⟨(i + 1, _, A2), ⟨hb, o2⟩, by simp only; omega, ⟨⟨_, rfl, rfl, by simp [SV.ok]⟩, ⟨_, rfl, rfl, by simp [SV.ok]⟩, ⟨_, rfl, inc_eq i (by omega), trivial⟩, trivial⟩, ⟨rfl, rfl, rfl, trivial⟩, .le fun a => by simp⟩
        · have hi3 : i = min (4 * r.actives.length + 4) 40 := by simp at q2 q3; omega
          have hC : OwR (.agg ⟨ringCells (stepN (fun _ => tPass) i (calmB r)) d1 d2 d3 d4 g1 g2 g3 g4⟩) (calm r) A := by
            have : stepN (fun _ => tPass) i (calmB r) = calm r := by
              cases hq : ringOk r with
              | true =>
                have := ringOk_len hq
                have : i = 4 + 4 * r.actives.length := by omega
                rw [this]; rfl
              | false =>
                rw [calm_bad r hq]
                have h1 : calmA r = r := stepN_bad _ _ hq _
                have h2 : calmB r = r := by unfold calmB; rw [h1]; exact stepN_bad _ _ hq _
                rw [h2]; exact stepN_bad _ _ hq _
            rw [this] at ho ⊢; exact ho
          exact ⟨_, hC, .tl⟩
      · rw [e4] at q2
        have hi3 : i = min (4 * r.actives.length + 4) 40 := by simp at q2; omega
        have hC : OwR (.agg ⟨ringCells (stepN (fun _ => tPass) i (calmB r)) d1 d2 d3 d4 g1 g2 g3 g4⟩) (calm r) A := by
          have : stepN (fun _ => tPass) i (calmB r) = calm r := by
            cases hq : ringOk r with
            | true =>
              have := ringOk_len hq
              have : i = 4 + 4 * r.actives.length := by omega
              rw [this]; rfl
            | false =>
              rw [calm_bad r hq]
              have h1 : calmA r = r := stepN_bad _ _ hq _
              have h2 : calmB r = r := by unfold calmB; rw [h1]; exact stepN_bad _ _ hq _
              rw [h2]; exact stepN_bad _ _ hq _
          rw [this] at ho ⊢; exact ho
        exact ⟨_, hC, .tl⟩
end Go.Proofs.Ythihffgmmkhlhaa
