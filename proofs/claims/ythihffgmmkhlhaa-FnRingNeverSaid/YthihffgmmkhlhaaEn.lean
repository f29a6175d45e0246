/-
  Helpers of the laws over drawn rings; quiet rings. Conditions: none.
-/
import Derived.Test.YthihffgmmkhlhaaEr
namespace Go.Proofs.Ythihffgmmkhlhaa
open Go.SX Go.Proofs
set_option linter.unusedSimpArgs false
set_option linter.unusedVariables false
set_option maxHeartbeats 4000000

--@ct laws.big val big_ct _ _ _ | trivial
theorem big_ct (b : Option Addr) (m c : Nat) : Ct Try.prog 20 [.slice b m c] [] (fun _ => True) (fun v A => v = .bool (decide ((1048576 : Int) < m)) ∧ A = []) := by
  refine Ct.intro0 G_ok Try.func20 rfl rfl rfl fun E H hp => ?_
  exact ⟨[], ⟨rfl, rfl⟩, .tl⟩

--@ct laws.sameInts val sameInts_ct _ _ _ _ _ _ $1 $2 | ⟨%1, %2⟩
theorem take_eq_step {xs ys : List Int} {k : Nat} (h : xs.length = ys.length) (he : xs.take k = ys.take k) (hk : k < xs.length) (e : xs[k]?.getD 0 = ys[k]?.getD 0) : xs.take (k + 1) = ys.take (k + 1) := by
  rw [List.getElem?_eq_getElem hk, List.getElem?_eq_getElem (by omega)] at e
  rw [← List.take_append_getElem hk, ← List.take_append_getElem (by omega : k < ys.length), he]
  have e' : xs[k] = ys[k]'(by omega) := e
  rw [e']
theorem sameInts_ct (b1 b2 : Option Addr) (m1 c1 m2 c2 : Nat) (xs ys : List Int) :
    Ct Try.prog 26 [.slice b1 m1 c1, .slice b2 m2 c2] [] (fun H => (rpSl flInt.rp).rd H [.slice b1 m1 c1] xs ∧ (rpSl flInt.rp).rd H [.slice b2 m2 c2] ys) (fun v A => v = .bool (decide (xs = ys)) ∧ A = []) := by
  refine Ct.intro0 G_ok Try.func26 rfl rfl rfl fun E H ⟨hp, hq⟩ => ?_
  obtain ⟨rfl, hl⟩ := rd_len hp
  obtain ⟨rfl, hl2⟩ := rd_len hq
  refine VCsplit.intro (fun q0 => ?_) (fun q0 => ?_)
  ·
    simp at q0
    exact ⟨[], ⟨by rw [decide_eq_false]; rintro rfl; simp at *, rfl⟩, .refl _⟩
  ·
    simp at q0
    apply loop_mod (α := (Nat)) G_ok [11, 12, 13, 14, 17, 18, 19, 20, 21, 22, 23, 24, 25, 4, 15, 16, 5] (fun z => [(5, .v (.int .i64 z))]) (fun z => []) (fun z => [H]) (fun z => xs.length - z) (fun z => z ≤ xs.length ∧ xs.length = ys.length ∧ xs.take z = ys.take z) (0)
    · repeat' (first | exact trivial | refine ⟨⟨_, rfl, by first | rfl | exact inc_eq _ (by omega) | (refine sl_eq ?_; simp; done), by first | exact trivial | simp [SV.ok]⟩, ?_⟩)
    · exact trivial
    · exact ⟨by omega, by omega, rfl⟩
    · exact .refl _
    rintro k hI
    obtain ⟨hk, hxy, he⟩ : k ≤ xs.length ∧ xs.length = ys.length ∧ xs.take k = ys.take k := hI
    try dsimp only
    refine VCsplit.intro (fun q1 => ?_) (fun q1 => ?_)
    ·
      simp at q1
      refine draw G_ok mixed none (.q 0 (.q 1 (.q 2 (.q 3 (.q 4 (.q 5 (.q 6 (.q 7 (.q 8 (.nil)))))))))) (by decide +kernel) ?_
      refine idx_rd hp ?_ ?_ fun b2 o2 hb2 => ?_
      · omega
      · omega
      refine load_allN 0 (k) rfl hp ?_ ?_ hb2 rfl (mem_at 0 rfl) fun l3 hl3 => ?_
      · omega
      · omega
      obtain ⟨rfl, hw3⟩ := hl3
      refine idx_rd hq ?_ ?_ fun b4 o4 hb4 => ?_
      · omega
      · omega
      refine load_allN 0 (k) rfl hq ?_ ?_ hb4 rfl (mem_at 0 rfl) fun l5 hl5 => ?_
      · omega
      · omega
      obtain ⟨rfl, hw5⟩ := hl5
      refine VCsplit.intro (fun q6 => ?_) (fun q6 => ?_)
      ·
        simp at q6
        exact ⟨[], ⟨by rw [decide_eq_false]; rintro rfl; simp at *, rfl⟩, .refl _⟩
      ·
        simp at q6
        apply loop_step (k + 1)
        · repeat' (first | exact trivial | refine ⟨⟨_, rfl, by first | rfl | exact inc_eq _ (by omega) | (refine sl_eq ?_; simp; done), by first | exact trivial | simp [SV.ok]⟩, ?_⟩)
        · exact trivial
        · exact .refl _
        · exact ⟨by omega, by omega, take_eq_step hxy he (by omega) (by assumption)⟩
        · omega
    ·
      simp at q1
      exact ⟨[], ⟨by rw [decide_eq_true]; rw [List.take_of_length_le (by omega), List.take_of_length_le (by omega)] at he; exact he, rfl⟩, .refl _⟩

theorem len0 (xs : List Int) : ((xs.length : Int) == 0) = decide (xs = []) := by
  cases xs with
  | nil => rfl
  | cons x r => rw [decide_eq_false (by simp)]; simp; omega


theorem contains_none {xs : List Bool} {v : Bool} (h : ∀ i, i < xs.length → xs[i]?.getD false ≠ v) : xs.contains v = false := by
  cases e : xs.contains v with
  | false => rfl
  | true =>
    rw [List.contains_iff_mem] at e
    obtain ⟨i, hi, rfl⟩ := List.getElem_of_mem e
    exact absurd (by rw [List.getElem?_eq_getElem hi]; rfl) (h i hi)
theorem contains_at {xs : List Bool} {v : Bool} {i : Nat} (hi : i < xs.length) (h : v = xs[i]?.getD false) : xs.contains v = true := by
  rw [List.contains_iff_mem, h, List.getElem?_eq_getElem hi]
  exact List.getElem_mem hi
--@ct slices.Index[[]bool,bool] val sIndexBool_ct _ _ _ $1 _ | %1
theorem sIndexBool_ct (b : Option Addr) (m c : Nat) (xs : List Bool) (v : Bool) :
    Ct Try.prog 75 [.slice b m c, .bool v] [] (fun H => (rpSl flBool.rp).rd H [.slice b m c] xs)
      (fun w A => (∃ k : Int, w = .int .i64 k ∧ (decide (k ≥ 0)) = xs.contains v) ∧ A = []) := by
  refine Ct.intro0 G_ok Try.func75 rfl rfl rfl fun E H hp => ?_
  obtain ⟨rfl, hl⟩ := rd_len hp
  apply loop_mod (α := (Nat) × (Int)) G_ok [9, 10, 5, 11, 12, 13, 14, 15, 16, 17, 4, 18, 8] (fun z => [(8, .v (.int .i64 z.1)), (4, .v (.int .i64 z.2))]) (fun z => []) (fun z => [H]) (fun z => xs.length - z.1) (fun z => z.1 ≤ xs.length ∧ ∀ i, i < z.1 → xs[i]?.getD false ≠ v) ((0, 0))
  · repeat' (first | exact trivial | refine ⟨⟨_, rfl, by first | rfl | exact inc_eq _ (by omega) | (refine sl_eq ?_; simp; done), by first | exact trivial | simp [SV.ok]⟩, ?_⟩)
  · exact trivial
  · try dsimp only
    exact ⟨by omega, fun i hi => absurd hi (by omega)⟩
  · exact .refl _
  rintro ⟨k, j⟩ hI
  obtain ⟨hk, hn⟩ : k ≤ xs.length ∧ ∀ i, i < k → xs[i]?.getD false ≠ v := hI
  try dsimp only
  refine VCsplit.intro (fun q0 => ?_) (fun q0 => ?_)
  ·
    simp at q0
    refine idx_rd hp ?_ ?_ fun b1 o1 hb1 => ?_
    · omega
    · omega
    refine load_allN false (k) rfl hp ?_ ?_ hb1 rfl (mem_at 0 rfl) fun l2 hl2 => ?_
    · omega
    · omega
    obtain ⟨rfl, hw2⟩ := hl2
    refine VCsplit.intro (fun q3 => ?_) (fun q3 => ?_)
    ·
      simp at q3
      exact ⟨[], ⟨⟨_, rfl, by rw [contains_at (i := k) (by omega) (by simp_all)]; simp⟩, rfl⟩, .refl _⟩
    ·
      simp at q3
      apply loop_step (k + 1, _)
      · repeat' (first | exact trivial | refine ⟨⟨_, rfl, by first | rfl | exact inc_eq _ (by omega) | (refine sl_eq ?_; simp; done), by first | exact trivial | simp [SV.ok]⟩, ?_⟩)
      · exact trivial
      · exact .refl _
      · try dsimp only
        grind
      · try dsimp only
        omega
  ·
    simp at q0
    exact ⟨[], ⟨⟨_, rfl, by rw [contains_none (fun i hi => hn i (by omega))]; decide⟩, rfl⟩, .refl _⟩

--@ct slices.Contains[[]bool,bool] val sContainsBool_ct _ _ _ $1 _ | %1
theorem sContainsBool_ct (b : Option Addr) (m c : Nat) (xs : List Bool) (v : Bool) :
    Ct Try.prog 61 [.slice b m c, .bool v] [] (fun H => (rpSl flBool.rp).rd H [.slice b m c] xs)
      (fun w A => w = .bool (xs.contains v) ∧ A = []) := by
  refine Ct.intro0 G_ok Try.func61 rfl rfl rfl fun E H hp => ?_
  refine call_val (sIndexBool_ct _ _ _ (xs) _) (Rp.mono _ (mem_at 0 rfl) hp) ?_
  rintro _ ⟨k, rfl, hk⟩
  exact ⟨[], ⟨by rw [← hk], rfl⟩, .refl _⟩

--@ct impl.RingQuiet val implRingQuiet_ct _ $1 | %1
theorem implRingQuiet_ct (v : Value) (r : Ring) :
    Ct Try.prog 27 [v] [] (fun H => rdV true rpRing H v r) (fun w A => w = .bool (ringQuiet r) ∧ A = []) := by
  refine Ct.intro0 G_ok Try.func27 rfl rfl rfl fun E H hp => ?_
  obtain ⟨_, rfl, b1, b2, b3, b4, c1, c2, c3, c4, rfl, h1, h2, h3, h4, h5, h6⟩ := hp
  refine VCnew.intro fun x0 => ?_
  refine call_val (sContainsBool_ct _ _ _ (r.actives) _) (Rp.mono _ (mem_at 0 rfl) h1) ?_
  rintro _ rfl
  refine VCsplit.intro (fun q2 => ?_) (fun q2 => ?_)
  ·
    simp at q2
    exact ⟨[], ⟨by simp_all [ringQuiet, len0], rfl⟩, (.le fun a => by (try simp only [setR, List.cons_append, List.nil_append]); simp only [List.flatten_append, List.flatten_cons, List.flatten_nil, List.count_append, List.count_nil, List.append_nil, List.nil_append]; omega)⟩
  ·
    simp at q2
    exact ⟨[], ⟨by simp_all [ringQuiet, len0], rfl⟩, (.le fun a => by (try simp only [setR, List.cons_append, List.nil_append]); simp only [List.flatten_append, List.flatten_cons, List.flatten_nil, List.count_append, List.count_nil, List.append_nil, List.nil_append]; omega)⟩

--@ct spec.RingQuiet val specRingQuiet_ct _ $1 | %1
theorem specRingQuiet_ct (v : Value) (r : Ring) :
    Ct Try.prog 38 [v] [] (fun H => rdV true rpRing H v r) (fun w A => w = .bool (ringQuiet r) ∧ A = []) := by
  refine Ct.intro0 G_ok Try.func38 rfl rfl rfl fun E H hp => ?_
  obtain ⟨_, rfl, b1, b2, b3, b4, c1, c2, c3, c4, rfl, h1, h2, h3, h4, h5, h6⟩ := hp
  have hl := (rd_len h1).2
  refine VCnew.intro fun x0 => ?_
  apply loop_mod (α := (Nat)) G_ok [4, 5, 6, 7, 8, 11, 12, 13, 14, 15, 2, 9, 10, 3] (fun z => [(3, .v (.int .i64 z)), (2, .b false)]) (fun z => [{ id := x0, cs := ringCells r b1 b2 b3 b4 c1 c2 c3 c4, ty := (34 : Nat) }]) (fun z => [H]) (fun z => r.actives.length - z) (fun z => z ≤ r.actives.length ∧ ∀ i, i < z → r.actives[i]?.getD false ≠ true) (0)
  · repeat' (first | exact trivial | refine ⟨⟨_, rfl, by first | rfl | exact inc_eq _ (by omega) | (refine sl_eq ?_; simp; done), by first | exact trivial | simp [SV.ok]⟩, ?_⟩)
  · exact ⟨rfl, trivial⟩
  · exact ⟨by omega, fun i hi => absurd hi (by omega)⟩
  · exact .refl _
  rintro k hI
  obtain ⟨hk, hn⟩ : k ≤ r.actives.length ∧ ∀ i, i < k → r.actives[i]?.getD false ≠ true := hI
  try dsimp only
  refine VCsplit.intro (fun q1 => ?_) (fun q1 => ?_)
  ·
    simp at q1
    refine idx_rd h1 ?_ ?_ fun b2 o2 hb2 => ?_
    · omega
    · omega
    refine load_allN false (k) rfl h1 ?_ ?_ hb2 rfl (mem_at 0 rfl) fun l3 hl3 => ?_
    · omega
    · omega
    obtain ⟨rfl, hw3⟩ := hl3
    refine VCsplit.intro (fun q4 => ?_) (fun q4 => ?_)
    ·
      exact ⟨[], ⟨by rw [ringQuiet, contains_at (i := k) (by omega) (by simp_all)]; rfl, rfl⟩, (.le fun a => by (try simp only [setR, List.cons_append, List.nil_append]); simp only [List.flatten_append, List.flatten_cons, List.flatten_nil, List.count_append, List.count_nil, List.append_nil, List.nil_append]; omega)⟩
    ·
      apply loop_step (k + 1)
      · repeat' (first | exact trivial | refine ⟨⟨_, rfl, by first | rfl | exact inc_eq _ (by omega) | (refine sl_eq ?_; simp; done), by first | exact trivial | simp [SV.ok]⟩, ?_⟩)
      · exact ⟨rfl, trivial⟩
      · exact .refl _
      · grind
      · omega
  ·
    simp at q1
    exact ⟨[], ⟨by rw [ringQuiet, contains_none (fun i hi => hn i (by omega))]; simp [len0], rfl⟩, (.le fun a => by (try simp only [setR, List.cons_append, List.nil_append]); simp only [List.flatten_append, List.flatten_cons, List.flatten_nil, List.count_append, List.count_nil, List.append_nil, List.nil_append]; omega)⟩

end Go.Proofs.Ythihffgmmkhlhaa
