/-
  Rows compared, valid bags, on both sides. Conditions: none.
-/
import Derived.Test.YtflfohphebmemaaGreatHh
namespace Go.Proofs.YtflfohphebmemaaGreat
open Go.SX Go.Proofs
set_option linter.unusedSimpArgs false
set_option linter.unusedVariables false
set_option maxHeartbeats 4000000
attribute [local irreducible] IntKind.wrap

def allK (p : Nat → Bool) : Nat → Bool
  | 0 => true
  | k + 1 => allK p k && p k
theorem allK_no {p : Nat → Bool} {k : Nat} (h : p k = false) : ∀ n, k < n → allK p n = false
  | 0, h1 => by omega
  | n + 1, h1 => by
    unfold allK
    rcases Nat.lt_or_ge k n with h2 | h2
    · rw [allK_no h n h2]; rfl
    · rw [show n = k by omega, h]; simp
theorem allK_step {p : Nat → Bool} {k : Nat} (h : allK p k = true) (h1 : p k = true) : allK p (k + 1) = true := by unfold allK; rw [h, h1]; rfl
theorem allK_at {p : Nat → Bool} : ∀ {n : Nat}, allK p n = true → ∀ k, k < n → p k = true
  | 0, _, k, hk => by omega
  | n + 1, h, k, hk => by
    unfold allK at h
    rw [Bool.and_eq_true] at h
    rcases Nat.lt_or_ge k n with h1 | h1
    · exact allK_at h.1 k h1
    · rw [show k = n by omega]; exact h.2
theorem cmpI_zero {a b : Int} : cmpI a b = 0 ↔ a = b := by
  unfold cmpI; split
  · omega
  · split <;> omega
theorem cmpI_neg {a b : Int} : cmpI a b < 0 ↔ a < b := by
  unfold cmpI; split
  · omega
  · split <;> omega
theorem cmpL_end {xs ys : List Int} {k : Nat} (h : xs.length ≤ k ∨ ys.length ≤ k) (h1 : k ≤ xs.length) (h2 : k ≤ ys.length) : decide (cmpL (xs.drop k) (ys.drop k) < 0) = decide (xs.length < ys.length) := by
  rcases Nat.lt_or_ge k xs.length with h3 | h3
  · rw [List.drop_eq_nil_of_le (by omega : ys.length ≤ k), List.drop_eq_getElem_cons h3, decide_eq_decide]
    simp only [cmpL]; omega
  · rw [List.drop_eq_nil_of_le h3]
    rcases Nat.lt_or_ge k ys.length with h4 | h4
    · rw [List.drop_eq_getElem_cons h4, decide_eq_decide]; simp only [cmpL]; omega
    · rw [List.drop_eq_nil_of_le h4, decide_eq_decide]; simp only [cmpL]; omega
theorem cmpL_go {xs ys : List Int} {k : Nat} (h1 : k < xs.length) (h2 : k < ys.length) (h : ¬ (xs[k]?.getD 0) = (ys[k]?.getD 0)) : decide (cmpL (xs.drop k) (ys.drop k) < 0) = decide ((xs[k]?.getD 0) < (ys[k]?.getD 0)) := by
  rw [cmpL_drop k h1 h2, if_neg (by rw [cmpI_zero]; exact h), decide_eq_decide]; exact cmpI_neg
theorem cmpL_eq {xs ys : List Int} {k : Nat} (h1 : k < xs.length) (h2 : k < ys.length) (h : (xs[k]?.getD 0) = (ys[k]?.getD 0)) : cmpL (xs.drop k) (ys.drop k) = cmpL (xs.drop (k + 1)) (ys.drop (k + 1)) := by
  rw [cmpL_drop k h1 h2, if_pos (by rw [cmpI_zero]; exact h)]

def rowLess (a b : List Int) : Bool := decide (cmpL a b < 0)
def rowM (r : List Int) : Bool := decide (r.length ≤ 4) && allK (fun i => inR 0 99 (r[i]?.getD 0)) r.length
def rowAt (b : Bag) (i : Nat) : List Int := (b.items[i]?.getD default).row
def itemM (b : Bag) (i : Nat) : Bool :=
  rowM (rowAt b i) && (inR 1 1000000 (b.items[i]?.getD default).times && (decide ((rowAt b i).length = (rowAt b 0).length) && (decide (i = 0) || rowLess (rowAt b (i - 1)) (rowAt b i))))
def bagM (b : Bag) : Bool := decide (b.items.length ≤ 300) && allK (itemM b) b.items.length
theorem rowM_no {r : List Int} {k : Nat} (h1 : k < r.length) (h : ¬ (0 ≤ (r[k]?.getD 0) ∧ (r[k]?.getD 0) ≤ 99)) : rowM r = false := by
  unfold rowM; rw [allK_no (p := fun i => inR 0 99 (r[i]?.getD 0)) (k := k) (by rw [← Bool.not_eq_true, inR_iff]; exact h) _ h1]; simp
theorem rowM_long {r : List Int} (h : ¬ r.length ≤ 4) : rowM r = false := by unfold rowM; rw [decide_eq_false h]; rfl
theorem rowM_yes {r : List Int} (h : r.length ≤ 4) (h2 : allK (fun i => inR 0 99 (r[i]?.getD 0)) r.length = true) : rowM r = true := by unfold rowM; rw [h2, decide_eq_true h]; rfl
theorem bagM_no {b : Bag} {k : Nat} (h1 : k < b.items.length) (h : itemM b k = false) : bagM b = false := by unfold bagM; rw [allK_no h _ h1]; simp
theorem bagM_long {b : Bag} (h : ¬ b.items.length ≤ 300) : bagM b = false := by unfold bagM; rw [decide_eq_false h]; rfl
theorem bagM_yes {b : Bag} (h : b.items.length ≤ 300) (h2 : allK (itemM b) b.items.length = true) : bagM b = true := by unfold bagM; rw [h2, decide_eq_true h]; rfl
theorem itemM_len {b : Bag} {i : Nat} (h : itemM b i = true) : (rowAt b i).length = (rowAt b 0).length := by
  unfold itemM at h; simp only [Bool.and_eq_true, decide_eq_true_iff] at h; exact h.2.2.1
theorem item_no1 {b : Bag} {i : Nat} (h : rowM (rowAt b i) = false) : itemM b i = false := by unfold itemM; rw [h]; rfl
theorem item_no2 {b : Bag} {i : Nat} (h : ¬ (1 ≤ (b.items[i]?.getD default).times ∧ (b.items[i]?.getD default).times ≤ 1000000)) : itemM b i = false := by
  unfold itemM; rw [show inR 1 1000000 (b.items[i]?.getD default).times = false by rw [← Bool.not_eq_true, inR_iff]; exact h]; simp
theorem item_no3 {b : Bag} {i : Nat} (h : ¬ (rowAt b i).length = (rowAt b 0).length) : itemM b i = false := by unfold itemM; rw [decide_eq_false h]; simp
theorem item_no4 {b : Bag} {i : Nat} (h0 : ¬ i = 0) (h : rowLess (rowAt b (i - 1)) (rowAt b i) = false) : itemM b i = false := by unfold itemM; rw [h, decide_eq_false h0]; simp
theorem item_yes {b : Bag} {i : Nat} (h1 : rowM (rowAt b i) = true) (h2 : 1 ≤ (b.items[i]?.getD default).times ∧ (b.items[i]?.getD default).times ≤ 1000000) (h3 : (rowAt b i).length = (rowAt b 0).length) (h4 : i = 0 ∨ rowLess (rowAt b (i - 1)) (rowAt b i) = true) : itemM b i = true := by
  unfold itemM; rw [h1, decide_eq_true h3, show inR 1 1000000 (b.items[i]?.getD default).times = true from inR_iff.2 h2]
  rcases h4 with h4 | h4
  · rw [decide_eq_true h4]; rfl
  · rw [h4]; simp

--@ct impl.RowLess val implRowLess_ct _ _ _ _ _ _ $1 $2 | ⟨%1, %2⟩
theorem implRowLess_ct (b1 : Option Addr) (m1 c1 : Nat) (b2 : Option Addr) (m2 c2 : Nat) (xs ys : List Int) :
    Ct Tryz.prog 310 [.slice b1 m1 c1, .slice b2 m2 c2] [] (fun H => (gSl 3 gI).rd H [.slice b1 m1 c1] xs ∧ (gSl 3 gI).rd H [.slice b2 m2 c2] ys) (fun v A => v = .bool (rowLess xs ys) ∧ A = []) := by
  refine Ct.intro0 G_ok Tryz.func310 rfl rfl rfl fun E H hp => ?_
  obtain ⟨hp1, hp2⟩ := hp
  obtain ⟨rfl, hc1, hl1⟩ := sl_len hp1
  obtain ⟨rfl, hc2, hl2⟩ := sl_len hp2
  refine call_val (sCompare_ct _ _ _ _ _ _ (xs) (ys)) ⟨(Rp.mono _ (mem_at 0 rfl) hp1), (Rp.mono _ (mem_at 0 rfl) hp2)⟩ ?_
  rintro _ rfl
  exact ⟨[], ⟨rfl, rfl⟩, (.le fun a => by (try simp only [setR, List.cons_append, List.nil_append]); simp only [List.flatten_append, List.flatten_cons, List.flatten_nil, List.count_append, List.count_nil, List.append_nil, List.nil_append]; omega)⟩
--@ct spec.RowLess val specRowLess_ct _ _ _ _ _ _ $1 $2 | ⟨%1, %2⟩
theorem specRowLess_ct (b1 : Option Addr) (m1 c1 : Nat) (b2 : Option Addr) (m2 c2 : Nat) (xs ys : List Int) :
    Ct Tryz.prog 160 [.slice b1 m1 c1, .slice b2 m2 c2] [] (fun H => (gSl 3 gI).rd H [.slice b1 m1 c1] xs ∧ (gSl 3 gI).rd H [.slice b2 m2 c2] ys) (fun v A => v = .bool (rowLess xs ys) ∧ A = []) := by
  refine Ct.intro0 G_ok Tryz.func160 rfl rfl rfl fun E H hp => ?_
  obtain ⟨hp1, hp2⟩ := hp
  obtain ⟨rfl, hc1, hl1⟩ := sl_len hp1
  obtain ⟨rfl, hc2, hl2⟩ := sl_len hp2
  apply loop_mod (α := (Nat)) G_ok [6, 7, 8, 9, 10, 11, 12, 13, 14, 15, 18, 19, 20, 21, 22, 23, 24, 25, 26, 27, 28, 29, 30, 31, 32, 33, 34, 35, 4, 16, 17, 5] (fun z => [(5, .v (.int .i64 z))]) (fun z => []) (fun z => [H]) (fun z => xs.length - z) (fun z => z ≤ xs.length ∧ z ≤ ys.length ∧ cmpL xs ys = cmpL (xs.drop z) (ys.drop z)) (0)
  · repeat' (first | exact trivial | refine ⟨⟨_, rfl, by first | rfl | exact inc_eq _ (by omega) | (refine sl_eq ?_; simp; done), by first | exact trivial | simp [SV.ok]⟩, ?_⟩)
  · exact trivial
  · exact ⟨by omega, by omega, by simp⟩
  · exact .refl _
  rintro k hI
  obtain ⟨hk, hk2, he⟩ : k ≤ xs.length ∧ k ≤ ys.length ∧ cmpL xs ys = cmpL (xs.drop k) (ys.drop k) := hI
  try dsimp only
  refine VCsplit.intro (fun q0 => ?_) (fun q0 => ?_)
  ·
    simp at q0
    refine VCsplit.intro (fun q1 => ?_) (fun q1 => ?_)
    ·
      simp at q1
      refine draw G_ok mixed none (.q 0 (.q 1 (.q 2 (.q 3 (.q 4 (.q 5 (.q 6 (.q 7 (.q 8 (.nil)))))))))) (by decide +kernel) ?_
      refine idx_rd hp1 ?_ ?_ fun b2 o2 hb2 => ?_
      · omega
      · omega
      refine load_allN 0 (k) rfl hp1 ?_ ?_ hb2 rfl (mem_at 0 rfl) fun l3 hl3 => ?_
      · omega
      · omega
      obtain ⟨rfl, hw3⟩ := hl3; simp only [flStr, flInt, okI] at hw3
      refine idx_rd hp2 ?_ ?_ fun b4 o4 hb4 => ?_
      · omega
      · omega
      refine load_allN 0 (k) rfl hp2 ?_ ?_ hb4 rfl (mem_at 0 rfl) fun l5 hl5 => ?_
      · omega
      · omega
      obtain ⟨rfl, hw5⟩ := hl5; simp only [flStr, flInt, okI] at hw5
      refine VCsplit.intro (fun q6 => ?_) (fun q6 => ?_)
      ·
        simp at q6
        refine draw G_ok mixed none (.q 0 (.q 1 (.q 2 (.q 3 (.q 4 (.q 5 (.q 6 (.q 7 (.q 8 (.q 9 (.nil))))))))))) (by decide +kernel) ?_
        refine idx_rd hp1 ?_ ?_ fun b7 o7 hb7 => ?_
        · omega
        · omega
        refine load_allN 0 (k) rfl hp1 ?_ ?_ hb7 rfl (mem_at 0 rfl) fun l8 hl8 => ?_
        · omega
        · omega
        obtain ⟨rfl, hw8⟩ := hl8; simp only [flStr, flInt, okI] at hw8
        refine idx_rd hp2 ?_ ?_ fun b9 o9 hb9 => ?_
        · omega
        · omega
        refine load_allN 0 (k) rfl hp2 ?_ ?_ hb9 rfl (mem_at 0 rfl) fun l10 hl10 => ?_
        · omega
        · omega
        obtain ⟨rfl, hw10⟩ := hl10; simp only [flStr, flInt, okI] at hw10
        exact ⟨[], ⟨by unfold rowLess; rw [he, cmpL_go (by omega) (by omega) ‹¬ _ = _›], rfl⟩, (.le fun a => by (try simp only [setR, List.cons_append, List.nil_append]); simp only [List.flatten_append, List.flatten_cons, List.flatten_nil, List.count_append, List.count_nil, List.append_nil, List.nil_append]; omega)⟩
      ·
        simp at q6
        apply loop_stepA (k + 1)
        · exact .refl _
        · repeat' (first | exact trivial | refine ⟨⟨_, rfl, by first | rfl | exact inc_eq _ (by omega) | (refine sl_eq ?_; simp; done), by first | exact trivial | simp [SV.ok]⟩, ?_⟩)
        · exact trivial
        · exact ⟨by omega, by omega, by rw [he, cmpL_eq (by omega) (by omega) ‹_ = _›]⟩
        · omega
    ·
      simp at q1
      exact ⟨[], ⟨by unfold rowLess; rw [he, cmpL_end (by omega) (by omega) (by omega)]; congr 1; rw [decide_eq_decide]; omega, rfl⟩, (.le fun a => by (try simp only [setR, List.cons_append, List.nil_append]); simp only [List.flatten_append, List.flatten_cons, List.flatten_nil, List.count_append, List.count_nil, List.append_nil, List.nil_append]; omega)⟩
  ·
    simp at q0
    exact ⟨[], ⟨by unfold rowLess; rw [he, cmpL_end (by omega) (by omega) (by omega)]; congr 1; rw [decide_eq_decide]; omega, rfl⟩, (.le fun a => by (try simp only [setR, List.cons_append, List.nil_append]); simp only [List.flatten_append, List.flatten_cons, List.flatten_nil, List.count_append, List.count_nil, List.append_nil, List.nil_append]; omega)⟩

--@ct impl.rowOk val implRowOk_ct _ _ _ $1 | %1
theorem implRowOk_ct (b : Option Addr) (m c : Nat) (r : List Int) :
    Ct Tryz.prog 171 [.slice b m c] [] (fun H => (gSl 3 gI).rd H [.slice b m c] r) (fun v A => v = .bool (rowM r) ∧ A = []) := by
  refine Ct.intro0 G_ok Tryz.func171 rfl rfl rfl fun E H hp => ?_
  obtain ⟨rfl, hc1, hl1⟩ := sl_len hp
  refine VCsplit.intro (fun q0 => ?_) (fun q0 => ?_)
  ·
    simp at q0
    exact ⟨[], ⟨by rw [rowM_long (by omega)], rfl⟩, (.le fun a => by (try simp only [setR, List.cons_append, List.nil_append]); simp only [List.flatten_append, List.flatten_cons, List.flatten_nil, List.count_append, List.count_nil, List.append_nil, List.nil_append]; omega)⟩
  ·
    simp at q0
    apply loop_mod (α := (Nat)) G_ok [11, 12, 13, 4, 14, 15, 16, 17, 18, 19, 2, 20, 10] (fun z => [(10, .v (.int .i64 z))]) (fun z => []) (fun z => [H]) (fun z => r.length - z) (fun z => z ≤ r.length ∧ allK (fun i => inR 0 99 (r[i]?.getD 0)) z = true) (0)
    · repeat' (first | exact trivial | refine ⟨⟨_, rfl, by first | rfl | exact inc_eq _ (by omega) | (refine sl_eq ?_; simp; done), by first | exact trivial | simp [SV.ok]⟩, ?_⟩)
    · exact trivial
    · exact ⟨by omega, rfl⟩
    · exact .refl _
    rintro k hI
    obtain ⟨hk, ha⟩ : k ≤ r.length ∧ allK (fun i => inR 0 99 (r[i]?.getD 0)) k = true := hI
    try dsimp only
    refine VCsplit.intro (fun q1 => ?_) (fun q1 => ?_)
    ·
      simp at q1
      refine idx_rd hp ?_ ?_ fun b2 o2 hb2 => ?_
      · omega
      · omega
      refine load_allN 0 (k) rfl hp ?_ ?_ hb2 rfl (mem_at 0 rfl) fun l3 hl3 => ?_
      · omega
      · omega
      obtain ⟨rfl, hw3⟩ := hl3; simp only [flStr, flInt, okI] at hw3
      refine VCsplit.intro (fun q4 => ?_) (fun q4 => ?_)
      ·
        simp at q4
        exact ⟨[], ⟨by rw [rowM_no (k := k) (by omega) (by omega)], rfl⟩, (.le fun a => by (try simp only [setR, List.cons_append, List.nil_append]); simp only [List.flatten_append, List.flatten_cons, List.flatten_nil, List.count_append, List.count_nil, List.append_nil, List.nil_append]; omega)⟩
      ·
        simp at q4
        refine VCsplit.intro (fun q5 => ?_) (fun q5 => ?_)
        ·
          simp at q5
          exact ⟨[], ⟨by rw [rowM_no (k := k) (by omega) (by omega)], rfl⟩, (.le fun a => by (try simp only [setR, List.cons_append, List.nil_append]); simp only [List.flatten_append, List.flatten_cons, List.flatten_nil, List.count_append, List.count_nil, List.append_nil, List.nil_append]; omega)⟩
        ·
          simp at q5
          apply loop_stepA (k + 1)
          · exact .refl _
          · repeat' (first | exact trivial | refine ⟨⟨_, rfl, by first | rfl | exact inc_eq _ (by omega) | (refine sl_eq ?_; simp; done), by first | exact trivial | simp [SV.ok]⟩, ?_⟩)
          · exact trivial
          · exact ⟨by omega, allK_step ha (inR_iff.2 (by omega))⟩
          · omega
    ·
      simp at q1
      (have hke : k = r.length := (by omega); subst hke; exact ⟨[], ⟨by rw [rowM_yes (by omega) ha], rfl⟩, (.le fun a => by (try simp only [setR, List.cons_append, List.nil_append]); simp only [List.flatten_append, List.flatten_cons, List.flatten_nil, List.count_append, List.count_nil, List.append_nil, List.nil_append]; omega)⟩)
--@ct spec.l03Row val l03Row_ct _ _ _ $1 | %1
theorem l03Row_ct (b : Option Addr) (m c : Nat) (r : List Int) :
    Ct Tryz.prog 307 [.slice b m c] [] (fun H => (gSl 3 gI).rd H [.slice b m c] r) (fun v A => v = .bool (rowM r) ∧ A = []) := by
  refine Ct.intro0 G_ok Tryz.func307 rfl rfl rfl fun E H hp => ?_
  obtain ⟨rfl, hc1, hl1⟩ := sl_len hp
  apply loop_mod (α := (Nat)) G_ok [4, 5, 6, 7, 10, 11, 12, 13, 14, 15, 2, 8, 9, 3] (fun z => [(3, .v (.int .i64 z))]) (fun z => []) (fun z => [H]) (fun z => r.length - z) (fun z => z ≤ r.length ∧ allK (fun i => inR 0 99 (r[i]?.getD 0)) z = true) (0)
  · repeat' (first | exact trivial | refine ⟨⟨_, rfl, by first | rfl | exact inc_eq _ (by omega) | (refine sl_eq ?_; simp; done), by first | exact trivial | simp [SV.ok]⟩, ?_⟩)
  · exact trivial
  · exact ⟨by omega, rfl⟩
  · exact .refl _
  rintro k hI
  obtain ⟨hk, ha⟩ : k ≤ r.length ∧ allK (fun i => inR 0 99 (r[i]?.getD 0)) k = true := hI
  try dsimp only
  refine VCsplit.intro (fun q0 => ?_) (fun q0 => ?_)
  ·
    simp at q0
    refine idx_rd hp ?_ ?_ fun b1 o1 hb1 => ?_
    · omega
    · omega
    refine load_allN 0 (k) rfl hp ?_ ?_ hb1 rfl (mem_at 0 rfl) fun l2 hl2 => ?_
    · omega
    · omega
    obtain ⟨rfl, hw2⟩ := hl2; simp only [flStr, flInt, okI] at hw2
    refine call_val (l01In_ct _ _ _) trivial ?_
    rintro _ rfl
    refine VCsplit.intro (fun q4 => ?_) (fun q4 => ?_)
    ·
      simp at q4
      have iq4 := mt inR_iff.2 (Bool.eq_false_iff.1 q4)
      exact ⟨[], ⟨by rw [rowM_no (k := k) (by omega) (by omega)], rfl⟩, (.le fun a => by (try simp only [setR, List.cons_append, List.nil_append]); simp only [List.flatten_append, List.flatten_cons, List.flatten_nil, List.count_append, List.count_nil, List.append_nil, List.nil_append]; omega)⟩
    ·
      simp at q4
      have iq4 := inR_iff.1 q4
      apply loop_stepA (k + 1)
      · exact .refl _
      · repeat' (first | exact trivial | refine ⟨⟨_, rfl, by first | rfl | exact inc_eq _ (by omega) | (refine sl_eq ?_; simp; done), by first | exact trivial | simp [SV.ok]⟩, ?_⟩)
      · exact trivial
      · exact ⟨by omega, allK_step ha (inR_iff.2 (by omega))⟩
      · omega
  ·
    simp at q0
    (have hke : k = r.length := (by omega); subst hke; exact ⟨[], ⟨by unfold rowM; rw [ha, Bool.and_true]; congr 1; rw [decide_eq_decide]; omega, rfl⟩, (.le fun a => by (try simp only [setR, List.cons_append, List.nil_append]); simp only [List.flatten_append, List.flatten_cons, List.flatten_nil, List.count_append, List.count_nil, List.append_nil, List.nil_append]; omega)⟩)

--@ct impl.timesOk val timesOk_ct _
theorem timesOk_ct (a : Int) : Ct Tryz.prog 309 [.int .i64 a] [] (fun _ => True) (fun v A => v = .bool (inR 1 1000000 a) ∧ A = []) := by
  refine Ct.intro0 G_ok Tryz.func309 rfl rfl rfl fun E H hp => ?_
  refine VCsplit.intro (fun q0 => ?_) (fun q0 => ?_)
  ·
    simp at q0
    exact ⟨[], ⟨by unfold inR; rw [decide_eq_true (by omega : (1 : Int) ≤ a), Bool.true_and], rfl⟩, (.le fun a => by (try simp only [setR, List.cons_append, List.nil_append]); simp only [List.flatten_append, List.flatten_cons, List.flatten_nil, List.count_append, List.count_nil, List.append_nil, List.nil_append]; omega)⟩
  ·
    simp at q0
    exact ⟨[], ⟨by unfold inR; rw [decide_eq_false (by omega : ¬ (1 : Int) ≤ a), Bool.false_and], rfl⟩, (.le fun a => by (try simp only [setR, List.cons_append, List.nil_append]); simp only [List.flatten_append, List.flatten_cons, List.flatten_nil, List.count_append, List.count_nil, List.append_nil, List.nil_append]; omega)⟩

--@ct impl.BagOk val implBagOk_ct _ $1 | %1
theorem implBagOk_ct (l : List Value) (x : Bag) : Ct Tryz.prog 298 [.agg ⟨l⟩] [] (fun H => gBag.rd H l x) (fun v A => v = .bool (bagM x) ∧ A = []) := by
  refine Ct.intro0 G_ok Tryz.func298 rfl rfl rfl fun E H hp => ?_
  obtain ⟨b0p, c0p, rfl, h0p⟩ := gBag_rd.1 hp
  have hl := (rd_len h0p).2
  refine VCnew.intro fun x0 => ?_
  refine VCsplit.intro (fun q1 => ?_) (fun q1 => ?_)
  ·
    simp at q1
    exact ⟨[], ⟨by rw [bagM_long (by omega)], rfl⟩, (.le fun a => by (try simp only [setR, List.cons_append, List.nil_append]); simp only [List.flatten_append, List.flatten_cons, List.flatten_nil, List.count_append, List.count_nil, List.append_nil, List.nil_append]; omega)⟩
  ·
    simp at q1
    apply loop_mod (α := (Nat)) G_ok [13, 14, 15, 16, 4, 3, 17, 18, 19, 20, 21, 22, 23, 24, 25, 26, 27, 28, 29, 30, 31, 32, 33, 34, 35, 36, 37, 38, 2, 39, 40, 41, 42, 43, 44, 45, 46, 47, 48, 49, 50, 51, 52, 53, 54, 12] (fun z => [(12, .v (.int .i64 z))]) (fun z => [{ id := x0, cs := [Value.slice b0p x.items.length c0p], ty := (65 : Nat) }]) (fun z => [H]) (fun z => x.items.length - z) (fun z => z ≤ x.items.length ∧ allK (itemM x) z = true) (0)
    · repeat' (first | exact trivial | refine ⟨⟨_, rfl, by first | rfl | exact inc_eq _ (by omega) | (refine sl_eq ?_; simp; done), by first | exact trivial | simp [SV.ok]⟩, ?_⟩)
    · exact ⟨rfl, trivial⟩
    · exact ⟨by omega, rfl⟩
    · exact .refl _
    rintro k hI
    obtain ⟨hk, ha⟩ : k ≤ x.items.length ∧ allK (itemM x) k = true := hI
    try dsimp only
    refine VCsplit.intro (fun q2 => ?_) (fun q2 => ?_)
    ·
      simp at q2
      refine idx_rd h0p ?_ ?_ fun b3 o3 hb3 => ?_
      · omega
      · omega
      refine load_allN default (k) rfl h0p ?_ ?_ hb3 rfl (mem_at 0 rfl) fun l4 hl4 => ?_
      · omega
      · omega
      obtain ⟨b0x4, c0x4, rfl, h0x4, w1x4⟩ := gItem_rd.1 hl4
      refine VCnew.intro fun x5 => ?_
      refine draw G_ok mixed none (.q 0 (.q 1 (.f 2 (.q 3 (.q 4 (.q 5 (.q 6 (.f 7 (.q 8 (.q 9 (.q 10 (.q 11 (.q 12 (.q 13 (.q 14 (.q 15 (.q 16 (.q 17 (.q 18 (.q 19 (.q 20 (.q 21 (.nil))))))))))))))))))))))) (by decide +kernel) ?_
      refine call_val (implRowOk_ct _ _ _ ((x.items[k]?.getD default).row)) (Rp.mono _ (mem_at 0 rfl) h0x4) ?_
      rintro _ rfl
      refine VC.intro ?_ ?_
      · exact fun _ h => h
      refine VCsplit.intro (fun q7 => ?_) (fun q7 => ?_)
      ·
        simp at q7
        exact ⟨[], ⟨by rw [bagM_no (k := k) (by omega) (item_no1 (by assumption))], rfl⟩, (.le fun a => by (try simp only [setR, List.cons_append, List.nil_append]); simp only [List.flatten_append, List.flatten_cons, List.flatten_nil, List.count_append, List.count_nil, List.append_nil, List.nil_append]; omega)⟩
      ·
        simp at q7
        refine call_val (timesOk_ct _) trivial ?_
        rintro _ rfl
        refine VC.intro ?_ ?_
        · exact fun _ h => h
        refine VCsplit.intro (fun q9 => ?_) (fun q9 => ?_)
        ·
          simp at q9
          exact ⟨[], ⟨by rw [bagM_no (k := k) (by omega) (item_no2 (mt inR_iff.2 (by simp_all)))], rfl⟩, (.le fun a => by (try simp only [setR, List.cons_append, List.nil_append]); simp only [List.flatten_append, List.flatten_cons, List.flatten_nil, List.count_append, List.count_nil, List.append_nil, List.nil_append]; omega)⟩
        ·
          simp at q9
          have iq9 := inR_iff.1 q9
          refine idx_rd h0p ?_ ?_ fun b10 o10 hb10 => ?_
          · trivial
          · omega
          refine load_partN default (0) 0 rfl h0p ?_ ?_ hb10 rfl (by decide) (mem_at 0 rfl) fun l11 hl11 => ?_
          · trivial
          · omega
          obtain ⟨b0x11, c0x11, rfl, h0x11, w1x11⟩ := gItem_rd.1 hl11
          refine VCsplit.intro (fun q12 => ?_) (fun q12 => ?_)
          ·
            simp at q12
            exact ⟨[], ⟨by rw [bagM_no (k := k) (by omega) (item_no3 (by unfold rowAt; omega))], rfl⟩, (.le fun a => by (try simp only [setR, List.cons_append, List.nil_append]); simp only [List.flatten_append, List.flatten_cons, List.flatten_nil, List.count_append, List.count_nil, List.append_nil, List.nil_append]; omega)⟩
          ·
            simp at q12
            refine draw G_ok mixed none (.q 0 (.q 1 (.q 2 (.q 3 (.q 4 (.q 5 (.q 6 (.q 7 (.q 8 (.q 9 (.q 10 (.q 11 (.f 12 (.q 13 (.q 14 (.nil)))))))))))))))) (by decide +kernel) ?_
            refine VCsplit.intro (fun q13 => ?_) (fun q13 => ?_)
            ·
              simp at q13
              refine idx_rd h0p ?_ ?_ fun b14 o14 hb14 => ?_
              · (simp (disch := omega) only [wrap_of]; omega)
              · (simp (disch := omega) only [wrap_of]; omega)
              refine load_part default 0 h0p ?_ ?_ hb14 rfl (by decide) (mem_at 0 rfl) fun l15 hl15 => ?_
              · (simp (disch := omega) only [wrap_of]; omega)
              · (simp (disch := omega) only [wrap_of]; omega)
              rw [show (IntKind.i64.wrap ((k : Int) - 1)).toNat = k - 1 by (simp (disch := omega) only [wrap_of]; omega)] at hl15
              obtain ⟨b0x15, c0x15, rfl, h0x15, w1x15⟩ := gItem_rd.1 hl15
              refine call_val (implRowLess_ct _ _ _ _ _ _ ((x.items[k - (1 : Nat)]?.getD default).row) ((x.items[k]?.getD default).row)) ⟨(Rp.mono _ (mem_at 0 rfl) h0x15), (Rp.mono _ (mem_at 0 rfl) h0x4)⟩ ?_
              rintro _ rfl
              refine VC.intro ?_ ?_
              · exact fun _ h => h
              refine VCsplit.intro (fun q17 => ?_) (fun q17 => ?_)
              ·
                simp at q17
                exact ⟨[], ⟨by rw [bagM_no (k := k) (by omega) (item_no4 (by omega) (by assumption))], rfl⟩, (.le fun a => by (try simp only [setR, List.cons_append, List.nil_append]); simp only [List.flatten_append, List.flatten_cons, List.flatten_nil, List.count_append, List.count_nil, List.append_nil, List.nil_append]; omega)⟩
              ·
                simp at q17
                apply loop_stepA (k + 1)
                · exact .refl _
                · repeat' (first | exact trivial | refine ⟨⟨_, rfl, by first | rfl | exact inc_eq _ (by omega) | (refine sl_eq ?_; simp; done), by first | exact trivial | simp [SV.ok]⟩, ?_⟩)
                · exact ⟨rfl, trivial⟩
                · exact ⟨by omega, allK_step ha (item_yes (by assumption) (by omega) (by first | assumption | (unfold rowAt; omega)) (by first | exact .inl (by omega) | exact .inr (by assumption)))⟩
                · omega
            ·
              simp at q13
              apply loop_stepA (k + 1)
              · exact .refl _
              · repeat' (first | exact trivial | refine ⟨⟨_, rfl, by first | rfl | exact inc_eq _ (by omega) | (refine sl_eq ?_; simp; done), by first | exact trivial | simp [SV.ok]⟩, ?_⟩)
              · exact ⟨rfl, trivial⟩
              · exact ⟨by omega, allK_step ha (item_yes (by assumption) (by omega) (by first | assumption | (unfold rowAt; omega)) (by first | exact .inl (by omega) | exact .inr (by assumption)))⟩
              · omega
    ·
      simp at q2
      (have hke : k = x.items.length := (by omega); subst hke; exact ⟨[], ⟨by rw [bagM_yes (by omega) ha], rfl⟩, (.le fun a => by (try simp only [setR, List.cons_append, List.nil_append]); simp only [List.flatten_append, List.flatten_cons, List.flatten_nil, List.count_append, List.count_nil, List.append_nil, List.nil_append]; omega)⟩)
--@ct spec.BagOk val specBagOk_ct _ $1 | %1
theorem specBagOk_ct (l : List Value) (x : Bag) : Ct Tryz.prog 295 [.agg ⟨l⟩] [] (fun H => gBag.rd H l x) (fun v A => v = .bool (bagM x) ∧ A = []) := by
  refine Ct.intro0 G_ok Tryz.func295 rfl rfl rfl fun E H hp => ?_
  obtain ⟨b0p, c0p, rfl, h0p⟩ := gBag_rd.1 hp
  have hl := (rd_len h0p).2
  refine VCnew.intro fun x0 => ?_
  apply loop_mod (α := (Nat)) G_ok [5, 6, 7, 8, 9, 12, 13, 14, 15, 16, 4, 17, 18, 19, 20, 21, 22, 23, 24, 25, 26, 27, 28, 29, 30, 31, 32, 33, 34, 35, 36, 37, 38, 39, 40, 41, 42, 43, 44, 45, 46, 47, 48, 49, 50, 51, 52, 53, 54, 55, 56, 57, 2, 10, 11, 3] (fun z => [(3, .v (.int .i64 z))]) (fun z => [{ id := x0, cs := [Value.slice b0p x.items.length c0p], ty := (65 : Nat) }]) (fun z => [H]) (fun z => x.items.length - z) (fun z => z ≤ x.items.length ∧ allK (itemM x) z = true) (0)
  · repeat' (first | exact trivial | refine ⟨⟨_, rfl, by first | rfl | exact inc_eq _ (by omega) | (refine sl_eq ?_; simp; done), by first | exact trivial | simp [SV.ok]⟩, ?_⟩)
  · exact ⟨rfl, trivial⟩
  · exact ⟨by omega, rfl⟩
  · exact .refl _
  rintro k hI
  obtain ⟨hk, ha⟩ : k ≤ x.items.length ∧ allK (itemM x) k = true := hI
  try dsimp only
  refine VCsplit.intro (fun q1 => ?_) (fun q1 => ?_)
  ·
    simp at q1
    refine idx_rd h0p ?_ ?_ fun b2 o2 hb2 => ?_
    · omega
    · omega
    refine load_allN default (k) rfl h0p ?_ ?_ hb2 rfl (mem_at 0 rfl) fun l3 hl3 => ?_
    · omega
    · omega
    obtain ⟨b0x3, c0x3, rfl, h0x3, w1x3⟩ := gItem_rd.1 hl3
    refine VCnew.intro fun x4 => ?_
    refine draw G_ok mixed none (.q 0 (.q 1 (.f 2 (.q 3 (.q 4 (.q 5 (.q 6 (.f 7 (.q 8 (.q 9 (.q 10 (.q 11 (.q 12 (.q 13 (.q 14 (.q 15 (.q 16 (.q 17 (.q 18 (.q 19 (.q 20 (.q 21 (.q 22 (.f 23 (.q 24 (.q 25 (.q 26 (.q 27 (.q 28 (.q 29 (.q 30 (.q 31 (.q 32 (.q 33 (.q 34 (.q 35 (.q 36 (.q 37 (.q 38 (.q 39 (.q 40 (.nil)))))))))))))))))))))))))))))))))))))))))) (by decide +kernel) ?_
    refine call_val (l03Row_ct _ _ _ ((x.items[k]?.getD default).row)) (Rp.mono _ (mem_at 0 rfl) h0x3) ?_
    rintro _ rfl
    refine VC.intro ?_ ?_
    · exact fun _ h => h
    refine VCsplit.intro (fun q6 => ?_) (fun q6 => ?_)
    ·
      simp at q6
      exact ⟨[], ⟨by rw [bagM_no (k := k) (by omega) (item_no1 (by assumption))], rfl⟩, (.le fun a => by (try simp only [setR, List.cons_append, List.nil_append]); simp [List.count_cons, Blk.ent, idOf]; try omega)⟩
    ·
      simp at q6
      refine call_val (l01In_ct _ _ _) trivial ?_
      rintro _ rfl
      refine VC.intro ?_ ?_
      · exact fun _ h => h
      refine VCsplit.intro (fun q8 => ?_) (fun q8 => ?_)
      ·
        simp at q8
        exact ⟨[], ⟨by rw [bagM_no (k := k) (by omega) (item_no2 (mt inR_iff.2 (by simp_all)))], rfl⟩, (.le fun a => by (try simp only [setR, List.cons_append, List.nil_append]); simp [List.count_cons, Blk.ent, idOf]; try omega)⟩
      ·
        simp at q8
        have iq8 := inR_iff.1 q8
        refine VCsplit.intro (fun q9 => ?_) (fun q9 => ?_)
        ·
          simp at q9
          refine idx_rd h0p ?_ ?_ fun b10 o10 hb10 => ?_
          · (simp (disch := omega) only [wrap_of]; omega)
          · (simp (disch := omega) only [wrap_of]; omega)
          refine load_part default 0 h0p ?_ ?_ hb10 rfl (by decide) (mem_at 0 rfl) fun l11 hl11 => ?_
          · (simp (disch := omega) only [wrap_of]; omega)
          · (simp (disch := omega) only [wrap_of]; omega)
          rw [show (IntKind.i64.wrap ((k : Int) - 1)).toNat = k - 1 by (simp (disch := omega) only [wrap_of]; omega)] at hl11
          obtain ⟨b0x11, c0x11, rfl, h0x11, w1x11⟩ := gItem_rd.1 hl11
          refine call_val (specRowLess_ct _ _ _ _ _ _ ((x.items[k - (1 : Nat)]?.getD default).row) ((x.items[k]?.getD default).row)) ⟨(Rp.mono _ (mem_at 0 rfl) h0x11), (Rp.mono _ (mem_at 0 rfl) h0x3)⟩ ?_
          rintro _ rfl
          refine VC.intro ?_ ?_
          · exact fun _ h => h
          refine VCsplit.intro (fun q13 => ?_) (fun q13 => ?_)
          ·
            simp at q13
            exact ⟨[], ⟨by rw [bagM_no (k := k) (by omega) (item_no4 (by omega) (by assumption))], rfl⟩, (.le fun a => by (try simp only [setR, List.cons_append, List.nil_append]); simp [List.count_cons, Blk.ent, idOf]; try omega)⟩
          ·
            simp at q13
            refine idx_rd h0p ?_ ?_ fun b14 o14 hb14 => ?_
            · (simp (disch := omega) only [wrap_of]; omega)
            · (simp (disch := omega) only [wrap_of]; omega)
            refine load_part default 0 h0p ?_ ?_ hb14 rfl (by decide) (mem_at 0 rfl) fun l15 hl15 => ?_
            · (simp (disch := omega) only [wrap_of]; omega)
            · (simp (disch := omega) only [wrap_of]; omega)
            rw [show (IntKind.i64.wrap ((k : Int) - 1)).toNat = k - 1 by (simp (disch := omega) only [wrap_of]; omega)] at hl15
            obtain ⟨b0x15, c0x15, rfl, h0x15, w1x15⟩ := gItem_rd.1 hl15
            refine VCsplit.intro (fun q16 => ?_) (fun q16 => ?_)
            ·
              simp at q16
              (have e0 := itemM_len (allK_at ha (k - 1) (by omega)); unfold rowAt at e0; exact ⟨[], ⟨by rw [bagM_no (k := k) (by omega) (item_no3 (by unfold rowAt; omega))], rfl⟩, (.le fun a => by (try simp only [setR, List.cons_append, List.nil_append]); simp [List.count_cons, Blk.ent, idOf]; try omega)⟩)
            ·
              simp at q16
              apply loop_stepA (k + 1)
              · exact .refl _
              · repeat' (first | exact trivial | refine ⟨⟨_, rfl, by first | rfl | exact inc_eq _ (by omega) | (refine sl_eq ?_; simp; done), by first | exact trivial | simp [SV.ok]⟩, ?_⟩)
              · exact ⟨rfl, trivial⟩
              · exact ⟨by omega, allK_step ha (item_yes (by assumption) (by omega) (by first | (have e0 := itemM_len (allK_at ha (k - 1) (by omega)); unfold rowAt at e0 ⊢; omega) | (subst ‹k = 0›; rfl)) (by first | exact .inl (by omega) | exact .inr (by assumption)))⟩
              · omega
        ·
          simp at q9
          apply loop_stepA (k + 1)
          · exact .refl _
          · repeat' (first | exact trivial | refine ⟨⟨_, rfl, by first | rfl | exact inc_eq _ (by omega) | (refine sl_eq ?_; simp; done), by first | exact trivial | simp [SV.ok]⟩, ?_⟩)
          · exact ⟨rfl, trivial⟩
          · exact ⟨by omega, allK_step ha (item_yes (by assumption) (by omega) (by first | (have e0 := itemM_len (allK_at ha (k - 1) (by omega)); unfold rowAt at e0 ⊢; omega) | (subst ‹k = 0›; rfl)) (by first | exact .inl (by omega) | exact .inr (by assumption)))⟩
          · omega
  ·
    simp at q1
    (have hke : k = x.items.length := (by omega); subst hke; exact ⟨[], ⟨by unfold bagM; rw [ha, Bool.and_true]; congr 1; rw [decide_eq_decide]; omega, rfl⟩, (.le fun a => by (try simp only [setR, List.cons_append, List.nil_append]); simp [List.count_cons, Blk.ent, idOf]; try omega)⟩)

end Go.Proofs.YtflfohphebmemaaGreat
