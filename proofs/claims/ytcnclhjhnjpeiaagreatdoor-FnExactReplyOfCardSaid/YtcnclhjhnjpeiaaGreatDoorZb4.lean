/-
  The order of rows, labels. Rows compared, valid bags, on both sides. Texts appended to bytes; builders of texts. Builders of texts. Bags shown, their sizes, replies: both sides. Replies told: both sides. Replies told: the law walked. Conditions: none.
-/
import Derived.Test.YtcnclhjhnjpeiaaGreatDoorZb3

namespace Go.Proofs.YtcnclhjhnjpeiaaGreatDoor
open Go.SX Go.Proofs
set_option linter.unusedSimpArgs false
set_option linter.unusedVariables false
set_option maxHeartbeats 4000000
attribute [local irreducible] IntKind.wrap
def cmpI (a b : Int) : Int := if a < b then -1 else if b < a then 1 else 0
def cmpL : List Int → List Int → Int
  | [], [] => 0
  | [], _ :: _ => -1
  | _ :: _, [] => 1
  | a :: r, b :: s => if a < b then -1 else if b < a then 1 else cmpL r s
--@ct cmp.isNaN[int] val isNaN_ct _
theorem isNaN_ct (a : Int) : Ct Tryz.prog 222 [.int .i64 a] [] (fun _ => True) (fun v A => v = .bool false ∧ A = []) := by
  refine Ct.intro0 G_ok Tryz.func222 rfl rfl rfl fun E H hp => ?_
  exact ⟨[], ⟨by simp, rfl⟩, (.le fun a => by (try simp only [setR, List.cons_append, List.nil_append]); simp only [List.flatten_append, List.flatten_cons, List.flatten_nil, List.count_append, List.count_nil, List.append_nil, List.nil_append]; omega)⟩
--@ct cmp.Compare[int] val cmpCompare_ct _ _
theorem cmpCompare_ct (a b : Int) : Ct Tryz.prog 206 [.int .i64 a, .int .i64 b] [] (fun _ => True) (fun v A => v = .int .i64 (cmpI a b) ∧ A = []) := by
  refine Ct.intro0 G_ok Tryz.func206 rfl rfl rfl fun E H hp => ?_
  refine call_val (isNaN_ct _) trivial ?_
  rintro _ rfl
  refine call_val (isNaN_ct _) trivial ?_
  rintro _ rfl
  refine VCsplit.intro (fun q2 => ?_) (fun q2 => ?_)
  ·
    simp at q2
  ·
    simp at q2
    refine VCsplit.intro (fun q3 => ?_) (fun q3 => ?_)
    ·
      simp at q3
    ·
      simp at q3
      refine VCsplit.intro (fun q4 => ?_) (fun q4 => ?_)
      ·
        simp at q4
        exact ⟨[], ⟨by unfold cmpI; rw [if_pos (by omega)], rfl⟩, (.le fun a => by (try simp only [setR, List.cons_append, List.nil_append]); simp only [List.flatten_append, List.flatten_cons, List.flatten_nil, List.count_append, List.count_nil, List.append_nil, List.nil_append]; omega)⟩
      ·
        simp at q4
        refine VCsplit.intro (fun q5 => ?_) (fun q5 => ?_)
        ·
          simp at q5
          exact ⟨[], ⟨by unfold cmpI; rw [if_neg (by omega), if_pos (by omega)], rfl⟩, (.le fun a => by (try simp only [setR, List.cons_append, List.nil_append]); simp only [List.flatten_append, List.flatten_cons, List.flatten_nil, List.count_append, List.count_nil, List.append_nil, List.nil_append]; omega)⟩
        ·
          simp at q5
          exact ⟨[], ⟨by unfold cmpI; rw [if_neg (by omega), if_neg (by omega)], rfl⟩, (.le fun a => by (try simp only [setR, List.cons_append, List.nil_append]); simp only [List.flatten_append, List.flatten_cons, List.flatten_nil, List.count_append, List.count_nil, List.append_nil, List.nil_append]; omega)⟩
theorem cmpL_drop {xs ys : List Int} (k : Nat) (h1 : k < xs.length) (h2 : k < ys.length) :
    cmpL (xs.drop k) (ys.drop k) = if cmpI (xs[k]?.getD 0) (ys[k]?.getD 0) = 0 then cmpL (xs.drop (k + 1)) (ys.drop (k + 1)) else cmpI (xs[k]?.getD 0) (ys[k]?.getD 0) := by
  rw [List.drop_eq_getElem_cons h1, List.drop_eq_getElem_cons h2, List.getElem?_eq_getElem h1, List.getElem?_eq_getElem h2]
  simp only [Option.getD_some, cmpL, cmpI]
  split
  · simp
  split
  · simp
  simp
--@ct slices.Compare[[]int,int] val sCompare_ct _ _ _ _ _ _ $1 $2 | ⟨%1, %2⟩
theorem sCompare_ct (b1 : Option Addr) (m1 c1 : Nat) (b2 : Option Addr) (m2 c2 : Nat) (xs ys : List Int) :
    Ct Tryz.prog 190 [.slice b1 m1 c1, .slice b2 m2 c2] [] (fun H => (gSl 3 gI).rd H [.slice b1 m1 c1] xs ∧ (gSl 3 gI).rd H [.slice b2 m2 c2] ys) (fun v A => v = .int .i64 (cmpL xs ys) ∧ A = []) := by
  refine Ct.intro0 G_ok Tryz.func190 rfl rfl rfl fun E H hp => ?_
  obtain ⟨hp1, hp2⟩ := hp
  obtain ⟨rfl, hc1, hl1⟩ := sl_len hp1
  obtain ⟨rfl, hc2, hl2⟩ := sl_len hp2
  apply loop_mod (α := (Nat)) G_ok [12, 13, 14, 15, 5, 6, 16, 17, 18, 19, 4, 20, 21, 22, 23, 7, 24, 25, 26, 8, 27, 28, 29, 30, 11] (fun z => [(11, .v (.int .i64 z))]) (fun z => []) (fun z => [H]) (fun z => xs.length - z) (fun z => z ≤ xs.length ∧ z ≤ ys.length ∧ cmpL xs ys = cmpL (xs.drop z) (ys.drop z)) (0)
  · repeat' (first | exact trivial | refine ⟨⟨_, rfl, by first | rfl | exact inc_eq _ (by omega) | (refine sl_eq ?_; simp; done), by first | exact trivial | simp [SV.ok]⟩, ?_⟩)
  · exact trivial
  · exact ⟨by omega, by omega, by simp⟩
  · exact .refl _
  rintro k hI
  obtain ⟨hk, hk2, he⟩ : k ≤ xs.length ∧ k ≤ ys.length ∧ cmpL xs ys = cmpL (xs.drop k) (ys.drop k) := hI
  try dsimp only
  refine VCsplit.intro (fun q0 => ?_) (fun q0 => ?_)
  ·
    simp at q0
    refine idx_rd hp1 ?_ ?_ fun b1 o1 hb1 => ?_
    · omega
    · omega
    refine load_allN 0 (k) rfl hp1 ?_ ?_ hb1 rfl (mem_at 0 rfl) fun l2 hl2 => ?_
    · omega
    · omega
    obtain ⟨rfl, hw2⟩ := hl2; simp only [flStr, flInt, okI] at hw2
    refine VCsplit.intro (fun q3 => ?_) (fun q3 => ?_)
    ·
      simp at q3
      exact ⟨[], ⟨by rw [he, List.drop_eq_getElem_cons (by omega : k < xs.length), List.drop_eq_nil_of_le (by omega : ys.length ≤ k)]; rfl, rfl⟩, (.le fun a => by (try simp only [setR, List.cons_append, List.nil_append]); simp only [List.flatten_append, List.flatten_cons, List.flatten_nil, List.count_append, List.count_nil, List.append_nil, List.nil_append]; omega)⟩
    ·
      simp at q3
      refine idx_rd hp2 ?_ ?_ fun b4 o4 hb4 => ?_
      · omega
      · omega
      refine load_allN 0 (k) rfl hp2 ?_ ?_ hb4 rfl (mem_at 0 rfl) fun l5 hl5 => ?_
      · omega
      · omega
      obtain ⟨rfl, hw5⟩ := hl5; simp only [flStr, flInt, okI] at hw5
      refine call_val (cmpCompare_ct _ _) trivial ?_
      rintro _ rfl
      refine VCsplit.intro (fun q7 => ?_) (fun q7 => ?_)
      ·
        simp at q7
        exact ⟨[], ⟨by rw [he, cmpL_drop k (by omega) (by omega), if_neg (by assumption)], rfl⟩, (.le fun a => by (try simp only [setR, List.cons_append, List.nil_append]); simp only [List.flatten_append, List.flatten_cons, List.flatten_nil, List.count_append, List.count_nil, List.append_nil, List.nil_append]; omega)⟩
      ·
        simp at q7
        apply loop_stepA (k + 1)
        · exact .refl _
        · repeat' (first | exact trivial | refine ⟨⟨_, rfl, by first | rfl | exact inc_eq _ (by omega) | (refine sl_eq ?_; simp; done), by first | exact trivial | simp [SV.ok]⟩, ?_⟩)
        · exact trivial
        · exact ⟨by omega, by omega, by rw [he, cmpL_drop k (by omega) (by omega), if_pos (by assumption)]⟩
        omega
  ·
    simp at q0
    refine VCsplit.intro (fun q8 => ?_) (fun q8 => ?_)
    ·
      simp at q8
      exact ⟨[], ⟨by rw [he, List.drop_eq_getElem_cons (by omega : k < ys.length), List.drop_eq_nil_of_le (by omega : xs.length ≤ k)]; rfl, rfl⟩, (.le fun a => by (try simp only [setR, List.cons_append, List.nil_append]); simp only [List.flatten_append, List.flatten_cons, List.flatten_nil, List.count_append, List.count_nil, List.append_nil, List.nil_append]; omega)⟩
    ·
      simp at q8
      exact ⟨[], ⟨by rw [he, List.drop_eq_nil_of_le (by omega : ys.length ≤ k), List.drop_eq_nil_of_le (by omega : xs.length ≤ k)]; rfl, rfl⟩, (.le fun a => by (try simp only [setR, List.cons_append, List.nil_append]); simp only [List.flatten_append, List.flatten_cons, List.flatten_nil, List.count_append, List.count_nil, List.append_nil, List.nil_append]; omega)⟩
--@ct impl.isLabel val isLabel_ct _
end Go.Proofs.YtcnclhjhnjpeiaaGreatDoor

namespace Go.Proofs.YtcnclhjhnjpeiaaGreatDoor
open Go.SX Go.Proofs
set_option linter.unusedSimpArgs false
set_option linter.unusedVariables false
set_option maxHeartbeats 4000000
attribute [local irreducible] IntKind.wrap
def allK (p : Nat → Bool) : Nat → Bool
  | 0 => true
  | k + 1 => allK p k && p k
theorem allK_no {p : Nat → Bool} {k : Nat} (h : p k = false) : ∀ n, k < n → allK p n = false
  | 0, h1 => by omega
  | n + 1, h1 => by
    unfold allK
    rcases Nat.lt_or_ge k n with h2 | h2
    · rw [allK_no h n h2]; rfl
    rw [show n = k by omega, h]; simp
theorem allK_step {p : Nat → Bool} {k : Nat} (h : allK p k = true) (h1 : p k = true) : allK p (k + 1) = true := by unfold allK; rw [h, h1]; rfl
theorem allK_at {p : Nat → Bool} : ∀ {n : Nat}, allK p n = true → ∀ k, k < n → p k = true
  | 0, _, k, hk => by omega
  | n + 1, h, k, hk => by
    unfold allK at h
    rw [Bool.and_eq_true] at h
    rcases Nat.lt_or_ge k n with h1 | h1
    · exact allK_at h.1 k h1
    rw [show k = n by omega]; exact h.2
theorem cmpI_zero {a b : Int} : cmpI a b = 0 ↔ a = b := by
  unfold cmpI; split
  · omega
  split <;> omega
theorem cmpI_neg {a b : Int} : cmpI a b < 0 ↔ a < b := by
  unfold cmpI; split
  · omega
  split <;> omega
theorem cmpL_end {xs ys : List Int} {k : Nat} (h : xs.length ≤ k ∨ ys.length ≤ k) (h1 : k ≤ xs.length) (h2 : k ≤ ys.length) : decide (cmpL (xs.drop k) (ys.drop k) < 0) = decide (xs.length < ys.length) := by
  rcases Nat.lt_or_ge k xs.length with h3 | h3
  · rw [List.drop_eq_nil_of_le (by omega : ys.length ≤ k), List.drop_eq_getElem_cons h3, decide_eq_decide]
    simp only [cmpL]; omega
  rw [List.drop_eq_nil_of_le h3]
  rcases Nat.lt_or_ge k ys.length with h4 | h4
  · rw [List.drop_eq_getElem_cons h4, decide_eq_decide]; simp only [cmpL]; omega
  rw [List.drop_eq_nil_of_le h4, decide_eq_decide]; simp only [cmpL]; omega
theorem cmpL_go {xs ys : List Int} {k : Nat} (h1 : k < xs.length) (h2 : k < ys.length) (h : ¬ (xs[k]?.getD 0) = (ys[k]?.getD 0)) : decide (cmpL (xs.drop k) (ys.drop k) < 0) = decide ((xs[k]?.getD 0) < (ys[k]?.getD 0)) := by
  rw [cmpL_drop k h1 h2, if_neg (by rw [cmpI_zero]; exact h), decide_eq_decide]; exact cmpI_neg
theorem cmpL_eq {xs ys : List Int} {k : Nat} (h1 : k < xs.length) (h2 : k < ys.length) (h : (xs[k]?.getD 0) = (ys[k]?.getD 0)) : cmpL (xs.drop k) (ys.drop k) = cmpL (xs.drop (k + 1)) (ys.drop (k + 1)) := by
  rw [cmpL_drop k h1 h2, if_pos (by rw [cmpI_zero]; exact h)]
def rowLess (a b : List Int) : Bool := decide (cmpL a b < 0)
def rowM (r : List Int) : Bool := decide (r.length ≤ 4) && allK (fun i => inR 0 99 (r[i]?.getD 0)) r.length
def rowAt (b : Bag) (i : Nat) : List Int := (b.items[i]?.getD default).row
def itemM (b : Bag) (i : Nat) : Bool :=
  rowM (rowAt b i) && (inR 1 1000000 (b.items[i]?.getD default).times && (decide ((rowAt b i).length = (rowAt b 0).length) && (decide (i = 0) || rowLess (rowAt b (i - 1)) (rowAt b i))))
def bagM (b : Bag) : Bool := decide (b.items.length ≤ 300) && allK (itemM b) b.items.length
theorem rowM_no {r : List Int} {k : Nat} (h1 : k < r.length) (h : ¬ (0 ≤ (r[k]?.getD 0) ∧ (r[k]?.getD 0) ≤ 99)) : rowM r = false := by
  unfold rowM; rw [allK_no (p := fun i => inR 0 99 (r[i]?.getD 0)) (k := k) (by rw [← Bool.not_eq_true, inR_iff]; exact h) _ h1]; simp
theorem rowM_long {r : List Int} (h : ¬ r.length ≤ 4) : rowM r = false := by unfold rowM; rw [decide_eq_false h]; rfl
theorem rowM_yes {r : List Int} (h : r.length ≤ 4) (h2 : allK (fun i => inR 0 99 (r[i]?.getD 0)) r.length = true) : rowM r = true := by unfold rowM; rw [h2, decide_eq_true h]; rfl
theorem bagM_no {b : Bag} {k : Nat} (h1 : k < b.items.length) (h : itemM b k = false) : bagM b = false := by unfold bagM; rw [allK_no h _ h1]; simp
theorem bagM_long {b : Bag} (h : ¬ b.items.length ≤ 300) : bagM b = false := by unfold bagM; rw [decide_eq_false h]; rfl
theorem bagM_yes {b : Bag} (h : b.items.length ≤ 300) (h2 : allK (itemM b) b.items.length = true) : bagM b = true := by unfold bagM; rw [h2, decide_eq_true h]; rfl
theorem itemM_len {b : Bag} {i : Nat} (h : itemM b i = true) : (rowAt b i).length = (rowAt b 0).length := by
  unfold itemM at h; simp only [Bool.and_eq_true, decide_eq_true_iff] at h; exact h.2.2.1
theorem item_no1 {b : Bag} {i : Nat} (h : rowM (rowAt b i) = false) : itemM b i = false := by unfold itemM; rw [h]; rfl
theorem item_no2 {b : Bag} {i : Nat} (h : ¬ (1 ≤ (b.items[i]?.getD default).times ∧ (b.items[i]?.getD default).times ≤ 1000000)) : itemM b i = false := by
  unfold itemM; rw [show inR 1 1000000 (b.items[i]?.getD default).times = false by rw [← Bool.not_eq_true, inR_iff]; exact h]; simp
theorem item_no3 {b : Bag} {i : Nat} (h : ¬ (rowAt b i).length = (rowAt b 0).length) : itemM b i = false := by unfold itemM; rw [decide_eq_false h]; simp
theorem item_no4 {b : Bag} {i : Nat} (h0 : ¬ i = 0) (h : rowLess (rowAt b (i - 1)) (rowAt b i) = false) : itemM b i = false := by unfold itemM; rw [h, decide_eq_false h0]; simp
theorem item_yes {b : Bag} {i : Nat} (h1 : rowM (rowAt b i) = true) (h2 : 1 ≤ (b.items[i]?.getD default).times ∧ (b.items[i]?.getD default).times ≤ 1000000) (h3 : (rowAt b i).length = (rowAt b 0).length) (h4 : i = 0 ∨ rowLess (rowAt b (i - 1)) (rowAt b i) = true) : itemM b i = true := by
  unfold itemM; rw [h1, decide_eq_true h3, show inR 1 1000000 (b.items[i]?.getD default).times = true from inR_iff.2 h2]
  rcases h4 with h4 | h4
  · rw [decide_eq_true h4]; rfl
  rw [h4]; simp
--@ct impl.RowLess val implRowLess_ct _ _ _ _ _ _ $1 $2 | ⟨%1, %2⟩
theorem implRowLess_ct (b1 : Option Addr) (m1 c1 : Nat) (b2 : Option Addr) (m2 c2 : Nat) (xs ys : List Int) :
    Ct Tryz.prog 168 [.slice b1 m1 c1, .slice b2 m2 c2] [] (fun H => (gSl 3 gI).rd H [.slice b1 m1 c1] xs ∧ (gSl 3 gI).rd H [.slice b2 m2 c2] ys) (fun v A => v = .bool (rowLess xs ys) ∧ A = []) := by
  refine Ct.intro0 G_ok Tryz.func168 rfl rfl rfl fun E H hp => ?_
  obtain ⟨hp1, hp2⟩ := hp
  obtain ⟨rfl, hc1, hl1⟩ := sl_len hp1
  obtain ⟨rfl, hc2, hl2⟩ := sl_len hp2
  refine call_val (sCompare_ct _ _ _ _ _ _ (xs) (ys)) ⟨(Rp.mono _ (mem_at 0 rfl) hp1), (Rp.mono _ (mem_at 0 rfl) hp2)⟩ ?_
  rintro _ rfl
  exact ⟨[], ⟨rfl, rfl⟩, (.le fun a => by (try simp only [setR, List.cons_append, List.nil_append]); simp only [List.flatten_append, List.flatten_cons, List.flatten_nil, List.count_append, List.count_nil, List.append_nil, List.nil_append]; omega)⟩
--@ct spec.RowLess val specRowLess_ct _ _ _ _ _ _ $1 $2 | ⟨%1, %2⟩
theorem specRowLess_ct (b1 : Option Addr) (m1 c1 : Nat) (b2 : Option Addr) (m2 c2 : Nat) (xs ys : List Int) :
    Ct Tryz.prog 93 [.slice b1 m1 c1, .slice b2 m2 c2] [] (fun H => (gSl 3 gI).rd H [.slice b1 m1 c1] xs ∧ (gSl 3 gI).rd H [.slice b2 m2 c2] ys) (fun v A => v = .bool (rowLess xs ys) ∧ A = []) := by
  refine Ct.intro0 G_ok Tryz.func93 rfl rfl rfl fun E H hp => ?_
  obtain ⟨hp1, hp2⟩ := hp
  obtain ⟨rfl, hc1, hl1⟩ := sl_len hp1
  obtain ⟨rfl, hc2, hl2⟩ := sl_len hp2
  apply loop_mod (α := (Nat)) G_ok [6, 7, 8, 9, 10, 11, 12, 13, 14, 15, 18, 19, 20, 21, 22, 23, 24, 25, 26, 27, 28, 29, 30, 31, 32, 33, 34, 35, 4, 16, 17, 5] (fun z => [(5, .v (.int .i64 z))]) (fun z => []) (fun z => [H]) (fun z => xs.length - z) (fun z => z ≤ xs.length ∧ z ≤ ys.length ∧ cmpL xs ys = cmpL (xs.drop z) (ys.drop z)) (0)
  · repeat' (first | exact trivial | refine ⟨⟨_, rfl, by first | rfl | exact inc_eq _ (by omega) | (refine sl_eq ?_; simp; done), by first | exact trivial | simp [SV.ok]⟩, ?_⟩)
  · exact trivial
  · exact ⟨by omega, by omega, by simp⟩
  · exact .refl _
  rintro k hI
  obtain ⟨hk, hk2, he⟩ : k ≤ xs.length ∧ k ≤ ys.length ∧ cmpL xs ys = cmpL (xs.drop k) (ys.drop k) := hI
  try dsimp only
  refine VCsplit.intro (fun q0 => ?_) (fun q0 => ?_)
  ·
    simp at q0
    refine VCsplit.intro (fun q1 => ?_) (fun q1 => ?_)
    ·
      simp at q1
      refine draw G_ok mixed none (.q 0 (.q 1 (.q 2 (.q 3 (.q 4 (.q 5 (.q 6 (.q 7 (.q 8 (.nil)))))))))) (by decide +kernel) ?_
      refine idx_rd hp1 ?_ ?_ fun b2 o2 hb2 => ?_
      · omega
      · omega
      refine load_allN 0 (k) rfl hp1 ?_ ?_ hb2 rfl (mem_at 0 rfl) fun l3 hl3 => ?_
      · omega
      · omega
      obtain ⟨rfl, hw3⟩ := hl3; simp only [flStr, flInt, okI] at hw3
      refine idx_rd hp2 ?_ ?_ fun b4 o4 hb4 => ?_
      · omega
      · omega
      refine load_allN 0 (k) rfl hp2 ?_ ?_ hb4 rfl (mem_at 0 rfl) fun l5 hl5 => ?_
      · omega
      · omega
      obtain ⟨rfl, hw5⟩ := hl5; simp only [flStr, flInt, okI] at hw5
      refine VCsplit.intro (fun q6 => ?_) (fun q6 => ?_)
      ·
        simp at q6
        refine draw G_ok mixed none (.q 0 (.q 1 (.q 2 (.q 3 (.q 4 (.q 5 (.q 6 (.q 7 (.q 8 (.q 9 (.nil))))))))))) (by decide +kernel) ?_
        refine idx_rd hp1 ?_ ?_ fun b7 o7 hb7 => ?_
        · omega
        · omega
        refine load_allN 0 (k) rfl hp1 ?_ ?_ hb7 rfl (mem_at 0 rfl) fun l8 hl8 => ?_
        · omega
        · omega
        obtain ⟨rfl, hw8⟩ := hl8; simp only [flStr, flInt, okI] at hw8
        refine idx_rd hp2 ?_ ?_ fun b9 o9 hb9 => ?_
        · omega
        · omega
        refine load_allN 0 (k) rfl hp2 ?_ ?_ hb9 rfl (mem_at 0 rfl) fun l10 hl10 => ?_
        · omega
        · omega
        obtain ⟨rfl, hw10⟩ := hl10; simp only [flStr, flInt, okI] at hw10
        exact ⟨[], ⟨by unfold rowLess; rw [he, cmpL_go (by omega) (by omega) ‹¬ _ = _›], rfl⟩, (.le fun a => by (try simp only [setR, List.cons_append, List.nil_append]); simp only [List.flatten_append, List.flatten_cons, List.flatten_nil, List.count_append, List.count_nil, List.append_nil, List.nil_append]; omega)⟩
      ·
        simp at q6
        apply loop_stepA (k + 1)
        · exact .refl _
        · repeat' (first | exact trivial | refine ⟨⟨_, rfl, by first | rfl | exact inc_eq _ (by omega) | (refine sl_eq ?_; simp; done), by first | exact trivial | simp [SV.ok]⟩, ?_⟩)
        · exact trivial
        · exact ⟨by omega, by omega, by rw [he, cmpL_eq (by omega) (by omega) ‹_ = _›]⟩
        omega
    ·
      simp at q1
      exact ⟨[], ⟨by unfold rowLess; rw [he, cmpL_end (by omega) (by omega) (by omega)]; congr 1; rw [decide_eq_decide]; omega, rfl⟩, (.le fun a => by (try simp only [setR, List.cons_append, List.nil_append]); simp only [List.flatten_append, List.flatten_cons, List.flatten_nil, List.count_append, List.count_nil, List.append_nil, List.nil_append]; omega)⟩
  ·
    simp at q0
    exact ⟨[], ⟨by unfold rowLess; rw [he, cmpL_end (by omega) (by omega) (by omega)]; congr 1; rw [decide_eq_decide]; omega, rfl⟩, (.le fun a => by (try simp only [setR, List.cons_append, List.nil_append]); simp only [List.flatten_append, List.flatten_cons, List.flatten_nil, List.count_append, List.count_nil, List.append_nil, List.nil_append]; omega)⟩
--@ct impl.rowOk val implRowOk_ct _ _ _ $1 | %1
theorem implRowOk_ct (b : Option Addr) (m c : Nat) (r : List Int) :
    Ct Tryz.prog 166 [.slice b m c] [] (fun H => (gSl 3 gI).rd H [.slice b m c] r) (fun v A => v = .bool (rowM r) ∧ A = []) := by
  refine Ct.intro0 G_ok Tryz.func166 rfl rfl rfl fun E H hp => ?_
  obtain ⟨rfl, hc1, hl1⟩ := sl_len hp
  refine VCsplit.intro (fun q0 => ?_) (fun q0 => ?_)
  ·
    simp at q0
    exact ⟨[], ⟨by rw [rowM_long (by omega)], rfl⟩, (.le fun a => by (try simp only [setR, List.cons_append, List.nil_append]); simp only [List.flatten_append, List.flatten_cons, List.flatten_nil, List.count_append, List.count_nil, List.append_nil, List.nil_append]; omega)⟩
  ·
    simp at q0
    apply loop_mod (α := (Nat)) G_ok [11, 12, 13, 4, 14, 15, 16, 17, 18, 19, 2, 20, 10] (fun z => [(10, .v (.int .i64 z))]) (fun z => []) (fun z => [H]) (fun z => r.length - z) (fun z => z ≤ r.length ∧ allK (fun i => inR 0 99 (r[i]?.getD 0)) z = true) (0)
    · repeat' (first | exact trivial | refine ⟨⟨_, rfl, by first | rfl | exact inc_eq _ (by omega) | (refine sl_eq ?_; simp; done), by first | exact trivial | simp [SV.ok]⟩, ?_⟩)
    · exact trivial
    · exact ⟨by omega, rfl⟩
    · exact .refl _
    rintro k hI
    obtain ⟨hk, ha⟩ : k ≤ r.length ∧ allK (fun i => inR 0 99 (r[i]?.getD 0)) k = true := hI
    try dsimp only
    refine VCsplit.intro (fun q1 => ?_) (fun q1 => ?_)
    ·
      simp at q1
      refine idx_rd hp ?_ ?_ fun b2 o2 hb2 => ?_
      · omega
      · omega
      refine load_allN 0 (k) rfl hp ?_ ?_ hb2 rfl (mem_at 0 rfl) fun l3 hl3 => ?_
      · omega
      · omega
      obtain ⟨rfl, hw3⟩ := hl3; simp only [flStr, flInt, okI] at hw3
      refine VCsplit.intro (fun q4 => ?_) (fun q4 => ?_)
      ·
        simp at q4
        exact ⟨[], ⟨by rw [rowM_no (k := k) (by omega) (by omega)], rfl⟩, (.le fun a => by (try simp only [setR, List.cons_append, List.nil_append]); simp only [List.flatten_append, List.flatten_cons, List.flatten_nil, List.count_append, List.count_nil, List.append_nil, List.nil_append]; omega)⟩
      ·
        simp at q4
        refine VCsplit.intro (fun q5 => ?_) (fun q5 => ?_)
        ·
          simp at q5
          exact ⟨[], ⟨by rw [rowM_no (k := k) (by omega) (by omega)], rfl⟩, (.le fun a => by (try simp only [setR, List.cons_append, List.nil_append]); simp only [List.flatten_append, List.flatten_cons, List.flatten_nil, List.count_append, List.count_nil, List.append_nil, List.nil_append]; omega)⟩
        ·
          simp at q5
          apply loop_stepA (k + 1)
          · exact .refl _
          · repeat' (first | exact trivial | refine ⟨⟨_, rfl, by first | rfl | exact inc_eq _ (by omega) | (refine sl_eq ?_; simp; done), by first | exact trivial | simp [SV.ok]⟩, ?_⟩)
          · exact trivial
          · exact ⟨by omega, allK_step ha (inR_iff.2 (by omega))⟩
          omega
    ·
      simp at q1
      (have hke : k = r.length := (by omega); subst hke; exact ⟨[], ⟨by rw [rowM_yes (by omega) ha], rfl⟩, (.le fun a => by (try simp only [setR, List.cons_append, List.nil_append]); simp only [List.flatten_append, List.flatten_cons, List.flatten_nil, List.count_append, List.count_nil, List.append_nil, List.nil_append]; omega)⟩)
--@ct spec.l03Row val l03Row_ct _ _ _ $1 | %1
theorem l03Row_ct (b : Option Addr) (m c : Nat) (r : List Int) :
    Ct Tryz.prog 129 [.slice b m c] [] (fun H => (gSl 3 gI).rd H [.slice b m c] r) (fun v A => v = .bool (rowM r) ∧ A = []) := by
  refine Ct.intro0 G_ok Tryz.func129 rfl rfl rfl fun E H hp => ?_
  obtain ⟨rfl, hc1, hl1⟩ := sl_len hp
  apply loop_mod (α := (Nat)) G_ok [4, 5, 6, 7, 10, 11, 12, 13, 14, 15, 2, 8, 9, 3] (fun z => [(3, .v (.int .i64 z))]) (fun z => []) (fun z => [H]) (fun z => r.length - z) (fun z => z ≤ r.length ∧ allK (fun i => inR 0 99 (r[i]?.getD 0)) z = true) (0)
  · repeat' (first | exact trivial | refine ⟨⟨_, rfl, by first | rfl | exact inc_eq _ (by omega) | (refine sl_eq ?_; simp; done), by first | exact trivial | simp [SV.ok]⟩, ?_⟩)
  · exact trivial
  · exact ⟨by omega, rfl⟩
  · exact .refl _
  rintro k hI
  obtain ⟨hk, ha⟩ : k ≤ r.length ∧ allK (fun i => inR 0 99 (r[i]?.getD 0)) k = true := hI
  try dsimp only
  refine VCsplit.intro (fun q0 => ?_) (fun q0 => ?_)
  ·
    simp at q0
    refine idx_rd hp ?_ ?_ fun b1 o1 hb1 => ?_
    · omega
    · omega
    refine load_allN 0 (k) rfl hp ?_ ?_ hb1 rfl (mem_at 0 rfl) fun l2 hl2 => ?_
    · omega
    · omega
    obtain ⟨rfl, hw2⟩ := hl2; simp only [flStr, flInt, okI] at hw2
    refine call_val (l01In_ct _ _ _) trivial ?_
    rintro _ rfl
    refine VCsplit.intro (fun q4 => ?_) (fun q4 => ?_)
    ·
      simp at q4
      have iq4 := mt inR_iff.2 (Bool.eq_false_iff.1 q4)
      exact ⟨[], ⟨by rw [rowM_no (k := k) (by omega) (by omega)], rfl⟩, (.le fun a => by (try simp only [setR, List.cons_append, List.nil_append]); simp only [List.flatten_append, List.flatten_cons, List.flatten_nil, List.count_append, List.count_nil, List.append_nil, List.nil_append]; omega)⟩
    ·
      simp at q4
      have iq4 := inR_iff.1 q4
      apply loop_stepA (k + 1)
      · exact .refl _
      · repeat' (first | exact trivial | refine ⟨⟨_, rfl, by first | rfl | exact inc_eq _ (by omega) | (refine sl_eq ?_; simp; done), by first | exact trivial | simp [SV.ok]⟩, ?_⟩)
      · exact trivial
      · exact ⟨by omega, allK_step ha (inR_iff.2 (by omega))⟩
      omega
  ·
    simp at q0
    (have hke : k = r.length := (by omega); subst hke; exact ⟨[], ⟨by unfold rowM; rw [ha, Bool.and_true]; congr 1; rw [decide_eq_decide]; omega, rfl⟩, (.le fun a => by (try simp only [setR, List.cons_append, List.nil_append]); simp only [List.flatten_append, List.flatten_cons, List.flatten_nil, List.count_append, List.count_nil, List.append_nil, List.nil_append]; omega)⟩)
--@ct impl.timesOk val timesOk_ct _
theorem timesOk_ct (a : Int) : Ct Tryz.prog 167 [.int .i64 a] [] (fun _ => True) (fun v A => v = .bool (inR 1 1000000 a) ∧ A = []) := by
  refine Ct.intro0 G_ok Tryz.func167 rfl rfl rfl fun E H hp => ?_
  refine VCsplit.intro (fun q0 => ?_) (fun q0 => ?_)
  ·
    simp at q0
    exact ⟨[], ⟨by unfold inR; rw [decide_eq_true (by omega : (1 : Int) ≤ a), Bool.true_and], rfl⟩, (.le fun a => by (try simp only [setR, List.cons_append, List.nil_append]); simp only [List.flatten_append, List.flatten_cons, List.flatten_nil, List.count_append, List.count_nil, List.append_nil, List.nil_append]; omega)⟩
  ·
    simp at q0
    exact ⟨[], ⟨by unfold inR; rw [decide_eq_false (by omega : ¬ (1 : Int) ≤ a), Bool.false_and], rfl⟩, (.le fun a => by (try simp only [setR, List.cons_append, List.nil_append]); simp only [List.flatten_append, List.flatten_cons, List.flatten_nil, List.count_append, List.count_nil, List.append_nil, List.nil_append]; omega)⟩
--@ct impl.BagOk val implBagOk_ct _ $1 | %1
theorem implBagOk_ct (l : List Value) (x : Bag) : Ct Tryz.prog 134 [.agg ⟨l⟩] [] (fun H => gBag.rd H l x) (fun v A => v = .bool (bagM x) ∧ A = []) := by
  refine Ct.intro0 G_ok Tryz.func134 rfl rfl rfl fun E H hp => ?_
  obtain ⟨b0p, c0p, rfl, h0p⟩ := gBag_rd.1 hp
  have hl := (rd_len h0p).2
  refine VCnew.intro fun x0 => ?_
  refine VCsplit.intro (fun q1 => ?_) (fun q1 => ?_)
  ·
    simp at q1
    exact ⟨[], ⟨by rw [bagM_long (by omega)], rfl⟩, (.le fun a => by (try simp only [setR, List.cons_append, List.nil_append]); simp only [List.flatten_append, List.flatten_cons, List.flatten_nil, List.count_append, List.count_nil, List.append_nil, List.nil_append]; omega)⟩
  ·
    simp at q1
    apply loop_mod (α := (Nat)) G_ok [13, 14, 15, 16, 4, 3, 17, 18, 19, 20, 21, 22, 23, 24, 25, 26, 27, 28, 29, 30, 31, 32, 33, 34, 35, 36, 37, 38, 2, 39, 40, 41, 42, 43, 44, 45, 46, 47, 48, 49, 50, 51, 52, 53, 54, 12] (fun z => [(12, .v (.int .i64 z))]) (fun z => [{ id := x0, cs := [Value.slice b0p x.items.length c0p], ty := (49 : Nat) }]) (fun z => [H]) (fun z => x.items.length - z) (fun z => z ≤ x.items.length ∧ allK (itemM x) z = true) (0)
    · repeat' (first | exact trivial | refine ⟨⟨_, rfl, by first | rfl | exact inc_eq _ (by omega) | (refine sl_eq ?_; simp; done), by first | exact trivial | simp [SV.ok]⟩, ?_⟩)
    · exact ⟨rfl, trivial⟩
    · exact ⟨by omega, rfl⟩
    · exact .refl _
    rintro k hI
    obtain ⟨hk, ha⟩ : k ≤ x.items.length ∧ allK (itemM x) k = true := hI
    try dsimp only
    refine VCsplit.intro (fun q2 => ?_) (fun q2 => ?_)
    ·
      simp at q2
      refine idx_rd h0p ?_ ?_ fun b3 o3 hb3 => ?_
      · omega
      · omega
      refine load_allN default (k) rfl h0p ?_ ?_ hb3 rfl (mem_at 0 rfl) fun l4 hl4 => ?_
      · omega
      · omega
      obtain ⟨b0x4, c0x4, rfl, h0x4, w1x4⟩ := gItem_rd.1 hl4
      refine VCnew.intro fun x5 => ?_
      refine draw G_ok mixed none (.q 0 (.q 1 (.f 2 (.q 3 (.q 4 (.q 5 (.q 6 (.f 7 (.q 8 (.q 9 (.q 10 (.q 11 (.q 12 (.q 13 (.q 14 (.q 15 (.q 16 (.q 17 (.q 18 (.q 19 (.q 20 (.q 21 (.nil))))))))))))))))))))))) (by decide +kernel) ?_
      refine call_val (implRowOk_ct _ _ _ ((x.items[k]?.getD default).row)) (Rp.mono _ (mem_at 0 rfl) h0x4) ?_
      rintro _ rfl
      refine VC.intro ?_ ?_
      · exact fun _ h => h
      refine VCsplit.intro (fun q7 => ?_) (fun q7 => ?_)
      ·
        simp at q7
        exact ⟨[], ⟨by rw [bagM_no (k := k) (by omega) (item_no1 (by assumption))], rfl⟩, (.le fun a => by (try simp only [setR, List.cons_append, List.nil_append]); simp only [List.flatten_append, List.flatten_cons, List.flatten_nil, List.count_append, List.count_nil, List.append_nil, List.nil_append]; omega)⟩
      ·
        simp at q7
        refine call_val (timesOk_ct _) trivial ?_
        rintro _ rfl
        refine VC.intro ?_ ?_
        · exact fun _ h => h
        refine VCsplit.intro (fun q9 => ?_) (fun q9 => ?_)
        ·
          simp at q9
          exact ⟨[], ⟨by rw [bagM_no (k := k) (by omega) (item_no2 (mt inR_iff.2 (by simp_all)))], rfl⟩, (.le fun a => by (try simp only [setR, List.cons_append, List.nil_append]); simp only [List.flatten_append, List.flatten_cons, List.flatten_nil, List.count_append, List.count_nil, List.append_nil, List.nil_append]; omega)⟩
        ·
          simp at q9
          have iq9 := inR_iff.1 q9
          refine idx_rd h0p ?_ ?_ fun b10 o10 hb10 => ?_
          · trivial
          · omega
          refine load_partN default (0) 0 rfl h0p ?_ ?_ hb10 rfl (by decide) (mem_at 0 rfl) fun l11 hl11 => ?_
          · trivial
          · omega
          obtain ⟨b0x11, c0x11, rfl, h0x11, w1x11⟩ := gItem_rd.1 hl11
          refine VCsplit.intro (fun q12 => ?_) (fun q12 => ?_)
          ·
            simp at q12
            exact ⟨[], ⟨by rw [bagM_no (k := k) (by omega) (item_no3 (by unfold rowAt; omega))], rfl⟩, (.le fun a => by (try simp only [setR, List.cons_append, List.nil_append]); simp only [List.flatten_append, List.flatten_cons, List.flatten_nil, List.count_append, List.count_nil, List.append_nil, List.nil_append]; omega)⟩
          ·
            simp at q12
            refine draw G_ok mixed none (.q 0 (.q 1 (.q 2 (.q 3 (.q 4 (.q 5 (.q 6 (.q 7 (.q 8 (.q 9 (.q 10 (.q 11 (.f 12 (.q 13 (.q 14 (.nil)))))))))))))))) (by decide +kernel) ?_
            refine VCsplit.intro (fun q13 => ?_) (fun q13 => ?_)
            ·
              simp at q13
              refine idx_rd h0p ?_ ?_ fun b14 o14 hb14 => ?_
              · (simp (disch := omega) only [wrap_of]; omega)
              · (simp (disch := omega) only [wrap_of]; omega)
              refine load_part default 0 h0p ?_ ?_ hb14 rfl (by decide) (mem_at 0 rfl) fun l15 hl15 => ?_
              · (simp (disch := omega) only [wrap_of]; omega)
              · (simp (disch := omega) only [wrap_of]; omega)
              rw [show (IntKind.i64.wrap ((k : Int) - 1)).toNat = k - 1 by (simp (disch := omega) only [wrap_of]; omega)] at hl15
              obtain ⟨b0x15, c0x15, rfl, h0x15, w1x15⟩ := gItem_rd.1 hl15
              refine call_val (implRowLess_ct _ _ _ _ _ _ ((x.items[k - (1 : Nat)]?.getD default).row) ((x.items[k]?.getD default).row)) ⟨(Rp.mono _ (mem_at 0 rfl) h0x15), (Rp.mono _ (mem_at 0 rfl) h0x4)⟩ ?_
              rintro _ rfl
              refine VC.intro ?_ ?_
              · exact fun _ h => h
              refine VCsplit.intro (fun q17 => ?_) (fun q17 => ?_)
              ·
                simp at q17
                exact ⟨[], ⟨by rw [bagM_no (k := k) (by omega) (item_no4 (by omega) (by assumption))], rfl⟩, (.le fun a => by (try simp only [setR, List.cons_append, List.nil_append]); simp only [List.flatten_append, List.flatten_cons, List.flatten_nil, List.count_append, List.count_nil, List.append_nil, List.nil_append]; omega)⟩
              ·
                simp at q17
                apply loop_stepA (k + 1)
                · exact .refl _
                · repeat' (first | exact trivial | refine ⟨⟨_, rfl, by first | rfl | exact inc_eq _ (by omega) | (refine sl_eq ?_; simp; done), by first | exact trivial | simp [SV.ok]⟩, ?_⟩)
                · exact ⟨rfl, trivial⟩
                · exact ⟨by omega, allK_step ha (item_yes (by assumption) (by omega) (by first | assumption | (unfold rowAt; omega)) (by first | exact .inl (by omega) | exact .inr (by assumption)))⟩
                omega
            ·
              simp at q13
              apply loop_stepA (k + 1)
              · exact .refl _
              · repeat' (first | exact trivial | refine ⟨⟨_, rfl, by first | rfl | exact inc_eq _ (by omega) | (refine sl_eq ?_; simp; done), by first | exact trivial | simp [SV.ok]⟩, ?_⟩)
              · exact ⟨rfl, trivial⟩
              · exact ⟨by omega, allK_step ha (item_yes (by assumption) (by omega) (by first | assumption | (unfold rowAt; omega)) (by first | exact .inl (by omega) | exact .inr (by assumption)))⟩
              omega
    ·
      simp at q2
      (have hke : k = x.items.length := (by omega); subst hke; exact ⟨[], ⟨by rw [bagM_yes (by omega) ha], rfl⟩, (.le fun a => by (try simp only [setR, List.cons_append, List.nil_append]); simp only [List.flatten_append, List.flatten_cons, List.flatten_nil, List.count_append, List.count_nil, List.append_nil, List.nil_append]; omega)⟩)
--@ct spec.BagOk val specBagOk_ct _ $1 | %1
theorem specBagOk_ct (l : List Value) (x : Bag) : Ct Tryz.prog 79 [.agg ⟨l⟩] [] (fun H => gBag.rd H l x) (fun v A => v = .bool (bagM x) ∧ A = []) := by
  refine Ct.intro0 G_ok Tryz.func79 rfl rfl rfl fun E H hp => ?_
  obtain ⟨b0p, c0p, rfl, h0p⟩ := gBag_rd.1 hp
  have hl := (rd_len h0p).2
  refine VCnew.intro fun x0 => ?_
  apply loop_mod (α := (Nat)) G_ok [5, 6, 7, 8, 9, 12, 13, 14, 15, 16, 4, 17, 18, 19, 20, 21, 22, 23, 24, 25, 26, 27, 28, 29, 30, 31, 32, 33, 34, 35, 36, 37, 38, 39, 40, 41, 42, 43, 44, 45, 46, 47, 48, 49, 50, 51, 52, 53, 54, 55, 56, 57, 2, 10, 11, 3] (fun z => [(3, .v (.int .i64 z))]) (fun z => [{ id := x0, cs := [Value.slice b0p x.items.length c0p], ty := (49 : Nat) }]) (fun z => [H]) (fun z => x.items.length - z) (fun z => z ≤ x.items.length ∧ allK (itemM x) z = true) (0)
  · repeat' (first | exact trivial | refine ⟨⟨_, rfl, by first | rfl | exact inc_eq _ (by omega) | (refine sl_eq ?_; simp; done), by first | exact trivial | simp [SV.ok]⟩, ?_⟩)
  · exact ⟨rfl, trivial⟩
  · exact ⟨by omega, rfl⟩
  · exact .refl _
  rintro k hI
  obtain ⟨hk, ha⟩ : k ≤ x.items.length ∧ allK (itemM x) k = true := hI
  try dsimp only
  refine VCsplit.intro (fun q1 => ?_) (fun q1 => ?_)
  ·
    simp at q1
    refine idx_rd h0p ?_ ?_ fun b2 o2 hb2 => ?_
    · omega
    · omega
    refine load_allN default (k) rfl h0p ?_ ?_ hb2 rfl (mem_at 0 rfl) fun l3 hl3 => ?_
    · omega
    · omega
    obtain ⟨b0x3, c0x3, rfl, h0x3, w1x3⟩ := gItem_rd.1 hl3
    refine VCnew.intro fun x4 => ?_
    refine draw G_ok mixed none (.q 0 (.q 1 (.f 2 (.q 3 (.q 4 (.q 5 (.q 6 (.f 7 (.q 8 (.q 9 (.q 10 (.q 11 (.q 12 (.q 13 (.q 14 (.q 15 (.q 16 (.q 17 (.q 18 (.q 19 (.q 20 (.q 21 (.q 22 (.f 23 (.q 24 (.q 25 (.q 26 (.q 27 (.q 28 (.q 29 (.q 30 (.q 31 (.q 32 (.q 33 (.q 34 (.q 35 (.q 36 (.q 37 (.q 38 (.q 39 (.q 40 (.nil)))))))))))))))))))))))))))))))))))))))))) (by decide +kernel) ?_
    refine call_val (l03Row_ct _ _ _ ((x.items[k]?.getD default).row)) (Rp.mono _ (mem_at 0 rfl) h0x3) ?_
    rintro _ rfl
    refine VC.intro ?_ ?_
    · exact fun _ h => h
    refine VCsplit.intro (fun q6 => ?_) (fun q6 => ?_)
    ·
      simp at q6
      exact ⟨[], ⟨by rw [bagM_no (k := k) (by omega) (item_no1 (by assumption))], rfl⟩, (.le fun a => by (try simp only [setR, List.cons_append, List.nil_append]); simp [List.count_cons, Blk.ent, idOf]; try omega)⟩
    ·
      simp at q6
      refine call_val (l01In_ct _ _ _) trivial ?_
      rintro _ rfl
      refine VC.intro ?_ ?_
      · exact fun _ h => h
      refine VCsplit.intro (fun q8 => ?_) (fun q8 => ?_)
      ·
        simp at q8
        exact ⟨[], ⟨by rw [bagM_no (k := k) (by omega) (item_no2 (mt inR_iff.2 (by simp_all)))], rfl⟩, (.le fun a => by (try simp only [setR, List.cons_append, List.nil_append]); simp [List.count_cons, Blk.ent, idOf]; try omega)⟩
      ·
        simp at q8
        have iq8 := inR_iff.1 q8
        refine VCsplit.intro (fun q9 => ?_) (fun q9 => ?_)
        ·
          simp at q9
          refine idx_rd h0p ?_ ?_ fun b10 o10 hb10 => ?_
          · (simp (disch := omega) only [wrap_of]; omega)
          · (simp (disch := omega) only [wrap_of]; omega)
          refine load_part default 0 h0p ?_ ?_ hb10 rfl (by decide) (mem_at 0 rfl) fun l11 hl11 => ?_
          · (simp (disch := omega) only [wrap_of]; omega)
          · (simp (disch := omega) only [wrap_of]; omega)
          rw [show (IntKind.i64.wrap ((k : Int) - 1)).toNat = k - 1 by (simp (disch := omega) only [wrap_of]; omega)] at hl11
          obtain ⟨b0x11, c0x11, rfl, h0x11, w1x11⟩ := gItem_rd.1 hl11
          refine call_val (specRowLess_ct _ _ _ _ _ _ ((x.items[k - (1 : Nat)]?.getD default).row) ((x.items[k]?.getD default).row)) ⟨(Rp.mono _ (mem_at 0 rfl) h0x11), (Rp.mono _ (mem_at 0 rfl) h0x3)⟩ ?_
          rintro _ rfl
          refine VC.intro ?_ ?_
          · exact fun _ h => h
          refine VCsplit.intro (fun q13 => ?_) (fun q13 => ?_)
          ·
            simp at q13
            exact ⟨[], ⟨by rw [bagM_no (k := k) (by omega) (item_no4 (by omega) (by assumption))], rfl⟩, (.le fun a => by (try simp only [setR, List.cons_append, List.nil_append]); simp [List.count_cons, Blk.ent, idOf]; try omega)⟩
          ·
            simp at q13
            refine idx_rd h0p ?_ ?_ fun b14 o14 hb14 => ?_
            · (simp (disch := omega) only [wrap_of]; omega)
            · (simp (disch := omega) only [wrap_of]; omega)
            refine load_part default 0 h0p ?_ ?_ hb14 rfl (by decide) (mem_at 0 rfl) fun l15 hl15 => ?_
            · (simp (disch := omega) only [wrap_of]; omega)
            · (simp (disch := omega) only [wrap_of]; omega)
            rw [show (IntKind.i64.wrap ((k : Int) - 1)).toNat = k - 1 by (simp (disch := omega) only [wrap_of]; omega)] at hl15
            obtain ⟨b0x15, c0x15, rfl, h0x15, w1x15⟩ := gItem_rd.1 hl15
            refine VCsplit.intro (fun q16 => ?_) (fun q16 => ?_)
            ·
              simp at q16
              (have e0 := itemM_len (allK_at ha (k - 1) (by omega)); unfold rowAt at e0; exact ⟨[], ⟨by rw [bagM_no (k := k) (by omega) (item_no3 (by unfold rowAt; omega))], rfl⟩, (.le fun a => by (try simp only [setR, List.cons_append, List.nil_append]); simp [List.count_cons, Blk.ent, idOf]; try omega)⟩)
            ·
              simp at q16
              apply loop_stepA (k + 1)
              · exact .refl _
              · repeat' (first | exact trivial | refine ⟨⟨_, rfl, by first | rfl | exact inc_eq _ (by omega) | (refine sl_eq ?_; simp; done), by first | exact trivial | simp [SV.ok]⟩, ?_⟩)
              · exact ⟨rfl, trivial⟩
              · exact ⟨by omega, allK_step ha (item_yes (by assumption) (by omega) (by first | (have e0 := itemM_len (allK_at ha (k - 1) (by omega)); unfold rowAt at e0 ⊢; omega) | (subst ‹k = 0›; rfl)) (by first | exact .inl (by omega) | exact .inr (by assumption)))⟩
              omega
        ·
          simp at q9
          apply loop_stepA (k + 1)
          · exact .refl _
          · repeat' (first | exact trivial | refine ⟨⟨_, rfl, by first | rfl | exact inc_eq _ (by omega) | (refine sl_eq ?_; simp; done), by first | exact trivial | simp [SV.ok]⟩, ?_⟩)
          · exact ⟨rfl, trivial⟩
          · exact ⟨by omega, allK_step ha (item_yes (by assumption) (by omega) (by first | (have e0 := itemM_len (allK_at ha (k - 1) (by omega)); unfold rowAt at e0 ⊢; omega) | (subst ‹k = 0›; rfl)) (by first | exact .inl (by omega) | exact .inr (by assumption)))⟩
          omega
  ·
    simp at q1
    (have hke : k = x.items.length := (by omega); subst hke; exact ⟨[], ⟨by unfold bagM; rw [ha, Bool.and_true]; congr 1; rw [decide_eq_decide]; omega, rfl⟩, (.le fun a => by (try simp only [setR, List.cons_append, List.nil_append]); simp [List.count_cons, Blk.ent, idOf]; try omega)⟩)
end Go.Proofs.YtcnclhjhnjpeiaaGreatDoor

namespace Go.SX
section
variable {P : Program} {E : World} {Γ : Ty} {n : Nat}
theorem run_firstS (w : World) (str : ByteArray) : (Builtin.firstCells flByte.size str.data.toList.length (.string str)).run P w = .ok ⟨str.data.toList.flatMap flByte.enc⟩ w := by
  have e1 : str.data.toList.length = str.size := by simp
  rw [e1]
  have e2 : str.extract 0 str.size = str := by simp
  simp only [Builtin.firstCells, e2, Sem.run_pure]
  congr 1
  apply Array.ext'
  simp only [Array.toList_map]
  induction str.data.toList with
  | nil => rfl
  | cons x r ih => simp only [List.map_cons, List.flatMap_cons, ih]; rfl
/-- the run of append of a text onto an owned slice of bytes -/
theorem run_appendS (hΓ : TyOk P Γ) {sT xT e ty : TypeId} {ti : TI} (hsT : P.underlying sT = some (.slice e)) (hxT : P.underlying xT = some .string) (ht : tyOf Γ e = some ti) (hsz : ti.size = flByte.size)
    (hz : ti.zero.cells.toList.length = flByte.size)
    {A B : Hp} {w : World} {base : Option Addr} {m cap : Nat} {xs : List UInt8} {str : ByteArray} (hs : Sat E (A ++ B) w) (ho : Ow flByte e (.slice base m cap) xs A) 
    (hlen : xs.length + str.data.toList.length ≤ 9223372036854775807) (hbd : (xs.length + str.data.toList.length) * ti.bytes ≤ 140737488355328) :
    ∃ base' cap' A' w', (Builtin.append_ #[sT, xT] ty #[.slice base m cap, .string str]).run P w = .ok (.slice base' (xs.length + str.data.toList.length) cap') w' ∧ (Ow flByte e (.slice base' (xs.length + str.data.toList.length) cap') (xs ++ str.data.toList) A' ∧ (xs.length + str.data.toList.length ≤ cap → base' = base ∧ cap' = cap)) ∧ Sat E (A' ++ B) w' := by
  have hrowS := fun w => run_firstS (P := P) w str
  have hsz2 : str.size = str.data.toList.length := by simp
  have hwf0 : ∀ x, flByte.wf x := fun _ => trivial
  generalize hf : flByte = f at *
  generalize hys : str.data.toList = ys at *
  obtain ⟨hw, hl, base0, cap0, e0, h2⟩ := ho
  cases e0
  have hrow := hrowS w
  have hwf : ∀ x ∈ xs ++ ys, f.wf x := fun x _ => hwf0 x
  have hlen' : (xs ++ ys).length ≤ 9223372036854775807 := by rw [List.length_append]; exact hlen
  unfold Builtin.append_
  simp only [List.getElem?_toArray, List.getElem?_cons_zero, List.getElem?_cons_succ, Sem.run_bind, run_underlying hsT, run_underlying hxT, Result.andThen_ok, ty_size hΓ ht, hsz, Sem.run_pure, Builtin.lenOf, Bool.false_eq_true, if_false, Bool.not_false, if_true]
  rw [hsz2]
  by_cases hfit : xs.length + ys.length ≤ cap
  · rw [if_pos hfit]
    simp only [Sem.run_bind, hrow, Result.andThen_ok]
    rcases h2 with ⟨rfl, rfl, rfl⟩ | ⟨b, sp, rfl, rfl, h3, h4⟩
    · have hys : ys = [] := by cases ys with
        | nil => rfl
        | cons _ _ => simp at hfit
      subst hys
      refine ⟨base, 0, [], w, ?_, ⟨Ow.nil e base, fun _ => ⟨rfl, rfl⟩⟩, hs⟩
      cases base with
      | none => rfl
      | some a => rfl
    have hsl : ys.length * f.size ≤ sp.length := by
      exact Nat.le_trans (Nat.mul_le_mul_right _ (by omega)) h4
    have hfl := flat_length f xs
    have hfly := flat_length f ys
    obtain ⟨w', h5, h6⟩ := run_storeCells_wr (P := P) (A := []) (o := xs.length * f.size) (l := ys.flatMap f.enc) hs (by
      show xs.length * f.size + (ys.flatMap f.enc).length ≤ (xs.flatMap f.enc ++ sp).length
      rw [List.length_append]; omega) (by
        have : ∀ l : List UInt8, allOne (l.flatMap f.enc) = true := by
          intro l
          induction l with
          | nil => rfl
          | cons x r ih =>
            rw [List.flatMap_cons]
            have h1 := f.one x
            revert h1
            generalize f.enc x = c
            intro h1
            induction c with
            | nil => exact ih
            | cons v c ihc => cases v <;> simp_all [allOne]
        exact this ys)
    refine ⟨some ⟨b, 0, none⟩, cap, [(b, Obj.cells ⟨setAt (xs.flatMap f.enc ++ sp) (xs.length * f.size) (ys.flatMap f.enc)⟩ e)], w', ?_, ?_, h6⟩
    · simp only [addr_add, Nat.zero_add, h5, Sem.run_bind, Result.andThen_ok, Sem.run_pure]
    refine ⟨?_, fun _ => ⟨rfl, rfl⟩⟩
    refine ⟨hwf, hlen', some ⟨b, 0, none⟩, cap, by rw [List.length_append], .inr ⟨b, sp.drop (ys.length * f.size), rfl, ?_, by rw [List.length_append]; exact hfit, ?_⟩⟩
    · show [(b, Obj.cells ⟨setAt (xs.flatMap f.enc ++ sp) (xs.length * f.size) (ys.flatMap f.enc)⟩ e)] = _
      have key : setAt (xs.flatMap f.enc ++ sp) (xs.length * f.size) (ys.flatMap f.enc) = xs.flatMap f.enc ++ ys.flatMap f.enc ++ sp.drop (ys.length * f.size) := by
        rw [setAt_eq _ _ _ (by rw [List.length_append]; omega), ← hfl, List.take_left, hfl, hfly, List.drop_append, List.drop_eq_nil_of_le (by omega), List.nil_append, hfl]
        rw [show xs.length * f.size + ys.length * f.size - xs.length * f.size = ys.length * f.size by omega]
      rw [key, List.flatMap_append]
    rw [List.length_drop, List.length_append]
    have e9 : (cap - (xs.length + ys.length)) * f.size = (cap - xs.length) * f.size - ys.length * f.size := by rw [← Nat.sub_mul]; congr 1; omega
    omega
  rw [if_neg hfit]
  obtain ⟨i, hi, hib, _, _⟩ := ty_bytes hΓ ht
  have hcap : Builtin.nextslicecap (xs.length + ys.length) cap * ti.bytes ≤ 281474976710656 := by
    have h7 := nextcap_le (xs.length + ys.length) cap (by omega)
    have h8 := Nat.mul_le_mul_right ti.bytes h7
    rw [Nat.mul_assoc] at h8
    omega
  have hold : (Builtin.firstCells f.size xs.length (.slice base xs.length cap)).run P w = .ok ⟨xs.flatMap f.enc⟩ w := by
    have h9 : (rpSl f.rp).rd A [.slice base xs.length cap] xs := Ow.rd ⟨hw, hl, base, cap, rfl, h2⟩
    exact (rd_row (f := f) h9 (P := P) hs.drop).2
  have hdrew : ∀ {H : Hp}, Sat E H w → Sat E H { w with drawn := w.drawn + 1 } := fun h => ⟨h.os, h.out, h.tape, h.mem, h.nodup, Nat.le_trans h.dr (Nat.le_succ _)⟩
  have hold' : (Builtin.firstCells f.size xs.length (.slice base xs.length cap)).run P { w with drawn := w.drawn + 1 } = .ok ⟨xs.flatMap f.enc⟩ { w with drawn := w.drawn + 1 } := by
    have h9 : (rpSl f.rp).rd A [.slice base xs.length cap] xs := Ow.rd ⟨hw, hl, base, cap, rfl, h2⟩
    exact (rd_row (f := f) h9 (P := P) (hdrew hs).drop).2
  have hrow' := hrowS { w with drawn := w.drawn + 1 }
  have hmax : IntKind.i64.max = 9223372036854775807 := rfl
  simp only [Sem.run_bind, typeInfo, run_program, Result.andThen_ok, hi, Sem.run_pure]
  rw [if_neg (by
    rw [hmax]
    rintro ⟨h10, _⟩
    omega)]
  have hif : ¬ (Builtin.nextslicecap (xs.length + ys.length) cap * ti.bytes > 2 ^ 48) := by omega
  simp only [Sem.run_bind, run_program, Result.andThen_ok, hi, Sem.run_pure, hib]
  rw [if_neg hif]
  simp only [Sem.run_bind, run_choose, Question.forced, Bool.false_eq_true, if_false, Result.andThen_ok, run_askRoom, hold', hrow', ty_zero hΓ ht, Sem.run_pure, newRow, run_newObj, run_program, hi]
  have hq : xs.length + ys.length ≤ (Question.appendCap (xs.length + ys.length) cap e).cut (w.tape w.drawn (.appendCap (xs.length + ys.length) cap e)) := by
    simp only [Question.cut]; omega
  generalize (Question.appendCap (xs.length + ys.length) cap e).cut (w.tape w.drawn (.appendCap (xs.length + ys.length) cap e)) = c at hq
  rw [zeroCells_eq]
  refine ⟨some ⟨w.heap.size, 0, none⟩, c, [(w.heap.size, Obj.cells ⟨(xs ++ ys).flatMap f.enc ++ zeros (c - (xs.length + ys.length)) ti.zero.cells.toList⟩ e)], _, rfl, ?_, ?_⟩
  · refine ⟨?_, fun h => absurd h hfit⟩
    refine ⟨hwf, hlen', some ⟨w.heap.size, 0, none⟩, c, by rw [List.length_append], .inr ⟨w.heap.size, _, rfl, rfl, by rw [List.length_append]; exact hq, ?_⟩⟩
    rw [zeros_length, hz, List.length_append]
    exact Nat.le_refl _
  have h11 := (hdrew hs).push (Obj.cells ⟨(xs ++ ys).flatMap f.enc ++ zeros (c - (xs.length + ys.length)) ti.zero.cells.toList⟩ e)
  have h12 : Sat E ((w.heap.size, Obj.cells ⟨(xs ++ ys).flatMap f.enc ++ zeros (c - (xs.length + ys.length)) ti.zero.cells.toList⟩ e) :: B ++ A) (World.alloc { w with drawn := w.drawn + 1 } (Obj.cells ⟨(xs ++ ys).flatMap f.enc ++ zeros (c - (xs.length + ys.length)) ti.zero.cells.toList⟩ e)) := by
    refine h11.perm ?_
    simp only [List.cons_append]
    exact List.Perm.cons _ List.perm_append_comm
  have h13 := h12.drop
  have e1 : ((⟨xs.flatMap f.enc⟩ : Array Value) ++ (⟨ys.flatMap f.enc⟩ : Array Value) ++ (⟨zeros (c - (xs.length + ys.length)) ti.zero.cells.toList⟩ : Array Value)) = ⟨(xs ++ ys).flatMap f.enc ++ zeros (c - (xs.length + ys.length)) ti.zero.cells.toList⟩ := by
    apply Array.ext'
    simp
  rw [e1]
  exact h13
theorem perm0 {α : Type} {x : α} : List.Perm [x] (x :: List.flatten []) := .refl _
theorem perm1 {α : Type} {x : α} {B : List α} : List.Perm (x :: B) (x :: List.flatten [B]) := by simp
def Bz (base : Option Addr) (cap : Nat) : Prop := (base = none ∧ cap = 0) ∨ cap ≠ 0
theorem ow_room {α : Type} {f : Fl α} {T : TypeId} {base : Option Addr} {k cap : Nat} {xs : List α} {A : Hp} (h : Ow f T (.slice base k cap) xs A) (hne : 0 < xs.length) : cap ≠ 0 := by
  obtain ⟨_, _, b0, c0, e, h5⟩ := h
  simp only [Value.slice.injEq] at e
  obtain ⟨_, _, e3⟩ := e
  rcases h5 with ⟨_, h7, _⟩ | ⟨_, _, _, _, h8, _⟩
  · rw [h7] at hne; simp at hne
  omega
/-- append of a text -/
theorem append_str (hΓ : TyOk P Γ) {dst : Option Nat} {s x : Operand} {sT xT T ty : TypeId} {pos : String} {after : Array Edge} {guard : Option (Nat × Bool)} {fr : Fr} {bl : List Blk} {R : List Hp} {K : St → Prop} {ti : TI}
    (i : Nat) {A : Hp} {base : Option Addr} {m cap : Nat} {xs : List UInt8} {str : ByteArray} (hi : nthR R i = some A) (ho : (gSl T gY).ow [.slice base m cap] xs A) (hz0 : Bz base cap)
    (hs1 : getK fr s fun sv => sv = .v (.slice base m cap)) (hx1 : getK fr x fun sv => sv = .v (.string str))
    (hsT : undOf Γ sT = some (.slice T)) (hxT : undOf Γ xT = some .string) (ht : tyOf Γ T = some ti) (hsz : ti.size = flByte.size) (hz : lenIs ti.zero.cells.toList flByte.size = true)
    (hby : Nat.ble ti.bytes 65536 = true) (hlen : xs.length + str.data.toList.length ≤ 1073741824)
    (hk : ∀ base' cap' A', (gSl T gY).ow [.slice base' (xs ++ str.data.toList).length cap'] (xs ++ str.data.toList) A' → Bz base' cap' → putK n fr dst (.v (.slice base' (xs ++ str.data.toList).length cap')) fun fr => K ⟨fr, bl, setR R i A'⟩) :
    VCraw P E n ⟨dst, .call ⟨.builtin .append, #[s, x], #[sT, xT]⟩, ty, pos, after, guard⟩ ⟨fr, bl, R⟩ K := by
  have ho' := fl_ow ho
  have hm : m = xs.length := (by obtain ⟨_, _, _, _, e, _⟩ := ho'; cases e; rfl)
  subst hm
  have hbd : (xs.length + str.data.toList.length) * ti.bytes ≤ 140737488355328 := by
    have h1 := Nat.le_of_ble_eq_true hby
    have h2 := Nat.mul_le_mul hlen h1
    omega
  refine ⟨fun a w hr Q => ?_⟩
  obtain ⟨sv, g1, _, rfl⟩ := getK_sound hr hs1
  obtain ⟨xv, g2, _, rfl⟩ := getK_sound hr hx1
  obtain ⟨pre, post, e1, e2'⟩ := nthR_split hi
  have perm : ∀ C : Hp, (St.hall ⟨[], bl, pre ++ C :: post⟩).Perm (C ++ St.hall ⟨[], bl, pre ++ post⟩) := by
    intro C
    simp only [St.hall, List.flatten_append, List.flatten_cons]
    have := List.perm_append_comm (l₁ := List.map Blk.ent bl ++ pre.flatten) (l₂ := C)
    have := this.append_right post.flatten
    simpa only [List.append_assoc] using this
  subst e1
  have hsat : Sat E (A ++ St.hall ⟨[], bl, pre ++ post⟩) w := hr.sat.perm (perm A)
  obtain ⟨base', cap', A', w', h1, h2, h3⟩ := run_appendS (ty := ty) hΓ (undOf_ok hΓ hsT) (undOf_ok hΓ hxT) ht hsz (lenIs_spec hz) hsat ho' (by omega) hbd
  have hr' : Rel E n ⟨fr, bl, setR (pre ++ A :: post) i A'⟩ a w' := by
    rw [e2']
    exact hr.ids rfl (h3.perm (perm A').symm)
  have hBz : Bz base' cap' := by
    by_cases hf : xs.length + str.data.toList.length ≤ cap
    · obtain ⟨rfl, rfl⟩ := h2.2 hf; exact hz0
    exact .inr (ow_room h2.1 (by rw [List.length_append]; omega))
  have e3 : (xs ++ str.data.toList).length = xs.length + str.data.toList.length := List.length_append
  rw [e3] at hk
  refine wp_value (s := .v _) (v := .slice base' (xs.length + str.data.toList.length) cap') ?_ hr' rfl trivial (hk base' cap' A' (by have := ow_fl (mk := fun k => UInt8.ofNat (k % 256).toNat) (sz := fun _ => 0) h2.1; exact this) hBz)
  simp only [execOp, resolve, invoke, builtin, Sem.run_bind, Sem.run_pure, Result.andThen_ok]
  rw [show (#[s, x] : Array Operand).map a.eval = #[a.eval s, a.eval x] from by simp, g1, g2]
  simp only [SV.den]
  rw [h1]; rfl
/-- unsafe.SliceData -/
theorem sliceData {dst : Option Nat} {x : Operand} {tys : Array TypeId} {ty : TypeId} {pos : String} {after : Array Edge} {guard : Option (Nat × Bool)} {fr : Fr} {bl : List Blk} {R : List Hp} {K : St → Prop}
    {base : Option Addr} {m cap : Nat} (hx1 : getK fr x fun sv => sv = .v (.slice base m cap)) (hz : Bz base cap)
    (hk : putK n fr dst (.v (.pointer base)) fun fr => K ⟨fr, bl, R⟩) : VCraw P E n ⟨dst, .call ⟨.builtin .unsafeSliceData, #[x], tys⟩, ty, pos, after, guard⟩ ⟨fr, bl, R⟩ K := by
  refine ⟨fun a w hr Q => ?_⟩
  obtain ⟨sv, g1, _, rfl⟩ := getK_sound hr hx1
  have key : (Builtin.unsafeSliceData_ tys ty #[.slice base m cap]).run P w = .ok (.pointer base) w := by
    cases base with
    | none => rfl
    | some ad =>
      rcases hz with ⟨h, _⟩ | h
      · cases h
      exact Lib.run_unsafeSliceData_row w tys ty ad m cap h
  refine wp_value (s := .v _) (v := .pointer base) ?_ hr rfl trivial hk
  simp only [execOp, resolve, invoke, builtin, Sem.run_bind, Sem.run_pure, Result.andThen_ok]
  rw [show (#[x] : Array Operand).map a.eval = #[a.eval x] from by simp, g1]
  simp only [SV.den]
  rw [key]; rfl
theorem Sat.dropAt {A B : Hp} {w w' : World} {g : Nat} (h : Sat E (A ++ B) w) (hg : ∀ x, (g, x) ∉ B) (ho : w'.os = w.os) (hu : w'.output = w.output) (ht : w'.tape = w.tape) (hn : ∀ i, i ≠ g → w'.heap[i]? = w.heap[i]?) (hd : w.drawn ≤ w'.drawn) : Sat E B w' := by
  refine ⟨ho.trans h.os, hu.trans h.out, ht.trans h.tape, fun b o hm => ?_, ?_, Nat.le_trans h.dr hd⟩
  · rw [hn b (fun e => hg o (e ▸ hm))]; exact h.mem b o (List.mem_append_right _ hm)
  have := h.nodup; rw [List.map_append, List.nodup_append] at this; exact this.2.1
/-- unsafe.String over what a slice of bytes owns: the bytes are given up -/
theorem unsafeStr (hΓ : TyOk P Γ) {dst : Option Nat} {x l : Operand} {pt it T ty : TypeId} {pos : String} {after : Array Edge} {guard : Option (Nat × Bool)} {fr : Fr} {bl : List Blk} {R : List Hp} {K : St → Prop}
    (i : Nat) {A : Hp} {base : Option Addr} {m cap : Nat} {xs : List UInt8} (hi : nthR R i = some A) (ho : (gSl T gY).ow [.slice base m cap] xs A)
    (hx1 : getK fr x fun sv => sv = .v (.pointer base)) (hl1 : getK fr l fun sv => sv = .v (.int .i64 m))
    (hp : undOf Γ pt = some (.pointer T)) (hc : P.cellsOf T = 1)
    (hk : putK n fr dst (.v (.string ⟨xs.toArray⟩)) fun fr => K ⟨fr, bl, setR R i []⟩) : VCraw P E n ⟨dst, .call ⟨.builtin .unsafeString, #[x, l], #[pt, it]⟩, ty, pos, after, guard⟩ ⟨fr, bl, R⟩ K := by
  have ho' := fl_ow ho
  refine ⟨fun a w hr Q => ?_⟩
  obtain ⟨sv, g1, _, rfl⟩ := getK_sound hr hx1
  obtain ⟨lv, g2, _, rfl⟩ := getK_sound hr hl1
  obtain ⟨pre, post, e1, e2'⟩ := nthR_split hi
  have perm : ∀ C : Hp, (St.hall ⟨[], bl, pre ++ C :: post⟩).Perm (C ++ St.hall ⟨[], bl, pre ++ post⟩) := by
    intro C
    simp only [St.hall, List.flatten_append, List.flatten_cons]
    have := List.perm_append_comm (l₁ := List.map Blk.ent bl ++ pre.flatten) (l₂ := C)
    have := this.append_right post.flatten
    simpa only [List.append_assoc] using this
  subst e1
  have hsat : Sat E (A ++ St.hall ⟨[], bl, pre ++ post⟩) w := hr.sat.perm (perm A)
  have key : ∃ w', (Builtin.unsafeString_ #[pt, it] ty #[.pointer base, .int .i64 m]).run P w = .ok (.string ⟨xs.toArray⟩) w' ∧ Sat E (St.hall ⟨[], bl, pre ++ post⟩) w' := by
    obtain ⟨_, hlen, base0, cap0, e0, h2⟩ := ho'
    cases e0
    cases xs with
    | nil =>
      refine ⟨w, Lib.run_unsafeString_none w pt it ty base, ?_⟩
      exact (hsat.perm List.perm_append_comm).drop
    | cons x0 r =>
      rcases h2 with ⟨_, h7, _⟩ | ⟨b, sp, rfl, rfl, h3, h4⟩
      · cases h7
      have hmem : (b, Obj.cells ⟨(x0 :: r).flatMap flByte.enc ++ sp⟩ T) ∈ ([(b, Obj.cells ⟨(x0 :: r).flatMap flByte.enc ++ sp⟩ T)] : Hp) ++ St.hall ⟨[], bl, pre ++ post⟩ := List.mem_append_left _ (List.mem_singleton.2 rfl)
      have hheap := hsat.mem _ _ hmem
      have hfl := flat_length flByte (x0 :: r)
      have e5 : flByte.size = 1 := rfl
      rw [e5, Nat.mul_one] at hfl
      refine ⟨w.freeze ⟨b, 0, none⟩ (x0 :: r).length, ?_, ?_⟩
      · refine Lib.run_unsafeString_row w pt it ty T (undOf_ok hΓ hp) hc b ((x0 :: r).flatMap flByte.enc ++ sp).length ?_ (x0 :: r) (by simp) ?_ hlen ?_
        · simp [World.shape?, hheap]
        · rw [List.length_append, hfl]; omega
        intro j x hx
        rw [addr_add, Nat.zero_add, hsat.cell hmem]
        have hj : j < (x0 :: r).length := by
          rcases Nat.lt_or_ge j (x0 :: r).length with h | h
          · exact h
          rw [List.getElem?_eq_none h] at hx; cases hx
        rw [List.getElem?_eq_getElem hj] at hx
        cases hx
        have := flat_get flByte (x0 :: r) j 0 hj (by show 0 < 1; omega)
        rw [e5, Nat.mul_one, Nat.add_zero] at this
        simp only [List.getElem?_toArray]
        rw [List.getElem?_append_left (by rw [hfl]; exact hj), this]
        rfl
      have hnd := hsat.nodup
      refine Sat.dropAt (g := b) hsat ?_ ?_ ?_ ?_ ?_ (by unfold World.freeze; split <;> exact Nat.le_refl _)
      · intro x hx
        rw [List.map_append, List.nodup_append] at hnd
        exact hnd.2.2 b (by simp) b (List.mem_map.2 ⟨_, hx, rfl⟩) rfl
      · unfold World.freeze; split <;> rfl
      · unfold World.freeze; split <;> rfl
      · unfold World.freeze; split <;> rfl
      intro i hne
      unfold World.freeze
      split
      · rfl
      simp only [Array.getElem?_modify]
      rw [if_neg (fun e => hne e.symm)]
  obtain ⟨w', h1, h2⟩ := key
  have hr' : Rel E n ⟨fr, bl, setR (pre ++ A :: post) i []⟩ a w' := by
    rw [e2']
    exact hr.ids rfl (h2.perm (perm []).symm)
  refine wp_value (s := .v _) (v := .string ⟨xs.toArray⟩) ?_ hr' rfl trivial hk
  simp only [execOp, resolve, invoke, builtin, Sem.run_bind, Sem.run_pure, Result.andThen_ok]
  rw [show (#[x, l] : Array Operand).map a.eval = #[a.eval x, a.eval l] from by simp, g1, g2]
  simp only [SV.den]
  rw [h1]; rfl
theorem OwL.of {α : Type} {g : Gt α} : ∀ (ls : List (RawC g.size)) (xs : List α), ls.length = xs.length → (∀ i (h1 : i < ls.length) (h2 : i < xs.length), g.ow (ls[i]).1 xs[i] []) → OwL g ls xs (List.replicate xs.length [])
  | [], [], _, _ => .nil
  | l :: ls, x :: xs, h, hp => by
    refine .cons (hp 0 (by simp) (by simp)) (OwL.of ls xs (by simpa using h) fun i h1 h2 => ?_)
    exact hp (i + 1) (by simpa using h1) (by simpa using h2)
  | [], _ :: _, h, _ => by simp at h
  | _ :: _, [], h, _ => by simp at h
end
end Go.SX

namespace Go.Proofs.YtcnclhjhnjpeiaaGreatDoor
open Go.SX Go.Proofs Go.RowKit
set_option maxHeartbeats 4000000
theorem sizeBuilder : (Tryz.prog.info? 194).map (·.size) = some 2 := by kernel_rfl
theorem liesBuilder : liesAt Tryz.prog Tryz.prog.depth 194 (2 / Tryz.prog.cellsOf 194) 0 194 1 = true := by kernel_rfl
set_option maxRecDepth 100000 in
theorem copyCheck_used (b : Nat) (w : World) (h0 : w.cell? ⟨b, 0, none⟩ = some (.pointer (some ⟨b, 0, none⟩))) :
    Calls Tryz.prog 169 #[.pointer (some ⟨b, 0, none⟩)] w fun e w' => e = .returned (.tuple #[]) ∧ w' = w := by
  obtain ⟨j, hj, _⟩ := Option.map_eq_some_iff.1 sizeBuilder
  have mixed := mixed
  have t194 := Tryz.underlying194; have a194 := Tryz.isAgg194; have z194 := Tryz.sizeOf194; have v194 := Tryz.zeroValue194; have u194 := run_underlying Tryz.underlying194
  have t192 := Tryz.underlying192; have a192 := Tryz.isAgg192; have z192 := Tryz.sizeOf192; have v192 := Tryz.zeroValue192; have u192 := run_underlying Tryz.underlying192
  have t9 := Tryz.underlying9; have a9 := Tryz.isAgg9; have z9 := Tryz.sizeOf9; have v9 := Tryz.zeroValue9; have u9 := run_underlying Tryz.underlying9
  have t4 := Tryz.underlying4; have a4 := Tryz.isAgg4; have z4 := Tryz.sizeOf4; have v4 := Tryz.zeroValue4; have u4 := run_underlying Tryz.underlying4
  have t274 := Tryz.underlying274; have a274 := Tryz.isAgg274; have z274 := Tryz.sizeOf274; have v274 := Tryz.zeroValue274; have u274 := run_underlying Tryz.underlying274
  go_enter Tryz.func169, Tryz.ntmps169
  go_wp2
  rw [Lib.run_neq_ptr_same w _ Tryz.underlying192 hj]
  go_wp2
  go_end0
  exact ⟨rfl, rfl⟩
set_option maxRecDepth 100000 in
theorem copyCheck_fresh (b : Nat) (w : World) (h0 : w.cell? ⟨b, 0, none⟩ = some (.pointer none)) (hsh : w.shape? b = some (194, 2)) (hfz : w.frozen? ⟨b, 0, none⟩ = false) :
    Calls Tryz.prog 169 #[.pointer (some ⟨b, 0, none⟩)] w fun e w' => e = .returned (.tuple #[]) ∧ w' = w.setCell ⟨b, 0, none⟩ (.pointer (some ⟨b, 0, none⟩)) := by
  obtain ⟨j, hj, hjs⟩ := Option.map_eq_some_iff.1 sizeBuilder
  have mixed := mixed
  have t194 := Tryz.underlying194; have a194 := Tryz.isAgg194; have z194 := Tryz.sizeOf194; have v194 := Tryz.zeroValue194; have u194 := run_underlying Tryz.underlying194
  have t192 := Tryz.underlying192; have a192 := Tryz.isAgg192; have z192 := Tryz.sizeOf192; have v192 := Tryz.zeroValue192; have u192 := run_underlying Tryz.underlying192
  have t9 := Tryz.underlying9; have a9 := Tryz.isAgg9; have z9 := Tryz.sizeOf9; have v9 := Tryz.zeroValue9; have u9 := run_underlying Tryz.underlying9
  have t4 := Tryz.underlying4; have a4 := Tryz.isAgg4; have z4 := Tryz.sizeOf4; have v4 := Tryz.zeroValue4; have u4 := run_underlying Tryz.underlying4
  have t274 := Tryz.underlying274; have a274 := Tryz.isAgg274; have z274 := Tryz.sizeOf274; have v274 := Tryz.zeroValue274; have u274 := run_underlying Tryz.underlying274
  go_enter Tryz.func169, Tryz.ntmps169
  go_wp2
  rw [Lib.run_to_unsafe w ⟨b, 0, none⟩ Tryz.underlying192 Tryz.underlying274 hj (by rw [hjs]; decide) hsh (Nat.zero_lt_succ 1)]
  simp only [Result.andThen]
  rw [Oper.upon_value]
  go_wp2
  rw [run_callFunc_extern Tryz.func191 (by kernel_rfl) (by kernel_rfl) (by kernel_rfl) (e := Extern.AbiNoEscape.same) (by kernel_rfl)]
  rw [Lib.run_noEscape]
  simp only [Result.andThen]
  rw [Oper.upon_value]
  go_wp2
  rw [Lib.run_from_unsafe w ⟨b, 0, none⟩ Tryz.underlying274 Tryz.underlying192 hj hsh liesBuilder]
  simp only [Result.andThen]
  rw [Oper.upon_value]
  go_wp2
  go_end0
  exact ⟨rfl, rfl⟩
theorem copyCheck_ct (b : Nat) (ad v : Value) (ha : ad = .pointer none ∨ ad = .pointer (some ⟨b, 0, none⟩)) :
    CtR Tryz.prog 169 [.pointer (some ⟨b, 0, none⟩)] [(b, Obj.cells ⟨[ad, v]⟩ 194)] (fun _ => True) (fun r A => r = .tuple #[] ∧ A = [(b, Obj.cells ⟨[.pointer (some ⟨b, 0, none⟩), v]⟩ 194)]) := by
  refine ⟨⟨_, Tryz.func169, by decide +kernel, rfl⟩, fun E H w hs _ => ?_⟩
  have hmem : (b, Obj.cells ⟨[ad, v]⟩ 194) ∈ ([(b, Obj.cells ⟨[ad, v]⟩ 194)] : Hp) ++ H := List.mem_append_left _ (List.mem_singleton.2 rfl)
  have hc := hs.cell hmem 0
  have hheap := hs.mem _ _ hmem
  rcases ha with rfl | rfl
  · refine (copyCheck_fresh b w (by rw [hc]; rfl) (by simp [World.shape?, hheap]) (by simp [World.frozen?, hheap])).mono ?_
    rintro e w' ⟨rfl, rfl⟩
    refine ⟨_, _, rfl, ⟨rfl, rfl⟩, ?_⟩
    refine Sat.upd (A := []) hs rfl rfl rfl ?_ ?_
    · show (w.heap.modify b _)[b]? = _
      rw [Array.getElem?_modify, if_pos rfl, hheap]; rfl
    intro i hne
    simp only [World.setCell, Array.getElem?_modify]
    rw [if_neg (fun e => hne e.symm)]
  refine (copyCheck_used b w (by rw [hc]; rfl)).mono ?_
  rintro e w' ⟨rfl, rfl⟩
  exact ⟨_, _, rfl, ⟨rfl, rfl⟩, hs⟩
--@ct (*strings.Builder).copyCheck blk0 copyCheck_ct _ _ _ !a | | rintro _ A# ⟨rfl, rfl⟩ ;; refine ⟨_, _, [], rfl, perm0, ?_⟩
--@ct (*strings.Builder).WriteString blk1 WriteString_ct _ _ _ _ _ _ _ _ !a !o !z ?_ | | rintro _ A# ⟨rfl, bb#, bc#, B#, rfl, o#, z#⟩ ;; refine ⟨_, _, [B#], rfl, perm1, ?_⟩
theorem WriteString_ct (b : Nat) (ad : Value) (base : Option Addr) (m cap : Nat) (xs : List UInt8) (A : Hp) (s : ByteArray) (ha : ad = .pointer none ∨ ad = .pointer (some ⟨b, 0, none⟩)) (ho : (gSl 5 gY).ow [.slice base m cap] xs A) (hz : Bz base cap) (hl : xs.length + s.size ≤ 1073741824) :
    CtR Tryz.prog 135 [.pointer (some ⟨b, 0, none⟩), .string s] ((b, Obj.cells ⟨[ad, .slice base m cap]⟩ 194) :: A) (fun _ => True) (fun r A' => r = .tuple #[.int .i64 s.size, .nilIface] ∧
      ∃ base' cap' B, A' = (b, Obj.cells ⟨[.pointer (some ⟨b, 0, none⟩), .slice base' (xs ++ s.data.toList).length cap']⟩ 194) :: B ∧ (gSl 5 gY).ow [.slice base' (xs ++ s.data.toList).length cap'] (xs ++ s.data.toList) B ∧ Bz base' cap') := by
  obtain ⟨rfl, hcl, hll⟩ := sl_len (Gt.owrd _ ho)
  refine CtR.introB G_ok [.p 0 0, .v (.string s)] [⟨b, [ad, .slice base xs.length cap], 194⟩] [A] Tryz.func135 rfl rfl rfl rfl (by simp [SV.ok]) (by simp [Blk.ent]) fun E H hp => ?_
  have ha' := ha
  refine callR_blk 0 ([]) [A, H] rfl ?_ (copyCheck_ct _ _ _ (by first | exact .inl rfl | exact .inr rfl | assumption)) trivial ?_
  · exact .refl _
  rintro _ A0 ⟨rfl, rfl⟩
  refine ⟨_, _, [], rfl, perm0, ?_⟩
  refine append_str G_ok 0 rfl ho hz rfl rfl rfl rfl rfl rfl rfl rfl ?_ fun b1 c1 A1 o1 z1 => ?_
  · trivial
  exact ⟨_, ⟨rfl, _, _, _, rfl, ‹_›, ‹_›⟩, .le fun a => by simp [List.count_cons, Blk.ent, setR, idOf]⟩
--@ct (*strings.Builder).String blk1 String_ct _ _ _ _ _ _ _ !o !z | | rintro _ A# ⟨rfl, rfl⟩ ;; refine ⟨_, _, [], rfl, perm0, ?_⟩
theorem String_ct (b : Nat) (ad : Value) (base : Option Addr) (m cap : Nat) (xs : List UInt8) (A : Hp) (ho : (gSl 5 gY).ow [.slice base m cap] xs A) (hz : Bz base cap) :
    CtR Tryz.prog 136 [.pointer (some ⟨b, 0, none⟩)] ((b, Obj.cells ⟨[ad, .slice base m cap]⟩ 194) :: A) (fun _ => True) (fun r A' => r = .string ⟨xs.toArray⟩ ∧ A' = [(b, Obj.cells ⟨[ad, .slice base m cap]⟩ 194)]) := by
  obtain ⟨rfl, hcl, hll⟩ := sl_len (Gt.owrd _ ho)
  refine CtR.introB G_ok [.p 0 0] [⟨b, [ad, .slice base xs.length cap], 194⟩] [A] Tryz.func136 rfl rfl rfl rfl (by simp [SV.ok]) (by simp [Blk.ent]) fun E H hp => ?_
  refine draw G_ok mixed (some 10) (.q 0 (.q 1 (.q 2 (.q 3 (.q 5 (.q 6 (.q 7 (.q 8 (.q 9 (.f 4 (.tl 10 (.f 11 (.nil))))))))))))) (by decide +kernel) ?_
  refine sliceData rfl hz ?_
  refine VC.intro ?_ ?_
  · exact fun _ h => h
  refine unsafeStr G_ok 0 rfl ho rfl rfl rfl (by kernel_rfl) ?_
  exact ⟨_, ⟨rfl, rfl⟩, .le fun a => by simp [List.count_cons, Blk.ent, setR]⟩
end Go.Proofs.YtcnclhjhnjpeiaaGreatDoor

namespace Go.Proofs.YtcnclhjhnjpeiaaGreatDoor
open Go.SX Go.Proofs
set_option linter.unusedSimpArgs false
set_option linter.unusedVariables false
set_option maxHeartbeats 16000000
attribute [local irreducible] IntKind.wrap
/-! sizes -/
def sumK (xs : List Item) : Nat → Int
  | 0 => 0
  | k + 1 => sumK xs k + (xs[k]?.getD default).times
theorem times_rng {b : Bag} (h : bagM b = true) {k : Nat} (hk : k < b.items.length) : 1 ≤ (b.items[k]?.getD default).times ∧ (b.items[k]?.getD default).times ≤ 1000000 := by
  have h1 : itemM b k = true := by
    unfold bagM at h
    rw [Bool.and_eq_true] at h
    exact allK_at h.2 k hk
  unfold itemM at h1
  simp only [Bool.and_eq_true] at h1
  exact inR_iff.1 h1.2.1
theorem bag_len {b : Bag} (h : bagM b = true) : b.items.length ≤ 300 := by
  unfold bagM at h
  rw [Bool.and_eq_true, decide_eq_true_iff] at h
  exact h.1
theorem sumK_rng {b : Bag} (h : bagM b = true) : ∀ {k : Nat}, k ≤ b.items.length → 0 ≤ sumK b.items k ∧ sumK b.items k ≤ 1000000 * k
  | 0, _ => ⟨Int.le_refl _, (show (0 : Int) ≤ 1000000 * ((0 : Nat) : Int) by decide)⟩
  | k + 1, hk => by
    have h1 := sumK_rng h (k := k) (by omega)
    have h2 := times_rng h (k := k) hk
    show 0 ≤ sumK b.items k + _ ∧ sumK b.items k + _ ≤ _
    omega
def capT (n : Int) : Int := if n ≤ 1000000 then n else 1000000
def sizeM (b : Bag) : Int := if bagM b = true then capT (sumK b.items b.items.length) else 0
theorem sizeM_no {b : Bag} (h : bagM b = false) : sizeM b = 0 := if_neg (by rw [h]; decide)
theorem sizeM_yes {b : Bag} (h : bagM b = true) : sizeM b = capT (sumK b.items b.items.length) := if_pos h
theorem sizeM_rng (b : Bag) : 0 ≤ sizeM b ∧ sizeM b ≤ 1000000 := by
  unfold sizeM capT
  split
  · rename_i h
    have h1 := sumK_rng h (k := b.items.length) (Nat.le_refl _)
    split <;> omega
  omega
theorem cap_w {n t : Int} (h0 : 0 ≤ n) (h1 : 1 ≤ t ∧ t ≤ 1000000) : IntKind.i64.wrap (capT n + t) = capT n + t := wrap_of (by unfold capT; split <;> omega) (by unfold capT; split <;> omega)
theorem cap_hi {n t : Int} (h0 : 0 ≤ n) (h1 : 1 ≤ t ∧ t ≤ 1000000) (q : 1000000 < IntKind.i64.wrap (capT n + t)) : (1000000 : Int) = capT (n + t) := by
  rw [cap_w h0 h1] at q
  unfold capT at *
  split at q <;> split <;> omega
theorem cap_lo {n t : Int} (h0 : 0 ≤ n) (h1 : 1 ≤ t ∧ t ≤ 1000000) (q : IntKind.i64.wrap (capT n + t) ≤ 1000000) : IntKind.i64.wrap (capT n + t) = capT (n + t) := by
  rw [cap_w h0 h1] at *
  unfold capT at *
  split at q <;> split <;> (try split) <;> omega
--@ct impl.BagSize val implBagSize_ct _ $1 | %1
theorem implBagSize_ct (l : List Value) (x : Bag) : Ct Tryz.prog 83 [.agg ⟨l⟩] [] (fun H => gBag.rd H l x) (fun v A => v = .int .i64 (sizeM x) ∧ A = []) := by
  refine Ct.intro0 G_ok Tryz.func83 rfl rfl rfl fun E H hp => ?_
  obtain ⟨b0p, c0p, rfl, h0p⟩ := gBag_rd.1 hp
  have hl := (rd_len h0p).2
  refine VCnew.intro fun x0 => ?_
  refine call_val (implBagOk_ct _ (x)) (Rp.mono _ (mem_at 0 rfl) hp) ?_
  rintro _ rfl
  refine VCsplit.intro (fun q2 => ?_) (fun q2 => ?_)
  ·
    simp at q2
    exact ⟨[], ⟨by rw [sizeM_no (by assumption)], rfl⟩, (.le fun a => by (try simp only [setR, List.cons_append, List.nil_append]); simp [List.count_cons, Blk.ent, idOf]; try omega)⟩
  ·
    simp at q2
    have bl2 := bag_len q2
    apply loop_mod (α := (Nat)) G_ok [13, 14, 15, 5, 16, 17, 18, 19, 3, 20, 12] (fun z => [(12, .v (.int .i64 z)), (3, .v (.int .i64 (sumK x.items z)))]) (fun z => [{ id := x0, cs := [Value.slice b0p x.items.length c0p], ty := (49 : Nat) }]) (fun z => [H]) (fun z => x.items.length - z) (fun z => z ≤ x.items.length) (0)
    · repeat' (first | exact trivial | refine ⟨⟨_, rfl, by first | rfl | exact inc_eq _ (by omega) | (refine sl_eq ?_; simp; done) | exact congrArg (fun v => SV.v (Value.int .i64 v)) (wrap_of (by omega) (by omega)) | exact congrArg (fun v => Value.int .i64 v) (wrap_of (by omega) (by omega)), by first | exact trivial | simp [SV.ok]⟩, ?_⟩)
    · exact ⟨rfl, trivial⟩
    · exact Nat.zero_le _
    · exact .refl _
    rintro k hI
    obtain hk : k ≤ x.items.length := hI
    try dsimp only
    refine VCsplit.intro (fun q3 => ?_) (fun q3 => ?_)
    ·
      simp at q3
      have hs0 := sumK_rng (by assumption) hI
      have ht0 := times_rng (b := x) (by assumption) (k := k) (by omega)
      refine idx_rd h0p ?_ ?_ fun b4 o4 hb4 => ?_
      · omega
      · omega
      refine load_allN default (k) rfl h0p ?_ ?_ hb4 rfl (mem_at 0 rfl) fun l5 hl5 => ?_
      · omega
      · omega
      obtain ⟨b0x5, c0x5, rfl, h0x5, w1x5⟩ := gItem_rd.1 hl5
      refine VCnew.intro fun x6 => ?_
      apply loop_stepA (k + 1)
      · exact .refl _
      · repeat' (first | exact trivial | refine ⟨⟨_, rfl, by first | rfl | exact inc_eq _ (by omega) | (refine sl_eq ?_; simp; done) | exact congrArg (fun v => SV.v (Value.int .i64 v)) (wrap_of (by omega) (by omega)) | exact congrArg (fun v => Value.int .i64 v) (wrap_of (by omega) (by omega)), by first | exact trivial | simp [SV.ok]⟩, ?_⟩)
      · exact ⟨rfl, trivial⟩
      · trivial
      omega
    ·
      simp at q3
      (have hke : k = x.items.length := (by omega); subst hke; exact ⟨[], ⟨by rw [sizeM_yes (by assumption)]; exact congrArg (Value.int .i64) (by unfold capT; split <;> split <;> omega), rfl⟩, (.le fun a => by (try simp only [setR, List.cons_append, List.nil_append]); simp [List.count_cons, Blk.ent, idOf]; try omega)⟩)
--@ct spec.BagSize val specBagSize_ct _ $1 | %1
theorem specBagSize_ct (l : List Value) (x : Bag) : Ct Tryz.prog 32 [.agg ⟨l⟩] [] (fun H => gBag.rd H l x) (fun v A => v = .int .i64 (sizeM x) ∧ A = []) := by
  refine Ct.intro0 G_ok Tryz.func32 rfl rfl rfl fun E H hp => ?_
  obtain ⟨b0p, c0p, rfl, h0p⟩ := gBag_rd.1 hp
  have hl := (rd_len h0p).2
  refine VCnew.intro fun x0 => ?_
  refine call_val (specBagOk_ct _ (x)) (Rp.mono _ (mem_at 0 rfl) hp) ?_
  rintro _ rfl
  refine VCsplit.intro (fun q2 => ?_) (fun q2 => ?_)
  ·
    simp at q2
    exact ⟨[], ⟨by rw [sizeM_no (by assumption)], rfl⟩, (.le fun a => by (try simp only [setR, List.cons_append, List.nil_append]); simp [List.count_cons, Blk.ent, idOf]; try omega)⟩
  ·
    simp at q2
    have bl2 := bag_len q2
    apply loop_mod (α := (Nat)) G_ok [8, 9, 10, 11, 12, 15, 16, 17, 18, 19, 20, 21, 22, 3, 23, 24, 13, 14, 4] (fun z => [(4, .v (.int .i64 z)), (3, .v (.int .i64 (capT (sumK x.items z))))]) (fun z => [{ id := x0, cs := [Value.slice b0p x.items.length c0p], ty := (49 : Nat) }]) (fun z => [H]) (fun z => x.items.length - z) (fun z => z ≤ x.items.length) (0)
    · repeat' (first | exact trivial | refine ⟨⟨_, rfl, by first | rfl | exact inc_eq _ (by omega) | (refine sl_eq ?_; simp; done) | exact congrArg (fun v => SV.v (Value.int .i64 v)) (cap_hi (n := sumK x.items k) (t := (x.items[k]?.getD default).times) hs0.1 ht0 (by assumption)) | exact congrArg (fun v => Value.int .i64 v) (cap_hi (n := sumK x.items k) (t := (x.items[k]?.getD default).times) hs0.1 ht0 (by assumption)) | exact congrArg (fun v => SV.v (Value.int .i64 v)) (cap_lo (n := sumK x.items k) (t := (x.items[k]?.getD default).times) hs0.1 ht0 (by assumption)) | exact congrArg (fun v => Value.int .i64 v) (cap_lo (n := sumK x.items k) (t := (x.items[k]?.getD default).times) hs0.1 ht0 (by assumption)), by first | exact trivial | simp [SV.ok]⟩, ?_⟩)
    · exact ⟨rfl, trivial⟩
    · exact Nat.zero_le _
    · exact .refl _
    rintro k hI
    obtain hk : k ≤ x.items.length := hI
    try dsimp only
    refine VCsplit.intro (fun q3 => ?_) (fun q3 => ?_)
    ·
      simp at q3
      have hs0 := sumK_rng (by assumption) hI
      have ht0 := times_rng (b := x) (by assumption) (k := k) (by omega)
      refine idx_rd h0p ?_ ?_ fun b4 o4 hb4 => ?_
      · omega
      · omega
      refine load_partN default (k) 1 rfl h0p ?_ ?_ hb4 rfl (by decide) (mem_at 0 rfl) fun l5 hl5 => ?_
      · omega
      · omega
      obtain ⟨b0x5, c0x5, rfl, h0x5, w1x5⟩ := gItem_rd.1 hl5
      refine VCsplit.intro (fun q6 => ?_) (fun q6 => ?_)
      ·
        simp at q6
        apply loop_stepA (k + 1)
        · exact .refl _
        · repeat' (first | exact trivial | refine ⟨⟨_, rfl, by first | rfl | exact inc_eq _ (by omega) | (refine sl_eq ?_; simp; done) | exact congrArg (fun v => SV.v (Value.int .i64 v)) (cap_hi (n := sumK x.items k) (t := (x.items[k]?.getD default).times) hs0.1 ht0 (by assumption)) | exact congrArg (fun v => Value.int .i64 v) (cap_hi (n := sumK x.items k) (t := (x.items[k]?.getD default).times) hs0.1 ht0 (by assumption)) | exact congrArg (fun v => SV.v (Value.int .i64 v)) (cap_lo (n := sumK x.items k) (t := (x.items[k]?.getD default).times) hs0.1 ht0 (by assumption)) | exact congrArg (fun v => Value.int .i64 v) (cap_lo (n := sumK x.items k) (t := (x.items[k]?.getD default).times) hs0.1 ht0 (by assumption)), by first | exact trivial | simp [SV.ok]⟩, ?_⟩)
        · exact ⟨rfl, trivial⟩
        · trivial
        omega
      ·
        simp at q6
        apply loop_stepA (k + 1)
        · exact .refl _
        · repeat' (first | exact trivial | refine ⟨⟨_, rfl, by first | rfl | exact inc_eq _ (by omega) | (refine sl_eq ?_; simp; done) | exact congrArg (fun v => SV.v (Value.int .i64 v)) (cap_hi (n := sumK x.items k) (t := (x.items[k]?.getD default).times) hs0.1 ht0 (by assumption)) | exact congrArg (fun v => Value.int .i64 v) (cap_hi (n := sumK x.items k) (t := (x.items[k]?.getD default).times) hs0.1 ht0 (by assumption)) | exact congrArg (fun v => SV.v (Value.int .i64 v)) (cap_lo (n := sumK x.items k) (t := (x.items[k]?.getD default).times) hs0.1 ht0 (by assumption)) | exact congrArg (fun v => Value.int .i64 v) (cap_lo (n := sumK x.items k) (t := (x.items[k]?.getD default).times) hs0.1 ht0 (by assumption)), by first | exact trivial | simp [SV.ok]⟩, ?_⟩)
        · exact ⟨rfl, trivial⟩
        · trivial
        omega
    ·
      simp at q3
      (have hke : k = x.items.length := (by omega); subst hke; exact ⟨[], ⟨by rw [sizeM_yes (by assumption)], rfl⟩, (.le fun a => by (try simp only [setR, List.cons_append, List.nil_append]); simp [List.count_cons, Blk.ent, idOf]; try omega)⟩)
/-! texts -/
def numS (v : Int) : List UInt8 := dcT v ++ [32]
def itemS (x : Item) : List UInt8 := x.row.flatMap numS ++ ([42] ++ (dcT x.times ++ [10]))
def bagS (b : Bag) : List UInt8 := b.items.flatMap itemS
theorem dcT_len19 {n : Int} (h : n ≤ 9223372036854775807) : (dcT n).length ≤ 19 := dec_len 18 n.toNat (by omega)
theorem dcT_neg {n : Int} (h : n < 0) : dcT n = [48] := by unfold dcT; rw [show n.toNat = 0 by omega, dec_zero]
theorem itemsS_step {xs : List Item} {k : Nat} (h : k < xs.length) : (xs.take (k + 1)).flatMap itemS = (xs.take k).flatMap itemS ++ itemS (xs[k]?.getD default) := by
  rw [← List.take_append_getElem h, List.flatMap_append, List.getElem?_eq_getElem h]; simp
theorem rowS_step {r : List Int} {j : Nat} (h : j < r.length) : (r.take (j + 1)).flatMap numS = (r.take j).flatMap numS ++ numS (r[j]?.getD 0) := by
  rw [← List.take_append_getElem h, List.flatMap_append, List.getElem?_eq_getElem h]; simp
theorem tx_list9 (l : List UInt8) : (tx l).data.toList = l := by_tx l
theorem tx_sz9 (l : List UInt8) : (tx l).size = l.length := by rw [← by_size, by_tx]
theorem dcT_max (v : Int) : dcT (if 0 > v then (0 : Int) else v) = dcT v := by
  split
  · rename_i h; rw [dcT_neg h]; unfold dcT; rw [show Int.toNat 0 = 0 from rfl, dec_zero]
  rfl
theorem decimalMax_ct (v : Int) (h : v ≤ 9223372036854775807) : Ct Tryz.prog 82 [.int .i64 (if 0 > v then (0 : Int) else v)] [] TabIn (fun r A => r = .string (tx (dcT v)) ∧ A = []) := by
  have h1 := decimalAll_ct (if 0 > v then (0 : Int) else v) (by split <;> omega)
  rwa [dcT_max] at h1
theorem num_tx (v : Int) : tx (dcT v) ++ ⟨#[32]⟩ = tx (numS v) := by unfold numS; rw [tx_app]; rfl
theorem end_tx (v : Int) : (⟨#[42]⟩ : ByteArray) ++ tx (dcT v) ++ ⟨#[10]⟩ = tx ([42] ++ (dcT v ++ [10])) := by rw [tx_app, tx_app, ByteArray.append_assoc]; rfl
theorem end_tx3 (s : ByteArray) (v : Int) : s ++ (⟨#[42]⟩ : ByteArray) ++ tx (dcT v) ++ ⟨#[10]⟩ = s ++ tx ([42] ++ (dcT v ++ [10])) := by rw [← end_tx, ByteArray.append_assoc, ByteArray.append_assoc, ByteArray.append_assoc]
--@ct impl.ShowBag val implShowBag_ct _ $1 ?_ | ⟨%1, (TabIn.mono ‹TabIn _› (mem_at 0 rfl))⟩
theorem implShowBag_ct (l : List Value) (x : Bag) (hz : gBag.sz x ≤ 1048576) : Ct Tryz.prog 84 [.agg ⟨l⟩] [] (fun H => gBag.rd H l x ∧ TabIn H) (fun v A => v = .string (tx (bagS x)) ∧ A = []) := by
  refine Ct.intro0 G_ok Tryz.func84 rfl rfl rfl fun E H hp => ?_
  obtain ⟨hp, hT⟩ := hp
  obtain ⟨b0p, c0p, rfl, h0p⟩ := gBag_rd.1 hp
  have ez := gBag_sz (x)
  have en0 := len_szL gItem (x.items)
  have hq := szL_eq gItem (x.items)
  have hl := (rd_len h0p).2
  have him : IntKind.i64.max = 9223372036854775807 := rfl
  refine VCnew.intro fun x0 => ?_
  refine VCnew.intro fun x1 => ?_
  apply loop_mod (α := (Nat) × (List UInt8) × (Hp) × (Value) × (Option Addr) × (Nat)) G_ok [12, 13, 14, 5, 15, 16, 17, 18, 19, 20, 21, 7, 22, 23, 24, 25, 26, 27, 28, 29, 30, 31, 32, 33, 34, 35, 11] (fun z => [(11, .v (.int .i64 z.1))]) (fun z => [⟨x0, [Value.slice b0p x.items.length c0p], (49 : Nat)⟩, ⟨x1, [z.2.2.2.1, .slice z.2.2.2.2.1 z.2.1.length z.2.2.2.2.2], 194⟩]) (fun z => [z.2.2.1, H]) (fun z => x.items.length - z.1) (fun z => z.1 ≤ x.items.length ∧ z.2.1 = (x.items.take z.1).flatMap itemS ∧ z.2.1.length ≤ 22 * (z.1 + szE gItem (x.items.take z.1)) ∧ (z.2.2.2.1 = .pointer none ∨ z.2.2.2.1 = .pointer (some ⟨x1, 0, none⟩)) ∧ (gSl 5 gY).ow [.slice z.2.2.2.2.1 z.2.1.length z.2.2.2.2.2] z.2.1 z.2.2.1 ∧ Bz z.2.2.2.2.1 z.2.2.2.2.2) ((0, [], [], .pointer none, none, 0))
  · repeat' (first | exact trivial | refine ⟨⟨_, rfl, by first | rfl | exact inc_eq _ (by omega) | (refine sl_eq ?_; simp; done), by first | exact trivial | simp [SV.ok]⟩, ?_⟩)
  · exact ⟨rfl, rfl, trivial⟩
  · try dsimp only
    exact ⟨Nat.zero_le _, rfl, Nat.zero_le _, .inl rfl, sl_nil _ _ _, .inl ⟨rfl, rfl⟩⟩
  · exact .refl _
  rintro ⟨k, o, A, ad, b, c⟩ hI
  obtain ⟨hk, ho, hol, had, oA, zA⟩ : k ≤ x.items.length ∧ o = (x.items.take k).flatMap itemS ∧ o.length ≤ 22 * (k + szE gItem (x.items.take k)) ∧ (ad = .pointer none ∨ ad = .pointer (some ⟨x1, 0, none⟩)) ∧ (gSl 5 gY).ow [.slice b o.length c] o A ∧ Bz b c := hI
  try dsimp only
  refine VCsplit.intro (fun q2 => ?_) (fun q2 => ?_)
  ·
    simp at q2
    have hs := szE_step gItem x.items k default (by omega)
    have hs2 := szE_le gItem x.items (k + 1)
    have hs3 := gItem_sz (x.items[k]?.getD default)
    have hs4 := len_szL gI (x.items[k]?.getD default).row
    refine idx_rd h0p ?_ ?_ fun b3 o3 hb3 => ?_
    · omega
    · omega
    refine load_allN default (k) rfl h0p ?_ ?_ hb3 rfl (mem_at 1 rfl) fun l4 hl4 => ?_
    · omega
    · omega
    obtain ⟨b0x4, c0x4, rfl, h0x4, w1x4⟩ := gItem_rd.1 hl4
    refine VCnew.intro fun x5 => ?_
    apply loop_mod (α := (Nat) × (List UInt8) × (Hp) × (Value) × (Option Addr) × (Nat)) G_ok [19, 20, 21, 7, 22, 23, 24, 25, 26, 27, 18] (fun z => [(18, .v (.int .i64 z.1))]) (fun z => [⟨x0, [Value.slice b0p x.items.length c0p], (49 : Nat)⟩, ⟨x1, [z.2.2.2.1, .slice z.2.2.2.2.1 z.2.1.length z.2.2.2.2.2], (194 : TypeId)⟩, ⟨x5, [Value.slice b0x4 (x.items[k]?.getD default).row.length c0x4, Value.int IntKind.i64 (x.items[k]?.getD default).times], (134 : Nat)⟩]) (fun z => [z.2.2.1, H]) (fun z => (x.items[k]?.getD default).row.length - z.1) (fun z => z.1 ≤ (x.items[k]?.getD default).row.length ∧ z.2.1 = (x.items.take k).flatMap itemS ++ ((x.items[k]?.getD default).row.take z.1).flatMap numS ∧ z.2.1.length ≤ 22 * (k + szE gItem (x.items.take k)) + 20 * z.1 ∧ (z.2.2.2.1 = .pointer none ∨ z.2.2.2.1 = .pointer (some ⟨x1, 0, none⟩)) ∧ (gSl 5 gY).ow [.slice z.2.2.2.2.1 z.2.1.length z.2.2.2.2.2] z.2.1 z.2.2.1 ∧ Bz z.2.2.2.2.1 z.2.2.2.2.2) ((0, o, A, ad, b, c))
    · repeat' (first | exact trivial | refine ⟨⟨_, rfl, by first | rfl | exact inc_eq _ (by omega) | (refine sl_eq ?_; simp; done), by first | exact trivial | simp [SV.ok]⟩, ?_⟩)
    · exact ⟨rfl, rfl, rfl, trivial⟩
    · try dsimp only
      exact ⟨Nat.zero_le _, by rw [List.take_zero, List.flatMap_nil, List.append_nil]; exact ho, hol, had, oA, zA⟩
    · exact .refl _
    rintro ⟨j, o2, A2, ad2, b2, c2⟩ hI
    obtain ⟨hj, ho2, hol2, had2, oA2, zA2⟩ : j ≤ (x.items[k]?.getD default).row.length ∧ o2 = (x.items.take k).flatMap itemS ++ ((x.items[k]?.getD default).row.take j).flatMap numS ∧ o2.length ≤ 22 * (k + szE gItem (x.items.take k)) + 20 * j ∧ (ad2 = .pointer none ∨ ad2 = .pointer (some ⟨x1, 0, none⟩)) ∧ (gSl 5 gY).ow [.slice b2 o2.length c2] o2 A2 ∧ Bz b2 c2 := hI
    try dsimp only
    refine VCsplit.intro (fun q6 => ?_) (fun q6 => ?_)
    ·
      simp at q6
      refine idx_rd h0x4 ?_ ?_ fun b7 o7 hb7 => ?_
      · omega
      · omega
      refine load_allN 0 (j) rfl h0x4 ?_ ?_ hb7 rfl (mem_at 1 rfl) fun l8 hl8 => ?_
      · omega
      · omega
      obtain ⟨rfl, hw8⟩ := hl8; simp only [flStr, flInt, okI] at hw8
      refine call_val (decimalMax_ct _ ?_) (by (try exact TabIn.mono hT (mem_at 0 rfl)); (try exact TabIn.mono hT (mem_at 1 rfl)); (try exact TabIn.mono hT (mem_at 2 rfl)); (try exact TabIn.mono hT (mem_at 3 rfl))) ?_
      · omega
      rintro _ rfl
      refine VC.intro ?_ ?_
      · (have hd := dcT_len19 (n := (x.items[k]?.getD default).row[j]?.getD 0) (by omega); simp only [ByteArray.size_append, tx_sz9, bsz, List.length_cons, List.length_nil]; omega)
      refine callR_blk 1 (A2) [H] rfl ?_ (WriteString_ct _ _ _ _ _ _ _ _ (by first | exact .inl rfl | exact .inr rfl | assumption) oA2 zA2 ?_) trivial ?_
      · exact .refl _
      · (have hd := dcT_len19 (n := (x.items[k]?.getD default).row[j]?.getD 0) (by omega); simp only [ByteArray.size_append, tx_sz9, bsz, List.length_cons, List.length_nil]; omega)
      rintro _ A10 ⟨rfl, bb10, bc10, B10, rfl, o10, z10⟩
      refine ⟨_, _, [B10], rfl, perm1, ?_⟩
      apply loop_stepA (j + 1, _, _, _, _, _)
      · exact .refl _
      · repeat' (first | exact trivial | refine ⟨⟨_, rfl, by first | rfl | exact inc_eq _ (by omega) | (refine sl_eq ?_; simp; done), by first | exact trivial | simp [SV.ok]⟩, ?_⟩)
      · exact ⟨rfl, rfl, rfl, trivial⟩
      · try dsimp only
        (have hd := dcT_len19 (n := (x.items[k]?.getD default).row[j]?.getD 0) (by omega); exact ⟨by omega, by rw [num_tx, tx_list9, rowS_step (by omega), ho2, List.append_assoc], by rw [num_tx, tx_list9, List.length_append]; unfold numS; rw [List.length_append, List.length_singleton]; omega, .inr rfl, ‹_›, ‹_›⟩)
      try dsimp only
      omega
    ·
      simp at q6
      obtain rfl : j = (x.items[k]?.getD default).row.length := by omega
      rw [List.take_length] at ho2
      refine call_val (decimalMax_ct _ ?_) (by (try exact TabIn.mono hT (mem_at 0 rfl)); (try exact TabIn.mono hT (mem_at 1 rfl)); (try exact TabIn.mono hT (mem_at 2 rfl)); (try exact TabIn.mono hT (mem_at 3 rfl))) ?_
      · (unfold okI at *; omega)
      rintro _ rfl
      refine VC.intro ?_ ?_
      · (have hd := dcT_len19 (n := (x.items[k]?.getD default).times) (by unfold okI at *; omega); simp only [ByteArray.size_append, tx_sz9, bsz, List.length_cons, List.length_nil]; omega)
      refine VC.intro ?_ ?_
      · (have hd := dcT_len19 (n := (x.items[k]?.getD default).times) (by unfold okI at *; omega); simp only [ByteArray.size_append, tx_sz9, bsz, List.length_cons, List.length_nil]; omega)
      refine callR_blk 1 (A2) [H] rfl ?_ (WriteString_ct _ _ _ _ _ _ _ _ (by first | exact .inl rfl | exact .inr rfl | assumption) oA2 zA2 ?_) trivial ?_
      · exact .refl _
      · (have hd := dcT_len19 (n := (x.items[k]?.getD default).times) (by unfold okI at *; omega); simp only [ByteArray.size_append, tx_sz9, bsz, List.length_cons, List.length_nil]; omega)
      rintro _ A12 ⟨rfl, bb12, bc12, B12, rfl, o12, z12⟩
      refine ⟨_, _, [B12], rfl, perm1, ?_⟩
      apply loop_stepA (k + 1, _, _, _, _, _)
      · exact .refl _
      · repeat' (first | exact trivial | refine ⟨⟨_, rfl, by first | rfl | exact inc_eq _ (by omega) | (refine sl_eq ?_; simp; done), by first | exact trivial | simp [SV.ok]⟩, ?_⟩)
      · exact ⟨rfl, rfl, trivial⟩
      · try dsimp only
        (have hd := dcT_len19 (n := (x.items[k]?.getD default).times) (by unfold okI at *; omega); exact ⟨by omega, by rw [end_tx, tx_list9, itemsS_step (by omega), ho2, List.append_assoc]; rfl, by rw [end_tx, tx_list9, List.length_append, List.length_append, List.length_append]; simp only [List.length_cons, List.length_nil]; omega, .inr rfl, ‹_›, ‹_›⟩)
      try dsimp only
      omega
  ·
    simp at q2
    obtain rfl : k = x.items.length := by omega
    rw [List.take_length] at ho
    refine callR_blk 1 (A) [H] rfl ?_ (String_ct _ _ _ _ _ _ _ oA zA) trivial ?_
    · exact .refl _
    rintro _ A13 ⟨rfl, rfl⟩
    refine ⟨_, _, [], rfl, perm0, ?_⟩
    exact ⟨[], ⟨by rw [ho]; rfl, rfl⟩, (.le fun a => by (try simp only [setR, List.cons_append, List.nil_append]); simp only [List.flatten_append, List.flatten_cons, List.flatten_nil, List.count_append, List.count_nil, List.append_nil, List.nil_append]; omega)⟩
--@ct spec.l30Num val l30Num_ct _ ?_ | trivial
theorem l30Num_ct (n : Int) (h : n ≤ 9223372036854775807) : Ct Tryz.prog 80 [.int .i64 n] [] (fun _ => True) (fun v A => v = .string (tx (dcT n)) ∧ A = []) := by
  refine Ct.intro0 G_ok Tryz.func80 rfl rfl rfl fun E H hp => ?_
  refine VCsplit.intro (fun q0 => ?_) (fun q0 => ?_)
  ·
    simp at q0
    exact ⟨[], ⟨by rw [dcT_neg (by omega)]; rfl, rfl⟩, (.le fun a => by (try simp only [setR, List.cons_append, List.nil_append]); simp only [List.flatten_append, List.flatten_cons, List.flatten_nil, List.count_append, List.count_nil, List.append_nil, List.nil_append]; omega)⟩
  ·
    simp at q0
    refine call_val (specDecimal_ct _ ?_) trivial ?_
    · trivial
    rintro _ rfl
    exact ⟨[], ⟨rfl, rfl⟩, (.le fun a => by (try simp only [setR, List.cons_append, List.nil_append]); simp only [List.flatten_append, List.flatten_cons, List.flatten_nil, List.count_append, List.count_nil, List.append_nil, List.nil_append]; omega)⟩
--@ct spec.ShowBag val specShowBag_ct _ $1 ?_ | %1
theorem specShowBag_ct (l : List Value) (x : Bag) (hz : gBag.sz x ≤ 1048576) : Ct Tryz.prog 33 [.agg ⟨l⟩] [] (fun H => gBag.rd H l x) (fun v A => v = .string (tx (bagS x)) ∧ A = []) := by
  refine Ct.intro0 G_ok Tryz.func33 rfl rfl rfl fun E H hp => ?_
  obtain ⟨b0p, c0p, rfl, h0p⟩ := gBag_rd.1 hp
  have ez := gBag_sz (x)
  have en0 := len_szL gItem (x.items)
  have hq := szL_eq gItem (x.items)
  have hl := (rd_len h0p).2
  have him : IntKind.i64.max = 9223372036854775807 := rfl
  refine VCnew.intro fun x0 => ?_
  apply loop_mod (α := (Nat) × (ByteArray)) G_ok [6, 7, 8, 9, 10, 5, 13, 14, 15, 16, 17, 18, 19, 20, 21, 24, 25, 26, 27, 28, 29, 30, 31, 32, 33, 34, 35, 36, 3, 22, 23, 37, 38, 39, 40, 41, 42, 43, 44, 45, 46, 47, 11, 12, 4] (fun z => [(4, .v (.int .i64 z.1)), (3, .v (.string z.2))]) (fun z => [{ id := x0, cs := [Value.slice b0p x.items.length c0p], ty := (49 : Nat) }]) (fun z => [H]) (fun z => x.items.length - z.1) (fun z => z.1 ≤ x.items.length ∧ z.2 = tx ((x.items.take z.1).flatMap itemS) ∧ z.2.size ≤ 22 * (z.1 + szE gItem (x.items.take z.1))) ((0, _))
  · repeat' (first | exact trivial | refine ⟨⟨_, rfl, by first | rfl | exact inc_eq _ (by omega) | (refine sl_eq ?_; simp; done), by first | exact trivial | simp [SV.ok]⟩, ?_⟩)
  · exact ⟨rfl, trivial⟩
  · try dsimp only
    exact ⟨Nat.zero_le _, rfl, Nat.zero_le _⟩
  · exact .refl _
  rintro ⟨k, s⟩ hI
  obtain ⟨hk, ho, hol⟩ : k ≤ x.items.length ∧ s = tx ((x.items.take k).flatMap itemS) ∧ s.size ≤ 22 * (k + szE gItem (x.items.take k)) := hI
  try dsimp only
  refine VCsplit.intro (fun q1 => ?_) (fun q1 => ?_)
  ·
    simp at q1
    have hs := szE_step gItem x.items k default (by omega)
    have hs2 := szE_le gItem x.items (k + 1)
    have hs3 := gItem_sz (x.items[k]?.getD default)
    have hs4 := len_szL gI (x.items[k]?.getD default).row
    apply loop_mod (α := (Nat) × (ByteArray)) G_ok [13, 14, 15, 16, 17, 18, 19, 20, 21, 24, 25, 26, 27, 28, 29, 30, 31, 32, 33, 34, 35, 36, 3, 22, 23, 5] (fun z => [(5, .v (.int .i64 z.1)), (3, .v (.string z.2))]) (fun z => [{ id := x0, cs := [Value.slice b0p x.items.length c0p], ty := (49 : Nat) }]) (fun z => [H]) (fun z => (x.items[k]?.getD default).row.length - z.1) (fun z => z.1 ≤ (x.items[k]?.getD default).row.length ∧ z.2 = tx ((x.items.take k).flatMap itemS ++ ((x.items[k]?.getD default).row.take z.1).flatMap numS) ∧ z.2.size ≤ 22 * (k + szE gItem (x.items.take k)) + 20 * z.1) ((0, s))
    · repeat' (first | exact trivial | refine ⟨⟨_, rfl, by first | rfl | exact inc_eq _ (by omega) | (refine sl_eq ?_; simp; done), by first | exact trivial | simp [SV.ok]⟩, ?_⟩)
    · exact ⟨rfl, trivial⟩
    · try dsimp only
      exact ⟨Nat.zero_le _, by rw [List.take_zero, List.flatMap_nil, List.append_nil]; exact ho, hol⟩
    · exact .refl _
    rintro ⟨j, s2⟩ hI
    obtain ⟨hj, ho2, hol2⟩ : j ≤ (x.items[k]?.getD default).row.length ∧ s2 = tx ((x.items.take k).flatMap itemS ++ ((x.items[k]?.getD default).row.take j).flatMap numS) ∧ s2.size ≤ 22 * (k + szE gItem (x.items.take k)) + 20 * j := hI
    try dsimp only
    refine idx_rd h0p ?_ ?_ fun b2 o2 hb2 => ?_
    · omega
    · omega
    refine load_partN default (k) 0 rfl h0p ?_ ?_ hb2 rfl (by decide) (mem_at 0 rfl) fun l3 hl3 => ?_
    · omega
    · omega
    obtain ⟨b0x3, c0x3, rfl, h0x3, w1x3⟩ := gItem_rd.1 hl3
    refine VCsplit.intro (fun q4 => ?_) (fun q4 => ?_)
    ·
      simp at q4
      refine idx_rd h0p ?_ ?_ fun b5 o5 hb5 => ?_
      · omega
      · omega
      refine load_partN default (k) 0 rfl h0p ?_ ?_ hb5 rfl (by decide) (mem_at 0 rfl) fun l6 hl6 => ?_
      · omega
      · omega
      obtain ⟨b0x6, c0x6, rfl, h0x6, w1x6⟩ := gItem_rd.1 hl6
      refine idx_rd h0x6 ?_ ?_ fun b7 o7 hb7 => ?_
      · omega
      · omega
      refine load_allN 0 (j) rfl h0x6 ?_ ?_ hb7 rfl (mem_at 0 rfl) fun l8 hl8 => ?_
      · omega
      · omega
      obtain ⟨rfl, hw8⟩ := hl8; simp only [flStr, flInt, okI] at hw8
      refine call_val (l30Num_ct _ ?_) trivial ?_
      · omega
      rintro _ rfl
      refine VC.intro ?_ ?_
      · (have hd := dcT_len19 (n := (x.items[k]?.getD default).row[j]?.getD 0) (by omega); simp only [ByteArray.size_append, tx_sz9, bsz, List.length_cons, List.length_nil]; omega)
      refine VC.intro ?_ ?_
      · (have hd := dcT_len19 (n := (x.items[k]?.getD default).row[j]?.getD 0) (by omega); simp only [ByteArray.size_append, tx_sz9, bsz, List.length_cons, List.length_nil]; omega)
      apply loop_stepA (j + 1, _)
      · exact .refl _
      · repeat' (first | exact trivial | refine ⟨⟨_, rfl, by first | rfl | exact inc_eq _ (by omega) | (refine sl_eq ?_; simp; done), by first | exact trivial | simp [SV.ok]⟩, ?_⟩)
      · exact ⟨rfl, trivial⟩
      · try dsimp only
        (have hd := dcT_len19 (n := (x.items[k]?.getD default).row[j]?.getD 0) (by omega); exact ⟨by omega, by rw [ByteArray.append_assoc, num_tx, ho2, ← tx_app, rowS_step (by omega), List.append_assoc], by rw [ByteArray.append_assoc, num_tx, ByteArray.size_append, tx_sz9]; unfold numS; rw [List.length_append, List.length_singleton]; omega⟩)
      try dsimp only
      omega
    ·
      simp at q4
      obtain rfl : j = (x.items[k]?.getD default).row.length := by omega
      rw [List.take_length] at ho2
      refine VC.intro ?_ ?_
      · (have hd := dcT_len19 (n := (x.items[k]?.getD default).times) (by unfold okI at *; omega); simp only [ByteArray.size_append, tx_sz9, bsz, List.length_cons, List.length_nil]; omega)
      refine idx_rd h0p ?_ ?_ fun b10 o10 hb10 => ?_
      · omega
      · omega
      refine load_partN default (k) 1 rfl h0p ?_ ?_ hb10 rfl (by decide) (mem_at 0 rfl) fun l11 hl11 => ?_
      · omega
      · omega
      obtain ⟨b0x11, c0x11, rfl, h0x11, w1x11⟩ := gItem_rd.1 hl11
      refine call_val (l30Num_ct _ ?_) trivial ?_
      · (unfold okI at *; omega)
      rintro _ rfl
      refine VC.intro ?_ ?_
      · (have hd := dcT_len19 (n := (x.items[k]?.getD default).times) (by unfold okI at *; omega); simp only [ByteArray.size_append, tx_sz9, bsz, List.length_cons, List.length_nil]; omega)
      refine VC.intro ?_ ?_
      · (have hd := dcT_len19 (n := (x.items[k]?.getD default).times) (by unfold okI at *; omega); simp only [ByteArray.size_append, tx_sz9, bsz, List.length_cons, List.length_nil]; omega)
      apply loop_stepA (k + 1, _)
      · exact .refl _
      · repeat' (first | exact trivial | refine ⟨⟨_, rfl, by first | rfl | exact inc_eq _ (by omega) | (refine sl_eq ?_; simp; done), by first | exact trivial | simp [SV.ok]⟩, ?_⟩)
      · exact ⟨rfl, trivial⟩
      · try dsimp only
        (have hd := dcT_len19 (n := (x.items[k]?.getD default).times) (by unfold okI at *; omega); exact ⟨by omega, by rw [end_tx3, ho2, ← tx_app, itemsS_step (by omega), List.append_assoc]; rfl, by rw [end_tx3, ByteArray.size_append, tx_sz9, List.length_append, List.length_append]; simp only [List.length_cons, List.length_nil]; omega⟩)
      try dsimp only
      omega
  ·
    simp at q1
    obtain rfl : k = x.items.length := by omega
    rw [List.take_length] at ho
    exact ⟨[], ⟨by rw [ho]; rfl, rfl⟩, (.le fun a => by (try simp only [setR, List.cons_append, List.nil_append]); simp only [List.flatten_append, List.flatten_cons, List.flatten_nil, List.count_append, List.count_nil, List.append_nil, List.nil_append]; omega)⟩
/-! replies -/
def rowsS (b : Bag) : ByteArray := (⟨#[114, 111, 119, 115, 32]⟩ : ByteArray) ++ tx (dcT (sizeM b)) ++ ⟨#[10]⟩ ++ tx (bagS b)
def replyS (c : Cluster) : ByteArray := if c.replies.length = 0 then ⟨#[111, 112, 101, 110, 10]⟩ else rowsS (c.replies[c.replies.length - 1]?.getD default)
theorem numS_len (v : Int) : (numS v).length = (dcT v).length + 1 := by unfold numS; rw [List.length_append, List.length_singleton]
theorem itemS_len (x : Item) : (itemS x).length = (x.row.flatMap numS).length + (dcT x.times).length + 2 := by
  unfold itemS
  rw [List.length_append, List.length_append, List.length_append]
  simp only [List.length_cons, List.length_nil]; omega
theorem bagS_len : ∀ (xs : List Item), (∀ x ∈ xs, (∀ v ∈ x.row, v ≤ 9223372036854775807) ∧ x.times ≤ 9223372036854775807) → (xs.flatMap itemS).length ≤ 22 * szL gItem xs
  | [], _ => Nat.le_refl _
  | x :: r, h => by
    have h1 := bagS_len r fun y hy => h y (List.mem_cons_of_mem _ hy)
    have h2 := h x List.mem_cons_self
    have h3 : ∀ l : List Int, (∀ v ∈ l, v ≤ 9223372036854775807) → (l.flatMap numS).length ≤ 20 * l.length := by
      intro l
      induction l with
      | nil => intro _; exact Nat.le_refl _
      | cons v t ih =>
        intro hl
        have h4 := ih fun w hw => hl w (List.mem_cons_of_mem _ hw)
        have h5 := dcT_len19 (hl v List.mem_cons_self)
        rw [List.flatMap_cons, List.length_append, List.length_cons, numS_len]; omega
    have h4 := h3 x.row h2.1
    have h5 := dcT_len19 h2.2
    have h6 := gItem_sz x
    have h7 := len_szL gI x.row
    rw [List.flatMap_cons, List.length_append]
    show _ ≤ 22 * (1 + gItem.sz x + szL gItem r)
    rw [itemS_len]; omega
end Go.Proofs.YtcnclhjhnjpeiaaGreatDoor

namespace Go.Proofs.YtcnclhjhnjpeiaaGreatDoor
open Go.SX Go.Proofs
set_option linter.unusedSimpArgs false
set_option linter.unusedVariables false
set_option maxHeartbeats 4000000
attribute [local irreducible] IntKind.wrap sizeM bagS
theorem sz_one {α : Type} (g : Gt α) (z : α) : ∀ (xs : List α) (k : Nat), k < xs.length → g.sz (xs[k]?.getD z) + 1 ≤ szL g xs
  | [], _, h => by simp at h
  | x :: r, 0, _ => by show g.sz x + 1 ≤ 1 + g.sz x + szL g r; omega
  | x :: r, k + 1, h => by
    have := sz_one g z r k (by simpa using h)
    show g.sz (r[k]?.getD z) + 1 ≤ 1 + g.sz x + szL g r
    omega
theorem sl_all {α : Type} {T : TypeId} {g : Gt α} {H : Hp} {l : List Value} {xs : List α} (h : (gSl T g).rd H l xs) : ∀ x ∈ xs, ∃ l', g.rd H l' x := by
  obtain ⟨_, _, _, _, h2⟩ := h
  intro x hx
  obtain ⟨i, hi, rfl⟩ := List.getElem_of_mem hx
  obtain ⟨_, _, l', _, _, h3⟩ := h2 i hi
  exact ⟨l', h3⟩
theorem bag_vals {H : Hp} {l : List Value} {x : Bag} (hp : gBag.rd H l x) : ∀ it ∈ x.items, (∀ v ∈ it.row, v ≤ 9223372036854775807) ∧ it.times ≤ 9223372036854775807 := by
  obtain ⟨b0p, c0p, rfl, h0p⟩ := gBag_rd.1 hp
  intro it hi
  obtain ⟨l', h1⟩ := sl_all h0p it hi
  obtain ⟨b0q, c0q, rfl, h0q, w1q⟩ := gItem_rd.1 h1
  refine ⟨fun v hv => ?_, ?_⟩
  · obtain ⟨l2, h2⟩ := sl_all h0q v hv
    obtain ⟨_, h3⟩ := h2
    simp only [flInt, okI] at h3
    exact h3.2
  unfold okI at w1q; exact w1q.2
theorem bagS_sz {H : Hp} {l : List Value} {x : Bag} (hp : gBag.rd H l x) (hz : gBag.sz x ≤ 1048576) : (tx (bagS x)).size ≤ 23068672 := by
  have h1 := bagS_len x.items (bag_vals hp)
  have h2 := gBag_sz x
  have e : (tx (bagS x)).size = (x.items.flatMap itemS).length := by rw [tx_sz9]; unfold bagS; rfl
  rw [e]; omega
theorem size_len (b : Bag) : (dcT (sizeM b)).length ≤ 19 := dcT_len19 (by have := sizeM_rng b; omega)
--@ct impl.rowsText val rowsText_ct _ $1 ?_ | ⟨%1, (by (try exact TabIn.mono ‹TabIn _› (mem_at 0 rfl)); (try exact TabIn.mono ‹TabIn _› (mem_at 1 rfl)); (try exact TabIn.mono ‹TabIn _› (mem_at 2 rfl)))⟩
theorem rowsText_ct (l : List Value) (x : Bag) (hz : gBag.sz x ≤ 1048576) : Ct Tryz.prog 38 [.agg ⟨l⟩] [] (fun H => gBag.rd H l x ∧ TabIn H) (fun v A => v = .string (rowsS x) ∧ A = []) := by
  refine Ct.intro0 G_ok Tryz.func38 rfl rfl rfl fun E H hp => ?_
  obtain ⟨hp, hT⟩ := hp
  have hbz := bagS_sz hp hz
  have hsr := sizeM_rng x
  have hsl := size_len x
  have hsz : (tx (dcT (sizeM x))).size ≤ 19 := by rw [tx_sz9]; exact hsl
  obtain ⟨b0p, c0p, rfl, h0p⟩ := gBag_rd.1 hp
  have him : IntKind.i64.max = 9223372036854775807 := rfl
  have hl1 : (⟨#[114, 111, 119, 115, 32]⟩ : ByteArray).size = 5 := rfl
  have hl2 : (⟨#[10]⟩ : ByteArray).size = 1 := rfl
  refine VCnew.intro fun x0 => ?_
  refine draw G_ok mixed none (.q 0 (.q 5 (.f 1 (.f 2 (.q 3 (.q 4 (.f 6 (.q 7 (.q 8 (.nil)))))))))) (by decide +kernel) ?_
  refine call_val (implBagSize_ct _ (x)) (Rp.mono _ (mem_at 0 rfl) hp) ?_
  rintro _ rfl
  refine VC.intro ?_ ?_
  · exact fun _ h => h
  refine call_val (decimalAll_ct _ ?_) (by (try exact TabIn.mono hT (mem_at 0 rfl)); (try exact TabIn.mono hT (mem_at 1 rfl)); (try exact TabIn.mono hT (mem_at 2 rfl))) ?_
  · omega
  rintro _ rfl
  refine VC.intro ?_ ?_
  · exact fun _ h => h
  refine VC.intro ?_ ?_
  · omega
  refine VC.intro ?_ ?_
  · simp; omega
  refine call_val (implShowBag_ct _ (x) ?_) ⟨(Rp.mono _ (mem_at 0 rfl) hp), (by (try exact TabIn.mono hT (mem_at 0 rfl)); (try exact TabIn.mono hT (mem_at 1 rfl)); (try exact TabIn.mono hT (mem_at 2 rfl)))⟩ ?_
  · trivial
  rintro _ rfl
  refine VC.intro ?_ ?_
  · exact fun _ h => h
  refine VC.intro ?_ ?_
  · simp; omega
  exact ⟨[], ⟨rfl, rfl⟩, (.le fun a => by (try simp only [setR, List.cons_append, List.nil_append]); simp only [List.flatten_append, List.flatten_cons, List.flatten_nil, List.count_append, List.count_nil, List.append_nil, List.nil_append]; omega)⟩
theorem last_bag {T : TypeId} {H : Hp} {l : List Value} {xs : List Bag} (h : (gSl T gBag).rd H l xs) (hp : 0 < xs.length) (hz : szL gBag xs ≤ 1048576) : gBag.sz (xs[xs.length - 1]?.getD default) ≤ 1048576 ∧ (tx (bagS (xs[xs.length - 1]?.getD default))).size ≤ 23068672 ∧ IntKind.i64.wrap ((xs.length : Int) - 1) = ((xs.length - 1 : Nat) : Int) := by
  have h1 := sz_one gBag default xs (xs.length - 1) (by omega)
  have h4 := len_szL gBag xs
  have h2 : xs[xs.length - 1]?.getD default ∈ xs := by rw [List.getElem?_eq_getElem (by omega)]; exact List.getElem_mem _
  obtain ⟨l', h3⟩ := sl_all h _ h2
  refine ⟨by omega, bagS_sz h3 (by omega), ?_⟩
  rw [wrap_of (by omega) (by omega)]; omega
theorem reply_no {x : Cluster} (h : x.replies = []) : (⟨#[111, 112, 101, 110, 10]⟩ : ByteArray) = replyS x := by unfold replyS; rw [h]; rfl
theorem reply_yes {x : Cluster} (h : 0 < x.replies.length) : rowsS (x.replies[x.replies.length - 1]?.getD default) = replyS x := by unfold replyS; rw [if_neg (by omega)]
--@ct impl.ReplyOf val implReplyOf_ct _ $1 ?_ | ⟨%1, (by (try exact TabIn.mono ‹TabIn _› (mem_at 0 rfl)); (try exact TabIn.mono ‹TabIn _› (mem_at 1 rfl)); (try exact TabIn.mono ‹TabIn _› (mem_at 2 rfl)); (try exact TabIn.mono ‹TabIn _› (mem_at 3 rfl)))⟩
theorem implReplyOf_ct (l : List Value) (x : Cluster) (hz : gCluster.sz x ≤ 1048576) : Ct Tryz.prog 9 [.agg ⟨l⟩] [] (fun H => gCluster.rd H l x ∧ TabIn H) (fun v A => v = .string (replyS x) ∧ A = []) := by
  refine Ct.intro0 G_ok Tryz.func9 rfl rfl rfl fun E H hp => ?_
  obtain ⟨hp, hT⟩ := hp
  obtain ⟨l0p, b1p, c1p, b2p, c2p, b3p, c3p, b4p, c4p, rfl, h0p, h1p, h2p, h3p, h4p⟩ := gCluster_rd.1 hp
  obtain ⟨b1_0p, c1_0p, b2_0p, c2_0p, b3_0p, c3_0p, rfl, h1_0p, h2_0p, h3_0p⟩ := gQuery_rd.1 h0p
  have hcz := gCluster_sz x
  refine VCnew.intro fun x0 => ?_
  refine VCsplit.intro (fun q1 => ?_) (fun q1 => ?_)
  ·
    simp at q1
    exact ⟨[], ⟨congrArg Value.string (reply_no (by assumption)), rfl⟩, (.le fun a => by (try simp only [setR, List.cons_append, List.nil_append]); simp [List.count_cons, Blk.ent, idOf]; try omega)⟩
  ·
    simp at q1
    have hpos : 0 < x.replies.length := List.length_pos_iff.2 (by assumption)
    obtain ⟨hb1, hb2, hwr⟩ := last_bag h4p hpos (by omega)
    have hsr := sizeM_rng (x.replies[x.replies.length - 1]?.getD default)
    have hsz : (tx (dcT (sizeM (x.replies[x.replies.length - 1]?.getD default)))).size ≤ 19 := (by rw [tx_sz9]; exact size_len _)
    refine idx_rd h4p ?_ ?_ fun b2 o2 hb2 => ?_
    · omega
    · omega
    refine load_all default h4p ?_ ?_ hb2 rfl (mem_at 0 rfl) fun l3 hl3 => ?_
    · omega
    · omega
    rw [show (IntKind.i64.wrap ((x.replies.length : Int) - 1)).toNat = x.replies.length - 1 by omega] at hl3
    obtain ⟨b0x3, c0x3, rfl, h0x3⟩ := gBag_rd.1 hl3
    refine call_val (rowsText_ct _ (x.replies[x.replies.length - (1 : Nat)]?.getD default) ?_) ⟨(Rp.mono _ (mem_at 0 rfl) hl3), (by (try exact TabIn.mono hT (mem_at 0 rfl)); (try exact TabIn.mono hT (mem_at 1 rfl)); (try exact TabIn.mono hT (mem_at 2 rfl)))⟩ ?_
    · trivial
    rintro _ rfl
    exact ⟨[], ⟨congrArg Value.string (reply_yes hpos), rfl⟩, (.le fun a => by (try simp only [setR, List.cons_append, List.nil_append]); simp [List.count_cons, Blk.ent, idOf]; try omega)⟩
--@ct spec.ReplyOf val specReplyOf_ct _ $1 ?_ | %1
theorem specReplyOf_ct (l : List Value) (x : Cluster) (hz : gCluster.sz x ≤ 1048576) : Ct Tryz.prog 7 [.agg ⟨l⟩] [] (fun H => gCluster.rd H l x) (fun v A => v = .string (replyS x) ∧ A = []) := by
  refine Ct.intro0 G_ok Tryz.func7 rfl rfl rfl fun E H hp => ?_
  obtain ⟨l0p, b1p, c1p, b2p, c2p, b3p, c3p, b4p, c4p, rfl, h0p, h1p, h2p, h3p, h4p⟩ := gCluster_rd.1 hp
  obtain ⟨b1_0p, c1_0p, b2_0p, c2_0p, b3_0p, c3_0p, rfl, h1_0p, h2_0p, h3_0p⟩ := gQuery_rd.1 h0p
  have hcz := gCluster_sz x
  have him : IntKind.i64.max = 9223372036854775807 := rfl
  have hl1 : (⟨#[114, 111, 119, 115, 32]⟩ : ByteArray).size = 5 := rfl
  have hl2 : (⟨#[10]⟩ : ByteArray).size = 1 := rfl
  refine VCnew.intro fun x0 => ?_
  refine VCsplit.intro (fun q1 => ?_) (fun q1 => ?_)
  ·
    simp at q1
    exact ⟨[], ⟨congrArg Value.string (reply_no (by assumption)), rfl⟩, (.le fun a => by (try simp only [setR, List.cons_append, List.nil_append]); simp [List.count_cons, Blk.ent, idOf]; try omega)⟩
  ·
    simp at q1
    have hpos : 0 < x.replies.length := List.length_pos_iff.2 (by assumption)
    obtain ⟨hb1, hb2, hwr⟩ := last_bag h4p hpos (by omega)
    have hsr := sizeM_rng (x.replies[x.replies.length - 1]?.getD default)
    have hsz : (tx (dcT (sizeM (x.replies[x.replies.length - 1]?.getD default)))).size ≤ 19 := (by rw [tx_sz9]; exact size_len _)
    refine idx_rd h4p ?_ ?_ fun b2 o2 hb2 => ?_
    · omega
    · omega
    refine load_all default h4p ?_ ?_ hb2 rfl (mem_at 0 rfl) fun l3 hl3 => ?_
    · omega
    · omega
    rw [show (IntKind.i64.wrap ((x.replies.length : Int) - 1)).toNat = x.replies.length - 1 by omega] at hl3
    obtain ⟨b0x3, c0x3, rfl, h0x3⟩ := gBag_rd.1 hl3
    refine VCnew.intro fun x4 => ?_
    refine draw G_ok mixed none (.q 0 (.q 5 (.f 1 (.f 2 (.q 3 (.q 4 (.f 6 (.q 7 (.q 8 (.nil)))))))))) (by decide +kernel) ?_
    refine call_val (specBagSize_ct _ (x.replies[x.replies.length - (1 : Nat)]?.getD default)) (Rp.mono _ (mem_at 0 rfl) hl3) ?_
    rintro _ rfl
    refine VC.intro ?_ ?_
    · exact fun _ h => h
    refine call_val (specDecimal_ct _ ?_) trivial ?_
    · omega
    rintro _ rfl
    refine VC.intro ?_ ?_
    · exact fun _ h => h
    refine VC.intro ?_ ?_
    · omega
    refine VC.intro ?_ ?_
    · simp; omega
    refine call_val (specShowBag_ct _ (x.replies[x.replies.length - (1 : Nat)]?.getD default) ?_) (Rp.mono _ (mem_at 0 rfl) hl3) ?_
    · trivial
    rintro _ rfl
    refine VC.intro ?_ ?_
    · exact fun _ h => h
    refine VC.intro ?_ ?_
    · simp; omega
    exact ⟨[], ⟨congrArg Value.string (reply_yes hpos), rfl⟩, (.le fun a => by (try simp only [setR, List.cons_append, List.nil_append]); simp [List.count_cons, Blk.ent, idOf]; try omega)⟩
end Go.Proofs.YtcnclhjhnjpeiaaGreatDoor

namespace Go.Proofs.YtcnclhjhnjpeiaaGreatDoor
open Go.SX Go.Proofs
set_option linter.unusedSimpArgs false
set_option linter.unusedVariables false
set_option maxHeartbeats 8000000
theorem fnExactReplyOf_ct (v0 : Value) :
    Ct Tryz.prog 3 [v0] [] (fun H => (∃ x, rdV true gCluster.toRp H v0 x) ∧ TabIn H) (fun v A => v = .bool true ∧ A = []) := by
  refine Ct.intro0 G_ok Tryz.func3 rfl rfl rfl fun E H hp => ?_
  obtain ⟨⟨xa0, hp0⟩, hT⟩ := hp
  obtain ⟨la0, rfl, hp0⟩ := hp0
  obtain ⟨l0a0, b1a0, c1a0, b2a0, c2a0, b3a0, c3a0, b4a0, c4a0, rfl, h0a0, h1a0, h2a0, h3a0, h4a0⟩ := gCluster_rd.1 hp0
  obtain ⟨b1_0a0, c1_0a0, b2_0a0, c2_0a0, b3_0a0, c3_0a0, rfl, h1_0a0, h2_0a0, h3_0a0⟩ := gQuery_rd.1 h0a0
  refine VCnew.intro fun x0 => ?_
  refine call_q (szCluster_ct _ (xa0) _ ?_ ?_) (Rp.mono _ (mem_at 0 rfl) hp0) ?_
  · trivial
  · trivial
  rintro _ ⟨r1, rfl, hr1⟩
  refine VCsplit.intro (fun q2 => ?_) (fun q2 => ?_)
  ·
    simp at q2
    exact ⟨[], ⟨rfl, rfl⟩, (.le fun a => by (try simp only [setR, List.cons_append, List.nil_append]); simp only [List.flatten_append, List.flatten_cons, List.flatten_nil, List.count_append, List.count_nil, List.append_nil, List.nil_append]; omega)⟩
  ·
    simp at q2
    refine call_new (toCluster_ct _ (xa0) ?_) (Rp.mono _ (mem_at 0 rfl) hp0) ?_
    · omega
    rintro v3 A3 o3
    obtain ⟨l3, rfl, o3⟩ := o3
    have r3 := Gt.owrd _ o3
    obtain ⟨l0x3, b1x3, c1x3, b2x3, c2x3, b3x3, c3x3, b4x3, c4x3, rfl, h0x3, h1x3, h2x3, h3x3, h4x3⟩ := gCluster_rd.1 r3
    obtain ⟨b1_0x3, c1_0x3, b2_0x3, c2_0x3, b3_0x3, c3_0x3, rfl, h1_0x3, h2_0x3, h3_0x3⟩ := gQuery_rd.1 h0x3
    refine call_val (specReplyOf_ct _ (xa0) ?_) (Rp.mono _ (mem_at 0 rfl) r3) ?_
    · omega
    rintro _ rfl
    refine call_new (toCluster_ct _ (xa0) ?_) (Rp.mono _ (mem_at 1 rfl) hp0) ?_
    · omega
    rintro v5 A5 o5
    obtain ⟨l5, rfl, o5⟩ := o5
    have r5 := Gt.owrd _ o5
    obtain ⟨l0x5, b1x5, c1x5, b2x5, c2x5, b3x5, c3x5, b4x5, c4x5, rfl, h0x5, h1x5, h2x5, h3x5, h4x5⟩ := gCluster_rd.1 r5
    obtain ⟨b1_0x5, c1_0x5, b2_0x5, c2_0x5, b3_0x5, c3_0x5, rfl, h1_0x5, h2_0x5, h3_0x5⟩ := gQuery_rd.1 h0x5
    refine VCnew.intro fun x6 => ?_
    refine call_val (implReplyOf_ct _ xa0 ?_) ⟨(Rp.mono _ (mem_at 0 rfl) r5), (by (try exact TabIn.mono hT (mem_at 0 rfl)); (try exact TabIn.mono hT (mem_at 1 rfl)); (try exact TabIn.mono hT (mem_at 2 rfl)); (try exact TabIn.mono hT (mem_at 3 rfl)); (try exact TabIn.mono hT (mem_at 4 rfl)))⟩ ?_
    · omega
    rintro _ rfl
    refine VCsplit.intro (fun q8 => ?_) (fun q8 => ?_)
    ·
      simp at q8
    ·
      simp at q8
      refine draw G_ok mixed none (.q 0 (.q 1 (.f 2 (.f 3 (.q 4 (.nil)))))) (by decide +kernel) ?_
      refine call_new (toCluster_ct _ (xa0) ?_) (Rp.mono _ (mem_at 2 rfl) hp0) ?_
      · omega
      rintro v9 A9 o9
      obtain ⟨l9, rfl, o9⟩ := o9
      have r9 := Gt.owrd _ o9
      obtain ⟨l0x9, b1x9, c1x9, b2x9, c2x9, b3x9, c3x9, b4x9, c4x9, rfl, h0x9, h1x9, h2x9, h3x9, h4x9⟩ := gCluster_rd.1 r9
      obtain ⟨b1_0x9, c1_0x9, b2_0x9, c2_0x9, b3_0x9, c3_0x9, rfl, h1_0x9, h2_0x9, h3_0x9⟩ := gQuery_rd.1 h0x9
      refine VC.intro ?_ ?_
      · exact keep_new
      refine call_val (eqCluster_ct _ _ (xa0) (xa0)) ⟨(Rp.mono _ (mem_at 1 rfl) r5), (Rp.mono _ (mem_at 0 rfl) r9)⟩ ?_
      rintro _ rfl
      refine VC.intro ?_ ?_
      · exact keep_new
      refine VCsplit.intro (fun q11 => ?_) (fun q11 => ?_)
      ·
        simp at q11
      ·
        simp at q11
        exact ⟨[], ⟨rfl, rfl⟩, (.le fun a => by (try simp only [setR, List.cons_append, List.nil_append]); simp only [List.flatten_append, List.flatten_cons, List.flatten_nil, List.count_append, List.count_nil, List.append_nil, List.nil_append]; omega)⟩
end Go.Proofs.YtcnclhjhnjpeiaaGreatDoor
