/-
  The order of rows, labels. Conditions: none.
-/
import Derived.Test.YtcnclhjhnjpeiaaDoorHe
namespace Go.Proofs.YtcnclhjhnjpeiaaDoor
open Go.SX Go.Proofs
set_option linter.unusedSimpArgs false
set_option linter.unusedVariables false
set_option maxHeartbeats 4000000
attribute [local irreducible] IntKind.wrap

def cmpI (a b : Int) : Int := if a < b then -1 else if b < a then 1 else 0
def cmpL : List Int → List Int → Int
  | [], [] => 0
  | [], _ :: _ => -1
  | _ :: _, [] => 1
  | a :: r, b :: s => if a < b then -1 else if b < a then 1 else cmpL r s

--@ct cmp.isNaN[int] val isNaN_ct _
theorem isNaN_ct (a : Int) : Ct Tryd.prog 92 [.int .i64 a] [] (fun _ => True) (fun v A => v = .bool false ∧ A = []) := by
  refine Ct.intro0 G_ok Tryd.func92 rfl rfl rfl fun E H hp => ?_
  exact ⟨[], ⟨by simp, rfl⟩, (.le fun a => by (try simp only [setR, List.cons_append, List.nil_append]); simp only [List.flatten_append, List.flatten_cons, List.flatten_nil, List.count_append, List.count_nil, List.append_nil, List.nil_append]; omega)⟩
--@ct cmp.Compare[int] val cmpCompare_ct _ _
theorem cmpCompare_ct (a b : Int) : Ct Tryd.prog 82 [.int .i64 a, .int .i64 b] [] (fun _ => True) (fun v A => v = .int .i64 (cmpI a b) ∧ A = []) := by
  refine Ct.intro0 G_ok Tryd.func82 rfl rfl rfl fun E H hp => ?_
  refine call_val (isNaN_ct _) trivial ?_
  rintro _ rfl
  refine call_val (isNaN_ct _) trivial ?_
  rintro _ rfl
  refine VCsplit.intro (fun q2 => ?_) (fun q2 => ?_)
  ·
    simp at q2
  ·
    simp at q2
    refine VCsplit.intro (fun q3 => ?_) (fun q3 => ?_)
    ·
      simp at q3
    ·
      simp at q3
      refine VCsplit.intro (fun q4 => ?_) (fun q4 => ?_)
      ·
        simp at q4
        exact ⟨[], ⟨by unfold cmpI; rw [if_pos (by omega)], rfl⟩, (.le fun a => by (try simp only [setR, List.cons_append, List.nil_append]); simp only [List.flatten_append, List.flatten_cons, List.flatten_nil, List.count_append, List.count_nil, List.append_nil, List.nil_append]; omega)⟩
      ·
        simp at q4
        refine VCsplit.intro (fun q5 => ?_) (fun q5 => ?_)
        ·
          simp at q5
          exact ⟨[], ⟨by unfold cmpI; rw [if_neg (by omega), if_pos (by omega)], rfl⟩, (.le fun a => by (try simp only [setR, List.cons_append, List.nil_append]); simp only [List.flatten_append, List.flatten_cons, List.flatten_nil, List.count_append, List.count_nil, List.append_nil, List.nil_append]; omega)⟩
        ·
          simp at q5
          exact ⟨[], ⟨by unfold cmpI; rw [if_neg (by omega), if_neg (by omega)], rfl⟩, (.le fun a => by (try simp only [setR, List.cons_append, List.nil_append]); simp only [List.flatten_append, List.flatten_cons, List.flatten_nil, List.count_append, List.count_nil, List.append_nil, List.nil_append]; omega)⟩
theorem cmpL_drop {xs ys : List Int} (k : Nat) (h1 : k < xs.length) (h2 : k < ys.length) :
    cmpL (xs.drop k) (ys.drop k) = if cmpI (xs[k]?.getD 0) (ys[k]?.getD 0) = 0 then cmpL (xs.drop (k + 1)) (ys.drop (k + 1)) else cmpI (xs[k]?.getD 0) (ys[k]?.getD 0) := by
  rw [List.drop_eq_getElem_cons h1, List.drop_eq_getElem_cons h2, List.getElem?_eq_getElem h1, List.getElem?_eq_getElem h2]
  simp only [Option.getD_some, cmpL, cmpI]
  split
  · simp
  · split
    · simp
    · simp
--@ct slices.Compare[[]int,int] val sCompare_ct _ _ _ _ _ _ $1 $2 | ⟨%1, %2⟩
theorem sCompare_ct (b1 : Option Addr) (m1 c1 : Nat) (b2 : Option Addr) (m2 c2 : Nat) (xs ys : List Int) :
    Ct Tryd.prog 73 [.slice b1 m1 c1, .slice b2 m2 c2] [] (fun H => (gSl 3 gI).rd H [.slice b1 m1 c1] xs ∧ (gSl 3 gI).rd H [.slice b2 m2 c2] ys) (fun v A => v = .int .i64 (cmpL xs ys) ∧ A = []) := by
  refine Ct.intro0 G_ok Tryd.func73 rfl rfl rfl fun E H hp => ?_
  obtain ⟨hp1, hp2⟩ := hp
  obtain ⟨rfl, hc1, hl1⟩ := sl_len hp1
  obtain ⟨rfl, hc2, hl2⟩ := sl_len hp2
  apply loop_mod (α := (Nat)) G_ok [12, 13, 14, 15, 5, 6, 16, 17, 18, 19, 4, 20, 21, 22, 23, 7, 24, 25, 26, 8, 27, 28, 29, 30, 11] (fun z => [(11, .v (.int .i64 z))]) (fun z => []) (fun z => [H]) (fun z => xs.length - z) (fun z => z ≤ xs.length ∧ z ≤ ys.length ∧ cmpL xs ys = cmpL (xs.drop z) (ys.drop z)) (0)
  · repeat' (first | exact trivial | refine ⟨⟨_, rfl, by first | rfl | exact inc_eq _ (by omega) | (refine sl_eq ?_; simp; done), by first | exact trivial | simp [SV.ok]⟩, ?_⟩)
  · exact trivial
  · exact ⟨by omega, by omega, by simp⟩
  · exact .refl _
  rintro k hI
  obtain ⟨hk, hk2, he⟩ : k ≤ xs.length ∧ k ≤ ys.length ∧ cmpL xs ys = cmpL (xs.drop k) (ys.drop k) := hI
  try dsimp only
  refine VCsplit.intro (fun q0 => ?_) (fun q0 => ?_)
  ·
    simp at q0
    refine idx_rd hp1 ?_ ?_ fun b1 o1 hb1 => ?_
    · omega
    · omega
    refine load_allN 0 (k) rfl hp1 ?_ ?_ hb1 rfl (mem_at 0 rfl) fun l2 hl2 => ?_
    · omega
    · omega
    obtain ⟨rfl, hw2⟩ := hl2; simp only [flStr, flInt, okI] at hw2
    refine VCsplit.intro (fun q3 => ?_) (fun q3 => ?_)
    ·
      simp at q3
      exact ⟨[], ⟨by rw [he, List.drop_eq_getElem_cons (by omega : k < xs.length), List.drop_eq_nil_of_le (by omega : ys.length ≤ k)]; rfl, rfl⟩, (.le fun a => by (try simp only [setR, List.cons_append, List.nil_append]); simp only [List.flatten_append, List.flatten_cons, List.flatten_nil, List.count_append, List.count_nil, List.append_nil, List.nil_append]; omega)⟩
    ·
      simp at q3
      refine idx_rd hp2 ?_ ?_ fun b4 o4 hb4 => ?_
      · omega
      · omega
      refine load_allN 0 (k) rfl hp2 ?_ ?_ hb4 rfl (mem_at 0 rfl) fun l5 hl5 => ?_
      · omega
      · omega
      obtain ⟨rfl, hw5⟩ := hl5; simp only [flStr, flInt, okI] at hw5
      refine call_val (cmpCompare_ct _ _) trivial ?_
      rintro _ rfl
      refine VCsplit.intro (fun q7 => ?_) (fun q7 => ?_)
      ·
        simp at q7
        exact ⟨[], ⟨by rw [he, cmpL_drop k (by omega) (by omega), if_neg (by assumption)], rfl⟩, (.le fun a => by (try simp only [setR, List.cons_append, List.nil_append]); simp only [List.flatten_append, List.flatten_cons, List.flatten_nil, List.count_append, List.count_nil, List.append_nil, List.nil_append]; omega)⟩
      ·
        simp at q7
        apply loop_stepA (k + 1)
        · exact .refl _
        · repeat' (first | exact trivial | refine ⟨⟨_, rfl, by first | rfl | exact inc_eq _ (by omega) | (refine sl_eq ?_; simp; done), by first | exact trivial | simp [SV.ok]⟩, ?_⟩)
        · exact trivial
        · exact ⟨by omega, by omega, by rw [he, cmpL_drop k (by omega) (by omega), if_pos (by assumption)]⟩
        · omega
  ·
    simp at q0
    refine VCsplit.intro (fun q8 => ?_) (fun q8 => ?_)
    ·
      simp at q8
      exact ⟨[], ⟨by rw [he, List.drop_eq_getElem_cons (by omega : k < ys.length), List.drop_eq_nil_of_le (by omega : xs.length ≤ k)]; rfl, rfl⟩, (.le fun a => by (try simp only [setR, List.cons_append, List.nil_append]); simp only [List.flatten_append, List.flatten_cons, List.flatten_nil, List.count_append, List.count_nil, List.append_nil, List.nil_append]; omega)⟩
    ·
      simp at q8
      exact ⟨[], ⟨by rw [he, List.drop_eq_nil_of_le (by omega : ys.length ≤ k), List.drop_eq_nil_of_le (by omega : xs.length ≤ k)]; rfl, rfl⟩, (.le fun a => by (try simp only [setR, List.cons_append, List.nil_append]); simp only [List.flatten_append, List.flatten_cons, List.flatten_nil, List.count_append, List.count_nil, List.append_nil, List.nil_append]; omega)⟩

def labelOk (b : UInt8) : Bool := decide (97 ≤ (b.toNat : Int)) && decide ((b.toNat : Int) ≤ 100)
--@ct impl.isLabel val isLabel_ct _
theorem isLabel_ct (b : UInt8) : Ct Tryd.prog 43 [.int .u8 b.toNat] [] (fun _ => True) (fun v A => v = .bool (labelOk b) ∧ A = []) := by
  refine Ct.intro0 G_ok Tryd.func43 rfl rfl rfl fun E H hp => ?_
  refine VCsplit.intro (fun q0 => ?_) (fun q0 => ?_)
  ·
    simp at q0
    exact ⟨[], ⟨by unfold labelOk; first | rw [decide_eq_true (by omega : (97 : Int) ≤ b.toNat), Bool.true_and] | rw [decide_eq_false (by omega : ¬ (97 : Int) ≤ b.toNat), Bool.false_and], rfl⟩, (.le fun a => by (try simp only [setR, List.cons_append, List.nil_append]); simp only [List.flatten_append, List.flatten_cons, List.flatten_nil, List.count_append, List.count_nil, List.append_nil, List.nil_append]; omega)⟩
  ·
    simp at q0
    exact ⟨[], ⟨by unfold labelOk; first | rw [decide_eq_true (by omega : (97 : Int) ≤ b.toNat), Bool.true_and] | rw [decide_eq_false (by omega : ¬ (97 : Int) ≤ b.toNat), Bool.false_and], rfl⟩, (.le fun a => by (try simp only [setR, List.cons_append, List.nil_append]); simp only [List.flatten_append, List.flatten_cons, List.flatten_nil, List.count_append, List.count_nil, List.append_nil, List.nil_append]; omega)⟩

end Go.Proofs.YtcnclhjhnjpeiaaDoor
