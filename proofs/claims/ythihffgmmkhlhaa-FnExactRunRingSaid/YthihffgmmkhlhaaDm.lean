/-
  The law RingStep. Conditions: none.
-/
import Derived.Test.YthihffgmmkhlhaaDl
import Derived.Test.YthihffgmmkhlhaaCl
import Derived.Test.YthihffgmmkhlhaaRows
namespace Go.Proofs.Ythihffgmmkhlhaa
open Go.SX Go.Proofs

theorem opens_turn {P : Program} {T a b c : TypeId} (h : UD.ok P T (.struct [(0, a), (1, b), (2, c)])) (hT : P.cellsOf T = 3) (ha : P.cellsOf a = 1) (hb : P.cellsOf b = 1) (hc : P.cellsOf c = 1)
    (oa : Opens P rpInt a) (ob : Opens P rpInt b) (oc : Opens P rpInt c) : Opens P rpTurn T := by
  intro H' enc w H sp hd fuel cs d ps hcov ht
  obtain ⟨h1, h2⟩ := trod_fields h ht
  rw [hT] at h1
  match cs, h1 with
  | [c0, c1, c2], _ =>
    obtain ⟨_, _, g0⟩ := h2 0 0 a rfl
    obtain ⟨_, _, g1⟩ := h2 1 1 b rfl
    obtain ⟨_, _, g2⟩ := h2 2 2 c rfl
    rw [ha] at g0; rw [hb] at g1; rw [hc] at g2
    obtain ⟨x0, e0, k0⟩ := oa _ _ H _ _ _ _ _ _ hcov g0
    obtain ⟨x1, e1, k1⟩ := ob _ _ H _ _ _ _ _ _ hcov g1
    obtain ⟨x2, e2, k2⟩ := oc _ _ H _ _ _ _ _ _ hcov g2
    simp only [List.drop_zero, List.take_succ_cons, List.take_zero, List.cons.injEq, and_true, List.drop_succ_cons] at e0 e1 e2
    subst e0 e1 e2
    exact ⟨⟨x0, x1, x2⟩, rfl, k0, k1, k2⟩

namespace fnExactRingStep
open Go.ChangeShapes Go.WideShapes Go.ChangeAt Go.RowKit

theorem own : ownKnob Try.prog.godebug = none := by kernel_rfl
theorem laidOut : laidOutB Try.prog = true := by kernel_rfl

set_option maxRecDepth 100000 in
theorem lifted (os : Os) (started : os.Started) (H : Type) (enc : TypeId × Value → H) :
    ReturnsInHanded {} Try.checked os 7 .any (Rows.fnExactRingStepSpec.pre6 enc Try.prog Try.f7 Rows.fnExactRingStepRow.domain false) (Rows.fnExactRingStepSpec.post enc Try.prog Try.f7 false true false false) := by
  refine returnsInHanded_of_change (C := Try.checked) own started (by kernel_rfl) Try.func7
    (ChangeSpec.witness6 (enc := enc) (C := Try.checked) false ⟨#[], #[.agg #[.slice none 0 0, .slice none 0 0, .slice none 0 0, .slice none 0 0, .int .i64 0, .int .i64 0, .bool false, .bool false], .agg #[.int .i64 0, .int .i64 0, .int .i64 0]], []⟩ 8 (by kernel_rfl) (by kernel_rfl) (by kernel_rfl) (by kernel_rfl)) ?_
  intro W base args ds gs before hval hW _ _
  have hW' := hW
  obtain ⟨p, q, hA0, hV, rfl, hfz, hnd⟩ := hW
  have hA : DataW.TrodAll enc Try.prog W 0 (fun _ => true) true Try.f7.params.toList args.toList ds p := hA0
  have hval' : ∀ (j : Nat) t v, Try.f7.params[j]? = some t → args[j]? = some v → Value.okWide Try.prog W .any base t v := hval
  rw [Try.params7] at hA hval'
  obtain ⟨v0, vs0, d0, ds0, p0, q0, hargs, rfl, rfl, h0, r0⟩ := trodAll_cons hA
  obtain ⟨v1, vs1, d1, ds1, p1, q1, rfl, rfl, rfl, h1, r1⟩ := trodAll_cons r0
  obtain ⟨rfl, rfl, rfl⟩ := trodAll_nil r1
  obtain rfl : args = #[v0, v1] := by cases args; simp_all
  have hgs : gs = [] := by cases gs with
    | nil => rfl
    | cons _ _ => exact hV.elim
  subst hgs
  have hx0 := rdV_of (r := rpRing) G_ok (T := 31) rfl (fun _ _ h => by cases h) (fun h => by cases h) (fun _ h => by cases h)
    (opens_ring ty31_ok.1 (by kernel_rfl) (by kernel_rfl) (by kernel_rfl) (by kernel_rfl) (by kernel_rfl) (opens_bool ty4_ok.1) (opens_int ty3_ok.1) (opens_sl ty28_ok.1 (by kernel_rfl) (by decide) (opens_fb ty4_ok.1)) (opens_sl ty29_ok.1 (by kernel_rfl) (by decide) (opens_fi ty3_ok.1))) (cov_allOf W) (hval' 0 _ v0 rfl rfl) h0
  have hx1 := rdV_of (r := rpTurn) G_ok (T := 50) rfl (fun _ _ h => by cases h) (fun h => by cases h) (fun _ h => by cases h)
    (opens_turn ty50_ok.1 (by kernel_rfl) (by kernel_rfl) (by kernel_rfl) (by kernel_rfl) (opens_int ty3_ok.1) (opens_int ty3_ok.1) (opens_int ty3_ok.1)) (cov_allOf W) (hval' 1 _ v1 rfl rfl) h1
  exact law_of_ct laidOut (by kernel_rfl) rfl ty4_ok.1 rfl rfl hW' ⟨hx0, hx1⟩ (fnExactRingStep_ct v0 v1)

theorem proved : Rows.FnExactRingStepSaid :=
  OpenClaim.holds_of_wide 7 Try.f7 rfl rfl rfl rfl rfl rfl rfl ⟨rfl, rfl, rfl, rfl, rfl⟩ rfl rfl rfl rfl rfl (by kernel_rfl) Try.func7 (by kernel_rfl)
    (of_decide_eq_true (by kernel_rfl)) (by unfold Func.isWrapper; first | (rw [if_pos (by decide +kernel)]; kernel_rfl) | (rw [if_neg (by decide +kernel)]; exact ⟨rfl, rfl⟩))
    (fun os started H enc _ => lifted os started H enc)
end fnExactRingStep
end Go.Proofs.Ythihffgmmkhlhaa
