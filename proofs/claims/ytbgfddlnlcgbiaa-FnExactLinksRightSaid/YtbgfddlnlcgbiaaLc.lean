/-
  The law of links. Conditions: none.
-/
import Derived.Test.YtbgfddlnlcgbiaaLb
import Derived.Test.YtbgfddlnlcgbiaaRows
namespace Go.Proofs.Ytbgfddlnlcgbiaa
open Go.SX Go.Proofs
namespace fnExactLinksRight
open Go.ChangeShapes Go.WideShapes Go.ChangeAt Go.RowKit

theorem own : ownKnob Try.prog.godebug = none := by kernel_rfl
theorem laidOut : laidOutB Try.prog = true := by kernel_rfl

set_option maxRecDepth 100000 in
theorem lifted (os : Os) (started : os.Started) (H : Type) (enc : TypeId × Value → H) :
    ReturnsInHanded {} Try.checked os 7 .any (Rows.fnExactLinksRightSpec.pre6 enc Try.prog Try.f7 Rows.fnExactLinksRightRow.domain false) (Rows.fnExactLinksRightSpec.post enc Try.prog Try.f7 false true false false) := by
  refine returnsInHanded_of_change (C := Try.checked) own started (by kernel_rfl) Try.func7
    (ChangeSpec.witness6 (enc := enc) (C := Try.checked) false ⟨#[], #[.agg #[.bool false, .slice none 0 0, .slice none 0 0, .slice none 0 0, .slice none 0 0, .slice none 0 0, .slice none 0 0, .slice none 0 0]], []⟩ 8 (by kernel_rfl) (by kernel_rfl) (by kernel_rfl) (by kernel_rfl)) ?_
  intro W base args ds gs before hval hW _ _
  have hW' := hW
  obtain ⟨p, q, hA0, hV, rfl, hfz, hnd⟩ := hW
  have hA : DataW.TrodAll enc Try.prog W 0 (fun _ => true) true Try.f7.params.toList args.toList ds p := hA0
  have hval' : ∀ (j : Nat) t v, Try.f7.params[j]? = some t → args[j]? = some v → Value.okWide Try.prog W .any base t v := hval
  rw [Try.params7] at hA hval'
  obtain ⟨v0, vs0, d0, ds0, p0, q0, hargs, rfl, rfl, h0, r0⟩ := trodAll_cons hA
  obtain ⟨rfl, rfl, rfl⟩ := trodAll_nil r0
  obtain rfl : args = #[v0] := by cases args; simp_all
  have hgs : gs = [] := by cases gs with
    | nil => rfl
    | cons _ _ => exact hV.elim
  subst hgs
  have hx0 := rdV_of (r := gCluster.toRp) G_ok (T := 67) rfl (fun _ _ h => by cases h) (fun h => by cases h) (fun _ h => by cases h)
    (opens_Cluster) (cov_allOf W) (hval' 0 _ v0 rfl rfl) h0
  exact law_of_ct laidOut (by kernel_rfl) rfl ty4_ok.1 rfl rfl hW' hx0 (fnExactLinksRight_ct v0)

theorem proved : Rows.FnExactLinksRightSaid :=
  OpenClaim.holds_of_wide 7 Try.f7 rfl rfl rfl rfl rfl rfl rfl ⟨rfl, rfl, rfl, rfl, rfl⟩ rfl rfl rfl rfl rfl (by kernel_rfl) Try.func7 (by kernel_rfl)
    (of_decide_eq_true (by kernel_rfl)) (by unfold Func.isWrapper; first | (rw [if_pos (by decide +kernel)]; kernel_rfl) | (rw [if_neg (by decide +kernel)]; exact ⟨rfl, rfl⟩))
    (fun os started H enc _ => lifted os started H enc)
end fnExactLinksRight
end Go.Proofs.Ytbgfddlnlcgbiaa
