/-
 The law FnExactCellTell: the program's CellTell returns what the reference's returns, for all arguments. Conditions: none.
-/
import Derived.Test.YtjgehblllhkdbaaGreatZt7
import Derived.Test.YtjgehblllhkdbaaGreatRows
namespace Go.Proofs.YtjgehblllhkdbaaGreat
open Go.SX Go.Proofs
namespace fnExactCellTell
open Go.ChangeShapes Go.WideShapes Go.ChangeAt Go.RowKit
theorem own : ownKnob Tryz.prog.godebug = none := by kernel_rfl
theorem laidOut : laidOutB Tryz.prog = true := by kernel_rfl
set_option maxRecDepth 100000 in
theorem lifted (os : Os) (started : os.Started) (H : Type) (enc : TypeId × Value → H) :
  ReturnsInHanded {} Tryz.checked os 7 .any (Rows.fnExactCellTellSpec.pre6 enc Tryz.prog Tryz.f7 Rows.fnExactCellTellRow.domain false) (Rows.fnExactCellTellSpec.post enc Tryz.prog Tryz.f7 false true false false) := by
 refine returnsInHanded_of_change (C := Tryz.checked) own started (by kernel_rfl) Tryz.func7
  (ChangeSpec.witness6 (enc := enc) (C := Tryz.checked) false ⟨#[], #[.agg #[.bool false, .slice none 0 0, .slice none 0 0, .slice none 0 0, .slice none 0 0, .int .i64 0, .int .i64 0, .slice none 0 0]], []⟩ 8 (by kernel_rfl) (by kernel_rfl) (by kernel_rfl) (by kernel_rfl)) ?_
 intro W base args ds gs before hval hW _ _
 have hW' := hW
 obtain ⟨p, q, hA0, hV, rfl, hfz, hnd⟩ := hW
 have hA : DataW.TrodAll enc Tryz.prog W 0 (fun _ => true) true Tryz.f7.params.toList args.toList ds p := hA0
 have hval' : ∀ (j : Nat) t v, Tryz.f7.params[j]? = some t → args[j]? = some v → Value.okWide Tryz.prog W .any base t v := hval
 rw [Tryz.params7] at hA hval'
 obtain ⟨v0, vs0, d0, ds0, p0, q0, hargs, rfl, rfl, h0, r0⟩ := trodAll_cons hA
 obtain ⟨rfl, rfl, rfl⟩ := trodAll_nil r0
 obtain rfl : args = #[v0] := by cases args; simp_all
 have hgs : gs = [] := by cases gs with
  | nil => rfl
  | cons _ _ => exact hV.elim
 subst hgs
 have hx0 := rdV_of (r := gCell.toRp) G_ok (T := 54) rfl (fun _ _ h => by cases h) (fun h => by cases h) (fun _ h => by cases h)
  (opens_Cell) (cov_allOf W) (hval' 0 _ v0 rfl rfl) h0
 exact law_of_ct laidOut (by kernel_rfl) rfl ty4_ok.1 rfl rfl hW' hx0 (fnExactCellTell_ct v0)
theorem and2 {a b : Bool} (h1 : a = true) (h2 : b = true) : (a && b) = true := by rw [h1, h2]; rfl
theorem k3 : mapsRowed Tryz.prog = true := by kernel_rfl
theorem k10 : (Rows.fnExactCellTellRow.inPlace == Tryz.prog.inPlace 7) = true := by kernel_rfl
theorem k11 : (Rows.fnExactCellTellRow.unfollowed == Tryz.prog.unfollowed 7) = true := by kernel_rfl
theorem k12 : (Rows.fnExactCellTellRow.recurses == Tryz.prog.recurses 7) = true := by kernel_rfl
theorem k13 : (Rows.fnExactCellTellRow.named == Tryz.prog.varsNamed 7) = true := by kernel_rfl
theorem k17 : (Rows.fnExactCellTellRow.loops == (Tryz.f7.params.toList ++ Rows.fnExactCellTellSpec.plain.varTypes Tryz.prog).any (Tryz.prog.loopsFrom ·)) = true := by kernel_rfl
theorem k23 : (Rows.fnExactCellTellRow.plainKeys == Tryz.prog.plainKeys) = true := by kernel_rfl
theorem k25 : Tryz.prog.stopsHeard = true := by kernel_rfl
theorem k26 : Tryz.prog.mayEnter = true := by kernel_rfl
theorem k27 : (Rows.fnExactCellTellRow.lifted == Tryz.prog.liftsFinal) = true := by kernel_rfl
theorem k28 : (Tryz.prog.make == some Rows.fnExactCellTellRow.make) = true := by kernel_rfl
theorem closed : joinedFacts Tryz.prog 7 Tryz.f7 Rows.fnExactCellTellSpec Rows.fnExactCellTellRow = true := by
 unfold joinedFacts
 refine (and2 (and2 (and2 (and2 (and2 (and2 (and2 (and2 (and2 (and2 (and2 (and2 (and2 (and2 (and2 (and2 (and2 (and2 (and2 (and2 (and2 (and2 (and2 (and2 (and2 (and2 (and2 (and2 (and2 (and2 (and2 ?_ laidOut) k3) ?_) ?_) ?_) ?_) ?_) ?_) k10) k11) k12) k13) ?_) ?_) ?_) k17) ?_) ?_) ?_) ?_) ?_) k23) ?_) k25) k26) k27) k28) ?_) ?_) ?_) ?_)
 all_goals kernel_rfl
theorem proved : Rows.FnExactCellTellSaid :=
 OpenClaim.holds_of_wide 7 Tryz.f7 rfl rfl rfl rfl rfl rfl rfl ⟨rfl, rfl, rfl, rfl, rfl⟩ rfl rfl rfl rfl rfl (by kernel_rfl) Tryz.func7 closed
  (of_decide_eq_true (by kernel_rfl)) (by unfold Func.isWrapper; first | (rw [if_pos (by decide +kernel)]; kernel_rfl) | (rw [if_neg (by decide +kernel)]; exact ⟨rfl, rfl⟩))
  (fun os started H enc _ => lifted os started H enc)
end fnExactCellTell
end Go.Proofs.YtjgehblllhkdbaaGreat
