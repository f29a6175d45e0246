/-
  The law FnExactLoadGraph: the program's LoadGraph returns what the reference's returns, for all arguments (the tied card). Conditions: none.
-/
import Derived.Test.YtcnclhjhnjpeiaaDoorZl3
import Derived.Test.YtcnclhjhnjpeiaaDoorRows

namespace Go.Proofs.YtcnclhjhnjpeiaaDoor
open Go.SX Go.Proofs
theorem tab_in {W : World} (h : laidMet Tryd.prog [("internal/strconv.uint64pow10", Lib.tabData .u64 Lib.pow10Tab)] W) : TabIn (allOf W) := by
  have ht := Lib.tabIs_of_head (P := Tryd.prog) (g := 0) (t := 124) (e := 112) (n := 20) (by kernel_rfl) (by kernel_rfl) Tryd.underlying124 Tryd.underlying112 (by kernel_rfl) (by kernel_rfl) h
  have hg : Tryd.prog.globalNamed "internal/strconv.uint64pow10" = some 0 := by kernel_rfl
  unfold Lib.TabIs World.var? at ht
  rw [hg, Option.bind_some] at ht
  split at ht
  · rename_i cs t fz he
    obtain rfl := Option.some.inj ht
    exact ⟨_, t, fz, hg, mem_allOf.2 he⟩
  cases ht
namespace fnExactLoadGraph
open Go.ChangeShapes Go.WideShapes Go.ChangeAt Go.RowKit

theorem own : ownKnob Tryd.prog.godebug = none := by kernel_rfl
theorem laidOut : laidOutB Tryd.prog = true := by kernel_rfl

set_option maxRecDepth 100000 in
theorem lifted (os : Os) (started : os.Started) (H : Type) (enc : TypeId × Value → H) :
    ReturnsInHanded {} Tryd.checked os 4 .any (fun w args => (Rows.fnExactLoadGraphSpec.pre enc Tryd.prog Tryd.f4 Rows.fnExactLoadGraphRow.domain false w args ∧ laidMetH Tryd.prog Rows.fnExactLoadGraphRow.laid w) ∧ sizedMet enc Tryd.prog Tryd.f4 (OpenSpec.ofChange Rows.fnExactLoadGraphSpec) false w args) (Rows.fnExactLoadGraphSpec.post enc Tryd.prog Tryd.f4 false true false false) := by
  refine returnsInHanded_of_change_and (C := Tryd.checked) (X := fun w _ => laidMetH Tryd.prog Rows.fnExactLoadGraphRow.laid w) (fun _ _ _ hh h => h.of_heap hh) own started (by kernel_rfl) Tryd.func4
    (ChangeSpec.witness_shaped (enc := enc) (C := Tryd.checked) (os := os) (X := fun w _ => laidMetH Tryd.prog Rows.fnExactLoadGraphRow.laid w) false (World.laidAll Tryd.prog os Rows.fnExactLoadGraphRow.laid) #[.string .empty] 8 (World.laidAll_os _ _ _)
      (World.shaped_of_ZipB (by kernel_rfl) (by kernel_rfl)) (by kernel_rfl) (by kernel_rfl) (by kernel_rfl)
      (by rw [MakeChecks.laidMetH_plain _ _ _ (by kernel_rfl)]; exact laidMet_laidAll _ (by kernel_rfl) (by kernel_rfl))) ?_
  intro W base args ds gs before hval hW _ _ hL _
  have hW' := hW
  obtain ⟨p, q, hA0, hV, rfl, hfz, hnd⟩ := hW
  have hA : DataW.TrodAll enc Tryd.prog W 0 (fun _ => true) true Tryd.f4.params.toList args.toList ds p := hA0
  have hval' : ∀ (j : Nat) t v, Tryd.f4.params[j]? = some t → args[j]? = some v → Value.okWide Tryd.prog W .any base t v := hval
  rw [Tryd.params4] at hA hval'
  obtain ⟨v0, vs0, d0, ds0, p0, q0, hargs, rfl, rfl, h0, r0⟩ := trodAll_cons hA
  obtain ⟨rfl, rfl, rfl⟩ := trodAll_nil r0
  obtain rfl : args = #[v0] := by cases args; simp_all
  have hgs : gs = [] := by cases gs with
    | nil => rfl
    | cons _ _ => exact hV.elim
  subst hgs
  have hx0 := rdV_of (r := gS.toRp) G_ok (T := 9) rfl (fun _ _ h => by cases h) (fun h => by cases h) (fun _ h => by cases h)
    (opens_fs ty9_ok.1) (cov_allOf W) (hval' 0 _ v0 rfl rfl) h0
  have hF := hL.filter (fun x => x.1 == "internal/strconv.uint64pow10")
  rw [show (Rows.fnExactLoadGraphRow.laid.filter (fun x => x.1 == "internal/strconv.uint64pow10")) = [("internal/strconv.uint64pow10", Lib.tabData .u64 Lib.pow10Tab)] by kernel_rfl, MakeChecks.laidMetH_plain _ _ _ (by kernel_rfl)] at hF
  exact law_of_ct laidOut (by kernel_rfl) rfl ty4_ok.1 rfl rfl hW' ⟨hx0, tab_in hF⟩ (fnExactLoadGraph_ct v0)

theorem and2 {a b : Bool} (h1 : a = true) (h2 : b = true) : (a && b) = true := by rw [h1, h2]; rfl
theorem k3 : mapsRowed Tryd.prog = true := by kernel_rfl
theorem k10 : (Rows.fnExactLoadGraphRow.inPlace == Tryd.prog.inPlace 4) = true := by kernel_rfl
theorem k11 : (Rows.fnExactLoadGraphRow.unfollowed == Tryd.prog.unfollowed 4) = true := by kernel_rfl
theorem k12 : (Rows.fnExactLoadGraphRow.recurses == Tryd.prog.recurses 4) = true := by kernel_rfl
theorem k13 : (Rows.fnExactLoadGraphRow.named == Tryd.prog.varsNamed 4) = true := by kernel_rfl
theorem k17 : (Rows.fnExactLoadGraphRow.loops == (Tryd.f4.params.toList ++ Rows.fnExactLoadGraphSpec.plain.varTypes Tryd.prog).any (Tryd.prog.loopsFrom ·)) = true := by kernel_rfl
theorem k23 : (Rows.fnExactLoadGraphRow.plainKeys == Tryd.prog.plainKeys) = true := by kernel_rfl
theorem k25 : Tryd.prog.stopsHeard = true := by kernel_rfl
theorem k26 : Tryd.prog.mayEnter = true := by kernel_rfl
theorem k27 : (Rows.fnExactLoadGraphRow.lifted == Tryd.prog.liftsFinal) = true := by kernel_rfl
theorem k28 : (Tryd.prog.make == some Rows.fnExactLoadGraphRow.make) = true := by kernel_rfl
theorem closed : joinedFacts Tryd.prog 4 Tryd.f4 Rows.fnExactLoadGraphSpec Rows.fnExactLoadGraphRow = true := by
  unfold joinedFacts
  refine (and2 (and2 (and2 (and2 (and2 (and2 (and2 (and2 (and2 (and2 (and2 (and2 (and2 (and2 (and2 (and2 (and2 (and2 (and2 (and2 (and2 (and2 (and2 (and2 (and2 (and2 (and2 (and2 (and2 (and2 (and2 ?_ laidOut) k3) ?_) ?_) ?_) ?_) ?_) ?_) k10) k11) k12) k13) ?_) ?_) ?_) k17) ?_) ?_) ?_) ?_) ?_) k23) ?_) k25) k26) k27) k28) ?_) ?_) ?_) ?_)
  all_goals kernel_rfl

theorem row : Rows.FnExactLoadGraphSaid :=
  OpenClaim.holds_of_wide 4 Tryd.f4 rfl rfl rfl rfl rfl rfl rfl ⟨rfl, rfl, rfl, rfl, rfl⟩ rfl rfl rfl rfl rfl (by kernel_rfl) Tryd.func4 closed
    (of_decide_eq_true (by kernel_rfl)) (by unfold Func.isWrapper; first | (rw [if_pos (by decide +kernel)]; kernel_rfl) | (rw [if_neg (by decide +kernel)]; exact ⟨rfl, rfl⟩))
    (fun os started H enc _ => lifted os started H enc)
theorem proved : Rows.FnExactLoadGraphCardSaid :=
  Claim7.holds_tied_plain_at .later [] [.data, .data, .data, .data, .pinned] true (true, "68ede35ad842d83877ba65cc26640d9db98dbe42465f4c9c3d7995dd6c6393be") false row (fun _ h => by cases h) (by kernel_rfl) (fun _ h => by cases h) fnExactLoadGraph_row_tie rfl ⟨rfl, rfl⟩ (by kernel_rfl) rfl
    (fun f fn hf hfn => by
      obtain rfl : f = 4 := Option.some.inj ((show Tryd.prog.funcNamed "loop.example/g00250/laws.FnExactLoadGraph" = some 4 by kernel_rfl).symm.trans hf) |>.symm
      obtain rfl : fn = Tryd.f4 := (Option.some.inj (Tryd.func4.symm.trans hfn)).symm
      exact ⟨by kernel_rfl, fun j t ht => by
        rw [Tryd.params4] at ht
        have hm : t ∈ [9] := by simpa using Array.mem_of_getElem? ht
        have hall : ([9].all fun u => !Tryd.prog.wantsStandIn u) = true := by kernel_rfl
        exact (show Tryd.prog.wantsStandIn t = false by simpa using List.all_eq_true.1 hall t hm)⟩)
    (by kernel_rfl)
end fnExactLoadGraph
end Go.Proofs.YtcnclhjhnjpeiaaDoor
