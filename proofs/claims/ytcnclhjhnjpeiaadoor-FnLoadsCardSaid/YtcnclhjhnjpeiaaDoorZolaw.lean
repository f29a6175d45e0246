/-
  The law FnLoads: a graph can be parsed from its text; ignored lines, the order of edges and repeated edges make no difference (the tied card). Conditions: none.
-/
import Derived.Test.YtcnclhjhnjpeiaaDoorZo3
import Derived.Test.YtcnclhjhnjpeiaaDoorRows

namespace Go.Proofs.YtcnclhjhnjpeiaaDoor
open Go.SX Go.Proofs
theorem tab_in {W : World} (h : laidMet Tryd.prog [("internal/strconv.uint64pow10", Lib.tabData .u64 Lib.pow10Tab)] W) : TabIn (allOf W) := by
  have ht := Lib.tabIs_of_head (P := Tryd.prog) (g := 0) (t := 124) (e := 112) (n := 20) (by kernel_rfl) (by kernel_rfl) Tryd.underlying124 Tryd.underlying112 (by kernel_rfl) (by kernel_rfl) h
  have hg : Tryd.prog.globalNamed "internal/strconv.uint64pow10" = some 0 := by kernel_rfl
  unfold Lib.TabIs World.var? at ht
  rw [hg, Option.bind_some] at ht
  split at ht
  · rename_i cs t fz he
    obtain rfl := Option.some.inj ht
    exact ⟨_, t, fz, hg, mem_allOf.2 he⟩
  cases ht
namespace fnLoads
open Go.ChangeShapes Go.WideShapes Go.ChangeAt Go.RowKit

theorem own : ownKnob Tryd.prog.godebug = none := by kernel_rfl
theorem laidOut : laidOutB Tryd.prog = true := by kernel_rfl

set_option maxRecDepth 100000 in
theorem lifted (os : Os) (started : os.Started) (H : Type) (enc : TypeId × Value → H) :
    ReturnsInHanded {} Tryd.checked os 5 .any (fun w args => (Rows.fnLoadsSpec.pre enc Tryd.prog Tryd.f5 Rows.fnLoadsRow.domain false w args ∧ laidMetH Tryd.prog Rows.fnLoadsRow.laid w) ∧ sizedMet enc Tryd.prog Tryd.f5 (OpenSpec.ofChange Rows.fnLoadsSpec) false w args) (Rows.fnLoadsSpec.post enc Tryd.prog Tryd.f5 false true false false) := by
  refine returnsInHanded_of_change_and (C := Tryd.checked) (X := fun w _ => laidMetH Tryd.prog Rows.fnLoadsRow.laid w) (fun _ _ _ hh h => h.of_heap hh) own started (by kernel_rfl) Tryd.func5
    (ChangeSpec.witness_shaped (enc := enc) (C := Tryd.checked) (os := os) (X := fun w _ => laidMetH Tryd.prog Rows.fnLoadsRow.laid w) false (World.laidAll Tryd.prog os Rows.fnLoadsRow.laid) #[.slice none 0 0] 8 (World.laidAll_os _ _ _)
      (World.shaped_of_ZipB (by kernel_rfl) (by kernel_rfl)) (by kernel_rfl) (by kernel_rfl) (by kernel_rfl)
      (by rw [MakeChecks.laidMetH_plain _ _ _ (by kernel_rfl)]; exact laidMet_laidAll _ (by kernel_rfl) (by kernel_rfl))) ?_
  intro W base args ds gs before hval hW _ _ hL _
  have hW' := hW
  obtain ⟨p, q, hA0, hV, rfl, hfz, hnd⟩ := hW
  have hA : DataW.TrodAll enc Tryd.prog W 0 (fun _ => true) true Tryd.f5.params.toList args.toList ds p := hA0
  have hval' : ∀ (j : Nat) t v, Tryd.f5.params[j]? = some t → args[j]? = some v → Value.okWide Tryd.prog W .any base t v := hval
  rw [Tryd.params5] at hA hval'
  obtain ⟨v0, vs0, d0, ds0, p0, q0, hargs, rfl, rfl, h0, r0⟩ := trodAll_cons hA
  obtain ⟨rfl, rfl, rfl⟩ := trodAll_nil r0
  obtain rfl : args = #[v0] := by cases args; simp_all
  have hgs : gs = [] := by cases gs with
    | nil => rfl
    | cons _ _ => exact hV.elim
  subst hgs
  have hx0 := rdV_of (r := rpSl flByte.rp) G_ok (T := 37) rfl (fun _ _ h => by cases h) (fun h => by cases h) (fun _ h => by cases h)
    (opens_sl ty37_ok.1 (by kernel_rfl) (by decide) (opens_fy ty5_ok.1)) (cov_allOf W) (hval' 0 _ v0 rfl rfl) h0
  have hF := hL.filter (fun x => x.1 == "internal/strconv.uint64pow10")
  rw [show (Rows.fnLoadsRow.laid.filter (fun x => x.1 == "internal/strconv.uint64pow10")) = [("internal/strconv.uint64pow10", Lib.tabData .u64 Lib.pow10Tab)] by kernel_rfl, MakeChecks.laidMetH_plain _ _ _ (by kernel_rfl)] at hF
  exact law_of_ct laidOut (by kernel_rfl) rfl ty4_ok.1 rfl rfl hW' ⟨hx0, tab_in hF⟩ (fnLoads_ct v0)

theorem and2 {a b : Bool} (h1 : a = true) (h2 : b = true) : (a && b) = true := by rw [h1, h2]; rfl
theorem k3 : mapsRowed Tryd.prog = true := by kernel_rfl
theorem k10 : (Rows.fnLoadsRow.inPlace == Tryd.prog.inPlace 5) = true := by kernel_rfl
theorem k11 : (Rows.fnLoadsRow.unfollowed == Tryd.prog.unfollowed 5) = true := by kernel_rfl
theorem k12 : (Rows.fnLoadsRow.recurses == Tryd.prog.recurses 5) = true := by kernel_rfl
theorem k13 : (Rows.fnLoadsRow.named == Tryd.prog.varsNamed 5) = true := by kernel_rfl
theorem k17 : (Rows.fnLoadsRow.loops == (Tryd.f5.params.toList ++ Rows.fnLoadsSpec.plain.varTypes Tryd.prog).any (Tryd.prog.loopsFrom ·)) = true := by kernel_rfl
theorem k23 : (Rows.fnLoadsRow.plainKeys == Tryd.prog.plainKeys) = true := by kernel_rfl
theorem k25 : Tryd.prog.stopsHeard = true := by kernel_rfl
theorem k26 : Tryd.prog.mayEnter = true := by kernel_rfl
theorem k27 : (Rows.fnLoadsRow.lifted == Tryd.prog.liftsFinal) = true := by kernel_rfl
theorem k28 : (Tryd.prog.make == some Rows.fnLoadsRow.make) = true := by kernel_rfl
theorem closed : joinedFacts Tryd.prog 5 Tryd.f5 Rows.fnLoadsSpec Rows.fnLoadsRow = true := by
  unfold joinedFacts
  refine (and2 (and2 (and2 (and2 (and2 (and2 (and2 (and2 (and2 (and2 (and2 (and2 (and2 (and2 (and2 (and2 (and2 (and2 (and2 (and2 (and2 (and2 (and2 (and2 (and2 (and2 (and2 (and2 (and2 (and2 (and2 ?_ laidOut) k3) ?_) ?_) ?_) ?_) ?_) ?_) k10) k11) k12) k13) ?_) ?_) ?_) k17) ?_) ?_) ?_) ?_) ?_) k23) ?_) k25) k26) k27) k28) ?_) ?_) ?_) ?_)
  all_goals kernel_rfl

theorem row : Rows.FnLoadsSaid :=
  OpenClaim.holds_of_wide 5 Tryd.f5 rfl rfl rfl rfl rfl rfl rfl ⟨rfl, rfl, rfl, rfl, rfl⟩ rfl rfl rfl rfl rfl (by kernel_rfl) Tryd.func5 closed
    (of_decide_eq_true (by kernel_rfl)) (by unfold Func.isWrapper; first | (rw [if_pos (by decide +kernel)]; kernel_rfl) | (rw [if_neg (by decide +kernel)]; exact ⟨rfl, rfl⟩))
    (fun os started H enc _ => lifted os started H enc)
theorem proved : Rows.FnLoadsCardSaid :=
  Claim7.holds_tied_plain_at .later [] [.data, .data, .data, .data, .pinned] true (true, "68ede35ad842d83877ba65cc26640d9db98dbe42465f4c9c3d7995dd6c6393be") false row (fun _ h => by cases h) (by kernel_rfl) (fun _ h => by cases h) fnLoads_row_tie rfl ⟨rfl, rfl⟩ (by kernel_rfl) rfl
    (fun f fn hf hfn => by
      obtain rfl : f = 5 := Option.some.inj ((show Tryd.prog.funcNamed "loop.example/g00250/laws.FnLoads" = some 5 by kernel_rfl).symm.trans hf) |>.symm
      obtain rfl : fn = Tryd.f5 := (Option.some.inj (Tryd.func5.symm.trans hfn)).symm
      exact ⟨by kernel_rfl, fun j t ht => by
        rw [Tryd.params5] at ht
        have hm : t ∈ [37] := by simpa using Array.mem_of_getElem? ht
        have hall : ([37].all fun u => !Tryd.prog.wantsStandIn u) = true := by kernel_rfl
        exact (show Tryd.prog.wantsStandIn t = false by simpa using List.all_eq_true.1 hall t hm)⟩)
    (by kernel_rfl)
end fnLoads
end Go.Proofs.YtcnclhjhnjpeiaaDoor
