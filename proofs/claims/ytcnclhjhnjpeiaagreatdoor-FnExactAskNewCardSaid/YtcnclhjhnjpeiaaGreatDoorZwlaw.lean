/-
 The law FnExactAskNew: the program's AskNew returns what the reference's returns, for all arguments (the tied card). Conditions: none.
-/
import Derived.Test.YtcnclhjhnjpeiaaGreatDoorZw6
import Derived.Test.YtcnclhjhnjpeiaaGreatDoorRows
namespace Go.Proofs.YtcnclhjhnjpeiaaGreatDoor
open Go.SX Go.Proofs
theorem tab_in {W : World} (h : laidMet Tryz.prog [("internal/strconv.uint64pow10", Lib.tabData .u64 Lib.pow10Tab)] W) : TabIn (allOf W) := by
 have ht := Lib.tabIs_of_head (P := Tryz.prog) (g := 0) (t := 313) (e := 287) (n := 20) (by kernel_rfl) (by kernel_rfl) Tryz.underlying313 Tryz.underlying287 (by kernel_rfl) (by kernel_rfl) h
 have hg : Tryz.prog.globalNamed "internal/strconv.uint64pow10" = some 0 := by kernel_rfl
 unfold Lib.TabIs World.var? at ht
 rw [hg, Option.bind_some] at ht
 split at ht
 ·rename_i cs t fz he
  obtain rfl := Option.some.inj ht
  exact ⟨_, t, fz, hg, mem_allOf.2 he⟩
 cases ht
namespace fnExactAskNew
open Go.ChangeShapes Go.WideShapes Go.ChangeAt Go.RowKit
theorem own : ownKnob Tryz.prog.godebug = none := by kernel_rfl
theorem laidOut : laidOutB Tryz.prog = true := by kernel_rfl
set_option maxRecDepth 100000 in
theorem lifted (os : Os) (started : os.Started) (H : Type) (enc : TypeId × Value → H) :
  ReturnsInHanded {} Tryz.checked os 4 .any (fun w args => (Rows.fnExactAskNewSpec.pre enc Tryz.prog Tryz.f4 Rows.fnExactAskNewRow.domain false w args ∧ laidMetH Tryz.prog Rows.fnExactAskNewRow.laid w) ∧ sizedMet enc Tryz.prog Tryz.f4 (OpenSpec.ofChange Rows.fnExactAskNewSpec) false w args) (Rows.fnExactAskNewSpec.post enc Tryz.prog Tryz.f4 false true false false) := by
 refine returnsInHanded_of_change_and (C := Tryz.checked) (X := fun w _ => laidMetH Tryz.prog Rows.fnExactAskNewRow.laid w) (fun _ _ _ hh h => h.of_heap hh) own started (by kernel_rfl) Tryz.func4
  (ChangeSpec.witness_shaped (enc := enc) (C := Tryz.checked) (os := os) (X := fun w _ => laidMetH Tryz.prog Rows.fnExactAskNewRow.laid w) false (World.laidAll Tryz.prog os Rows.fnExactAskNewRow.laid) #[.agg #[.bool false, .slice none 0 0, .slice none 0 0, .slice none 0 0], .int .i64 0] 8 (World.laidAll_os _ _ _)
   (World.shaped_of_ZipB (by kernel_rfl) (by kernel_rfl)) (by kernel_rfl) (by kernel_rfl) (by kernel_rfl)
   (by rw [MakeChecks.laidMetH_plain _ _ _ (by kernel_rfl)]; exact laidMet_laidAll _ (by kernel_rfl) (by kernel_rfl))) ?_
 intro W base args ds gs before hval hW _ _ hL _
 have hW' := hW
 obtain ⟨p, q, hA0, hV, rfl, hfz, hnd⟩ := hW
 have hA : DataW.TrodAll enc Tryz.prog W 0 (fun _ => true) true Tryz.f4.params.toList args.toList ds p := hA0
 have hval' : ∀ (j : Nat) t v, Tryz.f4.params[j]? = some t → args[j]? = some v → Value.okWide Tryz.prog W .any base t v := hval
 rw [Tryz.params4] at hA hval'
 obtain ⟨v0, vs0, d0, ds0, p0, q0, hargs, rfl, rfl, h0, r0⟩ := trodAll_cons hA
 obtain ⟨v1, vs1, d1, ds1, p1, q1, rfl, rfl, rfl, h1, r1⟩ := trodAll_cons r0
 obtain ⟨rfl, rfl, rfl⟩ := trodAll_nil r1
 obtain rfl : args = #[v0, v1] := by cases args; simp_all
 have hgs : gs = [] := by cases gs with
  | nil => rfl
  | cons _ _ => exact hV.elim
 subst hgs
 have hx0 := rdV_of (r := gQuery.toRp) G_ok (T := 26) rfl (fun _ _ h => by cases h) (fun h => by cases h) (fun _ h => by cases h)
  (opens_Query) (cov_allOf W) (hval' 0 _ v0 rfl rfl) h0
 have hx1 := rdV_of (r := gI.toRp) G_ok (T := 3) rfl (fun _ _ h => by cases h) (fun h => by cases h) (fun _ h => by cases h)
  (opens_fi ty3_ok.1) (cov_allOf W) (hval' 1 _ v1 rfl rfl) h1
 have hF := hL.filter (fun x => x.1 == "internal/strconv.uint64pow10")
 rw [show (Rows.fnExactAskNewRow.laid.filter (fun x => x.1 == "internal/strconv.uint64pow10")) = [("internal/strconv.uint64pow10", Lib.tabData .u64 Lib.pow10Tab)] by kernel_rfl, MakeChecks.laidMetH_plain _ _ _ (by kernel_rfl)] at hF
 exact law_of_ct laidOut (by kernel_rfl) rfl ty4_ok.1 rfl rfl hW' ⟨⟨hx0, hx1⟩, tab_in hF⟩ (fnExactAskNew_ct v0 v1)
theorem and2 {a b : Bool} (h1 : a = true) (h2 : b = true) : (a && b) = true := by rw [h1, h2]; rfl
theorem k3 : mapsRowed Tryz.prog = true := by kernel_rfl
theorem k10 : (Rows.fnExactAskNewRow.inPlace == Tryz.prog.inPlace 4) = true := by kernel_rfl
theorem k11 : (Rows.fnExactAskNewRow.unfollowed == Tryz.prog.unfollowed 4) = true := by kernel_rfl
theorem k12 : (Rows.fnExactAskNewRow.recurses == Tryz.prog.recurses 4) = true := by kernel_rfl
theorem k13 : (Rows.fnExactAskNewRow.named == Tryz.prog.varsNamed 4) = true := by kernel_rfl
theorem k17 : (Rows.fnExactAskNewRow.loops == (Tryz.f4.params.toList ++ Rows.fnExactAskNewSpec.plain.varTypes Tryz.prog).any (Tryz.prog.loopsFrom ·)) = true := by kernel_rfl
theorem k23 : (Rows.fnExactAskNewRow.plainKeys == Tryz.prog.plainKeys) = true := by kernel_rfl
theorem k25 : Tryz.prog.stopsHeard = true := by kernel_rfl
theorem k26 : Tryz.prog.mayEnter = true := by kernel_rfl
theorem k27 : (Rows.fnExactAskNewRow.lifted == Tryz.prog.liftsFinal) = true := by kernel_rfl
theorem k28 : (Tryz.prog.make == some Rows.fnExactAskNewRow.make) = true := by kernel_rfl
theorem closed : joinedFacts Tryz.prog 4 Tryz.f4 Rows.fnExactAskNewSpec Rows.fnExactAskNewRow = true := by
 unfold joinedFacts
 refine (and2 (and2 (and2 (and2 (and2 (and2 (and2 (and2 (and2 (and2 (and2 (and2 (and2 (and2 (and2 (and2 (and2 (and2 (and2 (and2 (and2 (and2 (and2 (and2 (and2 (and2 (and2 (and2 (and2 (and2 (and2 ?_ laidOut) k3) ?_) ?_) ?_) ?_) ?_) ?_) k10) k11) k12) k13) ?_) ?_) ?_) k17) ?_) ?_) ?_) ?_) ?_) k23) ?_) k25) k26) k27) k28) ?_) ?_) ?_) ?_)
 all_goals kernel_rfl
theorem row : Rows.FnExactAskNewSaid :=
 OpenClaim.holds_of_wide 4 Tryz.f4 rfl rfl rfl rfl rfl rfl rfl ⟨rfl, rfl, rfl, rfl, rfl⟩ rfl rfl rfl rfl rfl (by kernel_rfl) Tryz.func4 closed
  (of_decide_eq_true (by kernel_rfl)) (by unfold Func.isWrapper; first | (rw [if_pos (by decide +kernel)]; kernel_rfl) | (rw [if_neg (by decide +kernel)]; exact ⟨rfl, rfl⟩))
  (fun os started H enc _ => lifted os started H enc)
theorem proved : Rows.FnExactAskNewCardSaid :=
 Claim7.holds_tied_plain_at .later [] [.data, .data, .data] true (true, "066aaa0f8a3119144cb420f5903a1fad7a4f6d16025b8a6fe30a4101287a10bc") false row (fun _ h => by cases h) (by kernel_rfl) (fun _ h => by cases h) fnExactAskNew_row_tie rfl ⟨rfl, rfl⟩ (by kernel_rfl) rfl
  (fun f fn hf hfn => by
   obtain rfl : f = 4 := Option.some.inj ((show Tryz.prog.funcNamed "loop.example/g00250/laws.FnExactAskNew" = some 4 by kernel_rfl).symm.trans hf) |>.symm
   obtain rfl : fn = Tryz.f4 := (Option.some.inj (Tryz.func4.symm.trans hfn)).symm
   exact ⟨by kernel_rfl, fun j t ht => by
    rw [Tryz.params4] at ht
    have hm : t ∈ [26, 3] := by simpa using Array.mem_of_getElem? ht
    have hall : ([26, 3].all fun u => !Tryz.prog.wantsStandIn u) = true := by kernel_rfl
    exact (show Tryz.prog.wantsStandIn t = false by simpa using List.all_eq_true.1 hall t hm)⟩)
  (by kernel_rfl)
end fnExactAskNew
end Go.Proofs.YtcnclhjhnjpeiaaGreatDoor
