/-
  The program's EventOk is the reference's, for every event. Conditions: none.
-/
import Derived.Test.YthihffgmmkhlhaaCh
import Derived.Test.YthihffgmmkhlhaaRows
namespace Go.Proofs.Ythihffgmmkhlhaa
open Go.SX Go.Proofs

def eventOk (k nd x : Int) : Bool := inR 1 8 k && inR 0 8 nd && decide (0 ≤ x)

theorem implEventOk_ct (k nd x : Int) : Ct Try.prog 14 [.agg #[.int .i64 k, .int .i64 nd, .int .i64 x]] [] (fun _ => True) (fun v A => v = .bool (eventOk k nd x) ∧ A = []) := by
  refine Ct.intro G_ok Try.func14 rfl rfl rfl fun E H _ => ?_
  refine VCnew.intro fun b => ?_
  refine VCsplit.intro (fun h1 => ?_) (fun h1 => ?_)
  · refine VCsplit.intro (fun h2 => ?_) (fun h2 => ?_)
    · refine call_val (isNode_ct nd) trivial ?_
      rintro _ rfl
      refine VCsplit.intro (fun h3 => ?_) (fun h3 => ?_)
      · refine ⟨[], ⟨by first | (simp_all [eventOk, inR]; done) | (simp_all [eventOk, inR]; intros; omega), rfl⟩, .sub (by simp)⟩
      · refine ⟨[], ⟨by first | (simp_all [eventOk, inR]; done) | (simp_all [eventOk, inR]; intros; omega), rfl⟩, .sub (by simp)⟩
    · refine ⟨[], ⟨by first | (simp_all [eventOk, inR]; done) | (simp_all [eventOk, inR]; intros; omega), rfl⟩, .sub (by simp)⟩
  · refine ⟨[], ⟨by first | (simp_all [eventOk, inR]; done) | (simp_all [eventOk, inR]; intros; omega), rfl⟩, .sub (by simp)⟩

theorem specEventOk_ct (k nd x : Int) : Ct Try.prog 12 [.agg #[.int .i64 k, .int .i64 nd, .int .i64 x]] [] (fun _ => True) (fun v A => v = .bool (eventOk k nd x) ∧ A = []) := by
  refine Ct.intro G_ok Try.func12 rfl rfl rfl fun E H _ => ?_
  refine VCnew.intro fun b => ?_
  refine call_val (l01In_ct k 1 8) trivial ?_
  rintro _ rfl
  refine VCsplit.intro (fun h1 => ?_) (fun h1 => ?_)
  · refine call_val (l01In_ct nd 0 8) trivial ?_
    rintro _ rfl
    refine VCsplit.intro (fun h3 => ?_) (fun h3 => ?_)
    · refine ⟨[], ⟨by first | (simp_all [eventOk, inR]; done) | (simp_all [eventOk, inR]; intros; omega), rfl⟩, .sub (by simp)⟩
    · refine ⟨[], ⟨by first | (simp_all [eventOk, inR]; done) | (simp_all [eventOk, inR]; intros; omega), rfl⟩, .sub (by simp)⟩
  · refine ⟨[], ⟨by first | (simp_all [eventOk, inR]; done) | (simp_all [eventOk, inR]; intros; omega), rfl⟩, .sub (by simp)⟩

theorem toEvent_ct (k nd x : Int) : Ct Try.prog 13 [.agg #[.int .i64 k, .int .i64 nd, .int .i64 x]] [] (fun _ => True) (fun v A => v = .agg #[.int .i64 k, .int .i64 nd, .int .i64 x] ∧ A = []) := by
  refine Ct.intro G_ok Try.func13 rfl rfl rfl fun E H _ => ?_
  refine VCnew.intro fun b1 => VCnew.intro fun b2 => VCnew.intro fun b3 => ?_
  exact ⟨[], ⟨rfl, rfl⟩, .sub (by simp)⟩

structure Event where
  kind : Int
  node : Int
  at' : Int

def rpEvent : Rp Event where
  size := 3
  rd _ l x := l = [.int .i64 x.kind, .int .i64 x.node, .int .i64 x.at'] ∧ okI x.kind ∧ okI x.node ∧ okI x.at'
  mono _ h := h
  len h := by rw [h.1]; rfl

theorem opens_event {P : Program} {T a b c : TypeId} (h : UD.ok P T (.struct [(0, a), (1, b), (2, c)])) (hT : P.cellsOf T = 3) (ha : P.cellsOf a = 1) (hb : P.cellsOf b = 1) (hc : P.cellsOf c = 1)
    (oa : Opens P rpInt a) (ob : Opens P rpInt b) (oc : Opens P rpInt c) : Opens P rpEvent T := by
  intro H' enc w H sp hd fuel cs d ps hcov ht
  obtain ⟨h1, h2⟩ := trod_fields h ht
  rw [hT] at h1
  match cs, h1 with
  | [c0, c1, c2], _ =>
    obtain ⟨_, _, g0⟩ := h2 0 0 a rfl
    obtain ⟨_, _, g1⟩ := h2 1 1 b rfl
    obtain ⟨_, _, g2⟩ := h2 2 2 c rfl
    rw [ha] at g0; rw [hb] at g1; rw [hc] at g2
    obtain ⟨x0, e0, k0⟩ := oa _ _ H _ _ _ _ _ _ hcov g0
    obtain ⟨x1, e1, k1⟩ := ob _ _ H _ _ _ _ _ _ hcov g1
    obtain ⟨x2, e2, k2⟩ := oc _ _ H _ _ _ _ _ _ hcov g2
    simp only [List.drop_zero, List.take_succ_cons, List.take_zero, List.cons.injEq, and_true, List.drop_succ_cons] at e0 e1 e2
    subst e0 e1 e2
    exact ⟨⟨x0, x1, x2⟩, rfl, k0, k1, k2⟩

theorem fnExactEventOk_ct (v : Value) : Ct Try.prog 3 [v] [] (fun H => ∃ x, rdV true rpEvent H v x) (fun v A => v = .bool true ∧ A = []) := by
  refine Ct.intro G_ok Try.func3 rfl rfl rfl fun E H hp => ?_
  obtain ⟨⟨k, nd, x⟩, _, rfl, rfl, _⟩ := hp
  refine VCnew.intro fun b1 => ?_
  refine call_val (toEvent_ct k nd x) trivial ?_
  rintro _ rfl
  refine call_val (specEventOk_ct k nd x) trivial ?_
  rintro _ rfl
  refine call_val (toEvent_ct k nd x) trivial ?_
  rintro _ rfl
  refine call_val (implEventOk_ct k nd x) trivial ?_
  rintro _ rfl
  refine VCsplit.intro (fun h => ?_) (fun h => ?_)
  · simp at h
  · exact ⟨[], ⟨rfl, rfl⟩, .sub (by simp)⟩

namespace fnExactEventOk
open Go.ChangeShapes Go.WideShapes Go.ChangeAt Go.RowKit

theorem own : ownKnob Try.prog.godebug = none := by kernel_rfl
theorem laidOut : laidOutB Try.prog = true := by kernel_rfl

set_option maxRecDepth 100000 in
theorem lifted (os : Os) (started : os.Started) (H : Type) (enc : TypeId × Value → H) :
    ReturnsInHanded {} Try.checked os 3 .any (Rows.fnExactEventOkSpec.pre6 enc Try.prog Try.f3 Rows.fnExactEventOkRow.domain false) (Rows.fnExactEventOkSpec.post enc Try.prog Try.f3 false true false false) := by
  refine returnsInHanded_of_change (C := Try.checked) own started (by kernel_rfl) Try.func3
    (ChangeSpec.witness6 (enc := enc) (C := Try.checked) false ⟨#[], #[.agg #[.int .i64 0, .int .i64 0, .int .i64 0]], []⟩ 8 (by kernel_rfl) (by kernel_rfl) (by kernel_rfl) (by kernel_rfl)) ?_
  intro W base args ds gs before hval hW _ _
  have hW' := hW
  obtain ⟨p, q, hA0, hV, rfl, hfz, hnd⟩ := hW
  have hA : DataW.TrodAll enc Try.prog W 0 (fun _ => true) true Try.f3.params.toList args.toList ds p := hA0
  have hval' : ∀ (j : Nat) t v, Try.f3.params[j]? = some t → args[j]? = some v → Value.okWide Try.prog W .any base t v := hval
  rw [Try.params3] at hA hval'
  obtain ⟨v0, vs0, d0, ds0, p0, q0, hargs, rfl, rfl, h0, r0⟩ := trodAll_cons hA
  obtain ⟨rfl, rfl, rfl⟩ := trodAll_nil r0
  obtain rfl : args = #[v0] := by cases args; simp_all
  have hgs : gs = [] := by cases gs with
    | nil => rfl
    | cons _ _ => exact hV.elim
  subst hgs
  have hx := rdV_of (r := rpEvent) G_ok (T := 23) rfl (fun _ _ h => by cases h) (fun h => by cases h) (fun _ h => by cases h)
    (opens_event ty23_ok.1 (by kernel_rfl) (by kernel_rfl) (by kernel_rfl) (by kernel_rfl) (opens_int ty3_ok.1) (opens_int ty3_ok.1) (opens_int ty3_ok.1)) (cov_allOf W) (hval' 0 _ v0 rfl rfl) h0
  exact law_of_ct laidOut (by kernel_rfl) rfl ty4_ok.1 rfl rfl hW' hx (fnExactEventOk_ct v0)

theorem proved : Rows.FnExactEventOkSaid :=
  OpenClaim.holds_of_wide 3 Try.f3 rfl rfl rfl rfl rfl rfl rfl ⟨rfl, rfl, rfl, rfl, rfl⟩ rfl rfl rfl rfl rfl (by kernel_rfl) Try.func3 (by kernel_rfl)
    (of_decide_eq_true (by kernel_rfl)) (by unfold Func.isWrapper; first | (rw [if_pos (by decide +kernel)]; kernel_rfl) | (rw [if_neg (by decide +kernel)]; exact ⟨rfl, rfl⟩))
    (fun os started H enc _ => lifted os started H enc)
end fnExactEventOk
end Go.Proofs.Ythihffgmmkhlhaa
