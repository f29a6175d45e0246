/-
 The law FnExactAskRight: the program's AskRight returns what the reference's returns, for all arguments. Conditions: none.
-/
import Derived.Test.YtcnclhjhnjpeiaaGreatZq8
import Derived.Test.YtcnclhjhnjpeiaaGreatRows
namespace Go.Proofs.YtcnclhjhnjpeiaaGreat
open Go.SX Go.Proofs
namespace fnExactAskRight
open Go.ChangeShapes Go.WideShapes Go.ChangeAt Go.RowKit
theorem own:ownKnob Tryz.prog.godebug=none:=by kernel_rfl
theorem laidOut:laidOutB Tryz.prog=true:=by kernel_rfl
set_option maxRecDepth 100000 in
theorem lifted (os:Os) (started:os.Started) (H:Type) (enc:TypeId×Value→H) :
  ReturnsInHanded {} Tryz.checked os 3 .any (Rows.fnExactAskRightSpec.pre6 enc Tryz.prog Tryz.f3 Rows.fnExactAskRightRow.domain false) (Rows.fnExactAskRightSpec.post enc Tryz.prog Tryz.f3 false true false false):=by
 refine returnsInHanded_of_change (C:=Tryz.checked) own started (by kernel_rfl) Tryz.func3
  (ChangeSpec.witness6 (enc:=enc) (C:=Tryz.checked) false ⟨#[],#[.agg #[.bool false,.bool false,.slice none 0 0,.slice none 0 0,.slice none 0 0,.slice none 0 0,.int .i64 0,.slice none 0 0,.bool false,.slice none 0 0],.agg #[.int .i64 0,.slice none 0 0]],[]⟩ 8 (by kernel_rfl) (by kernel_rfl) (by kernel_rfl) (by kernel_rfl)) ?_
 intro W base args ds gs before hval hW _ _
 have hW':=hW
 obtain⟨p,q,hA0,hV,rfl,hfz,hnd⟩:=hW
 have hA:DataW.TrodAll enc Tryz.prog W 0 (fun _=>true) true Tryz.f3.params.toList args.toList ds p:=hA0
 have hval':∀ (j:Nat) t v,Tryz.f3.params[j]?=some t→args[j]?=some v→Value.okWide Tryz.prog W .any base t v:=hval
 rw[Tryz.params3] at hA hval'
 obtain⟨v0,vs0,d0,ds0,p0,q0,hargs,rfl,rfl,h0,r0⟩:=trodAll_cons hA
 obtain⟨v1,vs1,d1,ds1,p1,q1,rfl,rfl,rfl,h1,r1⟩:=trodAll_cons r0
 obtain⟨rfl,rfl,rfl⟩:=trodAll_nil r1
 obtain rfl:args=#[v0,v1]:=by cases args;simp_all
 have hgs:gs=[]:=by cases gs with
  | nil=>rfl
  | cons _ _=>exact hV.elim
 subst hgs
 have hx0:=z24 (r:=zO7.toRp) zAh (T:=33) rfl (fun _ _ h=>by cases h) (fun h=>by cases h) (fun _ h=>by cases h)
  (zWH) (zPi W) (hval' 0 _ v0 rfl rfl) h0
 have hx1:=z24 (r:=zBz.toRp) zAh (T:=36) rfl (fun _ _ h=>by cases h) (fun h=>by cases h) (fun _ h=>by cases h)
  (zRF) (zPi W) (hval' 1 _ v1 rfl rfl) h1
 exact zWw laidOut (by kernel_rfl) rfl zPc.1 rfl rfl hW' ⟨hx0,hx1⟩ (zID v0 v1)
theorem and2 {a b:Bool} (h1:a=true) (h2:b=true):(a && b)=true:=by rw[h1,h2];rfl
theorem k3:mapsRowed Tryz.prog=true:=by kernel_rfl
theorem k10:(Rows.fnExactAskRightRow.inPlace == Tryz.prog.inPlace 3)=true:=by kernel_rfl
theorem k11:(Rows.fnExactAskRightRow.unfollowed == Tryz.prog.unfollowed 3)=true:=by kernel_rfl
theorem k12:(Rows.fnExactAskRightRow.recurses == Tryz.prog.recurses 3)=true:=by kernel_rfl
theorem k13:(Rows.fnExactAskRightRow.named == Tryz.prog.varsNamed 3)=true:=by kernel_rfl
theorem k17:(Rows.fnExactAskRightRow.loops == (Tryz.f3.params.toList++Rows.fnExactAskRightSpec.plain.varTypes Tryz.prog).any (Tryz.prog.loopsFrom ·))=true:=by kernel_rfl
theorem k23:(Rows.fnExactAskRightRow.plainKeys == Tryz.prog.plainKeys)=true:=by kernel_rfl
theorem k25:Tryz.prog.stopsHeard=true:=by kernel_rfl
theorem k26:Tryz.prog.mayEnter=true:=by kernel_rfl
theorem k27:(Rows.fnExactAskRightRow.lifted == Tryz.prog.liftsFinal)=true:=by kernel_rfl
theorem k28:(Tryz.prog.make == some Rows.fnExactAskRightRow.make)=true:=by kernel_rfl
theorem closed:joinedFacts Tryz.prog 3 Tryz.f3 Rows.fnExactAskRightSpec Rows.fnExactAskRightRow=true:=by
 unfold joinedFacts
 refine (and2 (and2 (and2 (and2 (and2 (and2 (and2 (and2 (and2 (and2 (and2 (and2 (and2 (and2 (and2 (and2 (and2 (and2 (and2 (and2 (and2 (and2 (and2 (and2 (and2 (and2 (and2 (and2 (and2 (and2 (and2 ?_ laidOut) k3) ?_) ?_) ?_) ?_) ?_) ?_) k10) k11) k12) k13) ?_) ?_) ?_) k17) ?_) ?_) ?_) ?_) ?_) k23) ?_) k25) k26) k27) k28) ?_) ?_) ?_) ?_)
 all_goals kernel_rfl
theorem proved:Rows.FnExactAskRightSaid:=
 OpenClaim.holds_of_wide 3 Tryz.f3 rfl rfl rfl rfl rfl rfl rfl ⟨rfl,rfl,rfl,rfl,rfl⟩ rfl rfl rfl rfl rfl (by kernel_rfl) Tryz.func3 closed
  (of_decide_eq_true (by kernel_rfl)) (by unfold Func.isWrapper;first|(rw[if_pos (by decide +kernel)];kernel_rfl)|(rw[if_neg (by decide +kernel)];exact⟨rfl,rfl⟩))
  (fun os started H enc _=>lifted os started H enc)
end fnExactAskRight
end Go.Proofs.YtcnclhjhnjpeiaaGreat
