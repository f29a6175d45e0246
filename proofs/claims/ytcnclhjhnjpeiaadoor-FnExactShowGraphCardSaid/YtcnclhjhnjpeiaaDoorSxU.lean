/-
  The executor of Sx.lean is sound: one operation. Conditions: none.
-/
import Derived.Test.YtcnclhjhnjpeiaaDoorSxT
namespace Go.SX

section
variable {P : Program} {E : World} {Γ : Ty} {n : Nat}

theorem VCraw.use {o : Oper} {st : St} {K : St → Prop} {a : Act} {w : World} {Q : Exit → Act → World → Prop} (h : VCraw P E n o st K) (hr : Rel E n st a w) :
    o.wp P a w (Lands E n K) Q := by
  obtain ⟨h⟩ := h
  exact h a w hr Q

abbrev Gives (P : Program) (bl : List Blk) (c : Sem Value) (s : SV) : Prop := s.ok bl ∧ ∀ w, c.run P w = .ok (s.den bl) w

theorem exIntCmp_sound {op : BinOp} {x y : Int} {K : SV → Prop} {raw : Prop} (bl : List Blk) (h : exIntCmp op x y K raw) :
    raw ∨ ∃ s, K s ∧ Gives P bl (Op.intCmp op x y) s := by
  unfold exIntCmp at h
  split at h
  all_goals first
    | exact .inl h
    | exact .inr ⟨_, h, trivial, fun w => rfl⟩

theorem exInt_sound {op : BinOp} {k : IntKind} {x y : Int} {xt : TypeId} {K : SV → Prop} {raw : Prop} (bl : List Blk) (hs : isShift op = false) (h : exInt op k x y K raw) :
    raw ∨ ∃ s, K s ∧ Gives P bl (binOp op xt (.int k x) (.int k y)) s := by
  unfold exInt at h
  split at h
  case h_4 =>
    obtain ⟨h1, h2⟩ := h
    exact .inr ⟨_, h2, trivial, fun w => by simp [binOp, Op.intDiv, h1, SV.den]⟩
  case h_5 =>
    obtain ⟨h1, h2⟩ := h
    exact .inr ⟨_, h2, trivial, fun w => by simp [binOp, Op.intDiv, h1, SV.den]⟩
  case h_12 =>
    rename_i h1 h2 h3 h4 h5 h6 h7 h8 h9 h10 h11
    rcases exIntCmp_sound (P := P) bl h with h | ⟨s, h12, h13, h14⟩
    · exact .inl h
    · refine .inr ⟨s, h12, h13, fun w => ?_⟩
      rw [← h14 w]
      cases op <;> simp_all [binOp]
  all_goals first
    | exact .inl h
    | exact .inr ⟨_, h, trivial, fun w => by simp [binOp, Op.intArith, Op.intBits, SV.den]⟩

theorem exShift_sound {op : BinOp} {k k' : IntKind} {x y : Int} {xt : TypeId} {K : SV → Prop} {raw : Prop} (bl : List Blk) (h : exShift op k x y K raw) :
    raw ∨ ∃ s, K s ∧ Gives P bl (binOp op xt (.int k x) (.int k' y)) s := by
  unfold exShift at h
  split at h
  · obtain ⟨h1, h2⟩ := h
    exact .inr ⟨_, h2, trivial, fun w => by simp [binOp, Op.shift, SV.den, show ¬ y < 0 by omega]⟩
  · obtain ⟨h1, h2⟩ := h
    exact .inr ⟨_, h2, trivial, fun w => by simp [binOp, Op.shift, SV.den, show ¬ y < 0 by omega]⟩
  · exact .inl h

theorem exStr_sound {op : BinOp} {x y : ByteArray} {xt : TypeId} {K : SV → Prop} {raw : Prop} (bl : List Blk) (h : exStr op x y K raw) :
    raw ∨ ∃ s, K s ∧ Gives P bl (binOp op xt (.string x) (.string y)) s := by
  unfold exStr at h
  split at h
  · obtain ⟨h1, h2⟩ := h
    refine .inr ⟨_, h2, trivial, fun w => ?_⟩
    simp only [binOp, Op.stringOp, SV.den]
    rw [if_neg (by omega)]; rfl
  all_goals first
    | exact .inl h
    | exact .inr ⟨_, h, trivial, fun w => by simp [binOp, Op.stringOp, SV.den]⟩

theorem run_equal_bool {xt : TypeId} (hu : P.underlying xt = some .bool) (x y : Bool) (w : World) : (Op.equal xt (.bool x) (.bool y)).run P w = .ok (x == y) w := by
  show (Op.equalIn (9999 + 1) xt (.bool x) (.bool y)).run P w = _
  rw [Op.equalIn]
  simp only [Sem.run_bind, run_underlying hu, Result.andThen_ok]
  rfl

theorem exBool_sound {op : BinOp} {x y : Bool} {xt : TypeId} {K : SV → Prop} {raw : Prop} (bl : List Blk) (hu : P.underlying xt = some .bool) (h : exBool op x y K raw) :
    raw ∨ ∃ s, K s ∧ Gives P bl (binOp op xt (.bool x) (.bool y)) s := by
  unfold exBool at h
  split at h
  · refine .inr ⟨_, h, trivial, fun w => ?_⟩
    simp only [binOp, Sem.run_bind, run_equal_bool hu, Result.andThen_ok]; rfl
  · refine .inr ⟨_, h, trivial, fun w => ?_⟩
    simp only [binOp, Sem.run_bind, run_equal_bool hu, Result.andThen_ok]; rfl
  · exact .inl h

theorem run_equal_nil {xt : TypeId} {u : TypeDesc} (hu : P.underlying xt = some u) {x y : Value} {t : Bool} (w : World)
    (h : ((∃ e a m c m' c', u = .slice e ∧ x = .slice a m c ∧ y = .slice none m' c' ∧ t = a.isNone) ∨ (∃ e a, u = .pointer e ∧ x = .pointer a ∧ y = .pointer none ∧ t = a.isNone) ∨ (∃ k e a, u = .map k e ∧ x = .map a ∧ y = .map none ∧ t = a.isNone))) :
    (Op.equal xt x y).run P w = .ok t w := by
  show (Op.equalIn (9999 + 1) xt x y).run P w = _
  rw [Op.equalIn]
  simp only [Sem.run_bind, run_underlying hu, Result.andThen_ok]
  rcases h with ⟨e, a, m, c, m', c', rfl, rfl, rfl, rfl⟩ | ⟨e, a, rfl, rfl, rfl, rfl⟩ | ⟨k, e, a, rfl, rfl, rfl, rfl⟩ <;> cases a <;> rfl

theorem exNil_sound {op : BinOp} {t : Bool} {xt : TypeId} {x y : Value} {K : SV → Prop} {raw : Prop} (bl : List Blk) (he : ∀ w, (Op.equal xt x y).run P w = .ok t w) (hg : ∀ op w x' y', (eqGuard op xt x' y' x y).run P w = .ok () w)
    (hb1 : binOp .eql xt x y = do pure (.bool (← Op.equal xt x y))) (hb2 : binOp .neq xt x y = do pure (.bool (!(← Op.equal xt x y)))) (h : exNil op t K raw) :
    raw ∨ ∃ s, K s ∧ ∀ x' y', Gives P bl (do eqGuard op xt x' y' x y; binOp op xt x y) s := by
  unfold exNil at h
  split at h
  · refine .inr ⟨_, h, fun x' y' => ⟨trivial, fun w => ?_⟩⟩
    simp only [Sem.run_bind, hg, Result.andThen_ok, hb1, he]; rfl
  · refine .inr ⟨_, h, fun x' y' => ⟨trivial, fun w => ?_⟩⟩
    simp only [Sem.run_bind, hg, Result.andThen_ok, hb2, he]; rfl
  · exact .inl h

theorem asB_den {s : SV} {t : Bool} (h : asB s = some t) (bl : List Blk) : s.den bl = .bool t := by
  unfold asB at h
  split at h
  · cases h; rfl
  · cases h; rfl
  · cases h

theorem exBin_sound {op : BinOp} {xt : TypeId} {sx sy : SV} {K : SV → Prop} {raw : Prop} (hΓ : TyOk P Γ) (bl : List Blk) (h : exBin Γ op xt sx sy K raw) :
    raw ∨ ∃ s, K s ∧ ∀ x y, Gives P bl (do eqGuard op xt x y (sx.den bl) (sy.den bl); binOp op xt (sx.den bl) (sy.den bl)) s := by
  unfold exBin at h
  split at h
  · rename_i k x
    split at h
    · rename_i k' y
      have key : raw ∨ ∃ s, K s ∧ Gives P bl (binOp op xt (.int k x) (.int k' y)) s := by
        split at h
        · exact exShift_sound bl h
        · rename_i hsh
          split at h
          · rename_i hk
            have := of_decide_eq_true hk
            subst this
            exact exInt_sound bl hsh h
          · exact .inl h
      rcases key with h | ⟨s, h1, h2, h3⟩
      · exact .inl h
      · refine .inr ⟨s, h1, fun x' y' => ⟨h2, fun w => ?_⟩⟩
        have := h3 w
        generalize s.den bl = r at this ⊢
        simp only [SV.den, eqGuard]
        split <;> simp [this]
    · exact .inl h
  · rename_i x
    split at h
    · rename_i y
      rcases exStr_sound (P := P) (xt := xt) bl h with h | ⟨s, h1, h2, h3⟩
      · exact .inl h
      · refine .inr ⟨s, h1, fun x' y' => ⟨h2, fun w => ?_⟩⟩
        have := h3 w
        generalize s.den bl = r at this ⊢
        simp only [SV.den, eqGuard]
        split <;> simp [this]
    · exact .inl h
  · split at h
    · split at h
      · rename_i hu
        exact exNil_sound bl (fun w => run_equal_nil (undOf_ok hΓ hu) w (.inr (.inl ⟨_, _, rfl, rfl, rfl, rfl⟩))) (fun op w _ _ => by cases op <;> rfl) rfl rfl h
      · exact .inl h
    · exact .inl h
  · split at h
    · split at h
      · rename_i hu
        exact exNil_sound bl (fun w => run_equal_nil (undOf_ok hΓ hu) w (.inl ⟨_, _, _, _, _, _, rfl, rfl, rfl, rfl⟩)) (fun op w _ _ => by cases op <;> rfl) rfl rfl h
      · exact .inl h
    · exact .inl h
  · split at h
    · split at h
      · rename_i hu
        exact exNil_sound bl (fun w => run_equal_nil (undOf_ok hΓ hu) w (.inr (.inl ⟨_, _, rfl, rfl, rfl, rfl⟩))) (fun op w _ _ => by cases op <;> rfl) rfl rfl h
      · exact .inl h
    · exact .inl h
  · split at h
    · split at h
      · rename_i hu
        exact exNil_sound bl (fun w => run_equal_nil (undOf_ok hΓ hu) w (.inr (.inr ⟨_, _, _, rfl, rfl, rfl, rfl⟩))) (fun op w _ _ => by cases op <;> rfl) rfl rfl h
      · exact .inl h
    · exact .inl h
  · split at h
    · exact .inl h
    · rename_i x hx
      split at h
      · exact .inl h
      · rename_i y hy
        split at h
        · rename_i hu
          rcases exBool_sound (P := P) (xt := xt) bl (undOf_ok hΓ hu) h with h | ⟨s, h1, h2, h3⟩
          · exact .inl h
          · refine .inr ⟨s, h1, fun x' y' => ⟨h2, fun w => ?_⟩⟩
            have := h3 w
            generalize s.den bl = r at this ⊢
            rw [asB_den hx, asB_den hy]
            simp only [eqGuard]
            split <;> simp [this]
        · exact .inl h

theorem exUn_sound {op : UnOp} {sx : SV} {K : SV → Prop} {raw : Prop} (bl : List Blk) (h : exUn op sx K raw) :
    raw ∨ ∃ s, K s ∧ Gives P bl (Op.unary op (sx.den bl)) s := by
  unfold exUn at h
  split at h
  · split at h
    · exact .inr ⟨_, h, trivial, fun w => by simp [Op.unary, Op.intArith, SV.den]⟩
    · exact .inl h
  · split at h
    · exact .inr ⟨_, h, trivial, fun w => by simp [Op.unary, SV.den]⟩
    · exact .inr ⟨_, h, trivial, fun w => by simp [Op.unary, SV.den]⟩
    · exact .inr ⟨_, h, trivial, fun w => by simp [Op.unary, SV.den]⟩
    · exact .inl h
  · exact .inl h

theorem exLo_sound {fr : Fr} {bl : List Blk} {R : List Hp} {lo : Option Operand} {h : Nat} {K : Nat → Prop} {raw : Prop}
    (hh : exLo fr lo h K raw) : raw ∨ ∃ l, K l ∧ ∀ a w, Rel E n ⟨fr, bl, R⟩ a w → (∀ code, (match lo.map a.eval with
      | some v => Instr.sliceBound v h code
      | none => pure 0).run P w = .ok l w) := by
  unfold exLo at hh
  split at hh
  · exact .inr ⟨0, hh, fun a w _ code => rfl⟩
  · obtain ⟨s, h2, h1⟩ := getK_uni (E := E) (n := n) (bl := bl) (R := R) hh
    split at h2
    · obtain ⟨h3, h4⟩ := h2
      refine .inr ⟨_, h4, fun a w hr code => ?_⟩
      simp [(h1 a w hr).1, SV.den, Instr.sliceBound, asIntOf, h3]
    · exact .inl h2

end
end Go.SX
