/-
  The executor of Sx.lean is sound: one operation, all forms. Conditions: none.
-/
import Derived.Test.YtcnclhjhnjpeiaaDoorSxU
namespace Go.SX

section
variable {P : Program} {E : World} {Γ : Ty} {n : Nat}

theorem exBounds_sound {fr : Fr} {bl : List Blk} {R : List Hp} {lo hi : Option Operand} {len cap : Nat} {K : Nat → Nat → Prop} {raw : Prop} (isSlice : Bool)
    (hh : exBounds fr len cap lo hi K raw) : raw ∨ ∃ l h, K l h ∧ ∀ a w, Rel E n ⟨fr, bl, R⟩ a w → (Instr.sliceBounds isSlice len cap (lo.map a.eval) (hi.map a.eval) none).run P w = .ok (l, h, cap) w := by
  unfold exBounds at hh
  split at hh
  · rcases exLo_sound (P := P) (E := E) (n := n) (bl := bl) (R := R) hh with h | ⟨l, h1, h3⟩
    · exact .inl h
    · refine .inr ⟨l, len, h1, fun a w hr => ?_⟩
      have h4 := h3 a w hr .sliceB
      simp only [Instr.sliceBounds, Option.map_none, Sem.run_bind, Sem.run_pure, Result.andThen_ok, Option.isSome_none]
      rw [show (if (false = true) then BoundsCode.slice3C else BoundsCode.sliceB) = .sliceB from rfl]
      cases lo with
      | none => simp only [Option.map_none] at h4 ⊢; simp; simp at h4; exact h4
      | some x => simp only [Option.map_some] at h4 ⊢; simp [h4]
  · rename_i x
    obtain ⟨s, h2, h1⟩ := getK_uni (E := E) (n := n) (bl := bl) (R := R) hh
    split at h2
    · obtain ⟨h3, h4⟩ := h2
      rcases exLo_sound (P := P) (E := E) (n := n) (bl := bl) (R := R) h4 with h | ⟨l, h5, h6⟩
      · exact .inl h
      · refine .inr ⟨l, _, h5, fun a w hr => ?_⟩
        have h7 := h6 a w hr .sliceB
        have h8 : ∀ code, (Instr.sliceBound (a.eval x) cap code).run P w = .ok _ w := fun code => by
          simp only [(h1 a w hr).1, SV.den, Instr.sliceBound, asIntOf, Sem.run_bind, Sem.run_pure, Result.andThen_ok]
          rw [if_pos h3]; rfl
        simp only [Instr.sliceBounds, Option.map_some, Sem.run_bind, Sem.run_pure, Result.andThen_ok, Option.isSome_none, h8]
        cases lo with
        | none => simp only [Option.map_none] at h7 ⊢; simp; simp at h7; exact h7
        | some x => simp only [Option.map_some] at h7 ⊢; simp [h7]
    · exact .inl h2

theorem exBounds3_sound {fr : Fr} {bl : List Blk} {R : List Hp} {lo : Option Operand} {hi mx : Operand} {len cap : Nat} {K : Nat → Nat → Nat → Prop} {raw : Prop}
    (hh : exBounds3 fr cap lo hi mx K raw) : raw ∨ ∃ l h m, K l h m ∧ ∀ a w, Rel E n ⟨fr, bl, R⟩ a w → (Instr.sliceBounds true len cap (lo.map a.eval) (some (a.eval hi)) (some (a.eval mx))).run P w = .ok (l, h, m) w := by
  unfold exBounds3 at hh
  obtain ⟨sm, h2, h1⟩ := getK_uni (E := E) (n := n) (bl := bl) (R := R) hh
  split at h2
  · obtain ⟨h3, h4⟩ := h2
    obtain ⟨s, h5, h6⟩ := getK_uni (E := E) (n := n) (bl := bl) (R := R) h4
    split at h5
    · obtain ⟨h7, h8⟩ := h5
      rcases exLo_sound (P := P) (E := E) (n := n) (bl := bl) (R := R) h8 with h | ⟨l, h9, h10⟩
      · exact .inl h
      · refine .inr ⟨l, _, _, h9, fun a w hr => ?_⟩
        have g1 : ∀ code, (Instr.sliceBound (a.eval mx) cap code).run P w = .ok _ w := fun code => by
          simp only [(h1 a w hr).1, SV.den, Instr.sliceBound, asIntOf, Sem.run_bind, Sem.run_pure, Result.andThen_ok]
          rw [if_pos h3]; rfl
        have g2 : ∀ code, (Instr.sliceBound (a.eval hi) _ code).run P w = .ok _ w := fun code => by
          simp only [(h6 a w hr).1, SV.den, Instr.sliceBound, asIntOf, Sem.run_bind, Sem.run_pure, Result.andThen_ok]
          rw [if_pos h7]; rfl
        have g3 := h10 a w hr .slice3C
        simp only [Instr.sliceBounds, Sem.run_bind, Result.andThen_ok, Option.isSome_some, g1, g2]
        cases lo with
        | none => simp only [Option.map_none] at g3 ⊢; simp; simp at g3; exact g3
        | some x => simp only [Option.map_some] at g3 ⊢; simp [g3]
    · exact .inl h5
  · exact .inl h2

theorem nthF_eq : ∀ (l : List (Nat × TypeId)) (i : Nat), nthF l i = l[i]?
  | [], _ => by simp [nthF]
  | _ :: _, 0 => rfl
  | _ :: r, i + 1 => by simp only [nthF, List.getElem?_cons_succ]; exact nthF_eq r i
theorem nthV_eq : ∀ (l : List Value) (i : Nat), nthV l i = l[i]?
  | [], _ => by simp [nthV]
  | _ :: _, 0 => rfl
  | _ :: r, i + 1 => by simp only [nthV, List.getElem?_cons_succ]; exact nthV_eq r i

theorem zipIdx_set (l : List Value) : ∀ (cs : Array Value) (off j : Nat), (l.zipIdx j).foldl (fun cs (p : Value × Nat) => cs.setIfInBounds (off + p.2) p.1) cs = ⟨setAt cs.toList (off + j) l⟩ := by
  induction l with
  | nil => intro cs off j; simp [setAt]
  | cons x r ih =>
    intro cs off j
    simp only [List.zipIdx_cons, List.foldl_cons]
    rw [ih]
    simp only [setAt, Array.toList_setIfInBounds, Nat.add_assoc]

theorem fill_step (place : Nat → Option (Nat × Nat)) (cells : Array Value) (i : Nat) (v : Value) (rest : List (Nat × Value)) (off size : Nat) (h : place i = some (off, size)) (h1 : v.cells.toList.length = size)
    (h2 : off + v.cells.toList.length ≤ cells.toList.length) :
    Instr.fill place cells ((i, v) :: rest) = Instr.fill place ⟨setAt cells.toList off v.cells.toList⟩ rest := by
  have e1 : v.cells.size = size := by simpa using h1
  have e2 : ¬ (off + v.cells.size > cells.size) := by simp at h2; omega
  have e3 : v.cells.zipIdx.foldl (fun cs (p : Value × Nat) => cs.setIfInBounds (off + p.2) p.1) cells = ⟨setAt cells.toList off v.cells.toList⟩ := by
    have := zipIdx_set v.cells.toList cells off 0
    simp only [Nat.add_zero] at this
    rw [← this, ← Array.foldl_toList, Array.toList_zipIdx]
  rw [← e3]
  simp only [Instr.fill, h]
  rw [if_neg (by simp only [e1] at e2 ⊢; simp; omega)]

theorem exBuild_sound {fs : List (Nat × TypeId)} {fr : Fr} {bl : List Blk} {R : List Hp} {place : Nat → Option (Nat × Nat)}
    (hp : ∀ (i off ft : Nat) (ti : TI), fs[i]? = some (off, ft) → tyOf Γ ft = some ti → place i = some (off, ti.size)) :
    ∀ (parts : List (Nat × Operand)) (cs : List Value) (K : List Value → Prop), exBuild Γ fs fr bl cs parts K →
      ∃ cs', K cs' ∧ ∀ a w, Rel E n ⟨fr, bl, R⟩ a w → Instr.fill place ⟨cs⟩ (parts.map fun p => (p.1, a.eval p.2)) = some ⟨cs'⟩
  | [], cs, K, h => ⟨cs, h, fun _ _ _ => rfl⟩
  | (i, x) :: r, cs, K, h => by
    unfold exBuild at h
    split at h
    · exact h.elim
    · rename_i off ft hf
      split at h
      · exact h.elim
      · rename_i ti ht
        obtain ⟨s, h2, h1⟩ := getK_uni (E := E) (n := n) (bl := bl) (R := R) h
        have h3 := cellsK_sound h2
        split at h3
        · exact h3.elim
        · rename_i hl
          split at h3
          · exact h3.elim
          · rename_i cs' hc
            obtain ⟨h4, h5⟩ := layAt_spec hc
            obtain ⟨cs2, h6, h7⟩ := exBuild_sound hp r cs' K h3
            refine ⟨cs2, h6, fun a w hr => ?_⟩
            have h1' := (h1 a w hr).1
            rw [List.map_cons]
            simp only
            rw [fill_step place ⟨cs⟩ i (a.eval x) _ off ti.size (hp i off ft ti (by rw [← nthF_eq]; exact hf) ht) (by rw [h1']; exact lenIs_spec hl) (by rw [h1']; exact h4)]
            rw [h1', ← h5]
            exact h7 a w hr

end
end Go.SX
