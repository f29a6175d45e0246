/-
  Rules for the walks: parts of elements, loops whose frame is kept but for some slots. Conditions: none.
-/
import Derived.Test.YtcnclhjhnjpeiaaDoorSxA
import Derived.Test.YtcnclhjhnjpeiaaDoorSxD
namespace Go.SX

section
variable {P : Program} {E : World} {Γ : Ty} {n : Nat} {α : Type}

/-- m cells of an element, from its cell d on -/
theorem load_part {r : Rp α} (z : α) {H H' : Hp} {base : Option Addr} {m cap : Nat} {xs : List α} {i : Int} {b o off c : Nat} {F : List Value → Prop} (d : Nat)
    (h : (rpSl r).rd H [.slice base m cap] xs) (h0 : 0 ≤ i) (h1 : i < xs.length) (hb : base = some ⟨b, o, none⟩) (hoff : off = o + i.toNat * r.size + d) (hd : d + c ≤ r.size)
    (sub : ∀ p ∈ H, p ∈ H') (k : ∀ l, r.rd H l (xs[i.toNat]?.getD z) → F ((l.drop d).take c)) : VCload H' b off c F := by
  obtain ⟨base', cap', e, _, h3⟩ := h
  cases e
  obtain ⟨b', o', l, h4, h5, h6⟩ := h3 i.toNat (by omega)
  rw [hb] at h4; cases h4
  obtain ⟨g1, cs, T, fz, g2, g3⟩ := h5
  refine .intro ((l.drop d).take c) ⟨by rw [List.length_take, List.length_drop]; omega, cs, T, fz, sub _ g2, fun j hj => ?_⟩ (k l (by rw [List.getElem?_eq_getElem (by omega)]; exact h6))
  have := g3 (d + j) (by omega)
  rw [hoff, Nat.add_assoc (o + i.toNat * r.size) d j, this, List.getElem?_take, if_pos hj, List.getElem?_drop]

theorem load_all {r : Rp α} (z : α) {H H' : Hp} {base : Option Addr} {m cap : Nat} {xs : List α} {i : Int} {b o off : Nat} {F : List Value → Prop}
    (h : (rpSl r).rd H [.slice base m cap] xs) (h0 : 0 ≤ i) (h1 : i < xs.length) (hb : base = some ⟨b, o, none⟩) (hoff : off = o + i.toNat * r.size)
    (sub : ∀ p ∈ H, p ∈ H') (k : ∀ l, r.rd H l (xs[i.toNat]?.getD z) → F l) : VCload H' b off r.size F := by
  refine load_part z 0 h h0 h1 hb (by omega) (by omega) sub fun l hl => ?_
  have := r.len hl
  rw [List.drop_zero, ← this, List.take_length]
  exact k l hl

theorem load_allN {r : Rp α} (z : α) (k : Nat) {H H' : Hp} {base : Option Addr} {m cap : Nat} {xs : List α} {i : Int} {b o off : Nat} {F : List Value → Prop} (hk : i = (k : Int))
    (h : (rpSl r).rd H [.slice base m cap] xs) (h0 : 0 ≤ i) (h1 : i < xs.length) (hb : base = some ⟨b, o, none⟩) (hoff : off = o + i.toNat * r.size)
    (sub : ∀ p ∈ H, p ∈ H') (c : ∀ l, r.rd H l (xs[k]?.getD z) → F l) : VCload H' b off r.size F := by
  subst hk; exact load_all z h h0 h1 hb hoff sub c
theorem load_partN {r : Rp α} (z : α) (k : Nat) {H H' : Hp} {base : Option Addr} {m cap : Nat} {xs : List α} {i : Int} {b o off c : Nat} {F : List Value → Prop} (d : Nat) (hk : i = (k : Int))
    (h : (rpSl r).rd H [.slice base m cap] xs) (h0 : 0 ≤ i) (h1 : i < xs.length) (hb : base = some ⟨b, o, none⟩) (hoff : off = o + i.toNat * r.size + d) (hd : d + c ≤ r.size)
    (sub : ∀ p ∈ H, p ∈ H') (f : ∀ l, r.rd H l (xs[k]?.getD z) → F ((l.drop d).take c)) : VCload H' b off c F := by
  subst hk; exact load_part z d h h0 h1 hb hoff hd sub f

def dropK (ws : List Nat) : Fr → Fr
  | [] => []
  | (k, s) :: r => match ws.elem k with
    | true => dropK ws r
    | false => (k, s) :: dropK (k :: ws) r

/-- a loop: the slots ws are forgotten, those of mods stand for them -/
theorem loop_mod {body : Code} {fr : Fr} {bl : List Blk} {R : List Hp} {Q : Exit → St → Prop} (hΓ : TyOk P Γ) (ws : List Nat) (mods : α → Fr) (bls : α → List Blk) (Rs : α → List Hp) (μ : α → Nat) (I : α → Prop)
    (x0 : α) (h0 : FrLe bl (bls x0) fr (mods x0 ++ dropK ws fr)) (h1 : BlLe bl (bls x0)) (hi : I x0) (h2 : RLe R (Rs x0))
    (hr : ∀ x, I x → exC P E Γ n body ⟨mods x ++ dropK ws fr, bls x, Rs x⟩ (thenQ (fun st' => ∃ x', I x' ∧ μ x' < μ x ∧ Weak st' ⟨mods x' ++ dropK ws fr, bls x', Rs x'⟩) Q)) : VCloop P E n body ⟨fr, bl, R⟩ Q :=
  loop_intro hΓ (fun x => ⟨mods x ++ dropK ws fr, bls x, Rs x⟩) μ I x0 hi ⟨h0, h1, h2⟩ hr

/-- the end of a loop's body -/
theorem loop_stepI {st' : St} {I : α → Prop} {μ : α → Nat} {J : α → St} {m0 : Nat} (x : α) (h1 : FrLe st'.bl (J x).bl st'.fr (J x).fr) (h2 : BlLe st'.bl (J x).bl) (h4 : I x) (h3 : RLe st'.R (J x).R) (h5 : μ x < m0) :
    ∃ x', I x' ∧ μ x' < m0 ∧ Weak st' (J x') := ⟨x, h4, h5, h1, h2, h3⟩
theorem loop_step {st' : St} {I : α → Prop} {μ : α → Nat} {J : α → St} {m0 : Nat} (x : α) (h1 : FrLe st'.bl (J x).bl st'.fr (J x).fr) (h2 : BlLe st'.bl (J x).bl) (h3 : RLe st'.R (J x).R) (h4 : I x) (h5 : μ x < m0) :
    ∃ x', I x' ∧ μ x' < m0 ∧ Weak st' (J x') := ⟨x, h4, h5, h1, h2, h3⟩

/-- the ways of a condition meet again -/
theorem RLe.any {R' R : List Hp} (h : R' = R) : RLe R' R := h ▸ .refl _
end
end Go.SX
