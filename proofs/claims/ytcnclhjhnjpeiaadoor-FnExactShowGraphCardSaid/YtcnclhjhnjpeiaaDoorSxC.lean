/-
  Contracts of functions that write: what they ask of the rest of the memory stands apart from what they own. Conditions: none.
-/
import Derived.Test.YtcnclhjhnjpeiaaDoorSxH
namespace Go.SX

def CtR (P : Program) (f : FuncId) (args : List Value) (A0 : Hp) (pre : Hp → Prop) (post : Value → Hp → Prop) : Prop :=
  (∃ fn, P.funcs[f]? = some fn ∧ fn.name ≠ "runtime.NumGoroutine" ∧ fn.body.isSome = true) ∧
  ∀ E H w, Sat E (A0 ++ H) w → pre H → Calls P f ⟨args⟩ w fun e w' => ∃ v A, e = .returned v ∧ post v A ∧ Sat E (A ++ H) w'

def delBlk : List Blk → Nat → List Blk
  | [], _ => []
  | _ :: r, 0 => r
  | b :: r, i + 1 => b :: delBlk r i

theorem delBlk_perm : ∀ {bl : List Blk} {h : Nat} {b : Blk}, nthBlk bl h = some b → bl.Perm (b :: delBlk bl h)
  | [], _, _, e => by simp [nthBlk] at e
  | b :: r, 0, _, e => by cases e; exact .refl _
  | c :: r, i + 1, b, e => by
    have := delBlk_perm (bl := r) (h := i) (b := b) e
    exact (this.cons c).trans (.swap _ _ _)

theorem setBlk_perm : ∀ {bl bl' : List Blk} {h : Nat} {b : Blk} {cs : List Value}, nthBlk bl h = some b → setBlk bl h cs = some bl' → bl'.Perm (⟨b.id, cs, b.ty⟩ :: delBlk bl h) ∧ bl'.map Blk.id = bl.map Blk.id
  | [], _, _, _, _, e, _ => by simp [nthBlk] at e
  | b :: r, bl', 0, _, cs, e, e' => by
    cases e
    obtain ⟨i, c0, t⟩ := b
    simp only [setBlk, Option.some.injEq] at e'
    subst e'
    exact ⟨.refl _, rfl⟩
  | c :: r, bl', i + 1, b, cs, e, e' => by
    simp only [setBlk] at e'
    split at e'
    · rename_i r' hr'
      cases e'
      obtain ⟨h1, h2⟩ := setBlk_perm (bl := r) (h := i) (b := b) e hr'
      exact ⟨(h1.cons c).trans (.swap _ _ _), by simp [h2]⟩
    · cases e'

section
variable {P : Program} {E : World} {Γ : Ty}

theorem Ct.toR {f : FuncId} {args : List Value} {pre : Hp → Prop} {post : Value → Hp → Prop} (h : Ct P f args [] pre post) : CtR P f args [] pre post := h

theorem CtR.intro (hΓ : TyOk P Γ) {f : FuncId} {fn : Func} (L : List Hp) (hf : P.funcs[f]? = some fn) (hn : decide (fn.name = "runtime.NumGoroutine") = false) (hb : fn.body.isSome = true) {args : List Value} (ha : Nat.ble args.length fn.ntmps = true) {A0 : Hp} {pre : Hp → Prop} {post : Value → Hp → Prop}
    (hL : L.flatten = A0) (h : ∀ E H, pre H → exFn P E Γ fn args (L ++ [H]) fun v bl R => ∃ A, post v A ∧ RLe (bl.map Blk.ent :: R) [A, H]) : CtR P f args A0 pre post := by
  refine ⟨⟨fn, hf, of_decide_eq_false hn, hb⟩, fun E H w hs hp => ?_⟩
  refine (exFn_sound hΓ hf ha (h E H hp) (by simpa [hL] using hs)).mono ?_
  rintro e w' ⟨v, bl, R', h1, h2, A, h3, L, h4⟩
  refine ⟨v, A, h1, h3, ?_⟩
  have : (St.hall ⟨[], bl, R'⟩).Perm ((A ++ H) ++ L) := by simpa [St.hall] using h4
  exact (h2.perm this).drop

theorem CtR.introB (hΓ : TyOk P Γ) {f : FuncId} {fn : Func} (svs : List SV) (bl : List Blk) (L : List Hp) (hf : P.funcs[f]? = some fn) (hn : decide (fn.name = "runtime.NumGoroutine") = false) (hb : fn.body.isSome = true) {args : List Value} (ha : Nat.ble svs.length fn.ntmps = true)
    (hargs : svs.map (SV.den bl) = args) (hok : ∀ s ∈ svs, s.ok bl) {A0 : Hp} {pre : Hp → Prop} {post : Value → Hp → Prop}
    (hL : A0.Perm (bl.map Blk.ent ++ L.flatten)) (h : ∀ E H, pre H → exFnS P E Γ fn svs bl (L ++ [H]) fun v bl R => ∃ A, post v A ∧ RLe (bl.map Blk.ent :: R) [A, H]) : CtR P f args A0 pre post := by
  refine ⟨⟨fn, hf, of_decide_eq_false hn, hb⟩, fun E H w hs hp => ?_⟩
  subst hargs
  have hs' : Sat E (St.hall ⟨[], bl, L ++ [H]⟩) w := by
    refine hs.perm ?_
    have := hL.append_right H
    simpa [St.hall, List.append_assoc] using this
  refine (exFnS_sound hΓ hf ha hok (h E H hp) hs').mono ?_
  rintro e w' ⟨v, bl, R', h1, h2, A, h3, L, h4⟩
  refine ⟨v, A, h1, h3, ?_⟩
  have : (St.hall ⟨[], bl, R'⟩).Perm ((A ++ H) ++ L) := by simpa [St.hall] using h4
  exact (h2.perm this).drop

theorem sat_le {X : Hp} {R R' : List Hp} {w : World} (hs : Sat E (X ++ R.flatten) w) (h : RLe R R') : Sat E (X ++ R'.flatten) w := by
  obtain ⟨L, hL⟩ := h
  have : (X ++ R.flatten).Perm ((X ++ R'.flatten) ++ L) := by
    rw [List.append_assoc]; exact hL.append_left X
  exact (hs.perm this).drop

/-- a call that may write heaplet number i -/
theorem callR_at (i : Nat) {f : FuncId} {args : List Value} {bl : List Blk} {R : List Hp} {A0 : Hp} {pre : Hp → Prop} {post : Value → Hp → Prop} {K : Value → List Blk → List Hp → Prop} (hi : nthR R i = some A0) (hc : CtR P f args A0 pre post)
    (hp : pre (St.hall ⟨[], bl, setR R i []⟩)) (hk : ∀ v A, post v A → K v bl (setR R i A)) : VCcall P E f args ⟨[], bl, R⟩ K := by
  obtain ⟨pr, po, e1, e2⟩ := nthR_split hi
  have perm : ∀ A : Hp, (St.hall ⟨[], bl, pr ++ A :: po⟩).Perm (A ++ St.hall ⟨[], bl, pr ++ [] :: po⟩) := by
    intro A
    simp only [St.hall, List.flatten_append, List.flatten_cons, List.nil_append]
    rw [← List.append_assoc, ← List.append_assoc, ← List.append_assoc, ← List.append_assoc]
    refine List.Perm.append_right _ ?_
    have := List.perm_append_comm (l₁ := List.map Blk.ent bl ++ pr.flatten) (l₂ := A)
    simpa only [List.append_assoc] using this
  rw [e2] at hp
  refine .intro hc.1 (fun w hs => (hc.2 E _ w ((e1 ▸ hs).perm (perm A0)) hp).mono ?_)
  rintro e w' ⟨v, A, h1, h2, h3⟩
  exact ⟨v, bl, _, h1, h3.perm (perm A).symm, rfl, by rw [← e2]; exact hk v A h2⟩

/-- a call with heaplets parted anew: A0 is what it may write, R0 the rest -/
theorem callR_part {f : FuncId} {args : List Value} {bl : List Blk} {R : List Hp} (A0 : Hp) (R0 : List Hp) {pre : Hp → Prop} {post : Value → Hp → Prop} {K : Value → List Blk → List Hp → Prop} (hc : CtR P f args A0 pre post)
    (hR : RLe R (A0 :: R0)) (hp : pre (St.hall ⟨[], bl, R0⟩)) (hk : ∀ v A, post v A → ∃ L, A.Perm L.flatten ∧ K v bl (L ++ R0)) : VCcall P E f args ⟨[], bl, R⟩ K := by
  have perm : ∀ A : Hp, (bl.map Blk.ent ++ (A :: R0).flatten).Perm (A ++ St.hall ⟨[], bl, R0⟩) := by
    intro A
    simp only [St.hall, List.flatten_cons]
    rw [← List.append_assoc, ← List.append_assoc]
    exact List.perm_append_comm.append_right _
  refine .intro hc.1 (fun w hs => (hc.2 E _ w ((sat_le hs hR).perm (perm A0)) hp).mono ?_)
  rintro e w' ⟨v, A, h1, h2, h3⟩
  obtain ⟨L, h4, h5⟩ := hk v A h2
  refine ⟨v, bl, L ++ R0, h1, h3.perm ((perm A).symm.trans ?_), rfl, h5⟩
  simp only [St.hall, List.flatten_cons, List.flatten_append]
  exact (h4.append_right _).append_left _

open Classical in
theorem rle_j2 {X A B : Hp} {R : List Hp} : RLe (X :: A :: B :: R) ((A ++ B) :: R) := .le fun a => by simp only [List.flatten_cons, List.count_append]; omega
open Classical in
theorem rle_j3 {X A B C : Hp} {R : List Hp} : RLe (X :: A :: B :: C :: R) ((A ++ (B ++ C)) :: R) := .le fun a => by simp only [List.flatten_cons, List.count_append]; omega
theorem flat_ix {R : List Hp} {i : Nat} {A : Hp} (h : nthR R i = some A) : R.flatten.Perm (A ++ (setR R i []).flatten) := by
  obtain ⟨pr, po, e, e2⟩ := nthR_split h
  rw [e2, e]
  simp only [List.flatten_append, List.flatten_cons, List.nil_append]
  rw [← List.append_assoc, ← List.append_assoc]
  exact List.perm_append_comm.append_right _
open Classical in
theorem rle_ix1 {X : Hp} {R : List Hp} {A H : Hp} (i k : Nat) (hi : nthR R i = some A) (hk : nthR (setR R i []) k = some H) : RLe (X :: R) [A, H] := by
  refine ⟨X ++ (setR (setR R i []) k []).flatten, ?_⟩
  refine perm_cnt fun a => ?_
  have h1 := (flat_ix hi).count_eq a
  have h2 := (flat_ix hk).count_eq a
  simp only [List.count_append] at h1 h2
  simp only [List.flatten_cons, List.flatten_nil, List.count_append, List.append_nil]
  omega
open Classical in
theorem rle_ix2 {X : Hp} {R : List Hp} {A B H : Hp} (i j k : Nat) (hi : nthR R i = some A) (hj : nthR (setR R i []) j = some B) (hk : nthR (setR (setR R i []) j []) k = some H) : RLe (X :: R) [A ++ B, H] := by
  refine ⟨X ++ (setR (setR (setR R i []) j []) k []).flatten, ?_⟩
  refine perm_cnt fun a => ?_
  have h1 := (flat_ix hi).count_eq a
  have h2 := (flat_ix hj).count_eq a
  have h3 := (flat_ix hk).count_eq a
  simp only [List.count_append] at h1 h2 h3
  simp only [List.flatten_cons, List.flatten_nil, List.count_append, List.append_nil]
  omega
open Classical in
theorem rle_ix3 {X : Hp} {R : List Hp} {A B C H : Hp} (i j l k : Nat) (hi : nthR R i = some A) (hj : nthR (setR R i []) j = some B) (hl : nthR (setR (setR R i []) j []) l = some C) (hk : nthR (setR (setR (setR R i []) j []) l []) k = some H) : RLe (X :: R) [A ++ (B ++ C), H] := by
  refine ⟨X ++ (setR (setR (setR (setR R i []) j []) l []) k []).flatten, ?_⟩
  refine perm_cnt fun a => ?_
  have h1 := (flat_ix hi).count_eq a
  have h2 := (flat_ix hj).count_eq a
  have h3 := (flat_ix hl).count_eq a
  have h4 := (flat_ix hk).count_eq a
  simp only [List.count_append] at h1 h2 h3 h4
  simp only [List.flatten_cons, List.flatten_nil, List.count_append, List.append_nil]
  omega
def pickR (R : List Hp) : List Nat → Hp
  | [] => []
  | [i] => (nthR R i).getD []
  | i :: j :: r => (nthR R i).getD [] ++ pickR R (j :: r)
theorem nthR_set : ∀ {R : List Hp} {i j : Nat} {A : Hp}, i ≠ j → nthR (setR R i A) j = nthR R j
  | [], i, j, _, _ => by simp [setR]
  | _ :: r, 0, 0, _, h => (h rfl).elim
  | _ :: r, 0, j + 1, _, _ => rfl
  | _ :: r, i + 1, 0, _, _ => rfl
  | _ :: r, i + 1, j + 1, A, h => by simp only [setR, nthR]; exact nthR_set (R := r) (by omega)
theorem pickR_set {R : List Hp} {i : Nat} : ∀ {is : List Nat}, i ∉ is → pickR (setR R i []) is = pickR R is
  | [], _ => rfl
  | [j], h => by simp only [pickR]; rw [nthR_set (by simpa using h)]
  | j :: k :: r, h => by
    simp only [List.mem_cons, not_or] at h
    simp only [pickR]
    rw [nthR_set h.1, pickR_set (is := k :: r) (by simpa using h.2)]
open Classical in
theorem pick_le : ∀ (is : List Nat) (R : List Hp), is.Nodup → ∀ a, (pickR R is).count a + 0 ≤ R.flatten.count a ∧ ∀ k, k ∉ is → (pickR R is).count a + ((nthR R k).getD []).count a ≤ R.flatten.count a := by
  have one : ∀ (R : List Hp) (i : Nat) a, ((nthR R i).getD []).count a ≤ R.flatten.count a := by
    intro R i a
    cases h : nthR R i with
    | none => simp
    | some A =>
      have := (flat_ix h).count_eq a
      rw [List.count_append] at this
      simp only [Option.getD_some]; omega
  have split : ∀ (R : List Hp) (i : Nat) a, R.flatten.count a = ((nthR R i).getD []).count a + (setR R i []).flatten.count a := by
    intro R i a
    cases h : nthR R i with
    | none =>
      have : ∀ (R : List Hp) (i : Nat), nthR R i = none → setR R i [] = R := by
        intro R
        induction R with
        | nil => intro i _; rfl
        | cons A r ih =>
          intro i h
          cases i with
          | zero => cases h
          | succ i => simp only [setR]; rw [ih i h]
      rw [this R i h]; simp
    | some A =>
      have := (flat_ix h).count_eq a
      rw [List.count_append] at this
      simpa using this
  intro is
  induction is with
  | nil => intro R _ a; exact ⟨by simp [pickR], fun k _ => by simpa [pickR] using one R k a⟩
  | cons i r ih =>
    intro R hn a
    rw [List.nodup_cons] at hn
    obtain ⟨g1, g2⟩ := ih (setR R i []) hn.2 a
    rw [pickR_set hn.1] at g1 g2
    have hs := split R i a
    have hp : (pickR R (i :: r)).count a = ((nthR R i).getD []).count a + (pickR R r).count a := by
      cases r with
      | nil => simp [pickR]
      | cons j r => simp only [pickR]; rw [List.count_append]
    refine ⟨by omega, fun k hk => ?_⟩
    simp only [List.mem_cons, not_or] at hk
    have := g2 k hk.2
    rw [nthR_set (fun e => hk.1 e.symm)] at this
    omega
open Classical in
/-- of the heaplets, those of the numbers is are joined to A, number k is kept -/
theorem rle_pick {X : Hp} {R : List Hp} {A H : Hp} (is : List Nat) (k : Nat) (hA : pickR R is = A) (hk : nthR R k = some H) (hn : (decide (is.Nodup) && decide (k ∉ is)) = true) : RLe (X :: R) [A, H] := by
  simp only [Bool.and_eq_true, decide_eq_true_eq] at hn
  refine .le fun a => ?_
  have := (pick_le is R hn.1 a).2 k hn.2
  rw [hA, hk] at this
  simp only [List.flatten_cons, List.flatten_nil, List.count_append, List.append_nil]
  simp only [Option.getD_some] at this
  omega
/-- a call that makes new memory, which is parted -/
theorem call_newP {f : FuncId} {args : List Value} {bl : List Blk} {R : List Hp} {pre : Hp → Prop} {post : Value → Hp → Prop} {K : Value → List Blk → List Hp → Prop} (hc : Ct P f args [] pre post)
    (hp : pre (St.hall ⟨[], bl, R⟩)) (hk : ∀ v A, post v A → ∃ L, A.Perm L.flatten ∧ K v bl (L ++ R)) : VCcall P E f args ⟨[], bl, R⟩ K :=
  callR_part [] R hc.toR (.refl _) hp hk

/-- a call with a pointer to block number h, which owns A1 -/
theorem callR_blk (h : Nat) {f : FuncId} {args : List Value} {bl : List Blk} {R : List Hp} (A1 : Hp) (R0 : List Hp) {b : Blk} {pre : Hp → Prop} {post : Value → Hp → Prop} {K : Value → List Blk → List Hp → Prop} (hb : nthBlk bl h = some b)
    (hR : RLe R (A1 :: R0)) (hc : CtR P f args ((b.id, Obj.cells ⟨b.cs⟩ b.ty) :: A1) pre post) (hp : pre (St.hall ⟨[], delBlk bl h, R0⟩))
    (hk : ∀ v A, post v A → ∃ cs' bl' L, setBlk bl h cs' = some bl' ∧ A.Perm ((b.id, Obj.cells ⟨cs'⟩ b.ty) :: L.flatten) ∧ K v bl' (L ++ R0)) : VCcall P E f args ⟨[], bl, R⟩ K := by
  have hbl := (delBlk_perm hb).map Blk.ent
  refine .intro hc.1 (fun w hs => (hc.2 E _ w ((sat_le hs hR).perm ?_) hp).mono ?_)
  · refine (hbl.append_right _).trans ?_
    simp only [List.map_cons, St.hall, List.flatten_cons, List.cons_append]
    refine .cons _ ?_
    rw [← List.append_assoc, ← List.append_assoc]
    exact List.perm_append_comm.append_right _
  · rintro e w' ⟨v, A, h1, h2, h3⟩
    obtain ⟨cs', bl', L, h4, h5, h6⟩ := hk v A h2
    obtain ⟨g1, g2⟩ := setBlk_perm hb h4
    refine ⟨v, bl', L ++ R0, h1, h3.perm ?_, g2, h6⟩
    have g3 := (g1.map Blk.ent).symm
    refine List.Perm.trans ?_ (g3.append_right _)
    refine (h5.append_right _).trans ?_
    simp only [List.map_cons, St.hall, List.flatten_append, List.cons_append, Blk.ent]
    refine .cons _ ?_
    rw [← List.append_assoc, ← List.append_assoc]
    exact List.perm_append_comm.append_right _

/-- the ways of an open statement meet again: the slots ws are forgotten, those of mods stand for them -/
theorem draw_joinK {α : Type} {n id : Nat} {ops : Array Oper} {fr : Fr} {bl : List Blk} {R : List Hp} {K : St → Prop} (ws : List Nat) (mods : α → Fr) (bls : α → List Blk) (Rs : α → List Hp) (I : α → Prop)
    (h1 : VCdraw P E n id ops ⟨fr, bl, R⟩ (fun st' => ∃ z, I z ∧ Weak st' ⟨mods z ++ dropK ws fr, bls z, Rs z⟩)) (h2 : ∀ z, I z → K ⟨mods z ++ dropK ws fr, bls z, Rs z⟩) : VCdraw P E n id ops ⟨fr, bl, R⟩ K :=
  draw_join (fun z => ⟨mods z ++ dropK ws fr, bls z, Rs z⟩) I h1 h2

theorem join_stepI {α : Type} {st' : St} {I : α → Prop} {J : α → St} (x : α) (h1 : FrLe st'.bl (J x).bl st'.fr (J x).fr) (h2 : BlLe st'.bl (J x).bl) (h4 : I x) (h3 : RLe st'.R (J x).R) :
    ∃ x', I x' ∧ Weak st' (J x') := ⟨x, h4, h1, h2, h3⟩
theorem join_step {α : Type} {st' : St} {I : α → Prop} {J : α → St} (x : α) (h1 : FrLe st'.bl (J x).bl st'.fr (J x).fr) (h2 : BlLe st'.bl (J x).bl) (h3 : RLe st'.R (J x).R) (h4 : I x) :
    ∃ x', I x' ∧ Weak st' (J x') := ⟨x, h4, h1, h2, h3⟩
end
end Go.SX
