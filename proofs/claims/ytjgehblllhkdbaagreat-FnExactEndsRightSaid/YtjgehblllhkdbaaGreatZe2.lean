/-
 Parts of the law, put together. Conditions: none.
-/
import Derived.Test.YtjgehblllhkdbaaGreatZe1
set_option maxHeartbeats 4000000
set_option linter.unusedSimpArgs false
set_option linter.unusedVariables false
namespace Go.SX
section
variable {P : Program} {E : World} {Γ : Ty} {n : Nat} {α : Type}
theorem load_part {r : Rp α} (z : α) {H H' : Hp} {base : Option Addr} {m cap : Nat} {xs : List α} {i : Int} {b o off c : Nat} {F : List Value → Prop} (d : Nat)
  (h : (rpSl r).rd H [.slice base m cap] xs) (h0 : 0 ≤ i) (h1 : i < xs.length) (hb : base = some ⟨b, o, none⟩) (hoff : off = o + i.toNat * r.size + d) (hd : d + c ≤ r.size)
  (sub : ∀ p ∈ H, p ∈ H') (k : ∀ l, r.rd H l (xs[i.toNat]?.getD z) → F ((l.drop d).take c)) : VCload H' b off c F := by
 obtain ⟨base', cap', e, _, h3⟩ := h
 cases e
 obtain ⟨b', o', l, h4, h5, h6⟩ := h3 i.toNat (by omega)
 rw [hb] at h4; cases h4
 obtain ⟨g1, cs, T, fz, g2, g3⟩ := h5
 refine .intro ((l.drop d).take c) ⟨by rw [List.length_take, List.length_drop]; omega, cs, T, fz, sub _ g2, fun j hj => ?_⟩ (k l (by rw [List.getElem?_eq_getElem (by omega)]; exact h6))
 have := g3 (d + j) (by omega)
 rw [hoff, Nat.add_assoc (o + i.toNat * r.size) d j, this, List.getElem?_take, if_pos hj, List.getElem?_drop]
theorem load_all {r : Rp α} (z : α) {H H' : Hp} {base : Option Addr} {m cap : Nat} {xs : List α} {i : Int} {b o off : Nat} {F : List Value → Prop}
  (h : (rpSl r).rd H [.slice base m cap] xs) (h0 : 0 ≤ i) (h1 : i < xs.length) (hb : base = some ⟨b, o, none⟩) (hoff : off = o + i.toNat * r.size)
  (sub : ∀ p ∈ H, p ∈ H') (k : ∀ l, r.rd H l (xs[i.toNat]?.getD z) → F l) : VCload H' b off r.size F := by
 refine load_part z 0 h h0 h1 hb (by omega) (by omega) sub fun l hl => ?_
 have := r.len hl
 rw [List.drop_zero, ← this, List.take_length]
 exact k l hl
theorem load_allN {r : Rp α} (z : α) (k : Nat) {H H' : Hp} {base : Option Addr} {m cap : Nat} {xs : List α} {i : Int} {b o off : Nat} {F : List Value → Prop} (hk : i = (k : Int))
  (h : (rpSl r).rd H [.slice base m cap] xs) (h0 : 0 ≤ i) (h1 : i < xs.length) (hb : base = some ⟨b, o, none⟩) (hoff : off = o + i.toNat * r.size)
  (sub : ∀ p ∈ H, p ∈ H') (c : ∀ l, r.rd H l (xs[k]?.getD z) → F l) : VCload H' b off r.size F := by
 subst hk; exact load_all z h h0 h1 hb hoff sub c
theorem load_partN {r : Rp α} (z : α) (k : Nat) {H H' : Hp} {base : Option Addr} {m cap : Nat} {xs : List α} {i : Int} {b o off c : Nat} {F : List Value → Prop} (d : Nat) (hk : i = (k : Int))
  (h : (rpSl r).rd H [.slice base m cap] xs) (h0 : 0 ≤ i) (h1 : i < xs.length) (hb : base = some ⟨b, o, none⟩) (hoff : off = o + i.toNat * r.size + d) (hd : d + c ≤ r.size)
  (sub : ∀ p ∈ H, p ∈ H') (f : ∀ l, r.rd H l (xs[k]?.getD z) → F ((l.drop d).take c)) : VCload H' b off c F := by
 subst hk; exact load_part z d h h0 h1 hb hoff hd sub f
def dropK (ws : List Nat) : Fr → Fr
 | [] => []
 | (k, s) :: r => match ws.elem k with
  | true => dropK ws r
  | false => (k, s) :: dropK (k :: ws) r
theorem loop_mod {body : Code} {fr : Fr} {bl : List Blk} {R : List Hp} {Q : Exit → St → Prop} (hΓ : TyOk P Γ) (ws : List Nat) (mods : α → Fr) (bls : α → List Blk) (Rs : α → List Hp) (μ : α → Nat) (I : α → Prop)
  (x0 : α) (h0 : FrLe bl (bls x0) fr (mods x0 ++ dropK ws fr)) (h1 : BlLe bl (bls x0)) (hi : I x0) (h2 : RLe R (Rs x0))
  (hr : ∀ x, I x → exC P E Γ n body ⟨mods x ++ dropK ws fr, bls x, Rs x⟩ (thenQ (fun st' => ∃ x', I x' ∧ μ x' < μ x ∧ Weak st' ⟨mods x' ++ dropK ws fr, bls x', Rs x'⟩) Q)) : VCloop P E n body ⟨fr, bl, R⟩ Q :=
 loop_intro hΓ (fun x => ⟨mods x ++ dropK ws fr, bls x, Rs x⟩) μ I x0 hi ⟨h0, h1, h2⟩ hr
theorem loop_stepI {st' : St} {I : α → Prop} {μ : α → Nat} {J : α → St} {m0 : Nat} (x : α) (h1 : FrLe st'.bl (J x).bl st'.fr (J x).fr) (h2 : BlLe st'.bl (J x).bl) (h4 : I x) (h3 : RLe st'.R (J x).R) (h5 : μ x < m0) :
  ∃ x', I x' ∧ μ x' < m0 ∧ Weak st' (J x') := ⟨x, h4, h5, h1, h2, h3⟩
theorem RLe.any {R' R : List Hp} (h : R' = R) : RLe R' R := h ▸ .refl _
end
end Go.SX
namespace Go.SX
structure Gt (α : Type) extends Rp α where
 ow : List Value → α → Hp → Prop
 owrd : ∀ {l : List Value} {x : α} {A : Hp}, ow l x A → rd A l x
 owp : ∀ {l : List Value} {x : α} {A A' : Hp}, ow l x A → A'.Perm A → ow l x A'
 one : ∀ {H : Hp} {l : List Value} {x : α}, rd H l x → allOne l = true
 pos : 0 < size
 cnt : α → Nat
 mark : Int → α → α
 cntV : α → Nat
 markV : Int → α → α
 sz : α → Nat
 w : Nat
 cnt_le : ∀ x, cnt x ≤ w * (1 + sz x)
 cntV_le : ∀ x, cntV x ≤ w * (1 + sz x)
def Fl.gt {α : Type} (f : Fl α) (mk : Int → α) (sz : α → Nat := fun _ => 0) : Gt α where
 toRp := f.rp
 ow l x A := l = f.enc x ∧ f.wf x ∧ A = []
 owrd h := ⟨h.1, h.2.1⟩
 owp h hp := ⟨h.1, h.2.1, by rw [h.2.2] at hp; exact hp.eq_nil⟩
 one h := by rw [h.1]; exact f.one _
 pos := f.pos
 cnt _ := 1
 mark k _ := mk k
 cntV _ := 0
 markV _ x := x
 sz := sz
 w := 1
 cnt_le x := by omega
 cntV_le x := by omega
abbrev RawC (s : Nat) : Type := { l : List Value // l.length = s ∧ allOne l = true }
def flRaw (s : Nat) (hs : 0 < s) : Fl (RawC s) := ⟨s, fun l => l.1, fun _ => True, fun l => l.2.1, fun l => l.2.2, hs⟩
section
variable {α : Type}
inductive OwL (g : Gt α) : List (RawC g.size) → List α → List Hp → Prop where
 | nil : OwL g [] [] []
 | cons {l : RawC g.size} {x : α} {A : Hp} {ls : List (RawC g.size)} {xs : List α} {As : List Hp} : g.ow l.1 x A → OwL g ls xs As → OwL g (l :: ls) (x :: xs) (A :: As)
theorem OwL.len {g : Gt α} {ls : List (RawC g.size)} {xs : List α} {As : List Hp} (h : OwL g ls xs As) : ls.length = xs.length ∧ As.length = xs.length := by
 induction h with
 | nil => exact ⟨rfl, rfl⟩
 | cons _ _ ih => simp [ih]
theorem OwL.get {g : Gt α} {ls : List (RawC g.size)} {xs : List α} {As : List Hp} (h : OwL g ls xs As) : ∀ (i : Nat) (h1 : i < xs.length) (h2 : i < ls.length) (h3 : i < As.length), g.ow (ls[i]).1 xs[i] As[i] := by
 induction h with
 | nil => intro i h1; simp at h1
 | cons h hr ih =>
  intro i h1 h2 h3
  cases i with
  | zero => exact h
  | succ i => exact ih i (by simpa using h1) (by simpa using h2) (by simpa using h3)
theorem OwL.append {g : Gt α} {ls ls' : List (RawC g.size)} {xs xs' : List α} {As As' : List Hp} (h : OwL g ls xs As) (h' : OwL g ls' xs' As') : OwL g (ls ++ ls') (xs ++ xs') (As ++ As') := by
 induction h with
 | nil => exact h'
 | cons h hr ih => exact .cons h ih
theorem OwL.set {g : Gt α} {ls : List (RawC g.size)} {xs : List α} {As : List Hp} (h : OwL g ls xs As) {l : RawC g.size} {y : α} {B : Hp} (hy : g.ow l.1 y B) : ∀ (i : Nat), OwL g (ls.set i l) (xs.set i y) (As.set i B) := by
 induction h with
 | nil => intro i; exact .nil
 | cons h hr ih =>
  intro i
  cases i with
  | zero => exact .cons hy hr
  | succ i => exact .cons h (ih i)
theorem OwL.take {g : Gt α} {ls : List (RawC g.size)} {xs : List α} {As : List Hp} (h : OwL g ls xs As) : ∀ (i : Nat), OwL g (ls.take i) (xs.take i) (As.take i) := by
 induction h with
 | nil => intro i; simp; exact .nil
 | cons h hr ih =>
  intro i
  cases i with
  | zero => exact .nil
  | succ i => exact .cons h (ih i)
theorem OwL.rep {g : Gt α} {l : RawC g.size} {z : α} (hz : g.ow l.1 z []) : ∀ n, OwL g (List.replicate n l) (List.replicate n z) (List.replicate n [])
 | 0 => .nil
 | n + 1 => .cons hz (OwL.rep hz n)
def mkL (g : Gt α) : Int → List α → List α
 | _, [] => []
 | k, x :: r => g.mark k x :: mkL g (k + g.cnt x) r
def cntL (g : Gt α) : List α → Nat
 | [] => 0
 | x :: r => g.cnt x + cntL g r
def szL (g : Gt α) : List α → Nat
 | [] => 0
 | x :: r => 1 + g.sz x + szL g r
theorem len_szL (g : Gt α) : ∀ (xs : List α), xs.length ≤ szL g xs
 | [] => Nat.le_refl _
 | x :: r => by have := len_szL g r; simp only [szL, List.length_cons]; omega
theorem cntL_le (g : Gt α) : ∀ (xs : List α), cntL g xs ≤ g.w * szL g xs
 | [] => by simp [cntL]
 | x :: r => by
  have h1 := g.cnt_le x
  have h2 := cntL_le g r
  simp only [cntL, szL]
  rw [Nat.mul_add g.w (1 + g.sz x) (szL g r)]
  omega
theorem flat_lists (As : List Hp) (i : Nat) (hi : i < As.length) : As.flatten.Perm (As[i] ++ (As.set i []).flatten) := by
 induction As generalizing i with
 | nil => simp at hi
 | cons A r ih =>
  cases i with
  | zero => simp
  | succ i =>
   have h := ih i (by simpa using hi)
   simp only [List.flatten_cons, List.getElem_cons_succ, List.set_cons_succ]
   refine (h.append_left A).trans ?_
   rw [← List.append_assoc, ← List.append_assoc]
   exact List.perm_append_comm.append_right _
def gSl (T : TypeId) (g : Gt α) : Gt (List α) where
 toRp := rpSl g.toRp
 ow l xs A := ∃ v ls A0 As, l = [v] ∧ Ow (flRaw g.size g.pos) T v ls A0 ∧ A.Perm (A0 ++ As.flatten) ∧ OwL g ls xs As
 owrd := by
  rintro l xs A ⟨v, ls, A0, As, rfl, ho, hp, hl⟩
  obtain ⟨base, cap, e, h1, h2⟩ := ho.rd
  obtain ⟨e1, e2⟩ := hl.len
  refine ⟨base, cap, by rw [← e1]; exact e, by rw [← e1]; exact h1, fun i hi => ?_⟩
  obtain ⟨b, o, l', h3, h4, h5⟩ := h2 i (by rw [e1]; exact hi)
  have hsub : ∀ p ∈ A0, p ∈ A := fun p hp' => hp.mem_iff.2 (List.mem_append_left _ hp')
  refine ⟨b, o, l', h3, h4.mono hsub, ?_⟩
  have h6 : l' = (ls[i]'(by rw [e1]; exact hi)).1 := h5.1
  rw [h6]
  refine g.mono (fun p hp' => hp.mem_iff.2 (List.mem_append_right _ ?_)) (g.owrd (hl.get i hi (by rw [e1]; exact hi) (by rw [e2]; exact hi)))
  exact List.mem_flatten.2 ⟨_, List.getElem_mem _, hp'⟩
 owp := by
  rintro l xs A A' ⟨v, ls, A0, As, rfl, ho, hp, hl⟩ h'
  exact ⟨v, ls, A0, As, rfl, ho, h'.trans hp, hl⟩
 one := by
  rintro H l xs ⟨_, _, rfl, _⟩; rfl
 pos := by show 0 < 1; omega
 cnt := cntL g
 mark := mkL g
 cntV := cntL g
 markV := mkL g
 sz := szL g
 w := g.w
 cnt_le xs := Nat.le_trans (cntL_le g xs) (Nat.mul_le_mul_left _ (by omega))
 cntV_le xs := Nat.le_trans (cntL_le g xs) (Nat.mul_le_mul_left _ (by omega))
theorem sl_rd {T : TypeId} {g : Gt α} {H : Hp} {l : List Value} {xs : List α} (h : (gSl T g).rd H l xs) : ∃ b c, l = [.slice b xs.length c] ∧ (gSl T g).rd H [.slice b xs.length c] xs := by
 obtain ⟨b, c, rfl, h1, h2⟩ := h
 exact ⟨b, c, rfl, b, c, rfl, h1, h2⟩
theorem sl_ow {T : TypeId} {g : Gt α} {A : Hp} {l : List Value} {xs : List α} (h : (gSl T g).ow l xs A) : ∃ b c, l = [.slice b xs.length c] ∧ (gSl T g).ow [.slice b xs.length c] xs A := by
 obtain ⟨b, c, rfl, h1, h2⟩ := (gSl T g).owrd h
 exact ⟨b, c, rfl, h⟩
theorem sl_len {T : TypeId} {g : Gt α} {H : Hp} {b : Option Addr} {m c : Nat} {xs : List α} (h : (gSl T g).rd H [.slice b m c] xs) : m = xs.length ∧ xs.length ≤ c ∧ xs.length ≤ 9223372036854775807 := by
 obtain ⟨b, c, e, h1, h2⟩ := h; cases e; exact ⟨rfl, h1⟩
theorem sl_nil (T : TypeId) (g : Gt α) (b : Option Addr) : (gSl T g).ow [.slice b 0 0] [] [] := ⟨_, [], [], [], rfl, Ow.nil _ _, by simp, .nil⟩
theorem fl_ow {f : Fl α} {mk : Int → α} {sz : α → Nat} {T : TypeId} {v : Value} {xs : List α} {A : Hp} (h : (gSl T (f.gt mk sz)).ow [v] xs A) : Ow f T v xs A := by
 obtain ⟨v', ls, A0, As, e, ho, hp, hl⟩ := h
 cases e
 have hA : ∀ {ls : List (RawC (f.gt mk sz).size)} {xs : List α} {As : List Hp}, OwL (f.gt mk sz) ls xs As → As.flatten = [] ∧ (∀ x ∈ xs, f.wf x) ∧ ls.flatMap (flRaw (f.gt mk sz).size (f.gt mk sz).pos).enc = xs.flatMap f.enc := by
  intro ls xs As h
  induction h with
  | nil => exact ⟨rfl, (fun _ h => by cases h), rfl⟩
  | cons h hr ih =>
   obtain ⟨h1, h2, h3⟩ := h
   refine ⟨by rw [List.flatten_cons, h3, ih.1]; rfl, ?_, ?_⟩
   ·intro y hy
    rcases List.mem_cons.1 hy with rfl | hy
    ·exact h2
    exact ih.2.1 y hy
   rw [List.flatMap_cons, List.flatMap_cons, ih.2.2]; congr 1
 obtain ⟨h1, h2, h3⟩ := hA hl
 rw [h1, List.append_nil] at hp
 obtain ⟨e1, _⟩ := hl.len
 obtain ⟨_, g1, base, cap, e, g2⟩ := ho
 rw [e1] at g1 e
 refine ⟨h2, g1, base, cap, e, ?_⟩
 rcases g2 with ⟨rfl, rfl, rfl⟩ | ⟨b, sp, g3, rfl, g4, g5⟩
 ·have : xs = [] := by cases hl; rfl
  exact .inl ⟨rfl, this, hp.eq_nil⟩
 refine .inr ⟨b, sp, g3, ?_, by rw [← e1]; exact g4, by rw [← e1]; exact g5⟩
 rw [← h3]
 exact List.perm_singleton.1 hp
theorem ow_fl {f : Fl α} {mk : Int → α} {sz : α → Nat} {T : TypeId} {v : Value} {xs : List α} {A : Hp} (h : Ow f T v xs A) : (gSl T (f.gt mk sz)).ow [v] xs A := by
 obtain ⟨h1, h2, base, cap, rfl, h3⟩ := h
 have key : ∀ (xs : List α), (∀ x ∈ xs, f.wf x) → ∃ ls As, OwL (f.gt mk sz) ls xs As ∧ As.flatten = [] ∧ ls.flatMap (flRaw (f.gt mk sz).size (f.gt mk sz).pos).enc = xs.flatMap f.enc := by
  intro xs
  induction xs with
  | nil => intro _; exact ⟨[], [], .nil, rfl, rfl⟩
  | cons x r ih =>
   intro hw
   obtain ⟨ls, As, g1, g2, g3⟩ := ih (fun y hy => hw y (List.mem_cons_of_mem _ hy))
   refine ⟨⟨f.enc x, f.len x, f.one x⟩ :: ls, [] :: As, .cons ⟨rfl, hw x (List.mem_cons_self ..), rfl⟩ g1, by rw [List.flatten_cons, g2]; rfl, ?_⟩
   exact congrArg (fun q => f.enc x ++ q) g3
 obtain ⟨ls, As, g1, g2, g3⟩ := key xs h1
 obtain ⟨e1, _⟩ := g1.len
 refine ⟨_, ls, A, As, rfl, ⟨fun _ _ => trivial, by rw [e1]; exact h2, base, cap, by rw [e1], ?_⟩, by rw [g2, List.append_nil], g1⟩
 rcases h3 with ⟨rfl, rfl, rfl⟩ | ⟨b, sp, h4, rfl, h5, h6⟩
 ·have : ls = [] := by cases g1; rfl
  exact .inl ⟨rfl, this, rfl⟩
 exact .inr ⟨b, sp, h4, by rw [g3], by rw [e1]; exact h5, by rw [e1]; exact h6⟩
end
def gPair {α β : Type} (g : Gt α) (h : Gt β) : Gt (α × β) where
 size := g.size + h.size
 rd H l x := ∃ l1 l2, l = l1 ++ l2 ∧ g.rd H l1 x.1 ∧ h.rd H l2 x.2
 mono hh := by rintro ⟨l1, l2, e, h1, h2⟩; exact ⟨l1, l2, e, g.mono hh h1, h.mono hh h2⟩
 len := by rintro H l x ⟨l1, l2, rfl, h1, h2⟩; rw [List.length_append, g.len h1, h.len h2]
 ow l x A := ∃ l1 l2 A1 A2, l = l1 ++ l2 ∧ A.Perm (A1 ++ A2) ∧ g.ow l1 x.1 A1 ∧ h.ow l2 x.2 A2
 owrd := by
  rintro l x A ⟨l1, l2, A1, A2, rfl, hp, h1, h2⟩
  exact ⟨l1, l2, rfl, g.mono (fun p hp' => hp.mem_iff.2 (List.mem_append_left _ hp')) (g.owrd h1), h.mono (fun p hp' => hp.mem_iff.2 (List.mem_append_right _ hp')) (h.owrd h2)⟩
 owp := by
  rintro l x A A' ⟨l1, l2, A1, A2, rfl, hp, h1, h2⟩ h'
  exact ⟨l1, l2, A1, A2, rfl, h'.trans hp, h1, h2⟩
 one := by rintro H l x ⟨l1, l2, rfl, h1, h2⟩; exact allOne_append _ _ (g.one h1) (h.one h2)
 pos := by have := g.pos; omega
 cnt x := g.cnt x.1 + h.cnt x.2
 mark k x := (g.mark k x.1, h.mark (k + g.cnt x.1) x.2)
 cntV x := g.cntV x.1 + h.cntV x.2
 markV k x := (g.markV k x.1, h.markV (k + g.cntV x.1) x.2)
 sz x := g.sz x.1 + h.sz x.2
 w := g.w + h.w
 cnt_le x := Nat.le_trans (Nat.add_le_add (g.cnt_le x.1) (h.cnt_le x.2)) (by
  rw [Nat.add_mul]; exact Nat.add_le_add (Nat.mul_le_mul_left _ (by omega)) (Nat.mul_le_mul_left _ (by omega)))
 cntV_le x := Nat.le_trans (Nat.add_le_add (g.cntV_le x.1) (h.cntV_le x.2)) (by
  rw [Nat.add_mul]; exact Nat.add_le_add (Nat.mul_le_mul_left _ (by omega)) (Nat.mul_le_mul_left _ (by omega)))
def gIso {α β : Type} (g : Gt α) (f : β → α) (f' : α → β) : Gt β where
 size := g.size
 rd H l x := g.rd H l (f x)
 mono hh h := g.mono hh h
 len h := g.len h
 ow l x A := g.ow l (f x) A
 owrd h := g.owrd h
 owp h hp := g.owp h hp
 one h := g.one h
 pos := g.pos
 cnt x := g.cnt (f x)
 mark k x := f' (g.mark k (f x))
 cntV x := g.cntV (f x)
 markV k x := f' (g.markV k (f x))
 sz x := g.sz (f x)
 w := g.w
 cnt_le x := g.cnt_le (f x)
 cntV_le x := g.cntV_le (f x)
section
variable {α : Type} {g : Gt α} {T : TypeId}
theorem set_split {β : Type} (ls : List β) (i : Nat) (q : β) (h : i < ls.length) : ls.set i q = ls.take i ++ q :: ls.drop (i + 1) := by
 rw [List.set_eq_take_append_cons_drop, if_pos h]
theorem raw_of {H : Hp} {l : List Value} {x : α} (h : g.rd H l x) : l.length = g.size ∧ allOne l = true := ⟨g.len h, g.one h⟩
theorem gstore {R : List Hp} {A : Hp} {base : Option Addr} {m cap : Nat} {xs : List α} {i : Int} {b o off : Nat} {l : List Value} {F : List Hp → Prop} (n : Nat) (hn : nthR R n = some A) (h : (gSl T g).ow [.slice base m cap] xs A)
  (h0 : 0 ≤ i) (h1 : i < xs.length) (hb : base = some ⟨b, o, none⟩) (d : Nat) (hoff : off = o + i.toNat * g.size + d) (y : α)
  (hy : ∀ lx Ax, g.ow lx (xs[i.toNat]'(by omega)) Ax → d + l.length ≤ g.size ∧ ∃ Ay, g.ow (setAt lx d l) y Ay ∧ Ax.Perm Ay)
  (k : ∀ A', A'.length = A.length → (gSl T g).ow [.slice base m cap] (xs.set i.toNat y) A' → F (setR R n A')) : VCstore R b off l F := by
 obtain ⟨v, ls, A0, As, e, ho, hp, hl⟩ := h
 cases e
 obtain ⟨e1, e2⟩ := hl.len
 have hi : i.toNat < xs.length := by omega
 have g0 := hl.get i.toNat hi (by omega) (by omega)
 obtain ⟨hd, Ay, hoy, hperm⟩ := hy _ _ g0
 subst hoff
 obtain ⟨hw, hlen, base', cap', e, h2⟩ := ho
 cases e
 rcases h2 with ⟨rfl, rfl, rfl⟩ | ⟨b', sp, h3, rfl, h4, h5⟩
 ·simp at e1; omega
 rw [hb] at h3; cases h3
 have hmem : (b, Obj.cells ⟨ls.flatMap (flRaw g.size g.pos).enc ++ sp⟩ T) ∈ A := hp.mem_iff.2 (List.mem_append_left _ (List.mem_singleton.2 rfl))
 obtain ⟨s, t, hst⟩ := List.append_of_mem hmem
 obtain ⟨pre, post, h6, h7⟩ := nthR_split hn
 have hoyr := raw_of (g.owrd hoy)
 have hsl : setAt (ls.flatMap (flRaw g.size g.pos).enc ++ sp) (i.toNat * g.size + d) l = (ls.set i.toNat ⟨setAt (ls[i.toNat]'(by omega)).1 d l, hoyr⟩).flatMap (flRaw g.size g.pos).enc ++ sp := by
  have e3 : ls.flatMap (flRaw g.size g.pos).enc = (ls.take i.toNat).flatMap (flRaw g.size g.pos).enc ++ ((ls[i.toNat]'(by omega)).1 ++ (ls.drop (i.toNat + 1)).flatMap (flRaw g.size g.pos).enc) := by
   conv => lhs; rw [← List.take_append_drop i.toNat ls, List.drop_eq_getElem_cons (by omega : i.toNat < ls.length)]
   rw [List.flatMap_append, List.flatMap_cons]; rfl
  have e4 : ((ls.take i.toNat).flatMap (flRaw g.size g.pos).enc).length = i.toNat * g.size := by
   rw [flat_length, List.length_take, Nat.min_eq_left (by omega)]; rfl
  have e5 : (ls[i.toNat]'(by omega)).1.length = g.size := (ls[i.toNat]'(by omega)).2.1
  have e6 : (ls.set i.toNat ⟨setAt (ls[i.toNat]'(by omega)).1 d l, hoyr⟩).flatMap (flRaw g.size g.pos).enc = (ls.take i.toNat).flatMap (flRaw g.size g.pos).enc ++ (setAt (ls[i.toNat]'(by omega)).1 d l ++ (ls.drop (i.toNat + 1)).flatMap (flRaw g.size g.pos).enc) := by
   rw [set_split _ _ _ (by omega), List.flatMap_append, List.flatMap_cons]; rfl
  rw [e6, e3]
  have gen : ∀ (P0 C Q : List Value), P0.length = i.toNat * g.size → d + l.length ≤ C.length → setAt (P0 ++ (C ++ Q) ++ sp) (i.toNat * g.size + d) l = P0 ++ (setAt C d l ++ Q) ++ sp := by
   intro P0 C Q hP hC
   rw [setAt_eq _ _ _ (by simp only [List.length_append]; omega), setAt_eq _ _ _ hC]
   simp only [List.append_assoc]
   rw [List.take_append, List.drop_append, List.take_of_length_le (by omega), List.drop_eq_nil_of_le (by omega : P0.length ≤ i.toNat * g.size + d + l.length)]
   rw [show i.toNat * g.size + d - P0.length = d by omega, show i.toNat * g.size + d + l.length - P0.length = d + l.length by omega]
   rw [List.take_append_of_le_length (by omega), List.drop_append_of_le_length (by omega)]
   simp only [List.append_assoc, List.nil_append]
  exact gen _ _ _ e4 (by rw [e5]; exact hd)
 refine .intro (setR R n (s ++ (b, Obj.cells ⟨(ls.set i.toNat ⟨setAt (ls[i.toNat]'(by omega)).1 d l, hoyr⟩).flatMap (flRaw g.size g.pos).enc ++ sp⟩ T) :: t)) ?_ (k _ (by rw [hst]; simp) ⟨_, ls.set i.toNat ⟨setAt (ls[i.toNat]'(by omega)).1 d l, hoyr⟩, [(b, Obj.cells ⟨(ls.set i.toNat ⟨setAt (ls[i.toNat]'(by omega)).1 d l, hoyr⟩).flatMap (flRaw g.size g.pos).enc ++ sp⟩ T)], As.set i.toNat Ay, rfl, ⟨fun _ _ => trivial, by simpa using hlen, some ⟨b, 0, none⟩, cap, by rw [hb, List.length_set], .inr ⟨b, sp, rfl, rfl, by simpa using h4, by simpa using h5⟩⟩, ?_, hl.set hoy i.toNat⟩)
 ·refine ⟨pre, post, s, t, ⟨ls.flatMap (flRaw g.size g.pos).enc ++ sp⟩, T, by rw [h6, hst], ?_, ?_⟩
  ·show 0 + i.toNat * g.size + d + l.length ≤ (ls.flatMap (flRaw g.size g.pos).enc ++ sp).length
   rw [List.length_append, flat_length]
   have : (flRaw g.size g.pos).size = g.size := rfl
   rw [this]
   have := Nat.mul_le_mul_right g.size (show i.toNat + 1 ≤ ls.length by omega)
   rw [Nat.succ_mul] at this; omega
  rw [h7]
  simp only [Nat.zero_add]
  rw [hsl]
 rw [hst] at hp
 have h8 : (s ++ t).Perm As.flatten := by
  have := (List.perm_middle (a := (b, Obj.cells ⟨ls.flatMap (flRaw g.size g.pos).enc ++ sp⟩ T)) (l₁ := s) (l₂ := t)).symm.trans hp
  exact (List.perm_cons _).1 this
 have h9 : As.flatten.Perm (As.set i.toNat Ay).flatten := by
  have q1 := flat_lists As i.toNat (by omega)
  have q2 := flat_lists (As.set i.toNat Ay) i.toNat (by simpa using (by omega : i.toNat < As.length))
  simp only [List.getElem_set_self, List.set_set] at q2
  exact q1.trans ((hperm.append_right _).trans q2.symm)
 refine List.perm_middle.trans ?_
 exact List.Perm.cons _ (h8.trans h9)
end
end Go.SX
namespace Go.SX
section
variable {P : Program} {E : World} {Γ : Ty} {n : Nat} {α : Type} {g : Gt α} {T : TypeId}
theorem VCraw.conv {o : Oper} {fr : Fr} {bl : List Blk} {R R2 : List Hp} {K : St → Prop} (h0 : RLe R R2)
  (h : VCraw P E n o ⟨fr, bl, R2⟩ (fun st => ∃ R', RLe st.R R' ∧ K ⟨st.fr, st.bl, R'⟩)) : VCraw P E n o ⟨fr, bl, R⟩ K := by
 obtain ⟨h⟩ := h
 refine ⟨fun a w hr Q => ?_⟩
 refine Oper.wp_next (h a w (hr.repart h0) Q) ?_
 rintro a' w' ⟨st, h1, R', h2, h3⟩
 obtain ⟨fr', bl', R''⟩ := st
 exact ⟨_, h1.repart h2, h3⟩
theorem lit_rd {f : Fl α} {b : Nat} {l : List Value} {y : α} {T' : TypeId} {H : Hp} (hm : (b, Obj.cells ⟨l⟩ T') ∈ H) (hl : l = f.enc y) (hy : f.wf y) : (rpSl f.rp).rd H [.slice (some ⟨b, 0, none⟩) 1 1] [y] := by
 subst hl
 refine ⟨some ⟨b, 0, none⟩, 1, rfl, by simp, fun i hi => ?_⟩
 have : i = 0 := by simpa using hi
 subst this
 refine ⟨b, 0, f.enc y, rfl, ⟨f.len y, _, _, _, hm, fun j hj => ?_⟩, rfl, hy⟩
 simp
theorem putK_mono {fr : Fr} {dst : Option Nat} {s : SV} {K K' : Fr → Prop} (h : putK n fr dst s K) (hk : ∀ fr, K fr → K' fr) : putK n fr dst s K' := by
 unfold putK at h ⊢
 split at h
 ·exact hk _ h
 split at h
 ·exact hk _ h
 exact h.elim
theorem gappend1 (hΓ : TyOk P Γ) {dst : Option Nat} {s x : Operand} {sT xT e2 ty : TypeId} {pos : String} {after : Array Edge} {guard : Option (Nat × Bool)} {fr : Fr} {bl : List Blk} {R : List Hp} {K : St → Prop} {ti : TI}
  (A B : Hp) (Rr : List Hp) {base : Option Addr} {xb m cap : Nat} {xs : List α} {l : List Value} {y : α} {T' : TypeId} (hR : RLe R (A :: B :: Rr)) (ho : (gSl T g).ow [.slice base m cap] xs A) (hB : g.ow l y B)
  (hlit : [(xb, Obj.cells ⟨l⟩ T')] ∈ R)
  (hs1 : getK fr s fun sv => sv = .v (.slice base m cap)) (hx1 : getK fr x fun sv => sv = .v (.slice (some ⟨xb, 0, none⟩) 1 1))
  (hsT : undOf Γ sT = some (.slice T)) (hxT : undOf Γ xT = some (.slice e2)) (ht : tyOf Γ T = some ti) (hsz : ti.size = g.size) (hz : lenIs ti.zero.cells.toList g.size = true)
  (hby : Nat.ble ti.bytes 65536 = true) (hlen : xs.length + 1 ≤ 1073741824)
  (hk : ∀ base' cap' A', (gSl T g).ow [.slice base' (xs ++ [y]).length cap'] (xs ++ [y]) A' → putK n fr dst (.v (.slice base' (xs ++ [y]).length cap')) fun fr => K ⟨fr, bl, A' :: Rr⟩) :
  VCraw P E n ⟨dst, .call ⟨.builtin .append, #[s, x], #[sT, xT]⟩, ty, pos, after, guard⟩ ⟨fr, bl, R⟩ K := by
 have e0 : (xs ++ [y]).length = xs.length + 1 := by simp
 simp only [e0] at hk
 obtain ⟨v, ls, A0, As, e, ho, hp, hl⟩ := ho
 cases e
 obtain ⟨L, hL⟩ := hR
 obtain ⟨e1, e2'⟩ := hl.len
 have hm : m = ls.length := (by obtain ⟨_, _, _, _, e, _⟩ := ho; cases e; rfl)
 subst hm
 have hraw := raw_of (g.owrd hB)
 have hperm : R.flatten.Perm (A0 ++ (As.flatten ++ (B ++ (Rr.flatten ++ L)))) := by
  refine hL.trans ?_
  simp only [List.flatten_cons]
  have := hp.append_right (B ++ (Rr.flatten ++ L))
  simpa only [List.append_assoc] using this
 refine VCraw.conv (R2 := [A0, As.flatten ++ (B ++ (Rr.flatten ++ L))]) ⟨[], by simpa using hperm⟩ ?_
 have hmem : (xb, Obj.cells ⟨l⟩ T') ∈ St.hall ⟨[], bl, [A0, As.flatten ++ (B ++ (Rr.flatten ++ L))]⟩ := by
  have h1 : (xb, Obj.cells ⟨l⟩ T') ∈ R.flatten := List.mem_flatten.2 ⟨_, hlit, List.mem_singleton.2 rfl⟩
  have h2 := hperm.mem_iff.1 h1
  simp only [St.hall, List.flatten_cons, List.flatten_nil, List.append_nil]
  exact List.mem_append_right _ h2
 have hx : (rpSl (flRaw g.size g.pos).rp).rd (St.hall ⟨[], bl, [A0, As.flatten ++ (B ++ (Rr.flatten ++ L))]⟩) [.slice (some ⟨xb, 0, none⟩) 1 1] [⟨l, hraw⟩] := lit_rd (f := flRaw g.size g.pos) hmem rfl trivial
 refine append_ow (f := flRaw g.size g.pos) hΓ 0 rfl ho hx (fun _ _ => trivial) hs1 hx1 hsT hxT ht hsz hz hby (by rw [e1]; exact hlen) ?_
 intro base' cap' A' ho' _
 have h3 : (gSl T g).ow [.slice base' (xs.length + 1) cap'] (xs ++ [y]) (A' ++ (As ++ [B]).flatten) := by
  refine ⟨_, ls ++ [⟨l, hraw⟩], A', As ++ [B], rfl, ?_, .refl _, hl.append (.cons hB .nil)⟩
  rw [← e1]; exact ho'
 have h4 := hk base' cap' _ h3
 have e3 : ls.length + [(⟨l, hraw⟩ : RawC g.size)].length = xs.length + 1 := by rw [e1]; rfl
 rw [e3]
 refine putK_mono h4 fun fr' hK => ⟨_, ?_, hK⟩
 refine ⟨L, ?_⟩
 simp only [setR, List.flatten_cons, List.flatten_nil, List.append_nil, List.flatten_append]
 simp only [List.append_assoc]
 exact .refl _
open Classical in
theorem gstore1 {R : List Hp} (A B : Hp) (Rr : List Hp) {base : Option Addr} {m cap : Nat} {xs : List α} {i : Int} {b o off : Nat} {l : List Value} {F : List Hp → Prop} (hR : RLe R (A :: B :: Rr)) (h : (gSl T g).ow [.slice base m cap] xs A)
  (h0 : 0 ≤ i) (h1 : i < xs.length) (hb : base = some ⟨b, o, none⟩) (hoff : off = o + i.toNat * g.size) (y : α) (hy : g.ow l y B)
  (k : ∀ A', (gSl T g).ow [.slice base m cap] (xs.set i.toNat y) A' → F (A' :: Rr)) : VCstore R b off l F := by
 obtain ⟨v, ls, A0, As, e, ho, hp, hl⟩ := h
 cases e
 obtain ⟨L, hL⟩ := hR
 obtain ⟨e1, e2⟩ := hl.len
 have hraw := raw_of (g.owrd hy)
 obtain ⟨hw, hlen, base', cap', e, h2⟩ := ho
 cases e
 rcases h2 with ⟨rfl, rfl, rfl⟩ | ⟨b', sp, h3, rfl, h4, h5⟩
 ·simp at e1; omega
 rw [hb] at h3; cases h3
 subst hoff
 have hset := flat_set (flRaw g.size g.pos) ls i.toNat ⟨l, hraw⟩ sp (by omega)
 refine .part ([[(b, Obj.cells ⟨ls.flatMap (flRaw g.size g.pos).enc ++ sp⟩ T)], As.flatten ++ (B ++ (Rr.flatten ++ L))]) ([[(b, Obj.cells ⟨(ls.set i.toNat ⟨l, hraw⟩).flatMap (flRaw g.size g.pos).enc ++ sp⟩ T)], As.flatten ++ (B ++ (Rr.flatten ++ L))])
  (([(b, Obj.cells ⟨(ls.set i.toNat ⟨l, hraw⟩).flatMap (flRaw g.size g.pos).enc ++ sp⟩ T)] ++ (As.set i.toNat B).flatten) :: Rr) ?_ ?_ ?_ (k _ ⟨_, ls.set i.toNat ⟨l, hraw⟩, [(b, Obj.cells ⟨(ls.set i.toNat ⟨l, hraw⟩).flatMap (flRaw g.size g.pos).enc ++ sp⟩ T)], As.set i.toNat B, rfl, ⟨fun _ _ => trivial, by simpa using hlen, some ⟨b, 0, none⟩, cap, by rw [hb, List.length_set], .inr ⟨b, sp, rfl, rfl, by simpa using h4, by simpa using h5⟩⟩, .refl _, hl.set hy i.toNat⟩)
 ·refine ⟨[], ?_⟩
  refine hL.trans ?_
  simp only [List.flatten_cons, List.flatten_nil, List.append_nil]
  have := hp.append_right (B ++ (Rr.flatten ++ L))
  simpa only [List.append_assoc] using this
 ·refine ⟨[], [As.flatten ++ (B ++ (Rr.flatten ++ L))], [], [], ⟨ls.flatMap (flRaw g.size g.pos).enc ++ sp⟩, T, rfl, ?_, ?_⟩
  ·show 0 + i.toNat * g.size + l.length ≤ (ls.flatMap (flRaw g.size g.pos).enc ++ sp).length
   rw [List.length_append, flat_length, hraw.1]
   have : (flRaw g.size g.pos).size = g.size := rfl
   rw [this]
   have := Nat.mul_le_mul_right g.size (show i.toNat + 1 ≤ ls.length by omega)
   rw [Nat.succ_mul] at this; omega
  simp only [List.nil_append, Nat.zero_add]
  have hset' : setAt (ls.flatMap (flRaw g.size g.pos).enc ++ sp) (i.toNat * g.size) l = (ls.set i.toNat ⟨l, hraw⟩).flatMap (flRaw g.size g.pos).enc ++ sp := hset
  rw [hset']
 have q1 := flat_lists As i.toNat (by omega)
 have q2 := flat_lists (As.set i.toNat B) i.toNat (by simpa using (by omega : i.toNat < As.length))
 simp only [List.getElem_set_self, List.set_set] at q2
 refine ⟨As[i.toNat]'(by omega) ++ L, ?_⟩
 refine perm_cnt fun a => ?_
 have c1 := q1.count_eq a
 have c2 := q2.count_eq a
 simp only [List.count_append] at c1 c2
 simp only [List.flatten_cons, List.flatten_nil, List.append_nil, List.count_append]
 omega
theorem sl_eq {b : Option Addr} {m m' c : Nat} (h : m = m') : Value.slice b m c = Value.slice b m' c := by rw [h]
theorem gmake {z : α} {lz : List Value} {b k c : Nat} (hz : g.ow lz z []) (hn : k ≤ c) (hc : c ≤ 281474976710656) : (gSl T g).ow [.slice (some ⟨b, 0, none⟩) k c] (List.replicate k z) [(b, Obj.cells ⟨zeros c lz⟩ T)] :=
 ⟨_, List.replicate k ⟨lz, raw_of (g.owrd hz)⟩, _, List.replicate k [], rfl, Ow.make (f := flRaw g.size g.pos) (z := ⟨lz, raw_of (g.owrd hz)⟩) trivial hn hc, by simp; rfl, OwL.rep hz k⟩
end
def gI : Gt Int := flInt.gt fun k => k
def gB : Gt Bool := flBool.gt fun k => k.tmod 3 == 0
def gY : Gt UInt8 := flByte.gt fun k => UInt8.ofNat (k % 256).toNat
theorem gI_ow {x : Int} (h : okI x) : gI.ow [.int .i64 x] x [] := ⟨rfl, h, rfl⟩
theorem gB_ow {x : Bool} (_ : True) : gB.ow [.bool x] x [] := ⟨rfl, trivial, rfl⟩
theorem gY_ow {x : UInt8} (_ : True) : gY.ow [.int .u8 x.toNat] x [] := ⟨rfl, trivial, rfl⟩
theorem wrap_of {x : Int} (h1 : -9223372036854775808 ≤ x) (h2 : x ≤ 9223372036854775807) : IntKind.i64.wrap x = x := wrap_ok ⟨h1, h2⟩
theorem okI_wrap (x : Int) : okI (IntKind.i64.wrap x) := by
 unfold okI IntKind.wrap
 simp only [IntKind.bits, IntKind.signed]
 simp only [Bool.true_and, decide_eq_true_eq, ge_iff_le]
 split <;> omega
end Go.SX
namespace Go.SX
theorem frI {p : Prop} (h : p := by repeat' (first | exact trivial | refine ⟨⟨_, rfl, by first | rfl | exact inc_eq _ (by omega) | (refine sl_eq ?_; simp; done), by first | exact trivial | simp [SV.ok]⟩, ?_⟩)) : p := h
theorem rlA {p : Prop} (h : p := by exact .le fun a => by (try simp only [setR, List.cons_append, List.nil_append]); simp only [List.flatten_append, List.flatten_cons, List.flatten_nil, List.count_append, List.count_nil, List.append_nil, List.nil_append]; omega) : p := h
theorem rlB {p : Prop} (h : p := by exact .le fun a => by (try simp only [setR, List.cons_append, List.nil_append]); simp [List.count_cons, Blk.ent, idOf]; try omega) : p := h
theorem woI {p : Prop} (h : p := by (try simp (disch := omega) only [wrap_of] at *); omega) : p := h
end Go.SX
namespace Go.SX
def CtR (P : Program) (f : FuncId) (args : List Value) (A0 : Hp) (pre : Hp → Prop) (post : Value → Hp → Prop) : Prop :=
 (∃ fn, P.funcs[f]? = some fn ∧ fn.name ≠ "runtime.NumGoroutine" ∧ fn.body.isSome = true) ∧
 ∀ E H w, Sat E (A0 ++ H) w → pre H → Calls P f ⟨args⟩ w fun e w' => ∃ v A, e = .returned v ∧ post v A ∧ Sat E (A ++ H) w'
def delBlk : List Blk → Nat → List Blk
 | [], _ => []
 | _ :: r, 0 => r
 | b :: r, i + 1 => b :: delBlk r i
theorem delBlk_perm : ∀ {bl : List Blk} {h : Nat} {b : Blk}, nthBlk bl h = some b → bl.Perm (b :: delBlk bl h)
 | [], _, _, e => by simp [nthBlk] at e
 | b :: r, 0, _, e => by cases e; exact .refl _
 | c :: r, i + 1, b, e => by
  have := delBlk_perm (bl := r) (h := i) (b := b) e
  exact (this.cons c).trans (.swap _ _ _)
theorem setBlk_perm : ∀ {bl bl' : List Blk} {h : Nat} {b : Blk} {cs : List Value}, nthBlk bl h = some b → setBlk bl h cs = some bl' → bl'.Perm (⟨b.id, cs, b.ty⟩ :: delBlk bl h) ∧ bl'.map Blk.id = bl.map Blk.id
 | [], _, _, _, _, e, _ => by simp [nthBlk] at e
 | b :: r, bl', 0, _, cs, e, e' => by
  cases e
  obtain ⟨i, c0, t⟩ := b
  simp only [setBlk, Option.some.injEq] at e'
  subst e'
  exact ⟨.refl _, rfl⟩
 | c :: r, bl', i + 1, b, cs, e, e' => by
  simp only [setBlk] at e'
  split at e'
  ·rename_i r' hr'
   cases e'
   obtain ⟨h1, h2⟩ := setBlk_perm (bl := r) (h := i) (b := b) e hr'
   exact ⟨(h1.cons c).trans (.swap _ _ _), by simp [h2]⟩
  cases e'
section
variable {P : Program} {E : World} {Γ : Ty}
theorem Ct.toR {f : FuncId} {args : List Value} {pre : Hp → Prop} {post : Value → Hp → Prop} (h : Ct P f args [] pre post) : CtR P f args [] pre post := h
theorem CtR.intro (hΓ : TyOk P Γ) {f : FuncId} {fn : Func} (L : List Hp) (hf : P.funcs[f]? = some fn) (hn : decide (fn.name = "runtime.NumGoroutine") = false) (hb : fn.body.isSome = true) {args : List Value} (ha : Nat.ble args.length fn.ntmps = true) {A0 : Hp} {pre : Hp → Prop} {post : Value → Hp → Prop}
  (hL : L.flatten = A0) (h : ∀ E H, pre H → exFn P E Γ fn args (L ++ [H]) fun v bl R => ∃ A, post v A ∧ RLe (bl.map Blk.ent :: R) [A, H]) : CtR P f args A0 pre post := by
 refine ⟨⟨fn, hf, of_decide_eq_false hn, hb⟩, fun E H w hs hp => ?_⟩
 refine (exFn_sound hΓ hf ha (h E H hp) (by simpa [hL] using hs)).mono ?_
 rintro e w' ⟨v, bl, R', h1, h2, A, h3, L, h4⟩
 refine ⟨v, A, h1, h3, ?_⟩
 have : (St.hall ⟨[], bl, R'⟩).Perm ((A ++ H) ++ L) := by simpa [St.hall] using h4
 exact (h2.perm this).drop
theorem CtR.introB (hΓ : TyOk P Γ) {f : FuncId} {fn : Func} (svs : List SV) (bl : List Blk) (L : List Hp) (hf : P.funcs[f]? = some fn) (hn : decide (fn.name = "runtime.NumGoroutine") = false) (hb : fn.body.isSome = true) {args : List Value} (ha : Nat.ble svs.length fn.ntmps = true)
  (hargs : svs.map (SV.den bl) = args) (hok : ∀ s ∈ svs, s.ok bl) {A0 : Hp} {pre : Hp → Prop} {post : Value → Hp → Prop}
  (hL : A0.Perm (bl.map Blk.ent ++ L.flatten)) (h : ∀ E H, pre H → exFnS P E Γ fn svs bl (L ++ [H]) fun v bl R => ∃ A, post v A ∧ RLe (bl.map Blk.ent :: R) [A, H]) : CtR P f args A0 pre post := by
 refine ⟨⟨fn, hf, of_decide_eq_false hn, hb⟩, fun E H w hs hp => ?_⟩
 subst hargs
 have hs' : Sat E (St.hall ⟨[], bl, L ++ [H]⟩) w := by
  refine hs.perm ?_
  have := hL.append_right H
  simpa [St.hall, List.append_assoc] using this
 refine (exFnS_sound hΓ hf ha hok (h E H hp) hs').mono ?_
 rintro e w' ⟨v, bl, R', h1, h2, A, h3, L, h4⟩
 refine ⟨v, A, h1, h3, ?_⟩
 have : (St.hall ⟨[], bl, R'⟩).Perm ((A ++ H) ++ L) := by simpa [St.hall] using h4
 exact (h2.perm this).drop
theorem sat_le {X : Hp} {R R' : List Hp} {w : World} (hs : Sat E (X ++ R.flatten) w) (h : RLe R R') : Sat E (X ++ R'.flatten) w := by
 obtain ⟨L, hL⟩ := h
 have : (X ++ R.flatten).Perm ((X ++ R'.flatten) ++ L) := by
  rw [List.append_assoc]; exact hL.append_left X
 exact (hs.perm this).drop
theorem callR_part {f : FuncId} {args : List Value} {bl : List Blk} {R : List Hp} (A0 : Hp) (R0 : List Hp) {pre : Hp → Prop} {post : Value → Hp → Prop} {K : Value → List Blk → List Hp → Prop} (hc : CtR P f args A0 pre post)
  (hR : RLe R (A0 :: R0)) (hp : pre (St.hall ⟨[], bl, R0⟩)) (hk : ∀ v A, post v A → ∃ L, A.Perm L.flatten ∧ K v bl (L ++ R0)) : VCcall P E f args ⟨[], bl, R⟩ K := by
 have perm : ∀ A : Hp, (bl.map Blk.ent ++ (A :: R0).flatten).Perm (A ++ St.hall ⟨[], bl, R0⟩) := by
  intro A
  simp only [St.hall, List.flatten_cons]
  rw [← List.append_assoc, ← List.append_assoc]
  exact List.perm_append_comm.append_right _
 refine .intro hc.1 (fun w hs => (hc.2 E _ w ((sat_le hs hR).perm (perm A0)) hp).mono ?_)
 rintro e w' ⟨v, A, h1, h2, h3⟩
 obtain ⟨L, h4, h5⟩ := hk v A h2
 refine ⟨v, bl, L ++ R0, h1, h3.perm ((perm A).symm.trans ?_), rfl, h5⟩
 simp only [St.hall, List.flatten_cons, List.flatten_append]
 exact (h4.append_right _).append_left _
theorem call_newP {f : FuncId} {args : List Value} {bl : List Blk} {R : List Hp} {pre : Hp → Prop} {post : Value → Hp → Prop} {K : Value → List Blk → List Hp → Prop} (hc : Ct P f args [] pre post)
  (hp : pre (St.hall ⟨[], bl, R⟩)) (hk : ∀ v A, post v A → ∃ L, A.Perm L.flatten ∧ K v bl (L ++ R)) : VCcall P E f args ⟨[], bl, R⟩ K :=
 callR_part [] R hc.toR (.refl _) hp hk
theorem callR_blk (h : Nat) {f : FuncId} {args : List Value} {bl : List Blk} {R : List Hp} (A1 : Hp) (R0 : List Hp) {b : Blk} {pre : Hp → Prop} {post : Value → Hp → Prop} {K : Value → List Blk → List Hp → Prop} (hb : nthBlk bl h = some b)
  (hR : RLe R (A1 :: R0)) (hc : CtR P f args ((b.id, Obj.cells ⟨b.cs⟩ b.ty) :: A1) pre post) (hp : pre (St.hall ⟨[], delBlk bl h, R0⟩))
  (hk : ∀ v A, post v A → ∃ cs' bl' L, setBlk bl h cs' = some bl' ∧ A.Perm ((b.id, Obj.cells ⟨cs'⟩ b.ty) :: L.flatten) ∧ K v bl' (L ++ R0)) : VCcall P E f args ⟨[], bl, R⟩ K := by
 have hbl := (delBlk_perm hb).map Blk.ent
 refine .intro hc.1 (fun w hs => (hc.2 E _ w ((sat_le hs hR).perm ?_) hp).mono ?_)
 ·refine (hbl.append_right _).trans ?_
  simp only [List.map_cons, St.hall, List.flatten_cons, List.cons_append]
  refine .cons _ ?_
  rw [← List.append_assoc, ← List.append_assoc]
  exact List.perm_append_comm.append_right _
 rintro e w' ⟨v, A, h1, h2, h3⟩
 obtain ⟨cs', bl', L, h4, h5, h6⟩ := hk v A h2
 obtain ⟨g1, g2⟩ := setBlk_perm hb h4
 refine ⟨v, bl', L ++ R0, h1, h3.perm ?_, g2, h6⟩
 have g3 := (g1.map Blk.ent).symm
 refine List.Perm.trans ?_ (g3.append_right _)
 refine (h5.append_right _).trans ?_
 simp only [List.map_cons, St.hall, List.flatten_append, List.cons_append, Blk.ent]
 refine .cons _ ?_
 rw [← List.append_assoc, ← List.append_assoc]
 exact List.perm_append_comm.append_right _
theorem draw_joinK {α : Type} {n id : Nat} {ops : Array Oper} {fr : Fr} {bl : List Blk} {R : List Hp} {K : St → Prop} (ws : List Nat) (mods : α → Fr) (bls : α → List Blk) (Rs : α → List Hp) (I : α → Prop)
  (h1 : VCdraw P E n id ops ⟨fr, bl, R⟩ (fun st' => ∃ z, I z ∧ Weak st' ⟨mods z ++ dropK ws fr, bls z, Rs z⟩)) (h2 : ∀ z, I z → K ⟨mods z ++ dropK ws fr, bls z, Rs z⟩) : VCdraw P E n id ops ⟨fr, bl, R⟩ K :=
 draw_join (fun z => ⟨mods z ++ dropK ws fr, bls z, Rs z⟩) I h1 h2
end
end Go.SX
namespace Go.SX
theorem svi_eq {a b : Int} (h : a = b) : Value.int .i64 a = Value.int .i64 b := by rw [h]
theorem u8_wrap (x : Int) : IntKind.u8.wrap x = x % 256 := by
 unfold IntKind.wrap
 simp [IntKind.bits, IntKind.signed]
theorem str_inj {a b : ByteArray} : a.toList = b.toList ↔ a = b := by
 constructor
 ·intro h
  rw [ByteArray.toList_eq, ByteArray.toList_eq] at h
  obtain ⟨⟨a⟩⟩ := a; obtain ⟨⟨b⟩⟩ := b
  cases h; rfl
 rintro rfl; rfl
theorem u8_inj {a b : UInt8} : ((a.toNat : Nat) : Int) = (b.toNat : Nat) ↔ a = b := by
 constructor
 ·intro h
  exact UInt8.toNat_inj.1 (by omega)
 rintro rfl; rfl
theorem setAt_app_l (l1 l2 l : List Value) (d : Nat) (h : d + l.length ≤ l1.length) : setAt (l1 ++ l2) d l = setAt l1 d l ++ l2 := by
 rw [setAt_eq _ _ _ (by rw [List.length_append]; omega), setAt_eq _ _ _ h]
 rw [List.take_append_of_le_length (by omega), List.drop_append_of_le_length (by omega)]
 simp
theorem setAt_app_r (l1 l2 l : List Value) (d : Nat) (h : d + l.length ≤ l2.length) : setAt (l1 ++ l2) (l1.length + d) l = l1 ++ setAt l2 d l := by
 rw [setAt_eq _ _ _ (by rw [List.length_append]; omega), setAt_eq _ _ _ h]
 rw [List.take_append, List.drop_append, List.take_of_length_le (by omega), List.drop_eq_nil_of_le (by omega : l1.length ≤ l1.length + d + l.length)]
 rw [show l1.length + d - l1.length = d by omega, show l1.length + d + l.length - l1.length = d + l.length by omega]
 simp
theorem setAt_whole (l l' : List Value) (h : l'.length = l.length) : setAt l 0 l' = l' := by
 rw [setAt_eq _ _ _ (by omega)]
 simp [h]
section
variable {α β γ : Type}
structure Fld (g : Gt α) (h : Gt β) (get : α → β) (upd : α → β → α) (d : Nat) : Prop where
 fit : d + h.size ≤ g.size
 rd : ∀ {H : Hp} {l : List Value} {x : α}, g.rd H l x → h.rd H ((l.drop d).take h.size) (get x)
 ow : ∀ {l : List Value} {x : α} {A : Hp}, g.ow l x A → ∃ Af Ar, A.Perm (Af ++ Ar) ∧ h.ow ((l.drop d).take h.size) (get x) Af ∧ ∀ l' y B, h.ow l' y B → g.ow (setAt l d l') (upd x y) (B ++ Ar)
theorem Fld.id (g : Gt α) : Fld g g (fun x => x) (fun _ y => y) 0 where
 fit := by omega
 rd h := by
  have e := g.len h
  rw [List.drop_zero, ← e, List.take_length]; exact h
 ow h := by
  have e := g.len (g.owrd h)
  refine ⟨_, [], by rw [List.append_nil], by rw [List.drop_zero, ← e, List.take_length]; exact h, fun l' y B hB => ?_⟩
  have e' := g.len (g.owrd hB)
  rw [setAt_whole _ _ (by omega), List.append_nil]; exact hB
theorem Fld.fst (g : Gt α) (h : Gt β) : Fld (gPair g h) g (fun x => x.1) (fun x y => (y, x.2)) 0 where
 fit := by show 0 + g.size ≤ g.size + h.size; omega
 rd := by
  rintro H l x ⟨l1, l2, rfl, h1, h2⟩
  have e := g.len h1
  rw [List.drop_zero, ← e, List.take_left]; exact h1
 ow := by
  rintro l x A ⟨l1, l2, A1, A2, rfl, hp, h1, h2⟩
  have e := g.len (g.owrd h1)
  refine ⟨A1, A2, hp, by rw [List.drop_zero, ← e, List.take_left]; exact h1, fun l' y B hB => ?_⟩
  have e' := g.len (g.owrd hB)
  rw [setAt_app_l _ _ _ _ (by omega), setAt_whole _ _ (by omega)]
  exact ⟨l', l2, B, A2, rfl, .refl _, hB, h2⟩
theorem Fld.snd (g : Gt α) (h : Gt β) : Fld (gPair g h) h (fun x => x.2) (fun x y => (x.1, y)) g.size where
 fit := by show g.size + h.size ≤ g.size + h.size; omega
 rd := by
  rintro H l x ⟨l1, l2, rfl, h1, h2⟩
  have e := g.len h1
  have e2 := h.len h2
  rw [← e, List.drop_left, ← e2, List.take_length]; exact h2
 ow := by
  rintro l x A ⟨l1, l2, A1, A2, rfl, hp, h1, h2⟩
  have e := g.len (g.owrd h1)
  have e2 := h.len (h.owrd h2)
  refine ⟨A2, A1, hp.trans List.perm_append_comm, by rw [← e, List.drop_left, ← e2, List.take_length]; exact h2, fun l' y B hB => ?_⟩
  have e' := h.len (h.owrd hB)
  have := setAt_app_r l1 l2 l' 0 (by omega)
  rw [Nat.add_zero, e] at this
  rw [this, setAt_whole _ _ (by omega)]
  exact ⟨l1, l', A1, B, rfl, List.perm_append_comm, h1, hB⟩
variable {P : Program} {E : World} {Γ : Ty} {n : Nat} {g : Gt α} {T : TypeId}
theorem call_q {Q : Value → Prop} {f : FuncId} {args : List Value} {bl : List Blk} {R : List Hp} {pre : Hp → Prop} {K : Value → List Blk → List Hp → Prop} (hc : Ct P f args [] pre (fun v A => Q v ∧ A = []))
  (hp : pre (St.hall ⟨[], bl, R⟩)) (hk : ∀ v, Q v → K v bl R) : VCcall P E f args ⟨[], bl, R⟩ K := by
 refine call_newP hc hp ?_
 rintro v A ⟨h, rfl⟩
 exact ⟨[], by simp, hk v h⟩
theorem Fld.st {h : Gt β} {get : α → β} {upd : α → β → α} {d : Nat} (F : Fld g h get upd d) {x : α} {v : β} {l : List Value} (hpl : ∀ l y A, h.ow l y A → A = []) (ho : h.ow l v []) :
  ∀ lx Ax, g.ow lx x Ax → d + l.length ≤ g.size ∧ ∃ Ay, g.ow (setAt lx d l) (upd x v) Ay ∧ Ax.Perm Ay := by
 intro lx Ax hx
 have e := h.len (h.owrd ho)
 obtain ⟨Af, Ar, h1, h2, h3⟩ := F.ow hx
 have := hpl _ _ _ h2
 subst this
 exact ⟨by rw [e]; exact F.fit, _, h3 l v [] ho, h1⟩
theorem gstoreN {h : Gt β} {get : α → β} {upd : α → β → α} {d : Nat} (F : Fld g h get upd d) (z : α) (k : Nat) {R : List Hp} {A : Hp} {base : Option Addr} {m cap : Nat} {xs : List α} {i : Int} {b o off : Nat} {l : List Value} {G : List Hp → Prop} (j : Nat) (hj : nthR R j = some A) (hk : i = (k : Int)) (ho : (gSl T g).ow [.slice base m cap] xs A)
  (h0 : 0 ≤ i) (h1 : i < xs.length) (hb : base = some ⟨b, o, none⟩) (hoff : off = o + i.toNat * g.size + d) (hpl : ∀ l y A, h.ow l y A → A = []) (y : β) (hy : h.ow l y [])
  (c : ∀ A', (gSl T g).ow [.slice base m cap] (xs.set k (upd (xs[k]?.getD z) y)) A' → G (setR R j A')) : VCstore R b off l G := by
 subst hk
 refine gstore j hj ho h0 h1 hb d hoff (upd (xs[k]?.getD z) y) ?_ fun A' _ o => c A' (by simpa using o)
 have : xs[(k : Int).toNat]'(by omega) = xs[k]?.getD z := by
  have hlt : k < xs.length := by omega
  simp [List.getElem?_eq_getElem hlt]
 rw [this]
 exact F.st hpl hy
theorem gstore1N (k : Nat) {R : List Hp} (A B : Hp) (Rr : List Hp) {base : Option Addr} {m cap : Nat} {xs : List α} {i : Int} {b o off : Nat} {l : List Value} {G : List Hp → Prop} (hR : RLe R (A :: B :: Rr)) (hk : i = (k : Int)) (h : (gSl T g).ow [.slice base m cap] xs A)
  (h0 : 0 ≤ i) (h1 : i < xs.length) (hb : base = some ⟨b, o, none⟩) (hoff : off = o + i.toNat * g.size) (y : α) (hy : g.ow l y B)
  (c : ∀ A', (gSl T g).ow [.slice base m cap] (xs.set k y) A' → G (A' :: Rr)) : VCstore R b off l G := by
 subst hk
 exact gstore1 A B Rr hR h h0 h1 hb hoff y hy fun A' o => c A' (by simpa using o)
def OwE (T : TypeId) (g : Gt α) (base : Option Addr) (m cap : Nat) (xs : List α) (k : Nat) (x : α) (A : Hp) : Prop :=
 k < xs.length ∧ (gSl T g).ow [.slice base m cap] (xs.set k x) A
theorem OwE.mk {base : Option Addr} {m cap : Nat} {xs : List α} {A : Hp} (z : α) (k : Nat) (h : (gSl T g).ow [.slice base m cap] xs A) (hk : k < xs.length) :
  ∃ x, x = xs[k]?.getD z ∧ OwE T g base m cap xs k x A := by
 refine ⟨_, rfl, hk, ?_⟩
 have : xs.set k (xs[k]?.getD z) = xs := by
  rw [List.getElem?_eq_getElem hk, Option.getD_some, List.set_getElem_self]
 rw [this]; exact h
theorem OwE.done {base : Option Addr} {m cap : Nat} {xs : List α} {A : Hp} {k : Nat} {x : α} {ys : List α} (h : OwE T g base m cap xs k x A) (e : xs.set k x = ys) : (gSl T g).ow [.slice base m cap] ys A := e ▸ h.2
theorem loop_stepA {ε : Type} {st' : St} {I : ε → Prop} {μ : ε → Nat} {J : ε → St} {m0 : Nat} (x : ε) (h3 : RLe st'.R (J x).R) (h1 : FrLe st'.bl (J x).bl st'.fr (J x).fr) (h2 : BlLe st'.bl (J x).bl) (h4 : I x) (h5 : μ x < m0) :
  ∃ x', I x' ∧ μ x' < m0 ∧ Weak st' (J x') := ⟨x, h4, h5, h1, h2, h3⟩
theorem join_stepA {ε : Type} {st' : St} {I : ε → Prop} {J : ε → St} (x : ε) (h3 : RLe st'.R (J x).R) (h1 : FrLe st'.bl (J x).bl st'.fr (J x).fr) (h2 : BlLe st'.bl (J x).bl) (h4 : I x) :
  ∃ x', I x' ∧ Weak st' (J x') := ⟨x, h4, h1, h2, h3⟩
theorem keep_sub {fr fr' : Fr} {bl bl' : List Blk} {R R' : List Hp} (h1 : ∀ b ∈ bl, b ∈ bl') (h2 : ∀ A ∈ R, A ∈ R') : ∀ p ∈ St.hall ⟨fr, bl, R⟩, p ∈ St.hall ⟨fr', bl', R'⟩ := by
 intro p hp
 simp only [St.hall, List.mem_append, List.mem_map, List.mem_flatten] at hp ⊢
 rcases hp with ⟨b, hb, rfl⟩ | ⟨A, hA, hp⟩
 ·exact .inl ⟨b, h1 b hb, rfl⟩
 exact .inr ⟨A, h2 A hA, hp⟩
theorem gI_pl : ∀ l y A, gI.ow l y A → A = [] := fun _ _ _ h => h.2.2
theorem gB_pl : ∀ l y A, gB.ow l y A → A = [] := fun _ _ _ h => h.2.2
theorem fl_pl {f : Fl α} {mk : Int → α} {sz : α → Nat} : ∀ l y A, (f.gt mk sz).ow l y A → A = [] := fun _ _ _ h => h.2.2
end
end Go.SX
namespace Go.SX
theorem strOfNums_u8 (xs : List UInt8) : strOfNums (xs.map fun x => (x.toNat : Int)) = ⟨xs.toArray⟩ := by
 unfold strOfNums
 congr 2
 rw [List.map_map]
 conv => rhs; rw [← List.map_id xs]
 apply List.map_congr_left
 intro x _
 simp
section
variable {P : Program} {E : World} {Γ : Ty} {n : Nat}
theorem conv_bs (hΓ : TyOk P Γ) (xs : List UInt8) {dst : Option Nat} {x : Operand} {t u e ty : TypeId} {pos : String} {after : Array Edge} {guard : Option (Nat × Bool)} {fr : Fr} {bl : List Blk} {R : List Hp} {K : St → Prop}
  {base : Option Addr} {m cap : Nat} (hx1 : getK fr x fun sv => sv = .v (.slice base m cap)) (hr : (rpSl flByte.rp).rd (St.hall ⟨[], bl, R⟩) [.slice base m cap] xs)
  (ht : undOf Γ t = some (.slice e)) (he : undOf Γ e = some (.int .u8)) (hu : undOf Γ u = some .string)
  (hk : putK n fr dst (.v (.string ⟨xs.toArray⟩)) fun fr => K ⟨fr, bl, R⟩) : VCraw P E n ⟨dst, .convert t u x, ty, pos, after, guard⟩ ⟨fr, bl, R⟩ K := by
 refine ⟨fun a w hrel Q => ?_⟩
 obtain ⟨sv, g1, _, rfl⟩ := getK_sound hrel hx1
 refine wp_value (s := .v _) (v := .string ⟨xs.toArray⟩) ?_ hrel rfl trivial hk
 have key : (convert t u (.slice base m cap)).run P w = .ok (.string ⟨xs.toArray⟩) w := by
  obtain ⟨base', cap', e1, h1, h2⟩ := hr
  cases e1
  have ht' := undOf_ok hΓ ht
  have he' := undOf_ok hΓ he
  have hu' := undOf_ok hΓ hu
  cases xs with
  | nil =>
   rw [run_convert_bytes_string w t u e _ _ _ ht' he' hu']
   cases base with
   | none => rfl
   | some a => exact run_bytesToString w a 0 cap [] rfl
  | cons x0 r =>
   obtain ⟨b, o, l', hb, hc, _⟩ := h2 0 (by simp)
   subst hb
   rw [← strOfNums_u8]
   refine run_convert_bytes_arg w t e ht' he' b o (x0 :: r).length cap ((x0 :: r).map fun x => (x.toNat : Int)) (by simp) (fun i hi => ?_) u hu'
   obtain ⟨b2, o2, l2, hb2, hc2, hl2, _⟩ := h2 i hi
   cases hb2
   obtain ⟨_, cs, T, fz, k1, k2⟩ := hc2
   have k3 := k2 0 (by show 0 < 1; omega)
   rw [hrel.sat.cell k1]
   have e2 : flByte.rp.size = 1 := rfl
   rw [e2, Nat.mul_one, Nat.add_zero] at k3
   rw [k3, hl2, List.getD_eq_getElem?_getD, List.getElem?_map, List.getElem?_eq_getElem hi]
   rfl
 simp only [execOp, g1, SV.den, Sem.run_bind, key, Sem.run_pure, Result.andThen_ok]
end
end Go.SX
namespace Go.Proofs.YtjgehblllhkdbaaGreat
open Go.SX Go.Proofs
open Tryz
section
theorem mixed : prog.follows .mixedOrders = true := by kernel_rfl
theorem rd_len {α : Type} {r : Rp α} {H : Hp} {base : Option Addr} {m cap : Nat} {xs : List α} (h : (rpSl r).rd H [.slice base m cap] xs) : m = xs.length ∧ xs.length ≤ 9223372036854775807 := by
 obtain ⟨_, _, e, h1, _⟩ := h; cases e; exact ⟨rfl, h1.2⟩
theorem rd_cap {α : Type} {r : Rp α} {H : Hp} {base : Option Addr} {m cap : Nat} {xs : List α} (h : (rpSl r).rd H [.slice base m cap] xs) : xs.length ≤ cap := by
 obtain ⟨_, _, e, h1, _⟩ := h; cases e; exact h1.1
theorem take_step {α : Type} (xs : List α) (k : Nat) (z : α) (h : k < xs.length) : (xs.take k ++ List.replicate (xs.length - k) z).set k (xs[k]?.getD z) = xs.take (k + 1) ++ List.replicate (xs.length - (k + 1)) z := by
 rw [List.getElem?_eq_getElem h, Option.getD_some]
 obtain ⟨j, hj⟩ : ∃ j, xs.length - k = j + 1 := ⟨xs.length - k - 1, by omega⟩
 rw [List.set_append_right _ _ (by rw [List.length_take]; omega), hj, show xs.length - (k + 1) = j by omega, List.length_take, show k - min k xs.length = 0 by omega, List.replicate_succ, List.set_cons_zero, ← List.take_append_getElem h, List.append_assoc, List.singleton_append]
theorem take_stepz {α : Type} (xs : List α) (k : Nat) (z z' : α) (h : k < xs.length) : (xs.take k ++ List.replicate (xs.length - k) z').set k (xs[k]?.getD z) = xs.take (k + 1) ++ List.replicate (xs.length - (k + 1)) z' := by
 rw [← take_step xs k z' h, List.getElem?_eq_getElem h, Option.getD_some, Option.getD_some]
theorem eq_step {α : Type} {xs ys : List α} {k : Nat} (z : α) (h : xs.length = ys.length) (he : xs.take k = ys.take k) (hk : k < xs.length) (e : xs[k]?.getD z = ys[k]?.getD z) : xs.take (k + 1) = ys.take (k + 1) := by
 rw [List.getElem?_eq_getElem hk, List.getElem?_eq_getElem (by omega)] at e
 rw [← List.take_append_getElem hk, ← List.take_append_getElem (by omega : k < ys.length), he]
 have e' : xs[k] = ys[k]'(by omega) := e
 rw [e']
def dgs : Nat → Nat → ByteArray → ByteArray
 | 0, _, out => out
 | f + 1, k, out => if k = 0 then out else dgs f (k / 10) (⟨#[UInt8.ofNat (48 + k % 10)]⟩ ++ out)
def mtx (k : Int) : ByteArray := if k ≤ 0 then ⟨#[109, 48]⟩ else ⟨#[109]⟩ ++ dgs 20 k.toNat .empty
def gS : Gt ByteArray := flStr.gt mtx fun s => s.size
theorem gS_ow {x : ByteArray} (h : x.size ≤ 9223372036854775807) : gS.ow [.string x] x [] := ⟨rfl, h, rfl⟩
theorem gY_owM (k : Int) : gY.ow [.int .u8 (IntKind.u8.wrap k)] (UInt8.ofNat (k % 256).toNat) [] := by
 refine ⟨?_, trivial, rfl⟩
 show [Value.int .u8 _] = [Value.int .u8 _]
 have : IntKind.u8.wrap k = ((UInt8.ofNat (k % 256).toNat).toNat : Int) := by
  unfold IntKind.wrap
  simp only [IntKind.bits, IntKind.signed]
  simp
  omega
 rw [this]
section
variable {α : Type}
def szE (g : Gt α) : List α → Nat
 | [] => 0
 | x :: r => g.sz x + szE g r
theorem szL_eq (g : Gt α) : ∀ xs, szL g xs = xs.length + szE g xs
 | [] => rfl
 | x :: r => by rw [szL, szE, szL_eq g r, List.length_cons]; omega
theorem szE_app (g : Gt α) : ∀ xs ys, szE g (xs ++ ys) = szE g xs + szE g ys
 | [], ys => by simp [szE]
 | x :: r, ys => by simp [szE, szE_app g r]; omega
theorem szE_step (g : Gt α) (xs : List α) (k : Nat) (z : α) (h : k < xs.length) : szE g (xs.take (k + 1)) = szE g (xs.take k) + g.sz (xs[k]?.getD z) := by
 rw [← List.take_append_getElem h, szE_app, List.getElem?_eq_getElem h]; rfl
theorem szE_le (g : Gt α) (xs : List α) (k : Nat) : szE g (xs.take k) ≤ szE g xs := by
 conv => rhs; rw [← List.take_append_drop k xs]
 rw [szE_app]; omega
theorem szE_zero (g : Gt α) (h : ∀ x, g.sz x = 0) : ∀ xs, szE g xs = 0
 | [] => rfl
 | x :: r => by rw [szE, h, szE_zero g h r]
theorem pair_at {β : Type} {g : Gt α} {h : Gt β} {H : Hp} {cs : List Value} {off : Nat} {x : α} {y : β} (h1 : g.rd H ((cs.drop off).take g.size) x) (h2 : h.rd H ((cs.drop (off + g.size)).take h.size) y) :
  (gPair g h).rd H ((cs.drop off).take (g.size + h.size)) (x, y) := by
 refine ⟨_, _, ?_, h1, h2⟩
 rw [List.take_add, List.drop_drop]
end
end
section
structure Item where
 row : List Int
 times : Int
deriving DecidableEq, Inhabited
def gItem : Gt Item := gIso (SX.gPair (gSl 3 gI) gI) (fun x => (x.row, x.times)) (fun p => ⟨p.1, p.2⟩)
theorem gItem_rd {H : Hp} {l : List Value} {x : Item} : gItem.rd H l x ↔ ∃ (b0 : Option Addr) (c0 : Nat), l = .slice b0 x.row.length c0 :: .int .i64 x.times :: [] ∧ (gSl 3 gI).rd H [.slice b0 x.row.length c0] x.row ∧ okI x.times := by
 constructor
 ·rintro ⟨m0, q0, rfl, h0, h1⟩
  obtain ⟨b0, c0, rfl, h0⟩ := sl_rd h0
  obtain ⟨rfl, w1⟩ := h1
  exact ⟨b0, c0, rfl, h0, w1⟩
 rintro ⟨b0, c0, rfl, h0, w1⟩
 exact ⟨[.slice b0 x.row.length c0], [.int .i64 x.times], rfl, h0, ⟨rfl, w1⟩⟩
open Classical in
theorem gItem_ow {A : Hp} {l : List Value} {x : Item} : gItem.ow l x A ↔ ∃ (b0 : Option Addr) (c0 : Nat) (A0 : Hp), l = .slice b0 x.row.length c0 :: .int .i64 x.times :: [] ∧ A.Perm A0 ∧ (gSl 3 gI).ow [.slice b0 x.row.length c0] x.row A0 ∧ okI x.times := by
 constructor
 ·rintro ⟨m0, q0, D0, E0, rfl, p0, h0, h1⟩
  obtain ⟨b0, c0, rfl, h0⟩ := sl_ow h0
  obtain ⟨rfl, w1, e1⟩ := h1
  subst e1
  exact ⟨b0, c0, D0, rfl, (perm_cnt fun a => by have e0 := p0.count_eq a; simp only [List.count_append, List.count_nil] at *; omega), h0, w1⟩
 rintro ⟨b0, c0, A0, rfl, hp, h0, w1⟩
 exact ⟨[.slice b0 x.row.length c0], [.int .i64 x.times], A0, [], rfl, (perm_cnt fun a => by have e := hp.count_eq a; simp only [List.count_append, List.count_nil] at *; omega), h0, ⟨rfl, w1, rfl⟩⟩
theorem opens_Item : Opens prog gItem.toRp 414 := by
 intro H' enc w H sp hd fuel cs d ps hcov ht
 obtain ⟨h1, h2⟩ := trod_fields ty414_ok.1 ht
 obtain ⟨_, _, t0⟩ := h2 0 0 27 rfl
 obtain ⟨x0, r0⟩ := (opens_sl ty27_ok.1 (by kernel_rfl) (by decide) (opens_fi ty3_ok.1)) _ _ H _ _ _ _ _ _ hcov t0
 rw [show prog.cellsOf 27 = 1 by kernel_rfl] at r0
 obtain ⟨_, _, t1⟩ := h2 1 1 3 rfl
 obtain ⟨x1, r1⟩ := (opens_fi ty3_ok.1) _ _ H _ _ _ _ _ _ hcov t1
 rw [show prog.cellsOf 3 = 1 by kernel_rfl] at r1
 rw [show prog.cellsOf 414 = 2 by kernel_rfl] at h1
 have key : gItem.rd H ((cs.drop 0).take 2) ⟨x0, x1⟩ := (pair_at (g := (gSl 3 gI)) (h := gI) (off := 0) r0 r1)
 rw [List.drop_zero, List.take_of_length_le (by omega)] at key
 exact ⟨_, key⟩
def zItem : Item := ⟨[], 0⟩
theorem zItem_ow : gItem.ow [.slice none 0 0, .int .i64 0] zItem [] := gItem_ow.2 ⟨none, 0, [], rfl, by simp, sl_nil _ _ _, by first | (unfold okI; decide) | decide⟩
theorem gItem_sz (x : Item) : gItem.sz x = szL gI x.row + (0) := rfl
theorem Item.eq_iff {x y : Item} : x = y ↔ x.row = y.row ∧ x.times = y.times := by cases x; cases y; simp
structure Bag where
 items : List Item
deriving DecidableEq, Inhabited
def gBag : Gt Bag := gIso (gSl 218 gItem) (fun x => x.items) (fun p => ⟨p⟩)
theorem gBag_rd {H : Hp} {l : List Value} {x : Bag} : gBag.rd H l x ↔ ∃ (b0 : Option Addr) (c0 : Nat), l = .slice b0 x.items.length c0 :: [] ∧ (gSl 218 gItem).rd H [.slice b0 x.items.length c0] x.items := by
 constructor
 ·rintro h0
  obtain ⟨b0, c0, rfl, h0⟩ := sl_rd h0
  exact ⟨b0, c0, rfl, h0⟩
 rintro ⟨b0, c0, rfl, h0⟩
 exact h0
open Classical in
theorem gBag_ow {A : Hp} {l : List Value} {x : Bag} : gBag.ow l x A ↔ ∃ (b0 : Option Addr) (c0 : Nat) (A0 : Hp), l = .slice b0 x.items.length c0 :: [] ∧ A.Perm A0 ∧ (gSl 218 gItem).ow [.slice b0 x.items.length c0] x.items A0 := by
 constructor
 ·rintro h0
  obtain ⟨b0, c0, rfl, h0⟩ := sl_ow h0
  exact ⟨b0, c0, A, rfl, .refl _, h0⟩
 rintro ⟨b0, c0, A0, rfl, hp, h0⟩
 exact gBag.owp (l := _) (x := x) h0 hp
theorem opens_Bag : Opens prog gBag.toRp 259 := by
 intro H' enc w H sp hd fuel cs d ps hcov ht
 obtain ⟨h1, h2⟩ := trod_fields ty259_ok.1 ht
 obtain ⟨_, _, t0⟩ := h2 0 0 257 rfl
 obtain ⟨x0, r0⟩ := (opens_sl ty257_ok.1 (by kernel_rfl) (by decide) opens_Item) _ _ H _ _ _ _ _ _ hcov t0
 rw [show prog.cellsOf 257 = 1 by kernel_rfl] at r0
 rw [show prog.cellsOf 259 = 1 by kernel_rfl] at h1
 have key : gBag.rd H ((cs.drop 0).take 1) ⟨x0⟩ := r0
 rw [List.drop_zero, List.take_of_length_le (by omega)] at key
 exact ⟨_, key⟩
def zBag : Bag := ⟨[]⟩
theorem zBag_ow : gBag.ow [.slice none 0 0] zBag [] := gBag_ow.2 ⟨none, 0, [], rfl, by simp, sl_nil _ _ _⟩
theorem gBag_sz (x : Bag) : gBag.sz x = szL gItem x.items := rfl
theorem Bag.eq_iff {x y : Bag} : x = y ↔ x.items = y.items := by cases x; cases y; simp
structure Edge where
 from' : Int
 label : UInt8
 to : Int
deriving DecidableEq, Inhabited
def gEdge : Gt Edge := gIso (SX.gPair gI (SX.gPair gY gI)) (fun x => (x.from', (x.label, x.to))) (fun p => ⟨p.1, p.2.1, p.2.2⟩)
theorem gEdge_rd {H : Hp} {l : List Value} {x : Edge} : gEdge.rd H l x ↔ l = .int .i64 x.from' :: .int .u8 (x.label).toNat :: .int .i64 x.to :: [] ∧ okI x.from' ∧ okI x.to := by
 constructor
 ·rintro ⟨m0, q0, rfl, h0, m1, q1, rfl, h1, h2⟩
  obtain ⟨rfl, w0⟩ := h0
  obtain ⟨rfl, w1⟩ := h1
  obtain ⟨rfl, w2⟩ := h2
  exact ⟨rfl, w0, w2⟩
 rintro ⟨rfl, w0, w2⟩
 exact ⟨[.int .i64 x.from'], .int .u8 (x.label).toNat :: .int .i64 x.to :: [], rfl, ⟨rfl, w0⟩, ⟨[.int .u8 (x.label).toNat], [.int .i64 x.to], rfl, ⟨rfl, trivial⟩, ⟨rfl, w2⟩⟩⟩
open Classical in
theorem gEdge_ow {A : Hp} {l : List Value} {x : Edge} : gEdge.ow l x A ↔ l = .int .i64 x.from' :: .int .u8 (x.label).toNat :: .int .i64 x.to :: [] ∧ A.Perm [] ∧ okI x.from' ∧ okI x.to := by
 constructor
 ·rintro ⟨m0, q0, D0, E0, rfl, p0, h0, m1, q1, D1, E1, rfl, p1, h1, h2⟩
  obtain ⟨rfl, w0, e0⟩ := h0
  subst e0
  obtain ⟨rfl, w1, e1⟩ := h1
  subst e1
  obtain ⟨rfl, w2, e2⟩ := h2
  subst e2
  exact ⟨rfl, (perm_cnt fun a => by have e0 := p0.count_eq a; have e1 := p1.count_eq a; simp only [List.count_append, List.count_nil] at *; omega), w0, w2⟩
 rintro ⟨rfl, hp, w0, w2⟩
 exact ⟨[.int .i64 x.from'], .int .u8 (x.label).toNat :: .int .i64 x.to :: [], [], ([] ++ []), rfl, (perm_cnt fun a => by have e := hp.count_eq a; simp only [List.count_append, List.count_nil] at *; omega), ⟨rfl, w0, rfl⟩, ⟨[.int .u8 (x.label).toNat], [.int .i64 x.to], [], [], rfl, .refl _, ⟨rfl, trivial, rfl⟩, ⟨rfl, w2, rfl⟩⟩⟩
theorem opens_Edge : Opens prog gEdge.toRp 280 := by
 intro H' enc w H sp hd fuel cs d ps hcov ht
 obtain ⟨h1, h2⟩ := trod_fields ty280_ok.1 ht
 obtain ⟨_, _, t0⟩ := h2 0 0 3 rfl
 obtain ⟨x0, r0⟩ := (opens_fi ty3_ok.1) _ _ H _ _ _ _ _ _ hcov t0
 rw [show prog.cellsOf 3 = 1 by kernel_rfl] at r0
 obtain ⟨_, _, t1⟩ := h2 1 1 5 rfl
 obtain ⟨x1, r1⟩ := (opens_fy ty5_ok.1) _ _ H _ _ _ _ _ _ hcov t1
 rw [show prog.cellsOf 5 = 1 by kernel_rfl] at r1
 obtain ⟨_, _, t2⟩ := h2 2 2 3 rfl
 obtain ⟨x2, r2⟩ := (opens_fi ty3_ok.1) _ _ H _ _ _ _ _ _ hcov t2
 rw [show prog.cellsOf 3 = 1 by kernel_rfl] at r2
 rw [show prog.cellsOf 280 = 3 by kernel_rfl] at h1
 have key : gEdge.rd H ((cs.drop 0).take 3) ⟨x0, x1, x2⟩ := (pair_at (g := gI) (h := (SX.gPair gY gI)) (off := 0) r0 (pair_at (g := gY) (h := gI) (off := 1) r1 r2))
 rw [List.drop_zero, List.take_of_length_le (by omega)] at key
 exact ⟨_, key⟩
def zEdge : Edge := ⟨0, 0, 0⟩
theorem zEdge_ow : gEdge.ow [.int .i64 0, .int .u8 0, .int .i64 0] zEdge [] := gEdge_ow.2 ⟨rfl, by simp, by first | (unfold okI; decide) | decide, by first | (unfold okI; decide) | decide⟩
theorem gEdge_sz (x : Edge) : gEdge.sz x = 0 + (0 + (0)) := rfl
theorem Edge.eq_iff {x y : Edge} : x = y ↔ x.from' = y.from' ∧ x.label = y.label ∧ x.to = y.to := by cases x; cases y; simp
structure Graph where
 size : Int
 edges : List Edge
deriving DecidableEq, Inhabited
def gGraph : Gt Graph := gIso (SX.gPair gI (gSl 209 gEdge)) (fun x => (x.size, x.edges)) (fun p => ⟨p.1, p.2⟩)
theorem gGraph_rd {H : Hp} {l : List Value} {x : Graph} : gGraph.rd H l x ↔ ∃ (b1 : Option Addr) (c1 : Nat), l = .int .i64 x.size :: .slice b1 x.edges.length c1 :: [] ∧ okI x.size ∧ (gSl 209 gEdge).rd H [.slice b1 x.edges.length c1] x.edges := by
 constructor
 ·rintro ⟨m0, q0, rfl, h0, h1⟩
  obtain ⟨rfl, w0⟩ := h0
  obtain ⟨b1, c1, rfl, h1⟩ := sl_rd h1
  exact ⟨b1, c1, rfl, w0, h1⟩
 rintro ⟨b1, c1, rfl, w0, h1⟩
 exact ⟨[.int .i64 x.size], [.slice b1 x.edges.length c1], rfl, ⟨rfl, w0⟩, h1⟩
open Classical in
theorem gGraph_ow {A : Hp} {l : List Value} {x : Graph} : gGraph.ow l x A ↔ ∃ (b1 : Option Addr) (c1 : Nat) (A1 : Hp), l = .int .i64 x.size :: .slice b1 x.edges.length c1 :: [] ∧ A.Perm A1 ∧ okI x.size ∧ (gSl 209 gEdge).ow [.slice b1 x.edges.length c1] x.edges A1 := by
 constructor
 ·rintro ⟨m0, q0, D0, E0, rfl, p0, h0, h1⟩
  obtain ⟨rfl, w0, e0⟩ := h0
  subst e0
  obtain ⟨b1, c1, rfl, h1⟩ := sl_ow h1
  exact ⟨b1, c1, E0, rfl, (perm_cnt fun a => by have e0 := p0.count_eq a; simp only [List.count_append, List.count_nil] at *; omega), w0, h1⟩
 rintro ⟨b1, c1, A1, rfl, hp, w0, h1⟩
 exact ⟨[.int .i64 x.size], [.slice b1 x.edges.length c1], [], A1, rfl, (perm_cnt fun a => by have e := hp.count_eq a; simp only [List.count_append, List.count_nil] at *; omega), ⟨rfl, w0, rfl⟩, h1⟩
theorem opens_Graph : Opens prog gGraph.toRp 77 := by
 intro H' enc w H sp hd fuel cs d ps hcov ht
 obtain ⟨h1, h2⟩ := trod_fields ty77_ok.1 ht
 obtain ⟨_, _, t0⟩ := h2 0 0 3 rfl
 obtain ⟨x0, r0⟩ := (opens_fi ty3_ok.1) _ _ H _ _ _ _ _ _ hcov t0
 rw [show prog.cellsOf 3 = 1 by kernel_rfl] at r0
 obtain ⟨_, _, t1⟩ := h2 1 1 75 rfl
 obtain ⟨x1, r1⟩ := (opens_sl ty75_ok.1 (by kernel_rfl) (by decide) opens_Edge) _ _ H _ _ _ _ _ _ hcov t1
 rw [show prog.cellsOf 75 = 1 by kernel_rfl] at r1
 rw [show prog.cellsOf 77 = 2 by kernel_rfl] at h1
 have key : gGraph.rd H ((cs.drop 0).take 2) ⟨x0, x1⟩ := (pair_at (g := gI) (h := (gSl 209 gEdge)) (off := 0) r0 r1)
 rw [List.drop_zero, List.take_of_length_le (by omega)] at key
 exact ⟨_, key⟩
theorem gGraph_sz (x : Graph) : gGraph.sz x = 0 + (szL gEdge x.edges) := rfl
theorem Graph.eq_iff {x y : Graph} : x = y ↔ x.size = y.size ∧ x.edges = y.edges := by cases x; cases y; simp
structure Piece where
 op : Int
 label : UInt8
 kids : List Int
deriving DecidableEq, Inhabited
def gPiece : Gt Piece := gIso (SX.gPair gI (SX.gPair gY (gSl 3 gI))) (fun x => (x.op, (x.label, x.kids))) (fun p => ⟨p.1, p.2.1, p.2.2⟩)
theorem gPiece_rd {H : Hp} {l : List Value} {x : Piece} : gPiece.rd H l x ↔ ∃ (b2 : Option Addr) (c2 : Nat), l = .int .i64 x.op :: .int .u8 (x.label).toNat :: .slice b2 x.kids.length c2 :: [] ∧ okI x.op ∧ (gSl 3 gI).rd H [.slice b2 x.kids.length c2] x.kids := by
 constructor
 ·rintro ⟨m0, q0, rfl, h0, m1, q1, rfl, h1, h2⟩
  obtain ⟨rfl, w0⟩ := h0
  obtain ⟨rfl, w1⟩ := h1
  obtain ⟨b2, c2, rfl, h2⟩ := sl_rd h2
  exact ⟨b2, c2, rfl, w0, h2⟩
 rintro ⟨b2, c2, rfl, w0, h2⟩
 exact ⟨[.int .i64 x.op], .int .u8 (x.label).toNat :: .slice b2 x.kids.length c2 :: [], rfl, ⟨rfl, w0⟩, ⟨[.int .u8 (x.label).toNat], [.slice b2 x.kids.length c2], rfl, ⟨rfl, trivial⟩, h2⟩⟩
open Classical in
theorem gPiece_ow {A : Hp} {l : List Value} {x : Piece} : gPiece.ow l x A ↔ ∃ (b2 : Option Addr) (c2 : Nat) (A2 : Hp), l = .int .i64 x.op :: .int .u8 (x.label).toNat :: .slice b2 x.kids.length c2 :: [] ∧ A.Perm A2 ∧ okI x.op ∧ (gSl 3 gI).ow [.slice b2 x.kids.length c2] x.kids A2 := by
 constructor
 ·rintro ⟨m0, q0, D0, E0, rfl, p0, h0, m1, q1, D1, E1, rfl, p1, h1, h2⟩
  obtain ⟨rfl, w0, e0⟩ := h0
  subst e0
  obtain ⟨rfl, w1, e1⟩ := h1
  subst e1
  obtain ⟨b2, c2, rfl, h2⟩ := sl_ow h2
  exact ⟨b2, c2, E1, rfl, (perm_cnt fun a => by have e0 := p0.count_eq a; have e1 := p1.count_eq a; simp only [List.count_append, List.count_nil] at *; omega), w0, h2⟩
 rintro ⟨b2, c2, A2, rfl, hp, w0, h2⟩
 exact ⟨[.int .i64 x.op], .int .u8 (x.label).toNat :: .slice b2 x.kids.length c2 :: [], [], ([] ++ A2), rfl, (perm_cnt fun a => by have e := hp.count_eq a; simp only [List.count_append, List.count_nil] at *; omega), ⟨rfl, w0, rfl⟩, ⟨[.int .u8 (x.label).toNat], [.slice b2 x.kids.length c2], [], A2, rfl, .refl _, ⟨rfl, trivial, rfl⟩, h2⟩⟩
theorem Piece.eq_iff {x y : Piece} : x = y ↔ x.op = y.op ∧ x.label = y.label ∧ x.kids = y.kids := by cases x; cases y; simp
structure Path where
 pieces : List Piece
deriving DecidableEq, Inhabited
def gPath : Gt Path := gIso (gSl 417 gPiece) (fun x => x.pieces) (fun p => ⟨p⟩)
theorem gPath_rd {H : Hp} {l : List Value} {x : Path} : gPath.rd H l x ↔ ∃ (b0 : Option Addr) (c0 : Nat), l = .slice b0 x.pieces.length c0 :: [] ∧ (gSl 417 gPiece).rd H [.slice b0 x.pieces.length c0] x.pieces := by
 constructor
 ·rintro h0
  obtain ⟨b0, c0, rfl, h0⟩ := sl_rd h0
  exact ⟨b0, c0, rfl, h0⟩
 rintro ⟨b0, c0, rfl, h0⟩
 exact h0
theorem Path.eq_iff {x y : Path} : x = y ↔ x.pieces = y.pieces := by cases x; cases y; simp
structure Arc where
 from' : Int
 label : UInt8
 to : Int
deriving DecidableEq, Inhabited
def gArc : Gt Arc := gIso (SX.gPair gI (SX.gPair gY gI)) (fun x => (x.from', (x.label, x.to))) (fun p => ⟨p.1, p.2.1, p.2.2⟩)
theorem gArc_rd {H : Hp} {l : List Value} {x : Arc} : gArc.rd H l x ↔ l = .int .i64 x.from' :: .int .u8 (x.label).toNat :: .int .i64 x.to :: [] ∧ okI x.from' ∧ okI x.to := by
 constructor
 ·rintro ⟨m0, q0, rfl, h0, m1, q1, rfl, h1, h2⟩
  obtain ⟨rfl, w0⟩ := h0
  obtain ⟨rfl, w1⟩ := h1
  obtain ⟨rfl, w2⟩ := h2
  exact ⟨rfl, w0, w2⟩
 rintro ⟨rfl, w0, w2⟩
 exact ⟨[.int .i64 x.from'], .int .u8 (x.label).toNat :: .int .i64 x.to :: [], rfl, ⟨rfl, w0⟩, ⟨[.int .u8 (x.label).toNat], [.int .i64 x.to], rfl, ⟨rfl, trivial⟩, ⟨rfl, w2⟩⟩⟩
open Classical in
theorem gArc_ow {A : Hp} {l : List Value} {x : Arc} : gArc.ow l x A ↔ l = .int .i64 x.from' :: .int .u8 (x.label).toNat :: .int .i64 x.to :: [] ∧ A.Perm [] ∧ okI x.from' ∧ okI x.to := by
 constructor
 ·rintro ⟨m0, q0, D0, E0, rfl, p0, h0, m1, q1, D1, E1, rfl, p1, h1, h2⟩
  obtain ⟨rfl, w0, e0⟩ := h0
  subst e0
  obtain ⟨rfl, w1, e1⟩ := h1
  subst e1
  obtain ⟨rfl, w2, e2⟩ := h2
  subst e2
  exact ⟨rfl, (perm_cnt fun a => by have e0 := p0.count_eq a; have e1 := p1.count_eq a; simp only [List.count_append, List.count_nil] at *; omega), w0, w2⟩
 rintro ⟨rfl, hp, w0, w2⟩
 exact ⟨[.int .i64 x.from'], .int .u8 (x.label).toNat :: .int .i64 x.to :: [], [], ([] ++ []), rfl, (perm_cnt fun a => by have e := hp.count_eq a; simp only [List.count_append, List.count_nil] at *; omega), ⟨rfl, w0, rfl⟩, ⟨[.int .u8 (x.label).toNat], [.int .i64 x.to], [], [], rfl, .refl _, ⟨rfl, trivial, rfl⟩, ⟨rfl, w2, rfl⟩⟩⟩
theorem Arc.eq_iff {x y : Arc} : x = y ↔ x.from' = y.from' ∧ x.label = y.label ∧ x.to = y.to := by cases x; cases y; simp
theorem gArc_own {H : Hp} {l : List Value} {x : Arc} (h : gArc.rd H l x) : gArc.ow l x [] := by
 obtain ⟨rfl, w0, w2⟩ := gArc_rd.1 h
 exact gArc_ow.2 ⟨rfl, by simp, w0, w2⟩
structure Nfa where
 states : Int
 arcs : List Arc
 ends : List Bool
deriving DecidableEq, Inhabited
def gNfa : Gt Nfa := gIso (SX.gPair gI (SX.gPair (gSl 276 gArc) (gSl 4 gB))) (fun x => (x.states, (x.arcs, x.ends))) (fun p => ⟨p.1, p.2.1, p.2.2⟩)
theorem gNfa_rd {H : Hp} {l : List Value} {x : Nfa} : gNfa.rd H l x ↔ ∃ (b1 : Option Addr) (c1 : Nat) (b2 : Option Addr) (c2 : Nat), l = .int .i64 x.states :: .slice b1 x.arcs.length c1 :: .slice b2 x.ends.length c2 :: [] ∧ okI x.states ∧ (gSl 276 gArc).rd H [.slice b1 x.arcs.length c1] x.arcs ∧ (gSl 4 gB).rd H [.slice b2 x.ends.length c2] x.ends := by
 constructor
 ·rintro ⟨m0, q0, rfl, h0, m1, q1, rfl, h1, h2⟩
  obtain ⟨rfl, w0⟩ := h0
  obtain ⟨b1, c1, rfl, h1⟩ := sl_rd h1
  obtain ⟨b2, c2, rfl, h2⟩ := sl_rd h2
  exact ⟨b1, c1, b2, c2, rfl, w0, h1, h2⟩
 rintro ⟨b1, c1, b2, c2, rfl, w0, h1, h2⟩
 exact ⟨[.int .i64 x.states], .slice b1 x.arcs.length c1 :: .slice b2 x.ends.length c2 :: [], rfl, ⟨rfl, w0⟩, ⟨[.slice b1 x.arcs.length c1], [.slice b2 x.ends.length c2], rfl, h1, h2⟩⟩
open Classical in
theorem gNfa_ow {A : Hp} {l : List Value} {x : Nfa} : gNfa.ow l x A ↔ ∃ (b1 : Option Addr) (c1 : Nat) (A1 : Hp) (b2 : Option Addr) (c2 : Nat) (A2 : Hp), l = .int .i64 x.states :: .slice b1 x.arcs.length c1 :: .slice b2 x.ends.length c2 :: [] ∧ A.Perm (A1 ++ A2) ∧ okI x.states ∧ (gSl 276 gArc).ow [.slice b1 x.arcs.length c1] x.arcs A1 ∧ (gSl 4 gB).ow [.slice b2 x.ends.length c2] x.ends A2 := by
 constructor
 ·rintro ⟨m0, q0, D0, E0, rfl, p0, h0, m1, q1, D1, E1, rfl, p1, h1, h2⟩
  obtain ⟨rfl, w0, e0⟩ := h0
  subst e0
  obtain ⟨b1, c1, rfl, h1⟩ := sl_ow h1
  obtain ⟨b2, c2, rfl, h2⟩ := sl_ow h2
  exact ⟨b1, c1, D1, b2, c2, E1, rfl, (perm_cnt fun a => by have e0 := p0.count_eq a; have e1 := p1.count_eq a; simp only [List.count_append, List.count_nil] at *; omega), w0, h1, h2⟩
 rintro ⟨b1, c1, A1, b2, c2, A2, rfl, hp, w0, h1, h2⟩
 exact ⟨[.int .i64 x.states], .slice b1 x.arcs.length c1 :: .slice b2 x.ends.length c2 :: [], [], (A1 ++ A2), rfl, (perm_cnt fun a => by have e := hp.count_eq a; simp only [List.count_append, List.count_nil] at *; omega), ⟨rfl, w0, rfl⟩, ⟨[.slice b1 x.arcs.length c1], [.slice b2 x.ends.length c2], A1, A2, rfl, .refl _, h1, h2⟩⟩
def zNfa : Nfa := ⟨0, [], []⟩
theorem zNfa_ow : gNfa.ow [.int .i64 0, .slice none 0 0, .slice none 0 0] zNfa [] := gNfa_ow.2 ⟨none, 0, [], none, 0, [], rfl, by simp, by first | (unfold okI; decide) | decide, sl_nil _ _ _, sl_nil _ _ _⟩
theorem Nfa.eq_iff {x y : Nfa} : x = y ↔ x.states = y.states ∧ x.arcs = y.arcs ∧ x.ends = y.ends := by cases x; cases y; simp
structure Atom where
 from' : ByteArray
 path : ByteArray
 to : ByteArray
deriving DecidableEq, Inhabited
def gAtom : Gt Atom := gIso (SX.gPair gS (SX.gPair gS gS)) (fun x => (x.from', (x.path, x.to))) (fun p => ⟨p.1, p.2.1, p.2.2⟩)
theorem gAtom_rd {H : Hp} {l : List Value} {x : Atom} : gAtom.rd H l x ↔ l = .string x.from' :: .string x.path :: .string x.to :: [] ∧ x.from'.size ≤ 9223372036854775807 ∧ x.path.size ≤ 9223372036854775807 ∧ x.to.size ≤ 9223372036854775807 := by
 constructor
 ·rintro ⟨m0, q0, rfl, h0, m1, q1, rfl, h1, h2⟩
  obtain ⟨rfl, w0⟩ := h0
  obtain ⟨rfl, w1⟩ := h1
  obtain ⟨rfl, w2⟩ := h2
  exact ⟨rfl, w0, w1, w2⟩
 rintro ⟨rfl, w0, w1, w2⟩
 exact ⟨[.string x.from'], .string x.path :: .string x.to :: [], rfl, ⟨rfl, w0⟩, ⟨[.string x.path], [.string x.to], rfl, ⟨rfl, w1⟩, ⟨rfl, w2⟩⟩⟩
open Classical in
theorem gAtom_ow {A : Hp} {l : List Value} {x : Atom} : gAtom.ow l x A ↔ l = .string x.from' :: .string x.path :: .string x.to :: [] ∧ A.Perm [] ∧ x.from'.size ≤ 9223372036854775807 ∧ x.path.size ≤ 9223372036854775807 ∧ x.to.size ≤ 9223372036854775807 := by
 constructor
 ·rintro ⟨m0, q0, D0, E0, rfl, p0, h0, m1, q1, D1, E1, rfl, p1, h1, h2⟩
  obtain ⟨rfl, w0, e0⟩ := h0
  subst e0
  obtain ⟨rfl, w1, e1⟩ := h1
  subst e1
  obtain ⟨rfl, w2, e2⟩ := h2
  subst e2
  exact ⟨rfl, (perm_cnt fun a => by have e0 := p0.count_eq a; have e1 := p1.count_eq a; simp only [List.count_append, List.count_nil] at *; omega), w0, w1, w2⟩
 rintro ⟨rfl, hp, w0, w1, w2⟩
 exact ⟨[.string x.from'], .string x.path :: .string x.to :: [], [], ([] ++ []), rfl, (perm_cnt fun a => by have e := hp.count_eq a; simp only [List.count_append, List.count_nil] at *; omega), ⟨rfl, w0, rfl⟩, ⟨[.string x.path], [.string x.to], [], [], rfl, .refl _, ⟨rfl, w1, rfl⟩, ⟨rfl, w2, rfl⟩⟩⟩
theorem opens_Atom : Opens prog gAtom.toRp 211 := by
 intro H' enc w H sp hd fuel cs d ps hcov ht
 obtain ⟨h1, h2⟩ := trod_fields ty211_ok.1 ht
 obtain ⟨_, _, t0⟩ := h2 0 0 9 rfl
 obtain ⟨x0, r0⟩ := (opens_fs ty9_ok.1) _ _ H _ _ _ _ _ _ hcov t0
 rw [show prog.cellsOf 9 = 1 by kernel_rfl] at r0
 obtain ⟨_, _, t1⟩ := h2 1 1 9 rfl
 obtain ⟨x1, r1⟩ := (opens_fs ty9_ok.1) _ _ H _ _ _ _ _ _ hcov t1
 rw [show prog.cellsOf 9 = 1 by kernel_rfl] at r1
 obtain ⟨_, _, t2⟩ := h2 2 2 9 rfl
 obtain ⟨x2, r2⟩ := (opens_fs ty9_ok.1) _ _ H _ _ _ _ _ _ hcov t2
 rw [show prog.cellsOf 9 = 1 by kernel_rfl] at r2
 rw [show prog.cellsOf 211 = 3 by kernel_rfl] at h1
 have key : gAtom.rd H ((cs.drop 0).take 3) ⟨x0, x1, x2⟩ := (pair_at (g := gS) (h := (SX.gPair gS gS)) (off := 0) r0 (pair_at (g := gS) (h := gS) (off := 1) r1 r2))
 rw [List.drop_zero, List.take_of_length_le (by omega)] at key
 exact ⟨_, key⟩
def zAtom : Atom := ⟨ByteArray.empty, ByteArray.empty, ByteArray.empty⟩
theorem zAtom_ow : gAtom.ow [.string .empty, .string .empty, .string .empty] zAtom [] := gAtom_ow.2 ⟨rfl, by simp, by first | (unfold okI; decide) | decide, by first | (unfold okI; decide) | decide, by first | (unfold okI; decide) | decide⟩
theorem gAtom_sz (x : Atom) : gAtom.sz x = x.from'.size + (x.path.size + (x.to.size)) := rfl
theorem Atom.eq_iff {x y : Atom} : x = y ↔ x.from' = y.from' ∧ x.path = y.path ∧ x.to = y.to := by cases x; cases y; simp
structure Filter where
 left : ByteArray
 op : Int
 right : ByteArray
 num : Int
deriving DecidableEq, Inhabited
def gFilter : Gt Filter := gIso (SX.gPair gS (SX.gPair gI (SX.gPair gS gI))) (fun x => (x.left, (x.op, (x.right, x.num)))) (fun p => ⟨p.1, p.2.1, p.2.2.1, p.2.2.2⟩)
theorem gFilter_rd {H : Hp} {l : List Value} {x : Filter} : gFilter.rd H l x ↔ l = .string x.left :: .int .i64 x.op :: .string x.right :: .int .i64 x.num :: [] ∧ x.left.size ≤ 9223372036854775807 ∧ okI x.op ∧ x.right.size ≤ 9223372036854775807 ∧ okI x.num := by
 constructor
 ·rintro ⟨m0, q0, rfl, h0, m1, q1, rfl, h1, m2, q2, rfl, h2, h3⟩
  obtain ⟨rfl, w0⟩ := h0
  obtain ⟨rfl, w1⟩ := h1
  obtain ⟨rfl, w2⟩ := h2
  obtain ⟨rfl, w3⟩ := h3
  exact ⟨rfl, w0, w1, w2, w3⟩
 rintro ⟨rfl, w0, w1, w2, w3⟩
 exact ⟨[.string x.left], .int .i64 x.op :: .string x.right :: .int .i64 x.num :: [], rfl, ⟨rfl, w0⟩, ⟨[.int .i64 x.op], .string x.right :: .int .i64 x.num :: [], rfl, ⟨rfl, w1⟩, ⟨[.string x.right], [.int .i64 x.num], rfl, ⟨rfl, w2⟩, ⟨rfl, w3⟩⟩⟩⟩
open Classical in
theorem gFilter_ow {A : Hp} {l : List Value} {x : Filter} : gFilter.ow l x A ↔ l = .string x.left :: .int .i64 x.op :: .string x.right :: .int .i64 x.num :: [] ∧ A.Perm [] ∧ x.left.size ≤ 9223372036854775807 ∧ okI x.op ∧ x.right.size ≤ 9223372036854775807 ∧ okI x.num := by
 constructor
 ·rintro ⟨m0, q0, D0, E0, rfl, p0, h0, m1, q1, D1, E1, rfl, p1, h1, m2, q2, D2, E2, rfl, p2, h2, h3⟩
  obtain ⟨rfl, w0, e0⟩ := h0
  subst e0
  obtain ⟨rfl, w1, e1⟩ := h1
  subst e1
  obtain ⟨rfl, w2, e2⟩ := h2
  subst e2
  obtain ⟨rfl, w3, e3⟩ := h3
  subst e3
  exact ⟨rfl, (perm_cnt fun a => by have e0 := p0.count_eq a; have e1 := p1.count_eq a; have e2 := p2.count_eq a; simp only [List.count_append, List.count_nil] at *; omega), w0, w1, w2, w3⟩
 rintro ⟨rfl, hp, w0, w1, w2, w3⟩
 exact ⟨[.string x.left], .int .i64 x.op :: .string x.right :: .int .i64 x.num :: [], [], ([] ++ ([] ++ [])), rfl, (perm_cnt fun a => by have e := hp.count_eq a; simp only [List.count_append, List.count_nil] at *; omega), ⟨rfl, w0, rfl⟩, ⟨[.int .i64 x.op], .string x.right :: .int .i64 x.num :: [], [], ([] ++ []), rfl, .refl _, ⟨rfl, w1, rfl⟩, ⟨[.string x.right], [.int .i64 x.num], [], [], rfl, .refl _, ⟨rfl, w2, rfl⟩, ⟨rfl, w3, rfl⟩⟩⟩⟩
theorem opens_Filter : Opens prog gFilter.toRp 214 := by
 intro H' enc w H sp hd fuel cs d ps hcov ht
 obtain ⟨h1, h2⟩ := trod_fields ty214_ok.1 ht
 obtain ⟨_, _, t0⟩ := h2 0 0 9 rfl
 obtain ⟨x0, r0⟩ := (opens_fs ty9_ok.1) _ _ H _ _ _ _ _ _ hcov t0
 rw [show prog.cellsOf 9 = 1 by kernel_rfl] at r0
 obtain ⟨_, _, t1⟩ := h2 1 1 3 rfl
 obtain ⟨x1, r1⟩ := (opens_fi ty3_ok.1) _ _ H _ _ _ _ _ _ hcov t1
 rw [show prog.cellsOf 3 = 1 by kernel_rfl] at r1
 obtain ⟨_, _, t2⟩ := h2 2 2 9 rfl
 obtain ⟨x2, r2⟩ := (opens_fs ty9_ok.1) _ _ H _ _ _ _ _ _ hcov t2
 rw [show prog.cellsOf 9 = 1 by kernel_rfl] at r2
 obtain ⟨_, _, t3⟩ := h2 3 3 3 rfl
 obtain ⟨x3, r3⟩ := (opens_fi ty3_ok.1) _ _ H _ _ _ _ _ _ hcov t3
 rw [show prog.cellsOf 3 = 1 by kernel_rfl] at r3
 rw [show prog.cellsOf 214 = 4 by kernel_rfl] at h1
 have key : gFilter.rd H ((cs.drop 0).take 4) ⟨x0, x1, x2, x3⟩ := (pair_at (g := gS) (h := (SX.gPair gI (SX.gPair gS gI))) (off := 0) r0 (pair_at (g := gI) (h := (SX.gPair gS gI)) (off := 1) r1 (pair_at (g := gS) (h := gI) (off := 2) r2 r3)))
 rw [List.drop_zero, List.take_of_length_le (by omega)] at key
 exact ⟨_, key⟩
def zFilter : Filter := ⟨ByteArray.empty, 0, ByteArray.empty, 0⟩
theorem zFilter_ow : gFilter.ow [.string .empty, .int .i64 0, .string .empty, .int .i64 0] zFilter [] := gFilter_ow.2 ⟨rfl, by simp, by first | (unfold okI; decide) | decide, by first | (unfold okI; decide) | decide, by first | (unfold okI; decide) | decide, by first | (unfold okI; decide) | decide⟩
theorem gFilter_sz (x : Filter) : gFilter.sz x = x.left.size + (0 + (x.right.size + (0))) := rfl
theorem Filter.eq_iff {x y : Filter} : x = y ↔ x.left = y.left ∧ x.op = y.op ∧ x.right = y.right ∧ x.num = y.num := by cases x; cases y; simp
structure Query where
 each : Bool
 out : List ByteArray
 atoms : List Atom
 filters : List Filter
deriving DecidableEq, Inhabited
def gQuery : Gt Query := gIso (SX.gPair gB (SX.gPair (gSl 9 gS) (SX.gPair (gSl 118 gAtom) (gSl 220 gFilter)))) (fun x => (x.each, (x.out, (x.atoms, x.filters)))) (fun p => ⟨p.1, p.2.1, p.2.2.1, p.2.2.2⟩)
theorem gQuery_rd {H : Hp} {l : List Value} {x : Query} : gQuery.rd H l x ↔ ∃ (b1 : Option Addr) (c1 : Nat) (b2 : Option Addr) (c2 : Nat) (b3 : Option Addr) (c3 : Nat), l = .bool x.each :: .slice b1 x.out.length c1 :: .slice b2 x.atoms.length c2 :: .slice b3 x.filters.length c3 :: [] ∧ (gSl 9 gS).rd H [.slice b1 x.out.length c1] x.out ∧ (gSl 118 gAtom).rd H [.slice b2 x.atoms.length c2] x.atoms ∧ (gSl 220 gFilter).rd H [.slice b3 x.filters.length c3] x.filters := by
 constructor
 ·rintro ⟨m0, q0, rfl, h0, m1, q1, rfl, h1, m2, q2, rfl, h2, h3⟩
  obtain ⟨rfl, w0⟩ := h0
  obtain ⟨b1, c1, rfl, h1⟩ := sl_rd h1
  obtain ⟨b2, c2, rfl, h2⟩ := sl_rd h2
  obtain ⟨b3, c3, rfl, h3⟩ := sl_rd h3
  exact ⟨b1, c1, b2, c2, b3, c3, rfl, h1, h2, h3⟩
 rintro ⟨b1, c1, b2, c2, b3, c3, rfl, h1, h2, h3⟩
 exact ⟨[.bool x.each], .slice b1 x.out.length c1 :: .slice b2 x.atoms.length c2 :: .slice b3 x.filters.length c3 :: [], rfl, ⟨rfl, trivial⟩, ⟨[.slice b1 x.out.length c1], .slice b2 x.atoms.length c2 :: .slice b3 x.filters.length c3 :: [], rfl, h1, ⟨[.slice b2 x.atoms.length c2], [.slice b3 x.filters.length c3], rfl, h2, h3⟩⟩⟩
open Classical in
theorem gQuery_ow {A : Hp} {l : List Value} {x : Query} : gQuery.ow l x A ↔ ∃ (b1 : Option Addr) (c1 : Nat) (A1 : Hp) (b2 : Option Addr) (c2 : Nat) (A2 : Hp) (b3 : Option Addr) (c3 : Nat) (A3 : Hp), l = .bool x.each :: .slice b1 x.out.length c1 :: .slice b2 x.atoms.length c2 :: .slice b3 x.filters.length c3 :: [] ∧ A.Perm (A1 ++ (A2 ++ A3)) ∧ (gSl 9 gS).ow [.slice b1 x.out.length c1] x.out A1 ∧ (gSl 118 gAtom).ow [.slice b2 x.atoms.length c2] x.atoms A2 ∧ (gSl 220 gFilter).ow [.slice b3 x.filters.length c3] x.filters A3 := by
 constructor
 ·rintro ⟨m0, q0, D0, E0, rfl, p0, h0, m1, q1, D1, E1, rfl, p1, h1, m2, q2, D2, E2, rfl, p2, h2, h3⟩
  obtain ⟨rfl, w0, e0⟩ := h0
  subst e0
  obtain ⟨b1, c1, rfl, h1⟩ := sl_ow h1
  obtain ⟨b2, c2, rfl, h2⟩ := sl_ow h2
  obtain ⟨b3, c3, rfl, h3⟩ := sl_ow h3
  exact ⟨b1, c1, D1, b2, c2, D2, b3, c3, E2, rfl, (perm_cnt fun a => by have e0 := p0.count_eq a; have e1 := p1.count_eq a; have e2 := p2.count_eq a; simp only [List.count_append, List.count_nil] at *; omega), h1, h2, h3⟩
 rintro ⟨b1, c1, A1, b2, c2, A2, b3, c3, A3, rfl, hp, h1, h2, h3⟩
 exact ⟨[.bool x.each], .slice b1 x.out.length c1 :: .slice b2 x.atoms.length c2 :: .slice b3 x.filters.length c3 :: [], [], (A1 ++ (A2 ++ A3)), rfl, (perm_cnt fun a => by have e := hp.count_eq a; simp only [List.count_append, List.count_nil] at *; omega), ⟨rfl, trivial, rfl⟩, ⟨[.slice b1 x.out.length c1], .slice b2 x.atoms.length c2 :: .slice b3 x.filters.length c3 :: [], A1, (A2 ++ A3), rfl, .refl _, h1, ⟨[.slice b2 x.atoms.length c2], [.slice b3 x.filters.length c3], A2, A3, rfl, .refl _, h2, h3⟩⟩⟩
theorem opens_Query : Opens prog gQuery.toRp 26 := by
 intro H' enc w H sp hd fuel cs d ps hcov ht
 obtain ⟨h1, h2⟩ := trod_fields ty26_ok.1 ht
 obtain ⟨_, _, t0⟩ := h2 0 0 4 rfl
 obtain ⟨x0, r0⟩ := (opens_fb ty4_ok.1) _ _ H _ _ _ _ _ _ hcov t0
 rw [show prog.cellsOf 4 = 1 by kernel_rfl] at r0
 obtain ⟨_, _, t1⟩ := h2 1 1 22 rfl
 obtain ⟨x1, r1⟩ := (opens_sl ty22_ok.1 (by kernel_rfl) (by decide) (opens_fs ty9_ok.1)) _ _ H _ _ _ _ _ _ hcov t1
 rw [show prog.cellsOf 22 = 1 by kernel_rfl] at r1
 obtain ⟨_, _, t2⟩ := h2 2 2 23 rfl
 obtain ⟨x2, r2⟩ := (opens_sl ty23_ok.1 (by kernel_rfl) (by decide) opens_Atom) _ _ H _ _ _ _ _ _ hcov t2
 rw [show prog.cellsOf 23 = 1 by kernel_rfl] at r2
 obtain ⟨_, _, t3⟩ := h2 3 3 24 rfl
 obtain ⟨x3, r3⟩ := (opens_sl ty24_ok.1 (by kernel_rfl) (by decide) opens_Filter) _ _ H _ _ _ _ _ _ hcov t3
 rw [show prog.cellsOf 24 = 1 by kernel_rfl] at r3
 rw [show prog.cellsOf 26 = 4 by kernel_rfl] at h1
 have key : gQuery.rd H ((cs.drop 0).take 4) ⟨x0, x1, x2, x3⟩ := (pair_at (g := gB) (h := (SX.gPair (gSl 9 gS) (SX.gPair (gSl 118 gAtom) (gSl 220 gFilter)))) (off := 0) r0 (pair_at (g := (gSl 9 gS)) (h := (SX.gPair (gSl 118 gAtom) (gSl 220 gFilter))) (off := 1) r1 (pair_at (g := (gSl 118 gAtom)) (h := (gSl 220 gFilter)) (off := 2) r2 r3)))
 rw [List.drop_zero, List.take_of_length_le (by omega)] at key
 exact ⟨_, key⟩
def zQuery : Query := ⟨false, [], [], []⟩
theorem zQuery_ow : gQuery.ow [.bool false, .slice none 0 0, .slice none 0 0, .slice none 0 0] zQuery [] := gQuery_ow.2 ⟨none, 0, [], none, 0, [], none, 0, [], rfl, by simp, sl_nil _ _ _, sl_nil _ _ _, sl_nil _ _ _⟩
theorem gQuery_sz (x : Query) : gQuery.sz x = 0 + (szL gS x.out + (szL gAtom x.atoms + (szL gFilter x.filters))) := rfl
theorem Query.eq_iff {x y : Query} : x = y ↔ x.each = y.each ∧ x.out = y.out ∧ x.atoms = y.atoms ∧ x.filters = y.filters := by cases x; cases y; simp
structure Table where
 cols : List ByteArray
 bag : Bag
deriving DecidableEq, Inhabited
theorem Table.eq_iff {x y : Table} : x = y ↔ x.cols = y.cols ∧ x.bag = y.bag := by cases x; cases y; simp
structure File where
 name : ByteArray
 text : ByteArray
 kept : Int
deriving DecidableEq, Inhabited
def gFile : Gt File := gIso (SX.gPair gS (SX.gPair gS gI)) (fun x => (x.name, (x.text, x.kept))) (fun p => ⟨p.1, p.2.1, p.2.2⟩)
theorem gFile_rd {H : Hp} {l : List Value} {x : File} : gFile.rd H l x ↔ l = .string x.name :: .string x.text :: .int .i64 x.kept :: [] ∧ x.name.size ≤ 9223372036854775807 ∧ x.text.size ≤ 9223372036854775807 ∧ okI x.kept := by
 constructor
 ·rintro ⟨m0, q0, rfl, h0, m1, q1, rfl, h1, h2⟩
  obtain ⟨rfl, w0⟩ := h0
  obtain ⟨rfl, w1⟩ := h1
  obtain ⟨rfl, w2⟩ := h2
  exact ⟨rfl, w0, w1, w2⟩
 rintro ⟨rfl, w0, w1, w2⟩
 exact ⟨[.string x.name], .string x.text :: .int .i64 x.kept :: [], rfl, ⟨rfl, w0⟩, ⟨[.string x.text], [.int .i64 x.kept], rfl, ⟨rfl, w1⟩, ⟨rfl, w2⟩⟩⟩
open Classical in
theorem gFile_ow {A : Hp} {l : List Value} {x : File} : gFile.ow l x A ↔ l = .string x.name :: .string x.text :: .int .i64 x.kept :: [] ∧ A.Perm [] ∧ x.name.size ≤ 9223372036854775807 ∧ x.text.size ≤ 9223372036854775807 ∧ okI x.kept := by
 constructor
 ·rintro ⟨m0, q0, D0, E0, rfl, p0, h0, m1, q1, D1, E1, rfl, p1, h1, h2⟩
  obtain ⟨rfl, w0, e0⟩ := h0
  subst e0
  obtain ⟨rfl, w1, e1⟩ := h1
  subst e1
  obtain ⟨rfl, w2, e2⟩ := h2
  subst e2
  exact ⟨rfl, (perm_cnt fun a => by have e0 := p0.count_eq a; have e1 := p1.count_eq a; simp only [List.count_append, List.count_nil] at *; omega), w0, w1, w2⟩
 rintro ⟨rfl, hp, w0, w1, w2⟩
 exact ⟨[.string x.name], .string x.text :: .int .i64 x.kept :: [], [], ([] ++ []), rfl, (perm_cnt fun a => by have e := hp.count_eq a; simp only [List.count_append, List.count_nil] at *; omega), ⟨rfl, w0, rfl⟩, ⟨[.string x.text], [.int .i64 x.kept], [], [], rfl, .refl _, ⟨rfl, w1, rfl⟩, ⟨rfl, w2, rfl⟩⟩⟩
theorem opens_File : Opens prog gFile.toRp 470 := by
 intro H' enc w H sp hd fuel cs d ps hcov ht
 obtain ⟨h1, h2⟩ := trod_fields ty470_ok.1 ht
 obtain ⟨_, _, t0⟩ := h2 0 0 9 rfl
 obtain ⟨x0, r0⟩ := (opens_fs ty9_ok.1) _ _ H _ _ _ _ _ _ hcov t0
 rw [show prog.cellsOf 9 = 1 by kernel_rfl] at r0
 obtain ⟨_, _, t1⟩ := h2 1 1 9 rfl
 obtain ⟨x1, r1⟩ := (opens_fs ty9_ok.1) _ _ H _ _ _ _ _ _ hcov t1
 rw [show prog.cellsOf 9 = 1 by kernel_rfl] at r1
 obtain ⟨_, _, t2⟩ := h2 2 2 3 rfl
 obtain ⟨x2, r2⟩ := (opens_fi ty3_ok.1) _ _ H _ _ _ _ _ _ hcov t2
 rw [show prog.cellsOf 3 = 1 by kernel_rfl] at r2
 rw [show prog.cellsOf 470 = 3 by kernel_rfl] at h1
 have key : gFile.rd H ((cs.drop 0).take 3) ⟨x0, x1, x2⟩ := (pair_at (g := gS) (h := (SX.gPair gS gI)) (off := 0) r0 (pair_at (g := gS) (h := gI) (off := 1) r1 r2))
 rw [List.drop_zero, List.take_of_length_le (by omega)] at key
 exact ⟨_, key⟩
def zFile : File := ⟨ByteArray.empty, ByteArray.empty, 0⟩
theorem zFile_ow : gFile.ow [.string .empty, .string .empty, .int .i64 0] zFile [] := gFile_ow.2 ⟨rfl, by simp, by first | (unfold okI; decide) | decide, by first | (unfold okI; decide) | decide, by first | (unfold okI; decide) | decide⟩
theorem gFile_sz (x : File) : gFile.sz x = x.name.size + (x.text.size + (0)) := rfl
theorem File.eq_iff {x y : File} : x = y ↔ x.name = y.name ∧ x.text = y.text ∧ x.kept = y.kept := by cases x; cases y; simp
structure Disk where
 files : List File
deriving DecidableEq, Inhabited
def gDisk : Gt Disk := gIso (gSl 323 gFile) (fun x => x.files) (fun p => ⟨p⟩)
theorem gDisk_rd {H : Hp} {l : List Value} {x : Disk} : gDisk.rd H l x ↔ ∃ (b0 : Option Addr) (c0 : Nat), l = .slice b0 x.files.length c0 :: [] ∧ (gSl 323 gFile).rd H [.slice b0 x.files.length c0] x.files := by
 constructor
 ·rintro h0
  obtain ⟨b0, c0, rfl, h0⟩ := sl_rd h0
  exact ⟨b0, c0, rfl, h0⟩
 rintro ⟨b0, c0, rfl, h0⟩
 exact h0
open Classical in
theorem gDisk_ow {A : Hp} {l : List Value} {x : Disk} : gDisk.ow l x A ↔ ∃ (b0 : Option Addr) (c0 : Nat) (A0 : Hp), l = .slice b0 x.files.length c0 :: [] ∧ A.Perm A0 ∧ (gSl 323 gFile).ow [.slice b0 x.files.length c0] x.files A0 := by
 constructor
 ·rintro h0
  obtain ⟨b0, c0, rfl, h0⟩ := sl_ow h0
  exact ⟨b0, c0, A, rfl, .refl _, h0⟩
 rintro ⟨b0, c0, A0, rfl, hp, h0⟩
 exact gDisk.owp (l := _) (x := x) h0 hp
theorem opens_Disk : Opens prog gDisk.toRp 255 := by
 intro H' enc w H sp hd fuel cs d ps hcov ht
 obtain ⟨h1, h2⟩ := trod_fields ty255_ok.1 ht
 obtain ⟨_, _, t0⟩ := h2 0 0 253 rfl
 obtain ⟨x0, r0⟩ := (opens_sl ty253_ok.1 (by kernel_rfl) (by decide) opens_File) _ _ H _ _ _ _ _ _ hcov t0
 rw [show prog.cellsOf 253 = 1 by kernel_rfl] at r0
 rw [show prog.cellsOf 255 = 1 by kernel_rfl] at h1
 have key : gDisk.rd H ((cs.drop 0).take 1) ⟨x0⟩ := r0
 rw [List.drop_zero, List.take_of_length_le (by omega)] at key
 exact ⟨_, key⟩
def zDisk : Disk := ⟨[]⟩
theorem zDisk_ow : gDisk.ow [.slice none 0 0] zDisk [] := gDisk_ow.2 ⟨none, 0, [], rfl, by simp, sl_nil _ _ _⟩
theorem gDisk_sz (x : Disk) : gDisk.sz x = szL gFile x.files := rfl
theorem Disk.eq_iff {x y : Disk} : x = y ↔ x.files = y.files := by cases x; cases y; simp
structure Act where
 kind : Int
 name : ByteArray
 text : ByteArray
 to : ByteArray
deriving DecidableEq, Inhabited
theorem Act.eq_iff {x y : Act} : x = y ↔ x.kind = y.kind ∧ x.name = y.name ∧ x.text = y.text ∧ x.to = y.to := by cases x; cases y; simp
structure Walk where
 atom : Int
 src : Int
 at' : Int
 state : Int
deriving DecidableEq, Inhabited
def gWalk : Gt Walk := gIso (SX.gPair gI (SX.gPair gI (SX.gPair gI gI))) (fun x => (x.atom, (x.src, (x.at', x.state)))) (fun p => ⟨p.1, p.2.1, p.2.2.1, p.2.2.2⟩)
theorem gWalk_rd {H : Hp} {l : List Value} {x : Walk} : gWalk.rd H l x ↔ l = .int .i64 x.atom :: .int .i64 x.src :: .int .i64 x.at' :: .int .i64 x.state :: [] ∧ okI x.atom ∧ okI x.src ∧ okI x.at' ∧ okI x.state := by
 constructor
 ·rintro ⟨m0, q0, rfl, h0, m1, q1, rfl, h1, m2, q2, rfl, h2, h3⟩
  obtain ⟨rfl, w0⟩ := h0
  obtain ⟨rfl, w1⟩ := h1
  obtain ⟨rfl, w2⟩ := h2
  obtain ⟨rfl, w3⟩ := h3
  exact ⟨rfl, w0, w1, w2, w3⟩
 rintro ⟨rfl, w0, w1, w2, w3⟩
 exact ⟨[.int .i64 x.atom], .int .i64 x.src :: .int .i64 x.at' :: .int .i64 x.state :: [], rfl, ⟨rfl, w0⟩, ⟨[.int .i64 x.src], .int .i64 x.at' :: .int .i64 x.state :: [], rfl, ⟨rfl, w1⟩, ⟨[.int .i64 x.at'], [.int .i64 x.state], rfl, ⟨rfl, w2⟩, ⟨rfl, w3⟩⟩⟩⟩
open Classical in
theorem gWalk_ow {A : Hp} {l : List Value} {x : Walk} : gWalk.ow l x A ↔ l = .int .i64 x.atom :: .int .i64 x.src :: .int .i64 x.at' :: .int .i64 x.state :: [] ∧ A.Perm [] ∧ okI x.atom ∧ okI x.src ∧ okI x.at' ∧ okI x.state := by
 constructor
 ·rintro ⟨m0, q0, D0, E0, rfl, p0, h0, m1, q1, D1, E1, rfl, p1, h1, m2, q2, D2, E2, rfl, p2, h2, h3⟩
  obtain ⟨rfl, w0, e0⟩ := h0
  subst e0
  obtain ⟨rfl, w1, e1⟩ := h1
  subst e1
  obtain ⟨rfl, w2, e2⟩ := h2
  subst e2
  obtain ⟨rfl, w3, e3⟩ := h3
  subst e3
  exact ⟨rfl, (perm_cnt fun a => by have e0 := p0.count_eq a; have e1 := p1.count_eq a; have e2 := p2.count_eq a; simp only [List.count_append, List.count_nil] at *; omega), w0, w1, w2, w3⟩
 rintro ⟨rfl, hp, w0, w1, w2, w3⟩
 exact ⟨[.int .i64 x.atom], .int .i64 x.src :: .int .i64 x.at' :: .int .i64 x.state :: [], [], ([] ++ ([] ++ [])), rfl, (perm_cnt fun a => by have e := hp.count_eq a; simp only [List.count_append, List.count_nil] at *; omega), ⟨rfl, w0, rfl⟩, ⟨[.int .i64 x.src], .int .i64 x.at' :: .int .i64 x.state :: [], [], ([] ++ []), rfl, .refl _, ⟨rfl, w1, rfl⟩, ⟨[.int .i64 x.at'], [.int .i64 x.state], [], [], rfl, .refl _, ⟨rfl, w2, rfl⟩, ⟨rfl, w3, rfl⟩⟩⟩⟩
theorem opens_Walk : Opens prog gWalk.toRp 241 := by
 intro H' enc w H sp hd fuel cs d ps hcov ht
 obtain ⟨h1, h2⟩ := trod_fields ty241_ok.1 ht
 obtain ⟨_, _, t0⟩ := h2 0 0 3 rfl
 obtain ⟨x0, r0⟩ := (opens_fi ty3_ok.1) _ _ H _ _ _ _ _ _ hcov t0
 rw [show prog.cellsOf 3 = 1 by kernel_rfl] at r0
 obtain ⟨_, _, t1⟩ := h2 1 1 3 rfl
 obtain ⟨x1, r1⟩ := (opens_fi ty3_ok.1) _ _ H _ _ _ _ _ _ hcov t1
 rw [show prog.cellsOf 3 = 1 by kernel_rfl] at r1
 obtain ⟨_, _, t2⟩ := h2 2 2 3 rfl
 obtain ⟨x2, r2⟩ := (opens_fi ty3_ok.1) _ _ H _ _ _ _ _ _ hcov t2
 rw [show prog.cellsOf 3 = 1 by kernel_rfl] at r2
 obtain ⟨_, _, t3⟩ := h2 3 3 3 rfl
 obtain ⟨x3, r3⟩ := (opens_fi ty3_ok.1) _ _ H _ _ _ _ _ _ hcov t3
 rw [show prog.cellsOf 3 = 1 by kernel_rfl] at r3
 rw [show prog.cellsOf 241 = 4 by kernel_rfl] at h1
 have key : gWalk.rd H ((cs.drop 0).take 4) ⟨x0, x1, x2, x3⟩ := (pair_at (g := gI) (h := (SX.gPair gI (SX.gPair gI gI))) (off := 0) r0 (pair_at (g := gI) (h := (SX.gPair gI gI)) (off := 1) r1 (pair_at (g := gI) (h := gI) (off := 2) r2 r3)))
 rw [List.drop_zero, List.take_of_length_le (by omega)] at key
 exact ⟨_, key⟩
def zWalk : Walk := ⟨0, 0, 0, 0⟩
theorem zWalk_ow : gWalk.ow [.int .i64 0, .int .i64 0, .int .i64 0, .int .i64 0] zWalk [] := gWalk_ow.2 ⟨rfl, by simp, by first | (unfold okI; decide) | decide, by first | (unfold okI; decide) | decide, by first | (unfold okI; decide) | decide, by first | (unfold okI; decide) | decide⟩
theorem gWalk_sz (x : Walk) : gWalk.sz x = 0 + (0 + (0 + (0))) := rfl
theorem Walk.eq_iff {x y : Walk} : x = y ↔ x.atom = y.atom ∧ x.src = y.src ∧ x.at' = y.at' ∧ x.state = y.state := by cases x; cases y; simp
structure Letter where
 kind : Int
 atom : Int
 num : Int
 black : Bool
 walks : List Walk
 text : ByteArray
deriving DecidableEq, Inhabited
def gLetter : Gt Letter := gIso (SX.gPair gI (SX.gPair gI (SX.gPair gI (SX.gPair gB (SX.gPair (gSl 164 gWalk) gS))))) (fun x => (x.kind, (x.atom, (x.num, (x.black, (x.walks, x.text)))))) (fun p => ⟨p.1, p.2.1, p.2.2.1, p.2.2.2.1, p.2.2.2.2.1, p.2.2.2.2.2⟩)
theorem gLetter_rd {H : Hp} {l : List Value} {x : Letter} : gLetter.rd H l x ↔ ∃ (b4 : Option Addr) (c4 : Nat), l = .int .i64 x.kind :: .int .i64 x.atom :: .int .i64 x.num :: .bool x.black :: .slice b4 x.walks.length c4 :: .string x.text :: [] ∧ okI x.kind ∧ okI x.atom ∧ okI x.num ∧ (gSl 164 gWalk).rd H [.slice b4 x.walks.length c4] x.walks ∧ x.text.size ≤ 9223372036854775807 := by
 constructor
 ·rintro ⟨m0, q0, rfl, h0, m1, q1, rfl, h1, m2, q2, rfl, h2, m3, q3, rfl, h3, m4, q4, rfl, h4, h5⟩
  obtain ⟨rfl, w0⟩ := h0
  obtain ⟨rfl, w1⟩ := h1
  obtain ⟨rfl, w2⟩ := h2
  obtain ⟨rfl, w3⟩ := h3
  obtain ⟨b4, c4, rfl, h4⟩ := sl_rd h4
  obtain ⟨rfl, w5⟩ := h5
  exact ⟨b4, c4, rfl, w0, w1, w2, h4, w5⟩
 rintro ⟨b4, c4, rfl, w0, w1, w2, h4, w5⟩
 exact ⟨[.int .i64 x.kind], .int .i64 x.atom :: .int .i64 x.num :: .bool x.black :: .slice b4 x.walks.length c4 :: .string x.text :: [], rfl, ⟨rfl, w0⟩, ⟨[.int .i64 x.atom], .int .i64 x.num :: .bool x.black :: .slice b4 x.walks.length c4 :: .string x.text :: [], rfl, ⟨rfl, w1⟩, ⟨[.int .i64 x.num], .bool x.black :: .slice b4 x.walks.length c4 :: .string x.text :: [], rfl, ⟨rfl, w2⟩, ⟨[.bool x.black], .slice b4 x.walks.length c4 :: .string x.text :: [], rfl, ⟨rfl, trivial⟩, ⟨[.slice b4 x.walks.length c4], [.string x.text], rfl, h4, ⟨rfl, w5⟩⟩⟩⟩⟩⟩
open Classical in
theorem gLetter_ow {A : Hp} {l : List Value} {x : Letter} : gLetter.ow l x A ↔ ∃ (b4 : Option Addr) (c4 : Nat) (A4 : Hp), l = .int .i64 x.kind :: .int .i64 x.atom :: .int .i64 x.num :: .bool x.black :: .slice b4 x.walks.length c4 :: .string x.text :: [] ∧ A.Perm A4 ∧ okI x.kind ∧ okI x.atom ∧ okI x.num ∧ (gSl 164 gWalk).ow [.slice b4 x.walks.length c4] x.walks A4 ∧ x.text.size ≤ 9223372036854775807 := by
 constructor
 ·rintro ⟨m0, q0, D0, E0, rfl, p0, h0, m1, q1, D1, E1, rfl, p1, h1, m2, q2, D2, E2, rfl, p2, h2, m3, q3, D3, E3, rfl, p3, h3, m4, q4, D4, E4, rfl, p4, h4, h5⟩
  obtain ⟨rfl, w0, e0⟩ := h0
  subst e0
  obtain ⟨rfl, w1, e1⟩ := h1
  subst e1
  obtain ⟨rfl, w2, e2⟩ := h2
  subst e2
  obtain ⟨rfl, w3, e3⟩ := h3
  subst e3
  obtain ⟨b4, c4, rfl, h4⟩ := sl_ow h4
  obtain ⟨rfl, w5, e5⟩ := h5
  subst e5
  exact ⟨b4, c4, D4, rfl, (perm_cnt fun a => by have e0 := p0.count_eq a; have e1 := p1.count_eq a; have e2 := p2.count_eq a; have e3 := p3.count_eq a; have e4 := p4.count_eq a; simp only [List.count_append, List.count_nil] at *; omega), w0, w1, w2, h4, w5⟩
 rintro ⟨b4, c4, A4, rfl, hp, w0, w1, w2, h4, w5⟩
 exact ⟨[.int .i64 x.kind], .int .i64 x.atom :: .int .i64 x.num :: .bool x.black :: .slice b4 x.walks.length c4 :: .string x.text :: [], [], ([] ++ ([] ++ ([] ++ (A4 ++ [])))), rfl, (perm_cnt fun a => by have e := hp.count_eq a; simp only [List.count_append, List.count_nil] at *; omega), ⟨rfl, w0, rfl⟩, ⟨[.int .i64 x.atom], .int .i64 x.num :: .bool x.black :: .slice b4 x.walks.length c4 :: .string x.text :: [], [], ([] ++ ([] ++ (A4 ++ []))), rfl, .refl _, ⟨rfl, w1, rfl⟩, ⟨[.int .i64 x.num], .bool x.black :: .slice b4 x.walks.length c4 :: .string x.text :: [], [], ([] ++ (A4 ++ [])), rfl, .refl _, ⟨rfl, w2, rfl⟩, ⟨[.bool x.black], .slice b4 x.walks.length c4 :: .string x.text :: [], [], (A4 ++ []), rfl, .refl _, ⟨rfl, trivial, rfl⟩, ⟨[.slice b4 x.walks.length c4], [.string x.text], A4, [], rfl, .refl _, h4, ⟨rfl, w5, rfl⟩⟩⟩⟩⟩⟩
theorem opens_Letter : Opens prog gLetter.toRp 237 := by
 intro H' enc w H sp hd fuel cs d ps hcov ht
 obtain ⟨h1, h2⟩ := trod_fields ty237_ok.1 ht
 obtain ⟨_, _, t0⟩ := h2 0 0 3 rfl
 obtain ⟨x0, r0⟩ := (opens_fi ty3_ok.1) _ _ H _ _ _ _ _ _ hcov t0
 rw [show prog.cellsOf 3 = 1 by kernel_rfl] at r0
 obtain ⟨_, _, t1⟩ := h2 1 1 3 rfl
 obtain ⟨x1, r1⟩ := (opens_fi ty3_ok.1) _ _ H _ _ _ _ _ _ hcov t1
 rw [show prog.cellsOf 3 = 1 by kernel_rfl] at r1
 obtain ⟨_, _, t2⟩ := h2 2 2 3 rfl
 obtain ⟨x2, r2⟩ := (opens_fi ty3_ok.1) _ _ H _ _ _ _ _ _ hcov t2
 rw [show prog.cellsOf 3 = 1 by kernel_rfl] at r2
 obtain ⟨_, _, t3⟩ := h2 3 3 4 rfl
 obtain ⟨x3, r3⟩ := (opens_fb ty4_ok.1) _ _ H _ _ _ _ _ _ hcov t3
 rw [show prog.cellsOf 4 = 1 by kernel_rfl] at r3
 obtain ⟨_, _, t4⟩ := h2 4 4 51 rfl
 obtain ⟨x4, r4⟩ := (opens_sl ty51_ok.1 (by kernel_rfl) (by decide) opens_Walk) _ _ H _ _ _ _ _ _ hcov t4
 rw [show prog.cellsOf 51 = 1 by kernel_rfl] at r4
 obtain ⟨_, _, t5⟩ := h2 5 5 9 rfl
 obtain ⟨x5, r5⟩ := (opens_fs ty9_ok.1) _ _ H _ _ _ _ _ _ hcov t5
 rw [show prog.cellsOf 9 = 1 by kernel_rfl] at r5
 rw [show prog.cellsOf 237 = 6 by kernel_rfl] at h1
 have key : gLetter.rd H ((cs.drop 0).take 6) ⟨x0, x1, x2, x3, x4, x5⟩ := (pair_at (g := gI) (h := (SX.gPair gI (SX.gPair gI (SX.gPair gB (SX.gPair (gSl 164 gWalk) gS))))) (off := 0) r0 (pair_at (g := gI) (h := (SX.gPair gI (SX.gPair gB (SX.gPair (gSl 164 gWalk) gS)))) (off := 1) r1 (pair_at (g := gI) (h := (SX.gPair gB (SX.gPair (gSl 164 gWalk) gS))) (off := 2) r2 (pair_at (g := gB) (h := (SX.gPair (gSl 164 gWalk) gS)) (off := 3) r3 (pair_at (g := (gSl 164 gWalk)) (h := gS) (off := 4) r4 r5)))))
 rw [List.drop_zero, List.take_of_length_le (by omega)] at key
 exact ⟨_, key⟩
def zLetter : Letter := ⟨0, 0, 0, false, [], ByteArray.empty⟩
theorem zLetter_ow : gLetter.ow [.int .i64 0, .int .i64 0, .int .i64 0, .bool false, .slice none 0 0, .string .empty] zLetter [] := gLetter_ow.2 ⟨none, 0, [], rfl, by simp, by first | (unfold okI; decide) | decide, by first | (unfold okI; decide) | decide, by first | (unfold okI; decide) | decide, sl_nil _ _ _, by first | (unfold okI; decide) | decide⟩
theorem gLetter_sz (x : Letter) : gLetter.sz x = 0 + (0 + (0 + (0 + (szL gWalk x.walks + (x.text.size))))) := rfl
theorem Letter.eq_iff {x y : Letter} : x = y ↔ x.kind = y.kind ∧ x.atom = y.atom ∧ x.num = y.num ∧ x.black = y.black ∧ x.walks = y.walks ∧ x.text = y.text := by cases x; cases y; simp
structure Link where
 sent : List ByteArray
 acked : Int
 took : Int
deriving DecidableEq, Inhabited
def gLink : Gt Link := gIso (SX.gPair (gSl 9 gS) (SX.gPair gI gI)) (fun x => (x.sent, (x.acked, x.took))) (fun p => ⟨p.1, p.2.1, p.2.2⟩)
theorem gLink_rd {H : Hp} {l : List Value} {x : Link} : gLink.rd H l x ↔ ∃ (b0 : Option Addr) (c0 : Nat), l = .slice b0 x.sent.length c0 :: .int .i64 x.acked :: .int .i64 x.took :: [] ∧ (gSl 9 gS).rd H [.slice b0 x.sent.length c0] x.sent ∧ okI x.acked ∧ okI x.took := by
 constructor
 ·rintro ⟨m0, q0, rfl, h0, m1, q1, rfl, h1, h2⟩
  obtain ⟨b0, c0, rfl, h0⟩ := sl_rd h0
  obtain ⟨rfl, w1⟩ := h1
  obtain ⟨rfl, w2⟩ := h2
  exact ⟨b0, c0, rfl, h0, w1, w2⟩
 rintro ⟨b0, c0, rfl, h0, w1, w2⟩
 exact ⟨[.slice b0 x.sent.length c0], .int .i64 x.acked :: .int .i64 x.took :: [], rfl, h0, ⟨[.int .i64 x.acked], [.int .i64 x.took], rfl, ⟨rfl, w1⟩, ⟨rfl, w2⟩⟩⟩
open Classical in
theorem gLink_ow {A : Hp} {l : List Value} {x : Link} : gLink.ow l x A ↔ ∃ (b0 : Option Addr) (c0 : Nat) (A0 : Hp), l = .slice b0 x.sent.length c0 :: .int .i64 x.acked :: .int .i64 x.took :: [] ∧ A.Perm A0 ∧ (gSl 9 gS).ow [.slice b0 x.sent.length c0] x.sent A0 ∧ okI x.acked ∧ okI x.took := by
 constructor
 ·rintro ⟨m0, q0, D0, E0, rfl, p0, h0, m1, q1, D1, E1, rfl, p1, h1, h2⟩
  obtain ⟨b0, c0, rfl, h0⟩ := sl_ow h0
  obtain ⟨rfl, w1, e1⟩ := h1
  subst e1
  obtain ⟨rfl, w2, e2⟩ := h2
  subst e2
  exact ⟨b0, c0, D0, rfl, (perm_cnt fun a => by have e0 := p0.count_eq a; have e1 := p1.count_eq a; simp only [List.count_append, List.count_nil] at *; omega), h0, w1, w2⟩
 rintro ⟨b0, c0, A0, rfl, hp, h0, w1, w2⟩
 exact ⟨[.slice b0 x.sent.length c0], .int .i64 x.acked :: .int .i64 x.took :: [], A0, ([] ++ []), rfl, (perm_cnt fun a => by have e := hp.count_eq a; simp only [List.count_append, List.count_nil] at *; omega), h0, ⟨[.int .i64 x.acked], [.int .i64 x.took], [], [], rfl, .refl _, ⟨rfl, w1, rfl⟩, ⟨rfl, w2, rfl⟩⟩⟩
theorem opens_Link : Opens prog gLink.toRp 412 := by
 intro H' enc w H sp hd fuel cs d ps hcov ht
 obtain ⟨h1, h2⟩ := trod_fields ty412_ok.1 ht
 obtain ⟨_, _, t0⟩ := h2 0 0 22 rfl
 obtain ⟨x0, r0⟩ := (opens_sl ty22_ok.1 (by kernel_rfl) (by decide) (opens_fs ty9_ok.1)) _ _ H _ _ _ _ _ _ hcov t0
 rw [show prog.cellsOf 22 = 1 by kernel_rfl] at r0
 obtain ⟨_, _, t1⟩ := h2 1 1 3 rfl
 obtain ⟨x1, r1⟩ := (opens_fi ty3_ok.1) _ _ H _ _ _ _ _ _ hcov t1
 rw [show prog.cellsOf 3 = 1 by kernel_rfl] at r1
 obtain ⟨_, _, t2⟩ := h2 2 2 3 rfl
 obtain ⟨x2, r2⟩ := (opens_fi ty3_ok.1) _ _ H _ _ _ _ _ _ hcov t2
 rw [show prog.cellsOf 3 = 1 by kernel_rfl] at r2
 rw [show prog.cellsOf 412 = 3 by kernel_rfl] at h1
 have key : gLink.rd H ((cs.drop 0).take 3) ⟨x0, x1, x2⟩ := (pair_at (g := (gSl 9 gS)) (h := (SX.gPair gI gI)) (off := 0) r0 (pair_at (g := gI) (h := gI) (off := 1) r1 r2))
 rw [List.drop_zero, List.take_of_length_le (by omega)] at key
 exact ⟨_, key⟩
def zLink : Link := ⟨[], 0, 0⟩
theorem zLink_ow : gLink.ow [.slice none 0 0, .int .i64 0, .int .i64 0] zLink [] := gLink_ow.2 ⟨none, 0, [], rfl, by simp, sl_nil _ _ _, by first | (unfold okI; decide) | decide, by first | (unfold okI; decide) | decide⟩
theorem gLink_sz (x : Link) : gLink.sz x = szL gS x.sent + (0 + (0)) := rfl
theorem Link.eq_iff {x y : Link} : x = y ↔ x.sent = y.sent ∧ x.acked = y.acked ∧ x.took = y.took := by cases x; cases y; simp
structure Got where
 from' : Int
 atom : Int
 bag : Bag
deriving DecidableEq, Inhabited
def gGot : Gt Got := gIso (SX.gPair gI (SX.gPair gI gBag)) (fun x => (x.from', (x.atom, x.bag))) (fun p => ⟨p.1, p.2.1, p.2.2⟩)
theorem gGot_rd {H : Hp} {l : List Value} {x : Got} : gGot.rd H l x ↔ ∃ (l2 : List Value), l = .int .i64 x.from' :: .int .i64 x.atom :: l2 ++ ([]) ∧ okI x.from' ∧ okI x.atom ∧ gBag.rd H l2 x.bag := by
 constructor
 ·rintro ⟨m0, q0, rfl, h0, m1, q1, rfl, h1, h2⟩
  obtain ⟨rfl, w0⟩ := h0
  obtain ⟨rfl, w1⟩ := h1
  exact ⟨q1, (by simp [flInt, flBool, flByte, flStr]), w0, w1, h2⟩
 rintro ⟨l2, rfl, w0, w1, h2⟩
 exact ⟨[.int .i64 x.from'], .int .i64 x.atom :: l2 ++ ([]), rfl, ⟨rfl, w0⟩, ⟨[.int .i64 x.atom], l2, (by simp [flInt, flBool, flByte, flStr]), ⟨rfl, w1⟩, h2⟩⟩
open Classical in
theorem gGot_ow {A : Hp} {l : List Value} {x : Got} : gGot.ow l x A ↔ ∃ (l2 : List Value) (A2 : Hp), l = .int .i64 x.from' :: .int .i64 x.atom :: l2 ++ ([]) ∧ A.Perm A2 ∧ okI x.from' ∧ okI x.atom ∧ gBag.ow l2 x.bag A2 := by
 constructor
 ·rintro ⟨m0, q0, D0, E0, rfl, p0, h0, m1, q1, D1, E1, rfl, p1, h1, h2⟩
  obtain ⟨rfl, w0, e0⟩ := h0
  subst e0
  obtain ⟨rfl, w1, e1⟩ := h1
  subst e1
  exact ⟨q1, E1, (by simp [flInt, flBool, flByte, flStr]), (perm_cnt fun a => by have e0 := p0.count_eq a; have e1 := p1.count_eq a; simp only [List.count_append, List.count_nil] at *; omega), w0, w1, h2⟩
 rintro ⟨l2, A2, rfl, hp, w0, w1, h2⟩
 exact ⟨[.int .i64 x.from'], .int .i64 x.atom :: l2 ++ ([]), [], ([] ++ A2), rfl, (perm_cnt fun a => by have e := hp.count_eq a; simp only [List.count_append, List.count_nil] at *; omega), ⟨rfl, w0, rfl⟩, ⟨[.int .i64 x.atom], l2, [], A2, (by simp [flInt, flBool, flByte, flStr]), .refl _, ⟨rfl, w1, rfl⟩, h2⟩⟩
theorem opens_Got : Opens prog gGot.toRp 294 := by
 intro H' enc w H sp hd fuel cs d ps hcov ht
 obtain ⟨h1, h2⟩ := trod_fields ty294_ok.1 ht
 obtain ⟨_, _, t0⟩ := h2 0 0 3 rfl
 obtain ⟨x0, r0⟩ := (opens_fi ty3_ok.1) _ _ H _ _ _ _ _ _ hcov t0
 rw [show prog.cellsOf 3 = 1 by kernel_rfl] at r0
 obtain ⟨_, _, t1⟩ := h2 1 1 3 rfl
 obtain ⟨x1, r1⟩ := (opens_fi ty3_ok.1) _ _ H _ _ _ _ _ _ hcov t1
 rw [show prog.cellsOf 3 = 1 by kernel_rfl] at r1
 obtain ⟨_, _, t2⟩ := h2 2 2 259 rfl
 obtain ⟨x2, r2⟩ := opens_Bag _ _ H _ _ _ _ _ _ hcov t2
 rw [show prog.cellsOf 259 = 1 by kernel_rfl] at r2
 rw [show prog.cellsOf 294 = 3 by kernel_rfl] at h1
 have key : gGot.rd H ((cs.drop 0).take 3) ⟨x0, x1, x2⟩ := (pair_at (g := gI) (h := (SX.gPair gI gBag)) (off := 0) r0 (pair_at (g := gI) (h := gBag) (off := 1) r1 r2))
 rw [List.drop_zero, List.take_of_length_le (by omega)] at key
 exact ⟨_, key⟩
def zGot : Got := ⟨0, 0, zBag⟩
theorem zGot_ow : gGot.ow [.int .i64 0, .int .i64 0, .slice none 0 0] zGot [] := gGot_ow.2 ⟨_, [], rfl, by simp, by first | (unfold okI; decide) | decide, by first | (unfold okI; decide) | decide, zBag_ow⟩
theorem gGot_sz (x : Got) : gGot.sz x = 0 + (0 + (gBag.sz x.bag)) := rfl
theorem Got.eq_iff {x y : Got} : x = y ↔ x.from' = y.from' ∧ x.atom = y.atom ∧ x.bag = y.bag := by cases x; cases y; simp
structure Cell where
 query : Query
 shares : List Int
 at' : Int
 n : Int
 gots : List Got
deriving DecidableEq, Inhabited
def gCell : Gt Cell := gIso (SX.gPair gQuery (SX.gPair (gSl 3 gI) (SX.gPair gI (SX.gPair gI (gSl 188 gGot))))) (fun x => (x.query, (x.shares, (x.at', (x.n, x.gots))))) (fun p => ⟨p.1, p.2.1, p.2.2.1, p.2.2.2.1, p.2.2.2.2⟩)
theorem gCell_rd {H : Hp} {l : List Value} {x : Cell} : gCell.rd H l x ↔ ∃ (l0 : List Value) (b1 : Option Addr) (c1 : Nat) (b4 : Option Addr) (c4 : Nat), l = l0 ++ (.slice b1 x.shares.length c1 :: .int .i64 x.at' :: .int .i64 x.n :: .slice b4 x.gots.length c4 :: []) ∧ gQuery.rd H l0 x.query ∧ (gSl 3 gI).rd H [.slice b1 x.shares.length c1] x.shares ∧ okI x.at' ∧ okI x.n ∧ (gSl 188 gGot).rd H [.slice b4 x.gots.length c4] x.gots := by
 constructor
 ·rintro ⟨m0, q0, rfl, h0, m1, q1, rfl, h1, m2, q2, rfl, h2, m3, q3, rfl, h3, h4⟩
  obtain ⟨b1, c1, rfl, h1⟩ := sl_rd h1
  obtain ⟨rfl, w2⟩ := h2
  obtain ⟨rfl, w3⟩ := h3
  obtain ⟨b4, c4, rfl, h4⟩ := sl_rd h4
  exact ⟨m0, b1, c1, b4, c4, rfl, h0, h1, w2, w3, h4⟩
 rintro ⟨l0, b1, c1, b4, c4, rfl, h0, h1, w2, w3, h4⟩
 exact ⟨l0, .slice b1 x.shares.length c1 :: .int .i64 x.at' :: .int .i64 x.n :: .slice b4 x.gots.length c4 :: [], rfl, h0, ⟨[.slice b1 x.shares.length c1], .int .i64 x.at' :: .int .i64 x.n :: .slice b4 x.gots.length c4 :: [], rfl, h1, ⟨[.int .i64 x.at'], .int .i64 x.n :: .slice b4 x.gots.length c4 :: [], rfl, ⟨rfl, w2⟩, ⟨[.int .i64 x.n], [.slice b4 x.gots.length c4], rfl, ⟨rfl, w3⟩, h4⟩⟩⟩⟩
open Classical in
theorem gCell_ow {A : Hp} {l : List Value} {x : Cell} : gCell.ow l x A ↔ ∃ (l0 : List Value) (A0 : Hp) (b1 : Option Addr) (c1 : Nat) (A1 : Hp) (b4 : Option Addr) (c4 : Nat) (A4 : Hp), l = l0 ++ (.slice b1 x.shares.length c1 :: .int .i64 x.at' :: .int .i64 x.n :: .slice b4 x.gots.length c4 :: []) ∧ A.Perm (A0 ++ (A1 ++ A4)) ∧ gQuery.ow l0 x.query A0 ∧ (gSl 3 gI).ow [.slice b1 x.shares.length c1] x.shares A1 ∧ okI x.at' ∧ okI x.n ∧ (gSl 188 gGot).ow [.slice b4 x.gots.length c4] x.gots A4 := by
 constructor
 ·rintro ⟨m0, q0, D0, E0, rfl, p0, h0, m1, q1, D1, E1, rfl, p1, h1, m2, q2, D2, E2, rfl, p2, h2, m3, q3, D3, E3, rfl, p3, h3, h4⟩
  obtain ⟨b1, c1, rfl, h1⟩ := sl_ow h1
  obtain ⟨rfl, w2, e2⟩ := h2
  subst e2
  obtain ⟨rfl, w3, e3⟩ := h3
  subst e3
  obtain ⟨b4, c4, rfl, h4⟩ := sl_ow h4
  exact ⟨m0, D0, b1, c1, D1, b4, c4, E3, rfl, (perm_cnt fun a => by have e0 := p0.count_eq a; have e1 := p1.count_eq a; have e2 := p2.count_eq a; have e3 := p3.count_eq a; simp only [List.count_append, List.count_nil] at *; omega), h0, h1, w2, w3, h4⟩
 rintro ⟨l0, A0, b1, c1, A1, b4, c4, A4, rfl, hp, h0, h1, w2, w3, h4⟩
 exact ⟨l0, .slice b1 x.shares.length c1 :: .int .i64 x.at' :: .int .i64 x.n :: .slice b4 x.gots.length c4 :: [], A0, (A1 ++ ([] ++ ([] ++ A4))), rfl, (perm_cnt fun a => by have e := hp.count_eq a; simp only [List.count_append, List.count_nil] at *; omega), h0, ⟨[.slice b1 x.shares.length c1], .int .i64 x.at' :: .int .i64 x.n :: .slice b4 x.gots.length c4 :: [], A1, ([] ++ ([] ++ A4)), rfl, .refl _, h1, ⟨[.int .i64 x.at'], .int .i64 x.n :: .slice b4 x.gots.length c4 :: [], [], ([] ++ A4), rfl, .refl _, ⟨rfl, w2, rfl⟩, ⟨[.int .i64 x.n], [.slice b4 x.gots.length c4], [], A4, rfl, .refl _, ⟨rfl, w3, rfl⟩, h4⟩⟩⟩⟩
theorem opens_Cell : Opens prog gCell.toRp 54 := by
 intro H' enc w H sp hd fuel cs d ps hcov ht
 obtain ⟨h1, h2⟩ := trod_fields ty54_ok.1 ht
 obtain ⟨_, _, t0⟩ := h2 0 0 26 rfl
 obtain ⟨x0, r0⟩ := opens_Query _ _ H _ _ _ _ _ _ hcov t0
 rw [show prog.cellsOf 26 = 4 by kernel_rfl] at r0
 obtain ⟨_, _, t1⟩ := h2 1 4 27 rfl
 obtain ⟨x1, r1⟩ := (opens_sl ty27_ok.1 (by kernel_rfl) (by decide) (opens_fi ty3_ok.1)) _ _ H _ _ _ _ _ _ hcov t1
 rw [show prog.cellsOf 27 = 1 by kernel_rfl] at r1
 obtain ⟨_, _, t2⟩ := h2 2 5 3 rfl
 obtain ⟨x2, r2⟩ := (opens_fi ty3_ok.1) _ _ H _ _ _ _ _ _ hcov t2
 rw [show prog.cellsOf 3 = 1 by kernel_rfl] at r2
 obtain ⟨_, _, t3⟩ := h2 3 6 3 rfl
 obtain ⟨x3, r3⟩ := (opens_fi ty3_ok.1) _ _ H _ _ _ _ _ _ hcov t3
 rw [show prog.cellsOf 3 = 1 by kernel_rfl] at r3
 obtain ⟨_, _, t4⟩ := h2 4 7 52 rfl
 obtain ⟨x4, r4⟩ := (opens_sl ty52_ok.1 (by kernel_rfl) (by decide) opens_Got) _ _ H _ _ _ _ _ _ hcov t4
 rw [show prog.cellsOf 52 = 1 by kernel_rfl] at r4
 rw [show prog.cellsOf 54 = 8 by kernel_rfl] at h1
 have key : gCell.rd H ((cs.drop 0).take 8) ⟨x0, x1, x2, x3, x4⟩ := (pair_at (g := gQuery) (h := (SX.gPair (gSl 3 gI) (SX.gPair gI (SX.gPair gI (gSl 188 gGot))))) (off := 0) r0 (pair_at (g := (gSl 3 gI)) (h := (SX.gPair gI (SX.gPair gI (gSl 188 gGot)))) (off := 4) r1 (pair_at (g := gI) (h := (SX.gPair gI (gSl 188 gGot))) (off := 5) r2 (pair_at (g := gI) (h := (gSl 188 gGot)) (off := 6) r3 r4))))
 rw [List.drop_zero, List.take_of_length_le (by omega)] at key
 exact ⟨_, key⟩
def zCell : Cell := ⟨zQuery, [], 0, 0, []⟩
theorem zCell_ow : gCell.ow [.bool false, .slice none 0 0, .slice none 0 0, .slice none 0 0, .slice none 0 0, .int .i64 0, .int .i64 0, .slice none 0 0] zCell [] := gCell_ow.2 ⟨_, [], none, 0, [], none, 0, [], rfl, by simp, zQuery_ow, sl_nil _ _ _, by first | (unfold okI; decide) | decide, by first | (unfold okI; decide) | decide, sl_nil _ _ _⟩
theorem gCell_sz (x : Cell) : gCell.sz x = gQuery.sz x.query + (szL gI x.shares + (0 + (0 + (szL gGot x.gots)))) := rfl
theorem Cell.eq_iff {x y : Cell} : x = y ↔ x.query = y.query ∧ x.shares = y.shares ∧ x.at' = y.at' ∧ x.n = y.n ∧ x.gots = y.gots := by cases x; cases y; simp
structure Mail where
 peer : Int
 letter : Letter
deriving DecidableEq, Inhabited
def gMail : Gt Mail := gIso (SX.gPair gI gLetter) (fun x => (x.peer, x.letter)) (fun p => ⟨p.1, p.2⟩)
theorem gMail_rd {H : Hp} {l : List Value} {x : Mail} : gMail.rd H l x ↔ ∃ (l1 : List Value), l = .int .i64 x.peer :: l1 ++ ([]) ∧ okI x.peer ∧ gLetter.rd H l1 x.letter := by
 constructor
 ·rintro ⟨m0, q0, rfl, h0, h1⟩
  obtain ⟨rfl, w0⟩ := h0
  exact ⟨q0, (by simp [flInt, flBool, flByte, flStr]), w0, h1⟩
 rintro ⟨l1, rfl, w0, h1⟩
 exact ⟨[.int .i64 x.peer], l1, (by simp [flInt, flBool, flByte, flStr]), ⟨rfl, w0⟩, h1⟩
open Classical in
theorem gMail_ow {A : Hp} {l : List Value} {x : Mail} : gMail.ow l x A ↔ ∃ (l1 : List Value) (A1 : Hp), l = .int .i64 x.peer :: l1 ++ ([]) ∧ A.Perm A1 ∧ okI x.peer ∧ gLetter.ow l1 x.letter A1 := by
 constructor
 ·rintro ⟨m0, q0, D0, E0, rfl, p0, h0, h1⟩
  obtain ⟨rfl, w0, e0⟩ := h0
  subst e0
  exact ⟨q0, E0, (by simp [flInt, flBool, flByte, flStr]), (perm_cnt fun a => by have e0 := p0.count_eq a; simp only [List.count_append, List.count_nil] at *; omega), w0, h1⟩
 rintro ⟨l1, A1, rfl, hp, w0, h1⟩
 exact ⟨[.int .i64 x.peer], l1, [], A1, (by simp [flInt, flBool, flByte, flStr]), (perm_cnt fun a => by have e := hp.count_eq a; simp only [List.count_append, List.count_nil] at *; omega), ⟨rfl, w0, rfl⟩, h1⟩
theorem opens_Mail : Opens prog gMail.toRp 239 := by
 intro H' enc w H sp hd fuel cs d ps hcov ht
 obtain ⟨h1, h2⟩ := trod_fields ty239_ok.1 ht
 obtain ⟨_, _, t0⟩ := h2 0 0 3 rfl
 obtain ⟨x0, r0⟩ := (opens_fi ty3_ok.1) _ _ H _ _ _ _ _ _ hcov t0
 rw [show prog.cellsOf 3 = 1 by kernel_rfl] at r0
 obtain ⟨_, _, t1⟩ := h2 1 1 237 rfl
 obtain ⟨x1, r1⟩ := opens_Letter _ _ H _ _ _ _ _ _ hcov t1
 rw [show prog.cellsOf 237 = 6 by kernel_rfl] at r1
 rw [show prog.cellsOf 239 = 7 by kernel_rfl] at h1
 have key : gMail.rd H ((cs.drop 0).take 7) ⟨x0, x1⟩ := (pair_at (g := gI) (h := gLetter) (off := 0) r0 r1)
 rw [List.drop_zero, List.take_of_length_le (by omega)] at key
 exact ⟨_, key⟩
def zMail : Mail := ⟨0, zLetter⟩
theorem zMail_ow : gMail.ow [.int .i64 0, .int .i64 0, .int .i64 0, .int .i64 0, .bool false, .slice none 0 0, .string .empty] zMail [] := gMail_ow.2 ⟨_, [], rfl, by simp, by first | (unfold okI; decide) | decide, zLetter_ow⟩
theorem gMail_sz (x : Mail) : gMail.sz x = 0 + (gLetter.sz x.letter) := rfl
theorem Mail.eq_iff {x y : Mail} : x = y ↔ x.peer = y.peer ∧ x.letter = y.letter := by cases x; cases y; simp
structure Work where
 begun : Bool
 query : Query
 shares : List Int
 count : Int
 seen : List Walk
 num : Int
 black : Bool
 holds : Bool
 tokNum : Int
 tokBlack : Bool
 walked : Bool
 cell : Cell
 told : Bool
 waits : List Mail
deriving DecidableEq, Inhabited
def gWork : Gt Work := gIso (SX.gPair gB (SX.gPair gQuery (SX.gPair (gSl 3 gI) (SX.gPair gI (SX.gPair (gSl 164 gWalk) (SX.gPair gI (SX.gPair gB (SX.gPair gB (SX.gPair gI (SX.gPair gB (SX.gPair gB (SX.gPair gCell (SX.gPair gB (gSl 245 gMail)))))))))))))) (fun x => (x.begun, (x.query, (x.shares, (x.count, (x.seen, (x.num, (x.black, (x.holds, (x.tokNum, (x.tokBlack, (x.walked, (x.cell, (x.told, x.waits)))))))))))))) (fun p => ⟨p.1, p.2.1, p.2.2.1, p.2.2.2.1, p.2.2.2.2.1, p.2.2.2.2.2.1, p.2.2.2.2.2.2.1, p.2.2.2.2.2.2.2.1, p.2.2.2.2.2.2.2.2.1, p.2.2.2.2.2.2.2.2.2.1, p.2.2.2.2.2.2.2.2.2.2.1, p.2.2.2.2.2.2.2.2.2.2.2.1, p.2.2.2.2.2.2.2.2.2.2.2.2.1, p.2.2.2.2.2.2.2.2.2.2.2.2.2⟩)
theorem gWork_rd {H : Hp} {l : List Value} {x : Work} : gWork.rd H l x ↔ ∃ (l1 : List Value) (b2 : Option Addr) (c2 : Nat) (b4 : Option Addr) (c4 : Nat) (l11 : List Value) (b13 : Option Addr) (c13 : Nat), l = .bool x.begun :: l1 ++ (.slice b2 x.shares.length c2 :: .int .i64 x.count :: .slice b4 x.seen.length c4 :: .int .i64 x.num :: .bool x.black :: .bool x.holds :: .int .i64 x.tokNum :: .bool x.tokBlack :: .bool x.walked :: l11 ++ (.bool x.told :: .slice b13 x.waits.length c13 :: [])) ∧ gQuery.rd H l1 x.query ∧ (gSl 3 gI).rd H [.slice b2 x.shares.length c2] x.shares ∧ okI x.count ∧ (gSl 164 gWalk).rd H [.slice b4 x.seen.length c4] x.seen ∧ okI x.num ∧ okI x.tokNum ∧ gCell.rd H l11 x.cell ∧ (gSl 245 gMail).rd H [.slice b13 x.waits.length c13] x.waits := by
 constructor
 ·rintro ⟨m0, q0, rfl, h0, m1, q1, rfl, h1, m2, q2, rfl, h2, m3, q3, rfl, h3, m4, q4, rfl, h4, m5, q5, rfl, h5, m6, q6, rfl, h6, m7, q7, rfl, h7, m8, q8, rfl, h8, m9, q9, rfl, h9, m10, q10, rfl, h10, m11, q11, rfl, h11, m12, q12, rfl, h12, h13⟩
  obtain ⟨rfl, w0⟩ := h0
  obtain ⟨b2, c2, rfl, h2⟩ := sl_rd h2
  obtain ⟨rfl, w3⟩ := h3
  obtain ⟨b4, c4, rfl, h4⟩ := sl_rd h4
  obtain ⟨rfl, w5⟩ := h5
  obtain ⟨rfl, w6⟩ := h6
  obtain ⟨rfl, w7⟩ := h7
  obtain ⟨rfl, w8⟩ := h8
  obtain ⟨rfl, w9⟩ := h9
  obtain ⟨rfl, w10⟩ := h10
  obtain ⟨rfl, w12⟩ := h12
  obtain ⟨b13, c13, rfl, h13⟩ := sl_rd h13
  exact ⟨m1, b2, c2, b4, c4, m11, b13, c13, rfl, h1, h2, w3, h4, w5, w8, h11, h13⟩
 rintro ⟨l1, b2, c2, b4, c4, l11, b13, c13, rfl, h1, h2, w3, h4, w5, w8, h11, h13⟩
 exact ⟨[.bool x.begun], l1 ++ (.slice b2 x.shares.length c2 :: .int .i64 x.count :: .slice b4 x.seen.length c4 :: .int .i64 x.num :: .bool x.black :: .bool x.holds :: .int .i64 x.tokNum :: .bool x.tokBlack :: .bool x.walked :: l11 ++ (.bool x.told :: .slice b13 x.waits.length c13 :: [])), rfl, ⟨rfl, trivial⟩, ⟨l1, .slice b2 x.shares.length c2 :: .int .i64 x.count :: .slice b4 x.seen.length c4 :: .int .i64 x.num :: .bool x.black :: .bool x.holds :: .int .i64 x.tokNum :: .bool x.tokBlack :: .bool x.walked :: l11 ++ (.bool x.told :: .slice b13 x.waits.length c13 :: []), rfl, h1, ⟨[.slice b2 x.shares.length c2], .int .i64 x.count :: .slice b4 x.seen.length c4 :: .int .i64 x.num :: .bool x.black :: .bool x.holds :: .int .i64 x.tokNum :: .bool x.tokBlack :: .bool x.walked :: l11 ++ (.bool x.told :: .slice b13 x.waits.length c13 :: []), rfl, h2, ⟨[.int .i64 x.count], .slice b4 x.seen.length c4 :: .int .i64 x.num :: .bool x.black :: .bool x.holds :: .int .i64 x.tokNum :: .bool x.tokBlack :: .bool x.walked :: l11 ++ (.bool x.told :: .slice b13 x.waits.length c13 :: []), rfl, ⟨rfl, w3⟩, ⟨[.slice b4 x.seen.length c4], .int .i64 x.num :: .bool x.black :: .bool x.holds :: .int .i64 x.tokNum :: .bool x.tokBlack :: .bool x.walked :: l11 ++ (.bool x.told :: .slice b13 x.waits.length c13 :: []), rfl, h4, ⟨[.int .i64 x.num], .bool x.black :: .bool x.holds :: .int .i64 x.tokNum :: .bool x.tokBlack :: .bool x.walked :: l11 ++ (.bool x.told :: .slice b13 x.waits.length c13 :: []), rfl, ⟨rfl, w5⟩, ⟨[.bool x.black], .bool x.holds :: .int .i64 x.tokNum :: .bool x.tokBlack :: .bool x.walked :: l11 ++ (.bool x.told :: .slice b13 x.waits.length c13 :: []), rfl, ⟨rfl, trivial⟩, ⟨[.bool x.holds], .int .i64 x.tokNum :: .bool x.tokBlack :: .bool x.walked :: l11 ++ (.bool x.told :: .slice b13 x.waits.length c13 :: []), rfl, ⟨rfl, trivial⟩, ⟨[.int .i64 x.tokNum], .bool x.tokBlack :: .bool x.walked :: l11 ++ (.bool x.told :: .slice b13 x.waits.length c13 :: []), rfl, ⟨rfl, w8⟩, ⟨[.bool x.tokBlack], .bool x.walked :: l11 ++ (.bool x.told :: .slice b13 x.waits.length c13 :: []), rfl, ⟨rfl, trivial⟩, ⟨[.bool x.walked], l11 ++ (.bool x.told :: .slice b13 x.waits.length c13 :: []), rfl, ⟨rfl, trivial⟩, ⟨l11, .bool x.told :: .slice b13 x.waits.length c13 :: [], rfl, h11, ⟨[.bool x.told], [.slice b13 x.waits.length c13], rfl, ⟨rfl, trivial⟩, h13⟩⟩⟩⟩⟩⟩⟩⟩⟩⟩⟩⟩⟩
open Classical in
theorem gWork_ow {A : Hp} {l : List Value} {x : Work} : gWork.ow l x A ↔ ∃ (l1 : List Value) (A1 : Hp) (b2 : Option Addr) (c2 : Nat) (A2 : Hp) (b4 : Option Addr) (c4 : Nat) (A4 : Hp) (l11 : List Value) (A11 : Hp) (b13 : Option Addr) (c13 : Nat) (A13 : Hp), l = .bool x.begun :: l1 ++ (.slice b2 x.shares.length c2 :: .int .i64 x.count :: .slice b4 x.seen.length c4 :: .int .i64 x.num :: .bool x.black :: .bool x.holds :: .int .i64 x.tokNum :: .bool x.tokBlack :: .bool x.walked :: l11 ++ (.bool x.told :: .slice b13 x.waits.length c13 :: [])) ∧ A.Perm (A1 ++ (A2 ++ (A4 ++ (A11 ++ A13)))) ∧ gQuery.ow l1 x.query A1 ∧ (gSl 3 gI).ow [.slice b2 x.shares.length c2] x.shares A2 ∧ okI x.count ∧ (gSl 164 gWalk).ow [.slice b4 x.seen.length c4] x.seen A4 ∧ okI x.num ∧ okI x.tokNum ∧ gCell.ow l11 x.cell A11 ∧ (gSl 245 gMail).ow [.slice b13 x.waits.length c13] x.waits A13 := by
 constructor
 ·rintro ⟨m0, q0, D0, E0, rfl, p0, h0, m1, q1, D1, E1, rfl, p1, h1, m2, q2, D2, E2, rfl, p2, h2, m3, q3, D3, E3, rfl, p3, h3, m4, q4, D4, E4, rfl, p4, h4, m5, q5, D5, E5, rfl, p5, h5, m6, q6, D6, E6, rfl, p6, h6, m7, q7, D7, E7, rfl, p7, h7, m8, q8, D8, E8, rfl, p8, h8, m9, q9, D9, E9, rfl, p9, h9, m10, q10, D10, E10, rfl, p10, h10, m11, q11, D11, E11, rfl, p11, h11, m12, q12, D12, E12, rfl, p12, h12, h13⟩
  obtain ⟨rfl, w0, e0⟩ := h0
  subst e0
  obtain ⟨b2, c2, rfl, h2⟩ := sl_ow h2
  obtain ⟨rfl, w3, e3⟩ := h3
  subst e3
  obtain ⟨b4, c4, rfl, h4⟩ := sl_ow h4
  obtain ⟨rfl, w5, e5⟩ := h5
  subst e5
  obtain ⟨rfl, w6, e6⟩ := h6
  subst e6
  obtain ⟨rfl, w7, e7⟩ := h7
  subst e7
  obtain ⟨rfl, w8, e8⟩ := h8
  subst e8
  obtain ⟨rfl, w9, e9⟩ := h9
  subst e9
  obtain ⟨rfl, w10, e10⟩ := h10
  subst e10
  obtain ⟨rfl, w12, e12⟩ := h12
  subst e12
  obtain ⟨b13, c13, rfl, h13⟩ := sl_ow h13
  exact ⟨m1, D1, b2, c2, D2, b4, c4, D4, m11, D11, b13, c13, E12, rfl, (perm_cnt fun a => by have e0 := p0.count_eq a; have e1 := p1.count_eq a; have e2 := p2.count_eq a; have e3 := p3.count_eq a; have e4 := p4.count_eq a; have e5 := p5.count_eq a; have e6 := p6.count_eq a; have e7 := p7.count_eq a; have e8 := p8.count_eq a; have e9 := p9.count_eq a; have e10 := p10.count_eq a; have e11 := p11.count_eq a; have e12 := p12.count_eq a; simp only [List.count_append, List.count_nil] at *; omega), h1, h2, w3, h4, w5, w8, h11, h13⟩
 rintro ⟨l1, A1, b2, c2, A2, b4, c4, A4, l11, A11, b13, c13, A13, rfl, hp, h1, h2, w3, h4, w5, w8, h11, h13⟩
 exact ⟨[.bool x.begun], l1 ++ (.slice b2 x.shares.length c2 :: .int .i64 x.count :: .slice b4 x.seen.length c4 :: .int .i64 x.num :: .bool x.black :: .bool x.holds :: .int .i64 x.tokNum :: .bool x.tokBlack :: .bool x.walked :: l11 ++ (.bool x.told :: .slice b13 x.waits.length c13 :: [])), [], (A1 ++ (A2 ++ ([] ++ (A4 ++ ([] ++ ([] ++ ([] ++ ([] ++ ([] ++ ([] ++ (A11 ++ ([] ++ A13)))))))))))), rfl, (perm_cnt fun a => by have e := hp.count_eq a; simp only [List.count_append, List.count_nil] at *; omega), ⟨rfl, trivial, rfl⟩, ⟨l1, .slice b2 x.shares.length c2 :: .int .i64 x.count :: .slice b4 x.seen.length c4 :: .int .i64 x.num :: .bool x.black :: .bool x.holds :: .int .i64 x.tokNum :: .bool x.tokBlack :: .bool x.walked :: l11 ++ (.bool x.told :: .slice b13 x.waits.length c13 :: []), A1, (A2 ++ ([] ++ (A4 ++ ([] ++ ([] ++ ([] ++ ([] ++ ([] ++ ([] ++ (A11 ++ ([] ++ A13))))))))))), rfl, .refl _, h1, ⟨[.slice b2 x.shares.length c2], .int .i64 x.count :: .slice b4 x.seen.length c4 :: .int .i64 x.num :: .bool x.black :: .bool x.holds :: .int .i64 x.tokNum :: .bool x.tokBlack :: .bool x.walked :: l11 ++ (.bool x.told :: .slice b13 x.waits.length c13 :: []), A2, ([] ++ (A4 ++ ([] ++ ([] ++ ([] ++ ([] ++ ([] ++ ([] ++ (A11 ++ ([] ++ A13)))))))))), rfl, .refl _, h2, ⟨[.int .i64 x.count], .slice b4 x.seen.length c4 :: .int .i64 x.num :: .bool x.black :: .bool x.holds :: .int .i64 x.tokNum :: .bool x.tokBlack :: .bool x.walked :: l11 ++ (.bool x.told :: .slice b13 x.waits.length c13 :: []), [], (A4 ++ ([] ++ ([] ++ ([] ++ ([] ++ ([] ++ ([] ++ (A11 ++ ([] ++ A13))))))))), rfl, .refl _, ⟨rfl, w3, rfl⟩, ⟨[.slice b4 x.seen.length c4], .int .i64 x.num :: .bool x.black :: .bool x.holds :: .int .i64 x.tokNum :: .bool x.tokBlack :: .bool x.walked :: l11 ++ (.bool x.told :: .slice b13 x.waits.length c13 :: []), A4, ([] ++ ([] ++ ([] ++ ([] ++ ([] ++ ([] ++ (A11 ++ ([] ++ A13)))))))), rfl, .refl _, h4, ⟨[.int .i64 x.num], .bool x.black :: .bool x.holds :: .int .i64 x.tokNum :: .bool x.tokBlack :: .bool x.walked :: l11 ++ (.bool x.told :: .slice b13 x.waits.length c13 :: []), [], ([] ++ ([] ++ ([] ++ ([] ++ ([] ++ (A11 ++ ([] ++ A13))))))), rfl, .refl _, ⟨rfl, w5, rfl⟩, ⟨[.bool x.black], .bool x.holds :: .int .i64 x.tokNum :: .bool x.tokBlack :: .bool x.walked :: l11 ++ (.bool x.told :: .slice b13 x.waits.length c13 :: []), [], ([] ++ ([] ++ ([] ++ ([] ++ (A11 ++ ([] ++ A13)))))), rfl, .refl _, ⟨rfl, trivial, rfl⟩, ⟨[.bool x.holds], .int .i64 x.tokNum :: .bool x.tokBlack :: .bool x.walked :: l11 ++ (.bool x.told :: .slice b13 x.waits.length c13 :: []), [], ([] ++ ([] ++ ([] ++ (A11 ++ ([] ++ A13))))), rfl, .refl _, ⟨rfl, trivial, rfl⟩, ⟨[.int .i64 x.tokNum], .bool x.tokBlack :: .bool x.walked :: l11 ++ (.bool x.told :: .slice b13 x.waits.length c13 :: []), [], ([] ++ ([] ++ (A11 ++ ([] ++ A13)))), rfl, .refl _, ⟨rfl, w8, rfl⟩, ⟨[.bool x.tokBlack], .bool x.walked :: l11 ++ (.bool x.told :: .slice b13 x.waits.length c13 :: []), [], ([] ++ (A11 ++ ([] ++ A13))), rfl, .refl _, ⟨rfl, trivial, rfl⟩, ⟨[.bool x.walked], l11 ++ (.bool x.told :: .slice b13 x.waits.length c13 :: []), [], (A11 ++ ([] ++ A13)), rfl, .refl _, ⟨rfl, trivial, rfl⟩, ⟨l11, .bool x.told :: .slice b13 x.waits.length c13 :: [], A11, ([] ++ A13), rfl, .refl _, h11, ⟨[.bool x.told], [.slice b13 x.waits.length c13], [], A13, rfl, .refl _, ⟨rfl, trivial, rfl⟩, h13⟩⟩⟩⟩⟩⟩⟩⟩⟩⟩⟩⟩⟩
theorem opens_Work : Opens prog gWork.toRp 57 := by
 intro H' enc w H sp hd fuel cs d ps hcov ht
 obtain ⟨h1, h2⟩ := trod_fields ty57_ok.1 ht
 obtain ⟨_, _, t0⟩ := h2 0 0 4 rfl
 obtain ⟨x0, r0⟩ := (opens_fb ty4_ok.1) _ _ H _ _ _ _ _ _ hcov t0
 rw [show prog.cellsOf 4 = 1 by kernel_rfl] at r0
 obtain ⟨_, _, t1⟩ := h2 1 1 26 rfl
 obtain ⟨x1, r1⟩ := opens_Query _ _ H _ _ _ _ _ _ hcov t1
 rw [show prog.cellsOf 26 = 4 by kernel_rfl] at r1
 obtain ⟨_, _, t2⟩ := h2 2 5 27 rfl
 obtain ⟨x2, r2⟩ := (opens_sl ty27_ok.1 (by kernel_rfl) (by decide) (opens_fi ty3_ok.1)) _ _ H _ _ _ _ _ _ hcov t2
 rw [show prog.cellsOf 27 = 1 by kernel_rfl] at r2
 obtain ⟨_, _, t3⟩ := h2 3 6 3 rfl
 obtain ⟨x3, r3⟩ := (opens_fi ty3_ok.1) _ _ H _ _ _ _ _ _ hcov t3
 rw [show prog.cellsOf 3 = 1 by kernel_rfl] at r3
 obtain ⟨_, _, t4⟩ := h2 4 7 51 rfl
 obtain ⟨x4, r4⟩ := (opens_sl ty51_ok.1 (by kernel_rfl) (by decide) opens_Walk) _ _ H _ _ _ _ _ _ hcov t4
 rw [show prog.cellsOf 51 = 1 by kernel_rfl] at r4
 obtain ⟨_, _, t5⟩ := h2 5 8 3 rfl
 obtain ⟨x5, r5⟩ := (opens_fi ty3_ok.1) _ _ H _ _ _ _ _ _ hcov t5
 rw [show prog.cellsOf 3 = 1 by kernel_rfl] at r5
 obtain ⟨_, _, t6⟩ := h2 6 9 4 rfl
 obtain ⟨x6, r6⟩ := (opens_fb ty4_ok.1) _ _ H _ _ _ _ _ _ hcov t6
 rw [show prog.cellsOf 4 = 1 by kernel_rfl] at r6
 obtain ⟨_, _, t7⟩ := h2 7 10 4 rfl
 obtain ⟨x7, r7⟩ := (opens_fb ty4_ok.1) _ _ H _ _ _ _ _ _ hcov t7
 rw [show prog.cellsOf 4 = 1 by kernel_rfl] at r7
 obtain ⟨_, _, t8⟩ := h2 8 11 3 rfl
 obtain ⟨x8, r8⟩ := (opens_fi ty3_ok.1) _ _ H _ _ _ _ _ _ hcov t8
 rw [show prog.cellsOf 3 = 1 by kernel_rfl] at r8
 obtain ⟨_, _, t9⟩ := h2 9 12 4 rfl
 obtain ⟨x9, r9⟩ := (opens_fb ty4_ok.1) _ _ H _ _ _ _ _ _ hcov t9
 rw [show prog.cellsOf 4 = 1 by kernel_rfl] at r9
 obtain ⟨_, _, t10⟩ := h2 10 13 4 rfl
 obtain ⟨x10, r10⟩ := (opens_fb ty4_ok.1) _ _ H _ _ _ _ _ _ hcov t10
 rw [show prog.cellsOf 4 = 1 by kernel_rfl] at r10
 obtain ⟨_, _, t11⟩ := h2 11 14 54 rfl
 obtain ⟨x11, r11⟩ := opens_Cell _ _ H _ _ _ _ _ _ hcov t11
 rw [show prog.cellsOf 54 = 8 by kernel_rfl] at r11
 obtain ⟨_, _, t12⟩ := h2 12 22 4 rfl
 obtain ⟨x12, r12⟩ := (opens_fb ty4_ok.1) _ _ H _ _ _ _ _ _ hcov t12
 rw [show prog.cellsOf 4 = 1 by kernel_rfl] at r12
 obtain ⟨_, _, t13⟩ := h2 13 23 55 rfl
 obtain ⟨x13, r13⟩ := (opens_sl ty55_ok.1 (by kernel_rfl) (by decide) opens_Mail) _ _ H _ _ _ _ _ _ hcov t13
 rw [show prog.cellsOf 55 = 1 by kernel_rfl] at r13
 rw [show prog.cellsOf 57 = 24 by kernel_rfl] at h1
 have key : gWork.rd H ((cs.drop 0).take 24) ⟨x0, x1, x2, x3, x4, x5, x6, x7, x8, x9, x10, x11, x12, x13⟩ := (pair_at (g := gB) (h := (SX.gPair gQuery (SX.gPair (gSl 3 gI) (SX.gPair gI (SX.gPair (gSl 164 gWalk) (SX.gPair gI (SX.gPair gB (SX.gPair gB (SX.gPair gI (SX.gPair gB (SX.gPair gB (SX.gPair gCell (SX.gPair gB (gSl 245 gMail)))))))))))))) (off := 0) r0 (pair_at (g := gQuery) (h := (SX.gPair (gSl 3 gI) (SX.gPair gI (SX.gPair (gSl 164 gWalk) (SX.gPair gI (SX.gPair gB (SX.gPair gB (SX.gPair gI (SX.gPair gB (SX.gPair gB (SX.gPair gCell (SX.gPair gB (gSl 245 gMail))))))))))))) (off := 1) r1 (pair_at (g := (gSl 3 gI)) (h := (SX.gPair gI (SX.gPair (gSl 164 gWalk) (SX.gPair gI (SX.gPair gB (SX.gPair gB (SX.gPair gI (SX.gPair gB (SX.gPair gB (SX.gPair gCell (SX.gPair gB (gSl 245 gMail)))))))))))) (off := 5) r2 (pair_at (g := gI) (h := (SX.gPair (gSl 164 gWalk) (SX.gPair gI (SX.gPair gB (SX.gPair gB (SX.gPair gI (SX.gPair gB (SX.gPair gB (SX.gPair gCell (SX.gPair gB (gSl 245 gMail))))))))))) (off := 6) r3 (pair_at (g := (gSl 164 gWalk)) (h := (SX.gPair gI (SX.gPair gB (SX.gPair gB (SX.gPair gI (SX.gPair gB (SX.gPair gB (SX.gPair gCell (SX.gPair gB (gSl 245 gMail)))))))))) (off := 7) r4 (pair_at (g := gI) (h := (SX.gPair gB (SX.gPair gB (SX.gPair gI (SX.gPair gB (SX.gPair gB (SX.gPair gCell (SX.gPair gB (gSl 245 gMail))))))))) (off := 8) r5 (pair_at (g := gB) (h := (SX.gPair gB (SX.gPair gI (SX.gPair gB (SX.gPair gB (SX.gPair gCell (SX.gPair gB (gSl 245 gMail)))))))) (off := 9) r6 (pair_at (g := gB) (h := (SX.gPair gI (SX.gPair gB (SX.gPair gB (SX.gPair gCell (SX.gPair gB (gSl 245 gMail))))))) (off := 10) r7 (pair_at (g := gI) (h := (SX.gPair gB (SX.gPair gB (SX.gPair gCell (SX.gPair gB (gSl 245 gMail)))))) (off := 11) r8 (pair_at (g := gB) (h := (SX.gPair gB (SX.gPair gCell (SX.gPair gB (gSl 245 gMail))))) (off := 12) r9 (pair_at (g := gB) (h := (SX.gPair gCell (SX.gPair gB (gSl 245 gMail)))) (off := 13) r10 (pair_at (g := gCell) (h := (SX.gPair gB (gSl 245 gMail))) (off := 14) r11 (pair_at (g := gB) (h := (gSl 245 gMail)) (off := 22) r12 r13)))))))))))))
 rw [List.drop_zero, List.take_of_length_le (by omega)] at key
 exact ⟨_, key⟩
def zWork : Work := ⟨false, zQuery, [], 0, [], 0, false, false, 0, false, false, zCell, false, []⟩
theorem zWork_ow : gWork.ow [.bool false, .bool false, .slice none 0 0, .slice none 0 0, .slice none 0 0, .slice none 0 0, .int .i64 0, .slice none 0 0, .int .i64 0, .bool false, .bool false, .int .i64 0, .bool false, .bool false, .bool false, .slice none 0 0, .slice none 0 0, .slice none 0 0, .slice none 0 0, .int .i64 0, .int .i64 0, .slice none 0 0, .bool false, .slice none 0 0] zWork [] := gWork_ow.2 ⟨_, [], none, 0, [], none, 0, [], _, [], none, 0, [], rfl, by simp, zQuery_ow, sl_nil _ _ _, by first | (unfold okI; decide) | decide, sl_nil _ _ _, by first | (unfold okI; decide) | decide, by first | (unfold okI; decide) | decide, zCell_ow, sl_nil _ _ _⟩
theorem gWork_sz (x : Work) : gWork.sz x = 0 + (gQuery.sz x.query + (szL gI x.shares + (0 + (szL gWalk x.seen + (0 + (0 + (0 + (0 + (0 + (0 + (gCell.sz x.cell + (0 + (szL gMail x.waits))))))))))))) := rfl
theorem Work.eq_iff {x y : Work} : x = y ↔ x.begun = y.begun ∧ x.query = y.query ∧ x.shares = y.shares ∧ x.count = y.count ∧ x.seen = y.seen ∧ x.num = y.num ∧ x.black = y.black ∧ x.holds = y.holds ∧ x.tokNum = y.tokNum ∧ x.tokBlack = y.tokBlack ∧ x.walked = y.walked ∧ x.cell = y.cell ∧ x.told = y.told ∧ x.waits = y.waits := by cases x; cases y; simp
structure Ask where
 on : Bool
 query : Query
 shares : List Int
 count : Int
 results : List Got
 over : Bool
 answer : Bag
deriving DecidableEq, Inhabited
def gAsk : Gt Ask := gIso (SX.gPair gB (SX.gPair gQuery (SX.gPair (gSl 3 gI) (SX.gPair gI (SX.gPair (gSl 188 gGot) (SX.gPair gB gBag)))))) (fun x => (x.on, (x.query, (x.shares, (x.count, (x.results, (x.over, x.answer))))))) (fun p => ⟨p.1, p.2.1, p.2.2.1, p.2.2.2.1, p.2.2.2.2.1, p.2.2.2.2.2.1, p.2.2.2.2.2.2⟩)
theorem gAsk_rd {H : Hp} {l : List Value} {x : Ask} : gAsk.rd H l x ↔ ∃ (l1 : List Value) (b2 : Option Addr) (c2 : Nat) (b4 : Option Addr) (c4 : Nat) (l6 : List Value), l = .bool x.on :: l1 ++ (.slice b2 x.shares.length c2 :: .int .i64 x.count :: .slice b4 x.results.length c4 :: .bool x.over :: l6 ++ ([])) ∧ gQuery.rd H l1 x.query ∧ (gSl 3 gI).rd H [.slice b2 x.shares.length c2] x.shares ∧ okI x.count ∧ (gSl 188 gGot).rd H [.slice b4 x.results.length c4] x.results ∧ gBag.rd H l6 x.answer := by
 constructor
 ·rintro ⟨m0, q0, rfl, h0, m1, q1, rfl, h1, m2, q2, rfl, h2, m3, q3, rfl, h3, m4, q4, rfl, h4, m5, q5, rfl, h5, h6⟩
  obtain ⟨rfl, w0⟩ := h0
  obtain ⟨b2, c2, rfl, h2⟩ := sl_rd h2
  obtain ⟨rfl, w3⟩ := h3
  obtain ⟨b4, c4, rfl, h4⟩ := sl_rd h4
  obtain ⟨rfl, w5⟩ := h5
  exact ⟨m1, b2, c2, b4, c4, q5, (by simp [flInt, flBool, flByte, flStr]), h1, h2, w3, h4, h6⟩
 rintro ⟨l1, b2, c2, b4, c4, l6, rfl, h1, h2, w3, h4, h6⟩
 exact ⟨[.bool x.on], l1 ++ (.slice b2 x.shares.length c2 :: .int .i64 x.count :: .slice b4 x.results.length c4 :: .bool x.over :: l6 ++ ([])), rfl, ⟨rfl, trivial⟩, ⟨l1, .slice b2 x.shares.length c2 :: .int .i64 x.count :: .slice b4 x.results.length c4 :: .bool x.over :: l6 ++ ([]), rfl, h1, ⟨[.slice b2 x.shares.length c2], .int .i64 x.count :: .slice b4 x.results.length c4 :: .bool x.over :: l6 ++ ([]), rfl, h2, ⟨[.int .i64 x.count], .slice b4 x.results.length c4 :: .bool x.over :: l6 ++ ([]), rfl, ⟨rfl, w3⟩, ⟨[.slice b4 x.results.length c4], .bool x.over :: l6 ++ ([]), rfl, h4, ⟨[.bool x.over], l6, (by simp [flInt, flBool, flByte, flStr]), ⟨rfl, trivial⟩, h6⟩⟩⟩⟩⟩⟩
open Classical in
theorem gAsk_ow {A : Hp} {l : List Value} {x : Ask} : gAsk.ow l x A ↔ ∃ (l1 : List Value) (A1 : Hp) (b2 : Option Addr) (c2 : Nat) (A2 : Hp) (b4 : Option Addr) (c4 : Nat) (A4 : Hp) (l6 : List Value) (A6 : Hp), l = .bool x.on :: l1 ++ (.slice b2 x.shares.length c2 :: .int .i64 x.count :: .slice b4 x.results.length c4 :: .bool x.over :: l6 ++ ([])) ∧ A.Perm (A1 ++ (A2 ++ (A4 ++ A6))) ∧ gQuery.ow l1 x.query A1 ∧ (gSl 3 gI).ow [.slice b2 x.shares.length c2] x.shares A2 ∧ okI x.count ∧ (gSl 188 gGot).ow [.slice b4 x.results.length c4] x.results A4 ∧ gBag.ow l6 x.answer A6 := by
 constructor
 ·rintro ⟨m0, q0, D0, E0, rfl, p0, h0, m1, q1, D1, E1, rfl, p1, h1, m2, q2, D2, E2, rfl, p2, h2, m3, q3, D3, E3, rfl, p3, h3, m4, q4, D4, E4, rfl, p4, h4, m5, q5, D5, E5, rfl, p5, h5, h6⟩
  obtain ⟨rfl, w0, e0⟩ := h0
  subst e0
  obtain ⟨b2, c2, rfl, h2⟩ := sl_ow h2
  obtain ⟨rfl, w3, e3⟩ := h3
  subst e3
  obtain ⟨b4, c4, rfl, h4⟩ := sl_ow h4
  obtain ⟨rfl, w5, e5⟩ := h5
  subst e5
  exact ⟨m1, D1, b2, c2, D2, b4, c4, D4, q5, E5, (by simp [flInt, flBool, flByte, flStr]), (perm_cnt fun a => by have e0 := p0.count_eq a; have e1 := p1.count_eq a; have e2 := p2.count_eq a; have e3 := p3.count_eq a; have e4 := p4.count_eq a; have e5 := p5.count_eq a; simp only [List.count_append, List.count_nil] at *; omega), h1, h2, w3, h4, h6⟩
 rintro ⟨l1, A1, b2, c2, A2, b4, c4, A4, l6, A6, rfl, hp, h1, h2, w3, h4, h6⟩
 exact ⟨[.bool x.on], l1 ++ (.slice b2 x.shares.length c2 :: .int .i64 x.count :: .slice b4 x.results.length c4 :: .bool x.over :: l6 ++ ([])), [], (A1 ++ (A2 ++ ([] ++ (A4 ++ ([] ++ A6))))), rfl, (perm_cnt fun a => by have e := hp.count_eq a; simp only [List.count_append, List.count_nil] at *; omega), ⟨rfl, trivial, rfl⟩, ⟨l1, .slice b2 x.shares.length c2 :: .int .i64 x.count :: .slice b4 x.results.length c4 :: .bool x.over :: l6 ++ ([]), A1, (A2 ++ ([] ++ (A4 ++ ([] ++ A6)))), rfl, .refl _, h1, ⟨[.slice b2 x.shares.length c2], .int .i64 x.count :: .slice b4 x.results.length c4 :: .bool x.over :: l6 ++ ([]), A2, ([] ++ (A4 ++ ([] ++ A6))), rfl, .refl _, h2, ⟨[.int .i64 x.count], .slice b4 x.results.length c4 :: .bool x.over :: l6 ++ ([]), [], (A4 ++ ([] ++ A6)), rfl, .refl _, ⟨rfl, w3, rfl⟩, ⟨[.slice b4 x.results.length c4], .bool x.over :: l6 ++ ([]), A4, ([] ++ A6), rfl, .refl _, h4, ⟨[.bool x.over], l6, [], A6, (by simp [flInt, flBool, flByte, flStr]), .refl _, ⟨rfl, trivial, rfl⟩, h6⟩⟩⟩⟩⟩⟩
theorem opens_Ask : Opens prog gAsk.toRp 261 := by
 intro H' enc w H sp hd fuel cs d ps hcov ht
 obtain ⟨h1, h2⟩ := trod_fields ty261_ok.1 ht
 obtain ⟨_, _, t0⟩ := h2 0 0 4 rfl
 obtain ⟨x0, r0⟩ := (opens_fb ty4_ok.1) _ _ H _ _ _ _ _ _ hcov t0
 rw [show prog.cellsOf 4 = 1 by kernel_rfl] at r0
 obtain ⟨_, _, t1⟩ := h2 1 1 26 rfl
 obtain ⟨x1, r1⟩ := opens_Query _ _ H _ _ _ _ _ _ hcov t1
 rw [show prog.cellsOf 26 = 4 by kernel_rfl] at r1
 obtain ⟨_, _, t2⟩ := h2 2 5 27 rfl
 obtain ⟨x2, r2⟩ := (opens_sl ty27_ok.1 (by kernel_rfl) (by decide) (opens_fi ty3_ok.1)) _ _ H _ _ _ _ _ _ hcov t2
 rw [show prog.cellsOf 27 = 1 by kernel_rfl] at r2
 obtain ⟨_, _, t3⟩ := h2 3 6 3 rfl
 obtain ⟨x3, r3⟩ := (opens_fi ty3_ok.1) _ _ H _ _ _ _ _ _ hcov t3
 rw [show prog.cellsOf 3 = 1 by kernel_rfl] at r3
 obtain ⟨_, _, t4⟩ := h2 4 7 52 rfl
 obtain ⟨x4, r4⟩ := (opens_sl ty52_ok.1 (by kernel_rfl) (by decide) opens_Got) _ _ H _ _ _ _ _ _ hcov t4
 rw [show prog.cellsOf 52 = 1 by kernel_rfl] at r4
 obtain ⟨_, _, t5⟩ := h2 5 8 4 rfl
 obtain ⟨x5, r5⟩ := (opens_fb ty4_ok.1) _ _ H _ _ _ _ _ _ hcov t5
 rw [show prog.cellsOf 4 = 1 by kernel_rfl] at r5
 obtain ⟨_, _, t6⟩ := h2 6 9 259 rfl
 obtain ⟨x6, r6⟩ := opens_Bag _ _ H _ _ _ _ _ _ hcov t6
 rw [show prog.cellsOf 259 = 1 by kernel_rfl] at r6
 rw [show prog.cellsOf 261 = 10 by kernel_rfl] at h1
 have key : gAsk.rd H ((cs.drop 0).take 10) ⟨x0, x1, x2, x3, x4, x5, x6⟩ := (pair_at (g := gB) (h := (SX.gPair gQuery (SX.gPair (gSl 3 gI) (SX.gPair gI (SX.gPair (gSl 188 gGot) (SX.gPair gB gBag)))))) (off := 0) r0 (pair_at (g := gQuery) (h := (SX.gPair (gSl 3 gI) (SX.gPair gI (SX.gPair (gSl 188 gGot) (SX.gPair gB gBag))))) (off := 1) r1 (pair_at (g := (gSl 3 gI)) (h := (SX.gPair gI (SX.gPair (gSl 188 gGot) (SX.gPair gB gBag)))) (off := 5) r2 (pair_at (g := gI) (h := (SX.gPair (gSl 188 gGot) (SX.gPair gB gBag))) (off := 6) r3 (pair_at (g := (gSl 188 gGot)) (h := (SX.gPair gB gBag)) (off := 7) r4 (pair_at (g := gB) (h := gBag) (off := 8) r5 r6))))))
 rw [List.drop_zero, List.take_of_length_le (by omega)] at key
 exact ⟨_, key⟩
def zAsk : Ask := ⟨false, zQuery, [], 0, [], false, zBag⟩
theorem zAsk_ow : gAsk.ow [.bool false, .bool false, .slice none 0 0, .slice none 0 0, .slice none 0 0, .slice none 0 0, .int .i64 0, .slice none 0 0, .bool false, .slice none 0 0] zAsk [] := gAsk_ow.2 ⟨_, [], none, 0, [], none, 0, [], _, [], rfl, by simp, zQuery_ow, sl_nil _ _ _, by first | (unfold okI; decide) | decide, sl_nil _ _ _, zBag_ow⟩
theorem gAsk_sz (x : Ask) : gAsk.sz x = 0 + (gQuery.sz x.query + (szL gI x.shares + (0 + (szL gGot x.results + (0 + (gBag.sz x.answer)))))) := rfl
theorem Ask.eq_iff {x y : Ask} : x = y ↔ x.on = y.on ∧ x.query = y.query ∧ x.shares = y.shares ∧ x.count = y.count ∧ x.results = y.results ∧ x.over = y.over ∧ x.answer = y.answer := by cases x; cases y; simp
structure Node where
 id : Int
 up : Bool
 disk : Disk
 epoch : Int
 joined : Bool
 links : List Link
 work : Work
 ask : Ask
deriving DecidableEq, Inhabited
def gNode : Gt Node := gIso (SX.gPair gI (SX.gPair gB (SX.gPair gDisk (SX.gPair gI (SX.gPair gB (SX.gPair (gSl 421 gLink) (SX.gPair gWork gAsk))))))) (fun x => (x.id, (x.up, (x.disk, (x.epoch, (x.joined, (x.links, (x.work, x.ask)))))))) (fun p => ⟨p.1, p.2.1, p.2.2.1, p.2.2.2.1, p.2.2.2.2.1, p.2.2.2.2.2.1, p.2.2.2.2.2.2.1, p.2.2.2.2.2.2.2⟩)
theorem gNode_rd {H : Hp} {l : List Value} {x : Node} : gNode.rd H l x ↔ ∃ (l2 : List Value) (b5 : Option Addr) (c5 : Nat) (l6 : List Value) (l7 : List Value), l = .int .i64 x.id :: .bool x.up :: l2 ++ (.int .i64 x.epoch :: .bool x.joined :: .slice b5 x.links.length c5 :: l6 ++ (l7 ++ ([]))) ∧ okI x.id ∧ gDisk.rd H l2 x.disk ∧ okI x.epoch ∧ (gSl 421 gLink).rd H [.slice b5 x.links.length c5] x.links ∧ gWork.rd H l6 x.work ∧ gAsk.rd H l7 x.ask := by
 constructor
 ·rintro ⟨m0, q0, rfl, h0, m1, q1, rfl, h1, m2, q2, rfl, h2, m3, q3, rfl, h3, m4, q4, rfl, h4, m5, q5, rfl, h5, m6, q6, rfl, h6, h7⟩
  obtain ⟨rfl, w0⟩ := h0
  obtain ⟨rfl, w1⟩ := h1
  obtain ⟨rfl, w3⟩ := h3
  obtain ⟨rfl, w4⟩ := h4
  obtain ⟨b5, c5, rfl, h5⟩ := sl_rd h5
  exact ⟨m2, b5, c5, m6, q6, (by simp [flInt, flBool, flByte, flStr]), w0, h2, w3, h5, h6, h7⟩
 rintro ⟨l2, b5, c5, l6, l7, rfl, w0, h2, w3, h5, h6, h7⟩
 exact ⟨[.int .i64 x.id], .bool x.up :: l2 ++ (.int .i64 x.epoch :: .bool x.joined :: .slice b5 x.links.length c5 :: l6 ++ (l7 ++ ([]))), rfl, ⟨rfl, w0⟩, ⟨[.bool x.up], l2 ++ (.int .i64 x.epoch :: .bool x.joined :: .slice b5 x.links.length c5 :: l6 ++ (l7 ++ ([]))), rfl, ⟨rfl, trivial⟩, ⟨l2, .int .i64 x.epoch :: .bool x.joined :: .slice b5 x.links.length c5 :: l6 ++ (l7 ++ ([])), rfl, h2, ⟨[.int .i64 x.epoch], .bool x.joined :: .slice b5 x.links.length c5 :: l6 ++ (l7 ++ ([])), rfl, ⟨rfl, w3⟩, ⟨[.bool x.joined], .slice b5 x.links.length c5 :: l6 ++ (l7 ++ ([])), rfl, ⟨rfl, trivial⟩, ⟨[.slice b5 x.links.length c5], l6 ++ (l7 ++ ([])), rfl, h5, ⟨l6, l7, (by simp [flInt, flBool, flByte, flStr]), h6, h7⟩⟩⟩⟩⟩⟩⟩
open Classical in
theorem gNode_ow {A : Hp} {l : List Value} {x : Node} : gNode.ow l x A ↔ ∃ (l2 : List Value) (A2 : Hp) (b5 : Option Addr) (c5 : Nat) (A5 : Hp) (l6 : List Value) (A6 : Hp) (l7 : List Value) (A7 : Hp), l = .int .i64 x.id :: .bool x.up :: l2 ++ (.int .i64 x.epoch :: .bool x.joined :: .slice b5 x.links.length c5 :: l6 ++ (l7 ++ ([]))) ∧ A.Perm (A2 ++ (A5 ++ (A6 ++ A7))) ∧ okI x.id ∧ gDisk.ow l2 x.disk A2 ∧ okI x.epoch ∧ (gSl 421 gLink).ow [.slice b5 x.links.length c5] x.links A5 ∧ gWork.ow l6 x.work A6 ∧ gAsk.ow l7 x.ask A7 := by
 constructor
 ·rintro ⟨m0, q0, D0, E0, rfl, p0, h0, m1, q1, D1, E1, rfl, p1, h1, m2, q2, D2, E2, rfl, p2, h2, m3, q3, D3, E3, rfl, p3, h3, m4, q4, D4, E4, rfl, p4, h4, m5, q5, D5, E5, rfl, p5, h5, m6, q6, D6, E6, rfl, p6, h6, h7⟩
  obtain ⟨rfl, w0, e0⟩ := h0
  subst e0
  obtain ⟨rfl, w1, e1⟩ := h1
  subst e1
  obtain ⟨rfl, w3, e3⟩ := h3
  subst e3
  obtain ⟨rfl, w4, e4⟩ := h4
  subst e4
  obtain ⟨b5, c5, rfl, h5⟩ := sl_ow h5
  exact ⟨m2, D2, b5, c5, D5, m6, D6, q6, E6, (by simp [flInt, flBool, flByte, flStr]), (perm_cnt fun a => by have e0 := p0.count_eq a; have e1 := p1.count_eq a; have e2 := p2.count_eq a; have e3 := p3.count_eq a; have e4 := p4.count_eq a; have e5 := p5.count_eq a; have e6 := p6.count_eq a; simp only [List.count_append, List.count_nil] at *; omega), w0, h2, w3, h5, h6, h7⟩
 rintro ⟨l2, A2, b5, c5, A5, l6, A6, l7, A7, rfl, hp, w0, h2, w3, h5, h6, h7⟩
 exact ⟨[.int .i64 x.id], .bool x.up :: l2 ++ (.int .i64 x.epoch :: .bool x.joined :: .slice b5 x.links.length c5 :: l6 ++ (l7 ++ ([]))), [], ([] ++ (A2 ++ ([] ++ ([] ++ (A5 ++ (A6 ++ A7)))))), rfl, (perm_cnt fun a => by have e := hp.count_eq a; simp only [List.count_append, List.count_nil] at *; omega), ⟨rfl, w0, rfl⟩, ⟨[.bool x.up], l2 ++ (.int .i64 x.epoch :: .bool x.joined :: .slice b5 x.links.length c5 :: l6 ++ (l7 ++ ([]))), [], (A2 ++ ([] ++ ([] ++ (A5 ++ (A6 ++ A7))))), rfl, .refl _, ⟨rfl, trivial, rfl⟩, ⟨l2, .int .i64 x.epoch :: .bool x.joined :: .slice b5 x.links.length c5 :: l6 ++ (l7 ++ ([])), A2, ([] ++ ([] ++ (A5 ++ (A6 ++ A7)))), rfl, .refl _, h2, ⟨[.int .i64 x.epoch], .bool x.joined :: .slice b5 x.links.length c5 :: l6 ++ (l7 ++ ([])), [], ([] ++ (A5 ++ (A6 ++ A7))), rfl, .refl _, ⟨rfl, w3, rfl⟩, ⟨[.bool x.joined], .slice b5 x.links.length c5 :: l6 ++ (l7 ++ ([])), [], (A5 ++ (A6 ++ A7)), rfl, .refl _, ⟨rfl, trivial, rfl⟩, ⟨[.slice b5 x.links.length c5], l6 ++ (l7 ++ ([])), A5, (A6 ++ A7), rfl, .refl _, h5, ⟨l6, l7, A6, A7, (by simp [flInt, flBool, flByte, flStr]), .refl _, h6, h7⟩⟩⟩⟩⟩⟩⟩
theorem opens_Node : Opens prog gNode.toRp 263 := by
 intro H' enc w H sp hd fuel cs d ps hcov ht
 obtain ⟨h1, h2⟩ := trod_fields ty263_ok.1 ht
 obtain ⟨_, _, t0⟩ := h2 0 0 3 rfl
 obtain ⟨x0, r0⟩ := (opens_fi ty3_ok.1) _ _ H _ _ _ _ _ _ hcov t0
 rw [show prog.cellsOf 3 = 1 by kernel_rfl] at r0
 obtain ⟨_, _, t1⟩ := h2 1 1 4 rfl
 obtain ⟨x1, r1⟩ := (opens_fb ty4_ok.1) _ _ H _ _ _ _ _ _ hcov t1
 rw [show prog.cellsOf 4 = 1 by kernel_rfl] at r1
 obtain ⟨_, _, t2⟩ := h2 2 2 255 rfl
 obtain ⟨x2, r2⟩ := opens_Disk _ _ H _ _ _ _ _ _ hcov t2
 rw [show prog.cellsOf 255 = 1 by kernel_rfl] at r2
 obtain ⟨_, _, t3⟩ := h2 3 3 3 rfl
 obtain ⟨x3, r3⟩ := (opens_fi ty3_ok.1) _ _ H _ _ _ _ _ _ hcov t3
 rw [show prog.cellsOf 3 = 1 by kernel_rfl] at r3
 obtain ⟨_, _, t4⟩ := h2 4 4 4 rfl
 obtain ⟨x4, r4⟩ := (opens_fb ty4_ok.1) _ _ H _ _ _ _ _ _ hcov t4
 rw [show prog.cellsOf 4 = 1 by kernel_rfl] at r4
 obtain ⟨_, _, t5⟩ := h2 5 5 256 rfl
 obtain ⟨x5, r5⟩ := (opens_sl ty256_ok.1 (by kernel_rfl) (by decide) opens_Link) _ _ H _ _ _ _ _ _ hcov t5
 rw [show prog.cellsOf 256 = 1 by kernel_rfl] at r5
 obtain ⟨_, _, t6⟩ := h2 6 6 57 rfl
 obtain ⟨x6, r6⟩ := opens_Work _ _ H _ _ _ _ _ _ hcov t6
 rw [show prog.cellsOf 57 = 24 by kernel_rfl] at r6
 obtain ⟨_, _, t7⟩ := h2 7 30 261 rfl
 obtain ⟨x7, r7⟩ := opens_Ask _ _ H _ _ _ _ _ _ hcov t7
 rw [show prog.cellsOf 261 = 10 by kernel_rfl] at r7
 rw [show prog.cellsOf 263 = 40 by kernel_rfl] at h1
 have key : gNode.rd H ((cs.drop 0).take 40) ⟨x0, x1, x2, x3, x4, x5, x6, x7⟩ := (pair_at (g := gI) (h := (SX.gPair gB (SX.gPair gDisk (SX.gPair gI (SX.gPair gB (SX.gPair (gSl 421 gLink) (SX.gPair gWork gAsk))))))) (off := 0) r0 (pair_at (g := gB) (h := (SX.gPair gDisk (SX.gPair gI (SX.gPair gB (SX.gPair (gSl 421 gLink) (SX.gPair gWork gAsk)))))) (off := 1) r1 (pair_at (g := gDisk) (h := (SX.gPair gI (SX.gPair gB (SX.gPair (gSl 421 gLink) (SX.gPair gWork gAsk))))) (off := 2) r2 (pair_at (g := gI) (h := (SX.gPair gB (SX.gPair (gSl 421 gLink) (SX.gPair gWork gAsk)))) (off := 3) r3 (pair_at (g := gB) (h := (SX.gPair (gSl 421 gLink) (SX.gPair gWork gAsk))) (off := 4) r4 (pair_at (g := (gSl 421 gLink)) (h := (SX.gPair gWork gAsk)) (off := 5) r5 (pair_at (g := gWork) (h := gAsk) (off := 6) r6 r7)))))))
 rw [List.drop_zero, List.take_of_length_le (by omega)] at key
 exact ⟨_, key⟩
def zNode : Node := ⟨0, false, zDisk, 0, false, [], zWork, zAsk⟩
theorem zNode_ow : gNode.ow [.int .i64 0, .bool false, .slice none 0 0, .int .i64 0, .bool false, .slice none 0 0, .bool false, .bool false, .slice none 0 0, .slice none 0 0, .slice none 0 0, .slice none 0 0, .int .i64 0, .slice none 0 0, .int .i64 0, .bool false, .bool false, .int .i64 0, .bool false, .bool false, .bool false, .slice none 0 0, .slice none 0 0, .slice none 0 0, .slice none 0 0, .int .i64 0, .int .i64 0, .slice none 0 0, .bool false, .slice none 0 0, .bool false, .bool false, .slice none 0 0, .slice none 0 0, .slice none 0 0, .slice none 0 0, .int .i64 0, .slice none 0 0, .bool false, .slice none 0 0] zNode [] := gNode_ow.2 ⟨_, [], none, 0, [], _, [], _, [], rfl, by simp, by first | (unfold okI; decide) | decide, zDisk_ow, by first | (unfold okI; decide) | decide, sl_nil _ _ _, zWork_ow, zAsk_ow⟩
theorem gNode_sz (x : Node) : gNode.sz x = 0 + (0 + (gDisk.sz x.disk + (0 + (0 + (szL gLink x.links + (gWork.sz x.work + (gAsk.sz x.ask))))))) := rfl
theorem Node.eq_iff {x y : Node} : x = y ↔ x.id = y.id ∧ x.up = y.up ∧ x.disk = y.disk ∧ x.epoch = y.epoch ∧ x.joined = y.joined ∧ x.links = y.links ∧ x.work = y.work ∧ x.ask = y.ask := by cases x; cases y; simp
structure Cluster where
 query : Query
 nodes : List Node
 net : List ByteArray
 codes : List Int
 replies : List Bag
deriving DecidableEq, Inhabited
def gCluster : Gt Cluster := gIso (SX.gPair gQuery (SX.gPair (gSl 158 gNode) (SX.gPair (gSl 9 gS) (SX.gPair (gSl 3 gI) (gSl 33 gBag))))) (fun x => (x.query, (x.nodes, (x.net, (x.codes, x.replies))))) (fun p => ⟨p.1, p.2.1, p.2.2.1, p.2.2.2.1, p.2.2.2.2⟩)
theorem gCluster_rd {H : Hp} {l : List Value} {x : Cluster} : gCluster.rd H l x ↔ ∃ (l0 : List Value) (b1 : Option Addr) (c1 : Nat) (b2 : Option Addr) (c2 : Nat) (b3 : Option Addr) (c3 : Nat) (b4 : Option Addr) (c4 : Nat), l = l0 ++ (.slice b1 x.nodes.length c1 :: .slice b2 x.net.length c2 :: .slice b3 x.codes.length c3 :: .slice b4 x.replies.length c4 :: []) ∧ gQuery.rd H l0 x.query ∧ (gSl 158 gNode).rd H [.slice b1 x.nodes.length c1] x.nodes ∧ (gSl 9 gS).rd H [.slice b2 x.net.length c2] x.net ∧ (gSl 3 gI).rd H [.slice b3 x.codes.length c3] x.codes ∧ (gSl 33 gBag).rd H [.slice b4 x.replies.length c4] x.replies := by
 constructor
 ·rintro ⟨m0, q0, rfl, h0, m1, q1, rfl, h1, m2, q2, rfl, h2, m3, q3, rfl, h3, h4⟩
  obtain ⟨b1, c1, rfl, h1⟩ := sl_rd h1
  obtain ⟨b2, c2, rfl, h2⟩ := sl_rd h2
  obtain ⟨b3, c3, rfl, h3⟩ := sl_rd h3
  obtain ⟨b4, c4, rfl, h4⟩ := sl_rd h4
  exact ⟨m0, b1, c1, b2, c2, b3, c3, b4, c4, rfl, h0, h1, h2, h3, h4⟩
 rintro ⟨l0, b1, c1, b2, c2, b3, c3, b4, c4, rfl, h0, h1, h2, h3, h4⟩
 exact ⟨l0, .slice b1 x.nodes.length c1 :: .slice b2 x.net.length c2 :: .slice b3 x.codes.length c3 :: .slice b4 x.replies.length c4 :: [], rfl, h0, ⟨[.slice b1 x.nodes.length c1], .slice b2 x.net.length c2 :: .slice b3 x.codes.length c3 :: .slice b4 x.replies.length c4 :: [], rfl, h1, ⟨[.slice b2 x.net.length c2], .slice b3 x.codes.length c3 :: .slice b4 x.replies.length c4 :: [], rfl, h2, ⟨[.slice b3 x.codes.length c3], [.slice b4 x.replies.length c4], rfl, h3, h4⟩⟩⟩⟩
open Classical in
theorem gCluster_ow {A : Hp} {l : List Value} {x : Cluster} : gCluster.ow l x A ↔ ∃ (l0 : List Value) (A0 : Hp) (b1 : Option Addr) (c1 : Nat) (A1 : Hp) (b2 : Option Addr) (c2 : Nat) (A2 : Hp) (b3 : Option Addr) (c3 : Nat) (A3 : Hp) (b4 : Option Addr) (c4 : Nat) (A4 : Hp), l = l0 ++ (.slice b1 x.nodes.length c1 :: .slice b2 x.net.length c2 :: .slice b3 x.codes.length c3 :: .slice b4 x.replies.length c4 :: []) ∧ A.Perm (A0 ++ (A1 ++ (A2 ++ (A3 ++ A4)))) ∧ gQuery.ow l0 x.query A0 ∧ (gSl 158 gNode).ow [.slice b1 x.nodes.length c1] x.nodes A1 ∧ (gSl 9 gS).ow [.slice b2 x.net.length c2] x.net A2 ∧ (gSl 3 gI).ow [.slice b3 x.codes.length c3] x.codes A3 ∧ (gSl 33 gBag).ow [.slice b4 x.replies.length c4] x.replies A4 := by
 constructor
 ·rintro ⟨m0, q0, D0, E0, rfl, p0, h0, m1, q1, D1, E1, rfl, p1, h1, m2, q2, D2, E2, rfl, p2, h2, m3, q3, D3, E3, rfl, p3, h3, h4⟩
  obtain ⟨b1, c1, rfl, h1⟩ := sl_ow h1
  obtain ⟨b2, c2, rfl, h2⟩ := sl_ow h2
  obtain ⟨b3, c3, rfl, h3⟩ := sl_ow h3
  obtain ⟨b4, c4, rfl, h4⟩ := sl_ow h4
  exact ⟨m0, D0, b1, c1, D1, b2, c2, D2, b3, c3, D3, b4, c4, E3, rfl, (perm_cnt fun a => by have e0 := p0.count_eq a; have e1 := p1.count_eq a; have e2 := p2.count_eq a; have e3 := p3.count_eq a; simp only [List.count_append, List.count_nil] at *; omega), h0, h1, h2, h3, h4⟩
 rintro ⟨l0, A0, b1, c1, A1, b2, c2, A2, b3, c3, A3, b4, c4, A4, rfl, hp, h0, h1, h2, h3, h4⟩
 exact ⟨l0, .slice b1 x.nodes.length c1 :: .slice b2 x.net.length c2 :: .slice b3 x.codes.length c3 :: .slice b4 x.replies.length c4 :: [], A0, (A1 ++ (A2 ++ (A3 ++ A4))), rfl, (perm_cnt fun a => by have e := hp.count_eq a; simp only [List.count_append, List.count_nil] at *; omega), h0, ⟨[.slice b1 x.nodes.length c1], .slice b2 x.net.length c2 :: .slice b3 x.codes.length c3 :: .slice b4 x.replies.length c4 :: [], A1, (A2 ++ (A3 ++ A4)), rfl, .refl _, h1, ⟨[.slice b2 x.net.length c2], .slice b3 x.codes.length c3 :: .slice b4 x.replies.length c4 :: [], A2, (A3 ++ A4), rfl, .refl _, h2, ⟨[.slice b3 x.codes.length c3], [.slice b4 x.replies.length c4], A3, A4, rfl, .refl _, h3, h4⟩⟩⟩⟩
theorem opens_Cluster : Opens prog gCluster.toRp 74 := by
 intro H' enc w H sp hd fuel cs d ps hcov ht
 obtain ⟨h1, h2⟩ := trod_fields ty74_ok.1 ht
 obtain ⟨_, _, t0⟩ := h2 0 0 26 rfl
 obtain ⟨x0, r0⟩ := opens_Query _ _ H _ _ _ _ _ _ hcov t0
 rw [show prog.cellsOf 26 = 4 by kernel_rfl] at r0
 obtain ⟨_, _, t1⟩ := h2 1 4 71 rfl
 obtain ⟨x1, r1⟩ := (opens_sl ty71_ok.1 (by kernel_rfl) (by decide) opens_Node) _ _ H _ _ _ _ _ _ hcov t1
 rw [show prog.cellsOf 71 = 1 by kernel_rfl] at r1
 obtain ⟨_, _, t2⟩ := h2 2 5 22 rfl
 obtain ⟨x2, r2⟩ := (opens_sl ty22_ok.1 (by kernel_rfl) (by decide) (opens_fs ty9_ok.1)) _ _ H _ _ _ _ _ _ hcov t2
 rw [show prog.cellsOf 22 = 1 by kernel_rfl] at r2
 obtain ⟨_, _, t3⟩ := h2 3 6 27 rfl
 obtain ⟨x3, r3⟩ := (opens_sl ty27_ok.1 (by kernel_rfl) (by decide) (opens_fi ty3_ok.1)) _ _ H _ _ _ _ _ _ hcov t3
 rw [show prog.cellsOf 27 = 1 by kernel_rfl] at r3
 obtain ⟨_, _, t4⟩ := h2 4 7 72 rfl
 obtain ⟨x4, r4⟩ := (opens_sl ty72_ok.1 (by kernel_rfl) (by decide) opens_Bag) _ _ H _ _ _ _ _ _ hcov t4
 rw [show prog.cellsOf 72 = 1 by kernel_rfl] at r4
 rw [show prog.cellsOf 74 = 8 by kernel_rfl] at h1
 have key : gCluster.rd H ((cs.drop 0).take 8) ⟨x0, x1, x2, x3, x4⟩ := (pair_at (g := gQuery) (h := (SX.gPair (gSl 158 gNode) (SX.gPair (gSl 9 gS) (SX.gPair (gSl 3 gI) (gSl 33 gBag))))) (off := 0) r0 (pair_at (g := (gSl 158 gNode)) (h := (SX.gPair (gSl 9 gS) (SX.gPair (gSl 3 gI) (gSl 33 gBag)))) (off := 4) r1 (pair_at (g := (gSl 9 gS)) (h := (SX.gPair (gSl 3 gI) (gSl 33 gBag))) (off := 5) r2 (pair_at (g := (gSl 3 gI)) (h := (gSl 33 gBag)) (off := 6) r3 r4))))
 rw [List.drop_zero, List.take_of_length_le (by omega)] at key
 exact ⟨_, key⟩
theorem gCluster_sz (x : Cluster) : gCluster.sz x = gQuery.sz x.query + (szL gNode x.nodes + (szL gS x.net + (szL gI x.codes + (szL gBag x.replies)))) := rfl
theorem Cluster.eq_iff {x y : Cluster} : x = y ↔ x.query = y.query ∧ x.nodes = y.nodes ∧ x.net = y.net ∧ x.codes = y.codes ∧ x.replies = y.replies := by cases x; cases y; simp
end
end Go.Proofs.YtjgehblllhkdbaaGreat
